/-
  Points that are visited: when a list of them is valid; the code of points and a day. No condition.
-/
import Derived.Test.YtehjfajmnciiaaaDoorStPoint
import Derived.Test.YtehjfajmnciiaaaDoorBasic
import Derived.OwnWalk
namespace Go.Proofs.YtehjfajmnciiaaaDoor
open Go.RowKit
set_option maxHeartbeats 400000

def okPoint (x : Point) : Bool := inR x.i 1 1000 && inR x.l 0 100000
def validPts (xs : List Point) : Bool := decide (xs.length ≤ 30) && xs.all okPoint
def codeP (xs : List Point) (day : Int) : Int := if validPts xs then if inR day 0 100000 then 0 else 2 else 1
def dueD (x : Point) : Int := x.l + x.i
theorem okPoint_at {xs : List Point} (h : validPts xs = true) {k : Nat} {x : Point} (hx : xs[k]? = some x) : 1 ≤ x.i ∧ x.i ≤ 1000 ∧ 0 ≤ x.l ∧ x.l ≤ 100000 := by
  simp only [validPts, Bool.and_eq_true, List.all_eq_true] at h
  have := h.2 x (List.mem_of_getElem? hx)
  simp [okPoint, inR] at this
  omega
theorem validPts_len {xs : List Point} (h : validPts xs = true) : xs.length ≤ 30 := by
  simp only [validPts, Bool.and_eq_true, decide_eq_true_eq] at h
  exact h.1
theorem IndexFunc_Point (g : Nat) (caps : Array Value) (p : Point → Bool) (eg : ∀ args w, (callFunc g args).run Tryd.prog w = .ok (.enter g args) w) (A : Option Addr) (n c : Nat) (xs : List Point) (w : World) (B : Nat) (hB : B ≤ w.heap.size) (hn : n ≤ 140737488355328)
    (hx : Sl w B 2 encPoint A n xs) (hp : ∀ (W : World) (x y : Int), (⟨x, y⟩ : Point) ∈ xs → Below w.heap.size w W → Calls Tryd.prog g (#[.agg #[.int .i64 x, .int .i64 y]] ++ caps) W fun e w' => e = .returned (.bool (p ⟨x, y⟩)) ∧ Below W.heap.size W w') :
    Calls Tryd.prog 62 #[.slice A n c, .func (.func g) #[] caps] w fun e w' => e = .returned (.int .i64 (findFrom p 0 xs)) ∧ Below w.heap.size w w' := by
  go_enter Tryd.func62, Tryd.ntmps62
  go_wp2
  go_loopw [5, 8] (fun _ i w1 => ∃ k : Nat, k ≤ n ∧ i = .int .i64 k ∧ Hid (findFrom p 0 xs = findFrom p k (xs.drop k)) ∧ Below w.heap.size w w1) (fun _ i _ => n - (intOf i).toNat)
  case atStart => exact ⟨0, Nat.zero_le _, rfl, hid rfl, Below.refl _ _⟩
  case round =>
    obtain ⟨k, hk, rfl, he, hb⟩ := hrel
    by_cases hlt : k < n
    · obtain ⟨x, y, b, off, Hx, rfl, hbB, c0, c1⟩ := (hx.below (hb.mono hB)).atPoint hlt
      have hcall := hp wr x y (List.mem_of_getElem? Hx.out) hb
      have he2 := he.out
      rw [drop_at Hx.out, findFrom] at he2
      clear hp hx
      cases hq : p ⟨x, y⟩ with
      | true =>
        rw [hq] at hcall
        rw [hq, if_pos rfl] at he2
        have He2 := hid he2
        clear he2 hq
        go_wp2_with (go_at_fn g; refine hcall.mono ?_; rintro e w' ⟨rfl, hb'⟩)
        go_ret
        exact ⟨retI He2.out.symm, hb.trans (hb'.mono hb.size)⟩
      | false =>
        rw [hq] at hcall
        rw [hq, if_neg (by simp)] at he2
        have He2 := hid he2
        clear he2 hq
        go_wp2_with (go_at_fn g; refine hcall.mono ?_; rintro e w' ⟨rfl, hb'⟩)
        have hb2 := hb.trans (hb'.mono hb.size)
        go_roundw
        all_goals first | exact ⟨k + 1, by omega, by go_num, He2, hb2⟩ | exact ⟨⟨k + 1, by omega, by go_num, He2, hb2⟩, by simp [intOf]; omega⟩ | (simp [intOf]; omega)
    · have : k = n := by omega
      subst this
      have he2 := he.out
      rw [List.drop_of_length_le (by rw [hx.len]; omega), findFrom] at he2
      have He2 := hid he2
      clear he2
      go_wp2
      go_ret
      exact ⟨retI He2.out.symm, hb⟩
theorem ContainsFunc_Point (g : Nat) (caps : Array Value) (p : Point → Bool) (eg : ∀ args w, (callFunc g args).run Tryd.prog w = .ok (.enter g args) w) (A : Option Addr) (n c : Nat) (xs : List Point) (w : World) (B : Nat) (hB : B ≤ w.heap.size) (hn : n ≤ 140737488355328)
    (hx : Sl w B 2 encPoint A n xs) (hp : ∀ (W : World) (x y : Int), (⟨x, y⟩ : Point) ∈ xs → Below w.heap.size w W → Calls Tryd.prog g (#[.agg #[.int .i64 x, .int .i64 y]] ++ caps) W fun e w' => e = .returned (.bool (p ⟨x, y⟩)) ∧ Below W.heap.size W w') :
    Calls Tryd.prog 57 #[.slice A n c, .func (.func g) #[] caps] w fun e w' => e = .returned (.bool (xs.any p)) ∧ Below w.heap.size w w' := by
  rw [← findFrom_any p xs 0]
  have hc := IndexFunc_Point g caps p eg A n c xs w B hB hn hx hp
  generalize findFrom p 0 xs = r at hc
  clear hp hx
  go_enter Tryd.func57, Tryd.ntmps57
  go_wp2_with (go_at_call 62; refine hc.mono ?_; rintro e w' ⟨rfl, hb⟩)
  go_ret
  exact ⟨rfl, hb⟩
theorem isRoundDay_any (a : Int) (w : World) : Calls Tryd.prog 59 #[.int .i64 a] w fun e w' => e = .returned (.bool (inR a 0 100000)) ∧ w' = w := by
  go_enter Tryd.func59, Tryd.ntmps59
  go_wp2_with (go_at_call 48; refine (within_any _ _ _ _).mono ?_; rintro e w' ⟨rfl, rfl⟩)
  go_ret
  exact ⟨rfl, rfl⟩
theorem validPoint_any (a t : Int) (w : World) :
    Calls Tryd.prog 54 #[.agg #[.int .i64 a, .int .i64 t]] w fun e w' => e = .returned (.bool (okPoint ⟨a, t⟩)) ∧ Below w.heap.size w w' := by
  unfold okPoint
  go_enter Tryd.func54, Tryd.ntmps54
  cases h1 : inR a 1 1000 <;> cases h2 : inR t 0 100000
  all_goals go_wp2_with (first
    | (go_at_call 48; refine (within_any _ _ _ _).mono ?_; rintro e w' ⟨rfl, rfl⟩)
    | (go_at_call 59; refine (isRoundDay_any _ _).mono ?_; rintro e w' ⟨rfl, rfl⟩))
  all_goals go_ret
  all_goals refine ⟨by simp, ?_⟩
  all_goals repeat (first | with_reducible assumption | with_reducible exact Below.refl _ _ | with_reducible refine bl_drew ?_ | with_reducible refine bl_drewN ?_ | ((with_reducible refine bl_set ?_ ?_); focus (first | (simp; done) | (simp; omega) | omega)) | ((with_reducible refine bl_alloc ?_ ?_); focus (first | (simp; done) | (simp; omega) | omega)))
theorem ValidPoints1_any (a t : Int) (w : World) :
    Calls Tryd.prog 58 #[.agg #[.int .i64 a, .int .i64 t]] w fun e w' => e = .returned (.bool (!okPoint ⟨a, t⟩)) ∧ Below w.heap.size w w' := by
  have hv := fun W => validPoint_any a t W
  generalize okPoint ⟨a, t⟩ = r at hv
  go_enter Tryd.func58, Tryd.ntmps58
  go_wp2_with (go_at_call 54; refine (hv _).mono ?_; rintro e w' ⟨rfl, b1⟩)
  go_ret
  exact ⟨rfl, ((Below.refl _ _).alloc (Nat.le_refl _) _).trans (b1.mono (by simp))⟩
theorem ValidPoints_any (A : Option Addr) (n c : Nat) (xs : List Point) (w : World) (B : Nat) (hB : B ≤ w.heap.size) (hn : n ≤ 2000000) (hx : Sl w B 2 encPoint A n xs) :
    Calls Tryd.prog 28 #[.slice A n c] w fun e w' => e = .returned (.bool (validPts xs)) ∧ Below w.heap.size w w' := by
  have eg := enters_of Tryd.func58 (by kernel_rfl) rfl
  have hc := ContainsFunc_Point 58 #[] (fun x => !okPoint x) eg A n c xs w B hB (by omega) hx (fun W x y _ _ => ValidPoints1_any x y W)
  by_cases hl : n ≤ 30
  · have e : validPts xs = !xs.any fun x => !okPoint x := by simp [validPts, hx.len, hl, List.all_eq_not_any_not]
    rw [e]
    generalize (xs.any fun x => !okPoint x) = r at hc
    clear hx e eg
    go_enter Tryd.func28, Tryd.ntmps28
    go_wp2_with (go_at_call 57; refine hc.mono ?_; rintro e w' ⟨rfl, hb⟩)
    go_ret
    exact ⟨rfl, hb⟩
  · have e : validPts xs = false := by simp [validPts, hx.len, hl]
    rw [e]
    clear hx e eg hc
    go_enter Tryd.func28, Tryd.ntmps28
    go_wp2_with fail
    go_ret
    exact ⟨rfl, Below.refl _ _⟩
theorem l19Ok_any (A : Option Addr) (n c : Nat) (xs : List Point) (w : World) (B : Nat) (hB : B ≤ w.heap.size) (hn : n ≤ 2000000) (hx : Sl w B 2 encPoint A n xs) :
    Calls Tryd.prog 37 #[.slice A n c] w fun e w' => e = .returned (.bool (validPts xs)) ∧ w' = w := by
  go_enter Tryd.func37, Tryd.ntmps37
  go_wp2
  go_loopw [3] (fun i w1 => ∃ k : Nat, k ≤ n ∧ i = .int .i64 k ∧ Hid (xs.all okPoint = (xs.drop k).all okPoint) ∧ w1 = w) (fun i _ => n - (intOf i).toNat)
  case atStart => exact ⟨0, Nat.zero_le _, rfl, hid rfl, rfl⟩
  case round =>
    obtain ⟨k, hk, rfl, he, rfl⟩ := hrel
    by_cases hlt : k < n
    · obtain ⟨x, y, b, off, Hx, rfl, hbB, c0, c1⟩ := hx.atPoint hlt
      have he2 := he.out
      rw [drop_at Hx.out, List.all_cons] at he2
      have hv : validPts xs = (decide (n ≤ 30) && xs.all okPoint) := by simp [validPts, hx.len]
      clear hx
      cases h1 : inR x 1 1000 <;> cases h2 : inR y 0 100000
      all_goals
        have He2 := hid he2
        have Hv := hid hv
        clear he2 hv he
        go_wp2_with (go_at_call 50; refine (l00In_any _ _ _ _).mono ?_; rintro e w' ⟨rfl, rfl⟩)
      all_goals first
        | (go_ret; exact ⟨retB (by rw [Hv.out, He2.out]; simp [okPoint, h1, h2]), rfl⟩)
        | (have He3 : Hid (xs.all okPoint = (xs.drop (k + 1)).all okPoint) := by rw [He2.out]; simp [Hid, okPoint, h1, h2]
           go_roundw
           all_goals first | exact ⟨k + 1, by omega, by go_num, He3, by trivial⟩ | exact ⟨⟨k + 1, by omega, by go_num, He3, by trivial⟩, by simp [intOf]; omega⟩ | (simp [intOf]; omega))
    · have : k = n := by omega
      subst this
      have he2 := he.out
      rw [List.drop_of_length_le (by rw [hx.len]; omega), List.all_nil] at he2
      have hv : validPts xs = decide (k ≤ 30) := by simp [validPts, hx.len, he2]
      have Hv := hid hv
      clear hx he he2 hv
      go_wp2
      go_ret
      exact ⟨retB (by rw [Hv.out]; simp; try omega), rfl⟩
theorem l19Code_any (A : Option Addr) (n c : Nat) (xs : List Point) (day : Int) (w : World) (B : Nat) (hB : B ≤ w.heap.size) (hn : n ≤ 2000000) (hx : Sl w B 2 encPoint A n xs) :
    Calls Tryd.prog 34 #[.slice A n c, .int .i64 day] w fun e w' => e = .returned (.int .i64 (codeP xs day)) ∧ w' = w := by
  have hc := l19Ok_any A n c xs w B hB hn hx
  have hi := l00In_any day 0 100000
  have E := hid (show codeP xs day = if validPts xs then if inR day 0 100000 then 0 else 2 else 1 from rfl)
  generalize validPts xs = p at hc E
  generalize inR day 0 100000 = q at hi E
  clear hx
  go_enter Tryd.func34, Tryd.ntmps34
  cases p <;> cases q
  all_goals go_wp2_with (first
    | (go_at_call 37; refine hc.mono ?_; rintro e w' ⟨rfl, rfl⟩)
    | (go_at_call 50; refine (hi _).mono ?_; rintro e w' ⟨rfl, rfl⟩))
  all_goals go_ret
  all_goals exact ⟨retI (by rw [E.out]; rfl), rfl⟩
theorem pointsCode_any (A : Option Addr) (n c : Nat) (xs : List Point) (day : Int) (w : World) (B : Nat) (hB : B ≤ w.heap.size) (hn : n ≤ 2000000) (hx : Sl w B 2 encPoint A n xs) :
    Calls Tryd.prog 32 #[.slice A n c, .int .i64 day] w fun e w' => e = .returned (.int .i64 (codeP xs day)) ∧ Below w.heap.size w w' := by
  have hc := ValidPoints_any A n c xs w B hB hn hx
  have hi := isRoundDay_any day
  have E := hid (show codeP xs day = if validPts xs then if inR day 0 100000 then 0 else 2 else 1 from rfl)
  generalize validPts xs = p at hc E
  generalize inR day 0 100000 = q at hi E
  clear hx
  go_enter Tryd.func32, Tryd.ntmps32
  cases p <;> cases q
  all_goals go_wp2_with (first
    | (go_at_call 28; refine hc.mono ?_; rintro e w' ⟨rfl, b1⟩)
    | (go_at_call 59; refine (hi _).mono ?_; rintro e w' ⟨rfl, rfl⟩))
  all_goals go_ret
  all_goals exact ⟨retI (by rw [E.out]; rfl), b1⟩
theorem codeP_zero {xs : List Point} {day : Int} (h : codeP xs day = 0) : validPts xs = true ∧ 0 ≤ day ∧ day ≤ 100000 := by
  unfold codeP at h
  split at h
  · rename_i hv
    split at h
    · rename_i hd
      simp [inR] at hd
      exact ⟨hv, hd⟩
    · cases h
  · cases h
end Go.Proofs.YtehjfajmnciiaaaDoor
