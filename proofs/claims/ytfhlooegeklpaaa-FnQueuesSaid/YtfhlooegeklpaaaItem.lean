/-
  Items of a queue: how they read, their copies and comparisons, and when a list of them is valid. No condition.
-/
import Derived.Test.YtfhlooegeklpaaaBasic
namespace Go.Proofs.Ytfhlooegeklpaaa
open Go.RowKit
set_option maxHeartbeats 400000

structure Item where
  a : Int
  t : Int
  c : Int
  deriving DecidableEq
def encItem (x : Item) : List Value := [.int .i64 x.a, .int .i64 x.t, .int .i64 x.c]
theorem encItem_len (x : Item) : (encItem x).length = 3 := rfl
def valItem (x : Item) : Value := .agg #[.int .i64 x.a, .int .i64 x.t, .int .i64 x.c]
theorem Sl.item {w : World} {B : Nat} {A : Option Addr} {n : Nat} {xs : List Item} (h : Sl w B 3 encItem A n xs) {i : Nat} (hi : i < n) :
    ∃ x y z b off, Hid (xs[i]? = some ⟨x, y, z⟩) ∧ A = some ⟨b, off, none⟩ ∧ b < B ∧ w.cell? ⟨b, off + i * 3, none⟩ = some (.int .i64 x) ∧ w.cell? ⟨b, off + i * 3 + 1, none⟩ = some (.int .i64 y) ∧ w.cell? ⟨b, off + i * 3 + 2, none⟩ = some (.int .i64 z) := by
  obtain ⟨⟨x, y, z⟩, b, off, hx, e, hb, hc⟩ := h.at_ hi
  exact ⟨x, y, z, b, off, hx, e, hb, hc 0 _ rfl, hc 1 _ rfl, hc 2 _ rfl⟩

theorem Sl.itemAt {w : World} {B b off n : Nat} {xs : List Item} (h : Sl w B 3 encItem (some ⟨b, off, none⟩) n xs) {i : Nat} {x y z : Int} (hi : xs[i]? = some ⟨x, y, z⟩) :
    w.cell? ⟨b, off + i * 3, none⟩ = some (.int .i64 x) ∧ w.cell? ⟨b, off + i * 3 + 1, none⟩ = some (.int .i64 y) ∧ w.cell? ⟨b, off + i * 3 + 2, none⟩ = some (.int .i64 z) := by
  obtain ⟨b', off', e, _, hc⟩ := h.2 i _ hi
  injection e with e
  injection e with e1 e2
  subst e1 e2
  exact ⟨hc 0 _ rfl, hc 1 _ rfl, hc 2 _ rfl⟩
theorem Sl.itemAt' {w : World} {B n : Nat} {A : Option Addr} {xs : List Item} (h : Sl w B 3 encItem A n xs) {i : Nat} {x y z : Int} (_hi : i < xs.length) (hx : xs[i]? = some ⟨x, y, z⟩) :
    ∃ b off, A = some ⟨b, off, none⟩ ∧ b < B ∧ w.cell? ⟨b, off + i * 3, none⟩ = some (.int .i64 x) ∧ w.cell? ⟨b, off + i * 3 + 1, none⟩ = some (.int .i64 y) ∧ w.cell? ⟨b, off + i * 3 + 2, none⟩ = some (.int .i64 z) := by
  obtain ⟨b, off, e, hb, hc⟩ := h.2 i _ hx
  exact ⟨b, off, e, hb, hc 0 _ rfl, hc 1 _ rfl, hc 2 _ rfl⟩

/-- the bound that is left behind a slice of length n -/
def szv (left : Int) (n : Nat) : Int := if left < n then -1 else left - n
theorem szItemS_any (A : Option Addr) (n c : Nat) (left : Int) (w : World) (hn : n ≤ 9223372036854775807) (h0 : 0 ≤ left) (h1 : left ≤ 1048576) :
    Calls Try.prog 6 #[.slice A n c, .int .i64 left] w fun e w' => e = .returned (.int .i64 (szv left n)) ∧ w' = w := by
  go_enter Try.func6, Try.ntmps6
  go_wp2
  all_goals go_ret
  all_goals exact ⟨retI (by unfold szv; split <;> omega), rfl⟩

theorem toItem_any (a b c : Int) (w : World) :
    Calls Try.prog 28 #[.agg #[.int .i64 a, .int .i64 b, .int .i64 c]] w fun e w' => e = .returned (.agg #[.int .i64 a, .int .i64 b, .int .i64 c]) ∧ Below w.heap.size w w' := by
  go_enter Try.func28, Try.ntmps28
  go_wp2
  refine bodyPost_ret (v := .agg #[.int .i64 a, .int .i64 b, .int .i64 c]) (by simp [results, Try.results28, go_sem]) rfl ⟨rfl, ?_⟩
  repeat (first | with_reducible assumption | with_reducible exact Below.refl _ _ | with_reducible refine bl_drew ?_ | with_reducible refine bl_drewN ?_ | ((with_reducible refine bl_set ?_ ?_); focus (first | (simp; done) | (simp; omega) | omega)) | ((with_reducible refine bl_alloc ?_ ?_); focus (first | (simp; done) | (simp; omega) | omega)))

theorem eqItem_yes (a b c : Int) (w : World) :
    Calls Try.prog 33 #[.agg #[.int .i64 a, .int .i64 b, .int .i64 c], .agg #[.int .i64 a, .int .i64 b, .int .i64 c]] w fun e w' => e = .returned (.bool true) ∧ Below w.heap.size w w' := by
  go_enter Try.func33, Try.ntmps33
  go_wp2
  all_goals go_ret
  all_goals refine ⟨rfl, ?_⟩
  all_goals repeat (first | with_reducible assumption | with_reducible exact Below.refl _ _ | with_reducible refine bl_drew ?_ | with_reducible refine bl_drewN ?_ | ((with_reducible refine bl_set ?_ ?_); focus (first | (simp; done) | (simp; omega) | omega)) | ((with_reducible refine bl_alloc ?_ ?_); focus (first | (simp; done) | (simp; omega) | omega)))

/-- two own copies of one list are found equal -/
theorem eqItemS_yes (A : Option Addr) (n c : Nat) (A' : Option Addr) (c' : Nat)  (w : World) (B : Nat) (hB : B ≤ w.heap.size) (xs : List Item) (hn : n ≤ 2000000) (hx : Sl w B 3 encItem A n xs) (hy : Sl w B 3 encItem A' n xs) :
    Calls Try.prog 11 #[.slice A n c, .slice A' n c'] w fun e w' => e = .returned (.bool true) ∧ Below w.heap.size w w' := by
  go_enter Try.func11, Try.ntmps11
  go_wp2
  go_loopw [5] (fun i w1 => ∃ k : Nat, k ≤ n ∧ i = .int .i64 k ∧ Below w.heap.size w w1) (fun i _ => n - (intOf i).toNat)
  case atStart => exact ⟨0, Nat.zero_le _, rfl, Below.refl _ _⟩
  case round =>
    obtain ⟨k, hk, rfl, hb⟩ := hrel
    by_cases hlt : k < n
    · obtain ⟨x, y, z, b, off, Hx, rfl, hbB, c0, c1, c2⟩ := (hx.below (hb.mono hB)).item hlt
      obtain ⟨x', y', z', b', off', Hy, rfl, hbB', c0', c1', c2'⟩ := (hy.below (hb.mono hB)).item hlt
      obtain ⟨rfl, rfl, rfl⟩ : x = x' ∧ y = y' ∧ z = z' := by have := Hx.out.symm.trans Hy.out; simpa using this
      clear hx hy
      go_wp2
      go_region_with (go_at_call 33; refine (eqItem_yes _ _ _ _).mono ?_; rintro e w' ⟨rfl, hbb⟩)
      all_goals go_wp2
      all_goals have hb2 := hb.trans (Below.mono ((Below.refl _ _).drew.trans hbb) (by simpa using hb.size))
      all_goals go_roundw
      all_goals first | exact ⟨k + 1, by omega, by go_num, hb2⟩ | exact ⟨⟨k + 1, by omega, by go_num, hb2⟩, by simp [intOf]; omega⟩ | (simp [intOf]; omega)
    · go_wp2
      go_ret
      exact ⟨rfl, hb⟩
/-- a valid item -/
def okItem (x : Item) : Bool := inR x.a 0 10000 && inR x.t 1 1000 && inR x.c 0 9
/-- a valid queue -/
def validQ (xs : List Item) : Bool := decide (xs.length ≤ 12) && xs.all okItem

theorem IndexFunc_Item (g : Nat) (caps : Array Value) (p : Item → Bool) (eg : ∀ args w, (callFunc g args).run Try.prog w = .ok (.enter g args) w) (A : Option Addr) (n c : Nat) (xs : List Item) (w : World) (B : Nat) (hB : B ≤ w.heap.size) (hn : n ≤ 140737488355328)
    (hx : Sl w B 3 encItem A n xs) (hp : ∀ (W : World) (x y z : Int), (⟨x, y, z⟩ : Item) ∈ xs → Below w.heap.size w W → Calls Try.prog g (#[.agg #[.int .i64 x, .int .i64 y, .int .i64 z]] ++ caps) W fun e w' => e = .returned (.bool (p ⟨x, y, z⟩)) ∧ Below W.heap.size W w') :
    Calls Try.prog 50 #[.slice A n c, .func (.func g) #[] caps] w fun e w' => e = .returned (.int .i64 (findFrom p 0 xs)) ∧ Below w.heap.size w w' := by
  go_enter Try.func50, Try.ntmps50
  go_wp2
  go_loopw [5, 8] (fun _ i w1 => ∃ k : Nat, k ≤ n ∧ i = .int .i64 k ∧ Hid (findFrom p 0 xs = findFrom p k (xs.drop k)) ∧ Below w.heap.size w w1) (fun _ i _ => n - (intOf i).toNat)
  case atStart => exact ⟨0, Nat.zero_le _, rfl, hid rfl, Below.refl _ _⟩
  case round =>
    obtain ⟨k, hk, rfl, he, hb⟩ := hrel
    by_cases hlt : k < n
    · obtain ⟨x, y, z, b, off, Hx, rfl, hbB, c0, c1, c2⟩ := (hx.below (hb.mono hB)).item hlt
      have hcall := hp wr x y z (List.mem_of_getElem? Hx.out) hb
      have he2 := he.out
      rw [drop_at Hx.out, findFrom] at he2
      clear hp hx
      cases hq : p ⟨x, y, z⟩ with
      | true =>
        rw [hq] at hcall
        rw [hq, if_pos rfl] at he2
        have He2 := hid he2
        clear he2 hq
        go_wp2_with (go_at_fn g; refine hcall.mono ?_; rintro e w' ⟨rfl, hb'⟩)
        go_ret
        exact ⟨retI He2.out.symm, hb.trans (hb'.mono hb.size)⟩
      | false =>
        rw [hq] at hcall
        rw [hq, if_neg (by simp)] at he2
        have He2 := hid he2
        clear he2 hq
        go_wp2_with (go_at_fn g; refine hcall.mono ?_; rintro e w' ⟨rfl, hb'⟩)
        have hb2 := hb.trans (hb'.mono hb.size)
        go_roundw
        all_goals first | exact ⟨k + 1, by omega, by go_num, He2, hb2⟩ | exact ⟨⟨k + 1, by omega, by go_num, He2, hb2⟩, by simp [intOf]; omega⟩ | (simp [intOf]; omega)
    · have : k = n := by omega
      subst this
      have he2 := he.out
      rw [List.drop_of_length_le (by rw [hx.len]; omega), findFrom] at he2
      have He2 := hid he2
      clear he2
      go_wp2
      go_ret
      exact ⟨retI He2.out.symm, hb⟩
theorem ContainsFunc_Item (g : Nat) (caps : Array Value) (p : Item → Bool) (eg : ∀ args w, (callFunc g args).run Try.prog w = .ok (.enter g args) w) (A : Option Addr) (n c : Nat) (xs : List Item) (w : World) (B : Nat) (hB : B ≤ w.heap.size) (hn : n ≤ 140737488355328)
    (hx : Sl w B 3 encItem A n xs) (hp : ∀ (W : World) (x y z : Int), (⟨x, y, z⟩ : Item) ∈ xs → Below w.heap.size w W → Calls Try.prog g (#[.agg #[.int .i64 x, .int .i64 y, .int .i64 z]] ++ caps) W fun e w' => e = .returned (.bool (p ⟨x, y, z⟩)) ∧ Below W.heap.size W w') :
    Calls Try.prog 40 #[.slice A n c, .func (.func g) #[] caps] w fun e w' => e = .returned (.bool (xs.any p)) ∧ Below w.heap.size w w' := by
  rw [← findFrom_any p xs 0]
  have hc := IndexFunc_Item g caps p eg A n c xs w B hB hn hx hp
  generalize findFrom p 0 xs = r at hc
  clear hp hx
  go_enter Try.func40, Try.ntmps40
  go_wp2_with (go_at_call 50; refine hc.mono ?_; rintro e w' ⟨rfl, hb⟩)
  go_ret
  exact ⟨rfl, hb⟩
theorem ValidQueue1_any (a t c : Int) (w : World) :
    Calls Try.prog 41 #[.agg #[.int .i64 a, .int .i64 t, .int .i64 c]] w fun e w' => e = .returned (.bool (!okItem ⟨a, t, c⟩)) ∧ Below w.heap.size w w' := by
  unfold okItem
  go_enter Try.func41, Try.ntmps41
  cases h1 : inR a 0 10000 <;> cases h2 : inR t 1 1000 <;> cases h3 : inR c 0 9
  all_goals go_wp2_with (go_at_call 30; refine (within_any _ _ _ _).mono ?_; rintro e w' ⟨rfl, rfl⟩)
  all_goals go_ret
  all_goals refine ⟨by simp, ?_⟩
  all_goals repeat (first | with_reducible assumption | with_reducible exact Below.refl _ _ | with_reducible refine bl_drew ?_ | with_reducible refine bl_drewN ?_ | ((with_reducible refine bl_set ?_ ?_); focus (first | (simp; done) | (simp; omega) | omega)) | ((with_reducible refine bl_alloc ?_ ?_); focus (first | (simp; done) | (simp; omega) | omega)))
theorem ValidQueue_any (A : Option Addr) (n c : Nat) (xs : List Item) (w : World) (B : Nat) (hB : B ≤ w.heap.size) (hn : n ≤ 2000000) (hx : Sl w B 3 encItem A n xs) :
    Calls Try.prog 29 #[.slice A n c] w fun e w' => e = .returned (.bool (validQ xs)) ∧ Below w.heap.size w w' := by
  have eg := enters_of Try.func41 (by kernel_rfl) rfl
  have hc := ContainsFunc_Item 41 #[] (fun x => !okItem x) eg A n c xs w B hB (by omega) hx (fun W x y z _ _ => ValidQueue1_any x y z W)
  by_cases hl : n ≤ 12
  · have e : validQ xs = !xs.any fun x => !okItem x := by simp [validQ, hx.len, hl, List.all_eq_not_any_not]
    rw [e]
    generalize (xs.any fun x => !okItem x) = r at hc
    clear hx e eg
    go_enter Try.func29, Try.ntmps29
    go_wp2_with (go_at_call 40; refine hc.mono ?_; rintro e w' ⟨rfl, hb⟩)
    go_ret
    exact ⟨rfl, hb⟩
  · have e : validQ xs = false := by simp [validQ, hx.len, hl]
    rw [e]
    clear hx e eg hc
    go_enter Try.func29, Try.ntmps29
    go_wp2_with fail
    go_ret
    exact ⟨rfl, Below.refl _ _⟩
end Go.Proofs.Ytfhlooegeklpaaa
