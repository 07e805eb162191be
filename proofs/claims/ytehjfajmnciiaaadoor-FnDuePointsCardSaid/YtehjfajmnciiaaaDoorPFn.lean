/-
  DueOn and VisitsBetween: both sides. No condition.
-/
import Derived.Test.YtehjfajmnciiaaaDoorPPts
namespace Go.Proofs.YtehjfajmnciiaaaDoor
open Go.RowKit
set_option maxHeartbeats 400000

/-- a list of numbers and a code -/
def ListPost (w : World) (R : List Int × Int) (r : Ending) (w' : World) : Prop :=
  ∃ A n c, r = .returned (.tuple #[.slice A n c, .int .i64 R.2]) ∧ w'.ownsRow w.heap.size 2 1 (.slice A n c) n (R.1.flatMap encI) ∧ Below w.heap.size w w'
theorem ListPost.bad {w w' : World} {R : List Int × Int} {z : Int} (hR : R = ([], z)) (hb : Below w.heap.size w w') : ListPost w R (.returned (.tuple #[.slice none 0 0, .int .i64 z])) w' := by
  subst hR
  exact ⟨none, 0, 0, rfl, World.ownsRow_nil _ _ _ _, hb⟩
/-- the points that are due -/
def dueK (xs : List Point) (day : Int) : Nat → List Int
  | 0 => []
  | k + 1 => if dueD (xs.getD k ⟨0, 0⟩) ≤ day then dueK xs day k ++ [(k : Int)] else dueK xs day k
def dueF (xs : List Point) (day : Int) : List Int × Int := if codeP xs day = 0 then (dueK xs day xs.length, 0) else ([], codeP xs day)
theorem dueK_len (xs : List Point) (day : Int) : ∀ k, (dueK xs day k).length ≤ k := by
  intro k
  induction k with
  | zero => simp [dueK]
  | succ k ih => simp only [dueK]; split; (simp; omega); omega
theorem dueK_yes {xs : List Point} {day : Int} {k : Nat} {x : Point} (h : xs[k]? = some x) (hd : dueD x ≤ day) : dueK xs day (k + 1) = dueK xs day k ++ [(k : Int)] := by simp [dueK, List.getD, h, hd]
theorem dueK_no {xs : List Point} {day : Int} {k : Nat} {x : Point} (h : xs[k]? = some x) (hd : ¬ dueD x ≤ day) : dueK xs day (k + 1) = dueK xs day k := by simp [dueK, List.getD, h, hd]
theorem dueF_len (xs : List Point) (day : Int) (h : xs.length ≤ 2000000) : (dueF xs day).1.length ≤ 2000000 := by
  unfold dueF
  split
  · exact Nat.le_trans (dueK_len _ _ _) h
  · simp
theorem snocI (l : List Int) (x : Int) : l.flatMap encI ++ [.int .i64 x] = (l ++ [x]).flatMap encI := by simp [encI]
theorem l19Due_any (b o : Nat) (x0 x1 : Int) (w : World) (c0 : w.cell? ⟨b, o, none⟩ = some (.int .i64 x0)) (c1 : w.cell? ⟨b, o + 1, none⟩ = some (.int .i64 x1)) (h0 : 0 ≤ x0 ∧ x0 ≤ 1000) (h1 : 0 ≤ x1 ∧ x1 ≤ 100000) :
    Calls Tryd.prog 35 #[.pointer (some ⟨b, o, none⟩)] w fun r w' => r = .returned (.int .i64 (dueD ⟨x0, x1⟩)) ∧ Below w.heap.size w w' := by
  have hw : IntKind.i64.wrap (x1 + x0) = x1 + x0 := IntWalk.i64_in _ (by omega)
  go_enter Tryd.func35, Tryd.ntmps35
  go_wp2_with fail
  go_quiet (fail)
  go_wp2_with fail
  go_ret
  exact ⟨rfl, below_drewN (Below.refl _ _) nq⟩
theorem due_any (x0 x1 : Int) (w : World) (h0 : 0 ≤ x0 ∧ x0 ≤ 1000) (h1 : 0 ≤ x1 ∧ x1 ≤ 100000) :
    Calls Tryd.prog 33 #[.agg #[.int .i64 x0, .int .i64 x1]] w fun r w' => r = .returned (.int .i64 (dueD ⟨x0, x1⟩)) ∧ Below w.heap.size w w' := by
  have hw : IntKind.i64.wrap (x1 + x0) = x1 + x0 := IntWalk.i64_in _ (by omega)
  go_enter Tryd.func33, Tryd.ntmps33
  go_wp2
  go_ret
  refine ⟨rfl, ?_⟩
  repeat (first | with_reducible assumption | with_reducible exact Below.refl _ _ | with_reducible refine bl_drew ?_ | with_reducible refine bl_drewN ?_ | ((with_reducible refine bl_set ?_ ?_); focus (first | (simp; done) | (simp; omega) | omega)) | ((with_reducible refine bl_alloc ?_ ?_); focus (first | (simp; done) | (simp; omega) | omega)))
theorem code_cases (xs : List Point) (day : Int) : codeP xs day = 0 ∨ codeP xs day ≠ 0 := by omega
set_option maxHeartbeats 2000000 in
theorem specDueOn_any (A : Option Addr) (n c : Nat) (xs : List Point) (day : Int) (w : World) (B : Nat) (hB : B ≤ w.heap.size) (hn : n ≤ 2000000) (hx : Sl w B 2 encPoint A n xs) :
    Calls Tryd.prog 7 #[.slice A n c, .int .i64 day] w (ListPost w (dueF xs day)) := by
  have hc := l19Code_any A n c xs day w B hB hn hx
  have hl := hid hx.len
  by_cases h0 : codeP xs day = 0
  · have EF : Hid (dueF xs day = (dueK xs day xs.length, 0)) := by simp [Hid, dueF, h0]
    have hv := hid (codeP_zero h0).1
    obtain ⟨i0, hi, hz0, hz1, hz2⟩ := info_parts int_info
    have o0 := World.ownsRow_lit (base := w.heap.size) (e := 2) (size := 1) w #[] 0 (Nat.le_refl _) (by simp [maxLen]) (by simp)
    rw [h0] at hc
    clear h0
    go_enter Tryd.func7, Tryd.ntmps7
    go_wp2_with (go_at_call 34; refine hc.mono ?_; rintro r w1 ⟨rfl, hw1⟩; replace hw1 := hw1.symm; subst hw1)
    go_loopw [7, 8] (fun s i w1 => ∃ (k L : Nat) (l : List Int) (Ao : Option Addr) (co : Nat), k ≤ n ∧ i = .int .i64 k ∧ s = .slice Ao L co ∧ Hid (dueK xs day k = l) ∧ L ≤ k ∧ w1.ownsRow w.heap.size 2 1 (.slice Ao L co) L (l.flatMap encI) ∧ Below w.heap.size w w1) (fun _ i _ => n - (intOf i).toNat)
    case atStart => exact ⟨0, 0, [], some ⟨w.heap.size, 0, none⟩, 0, Nat.zero_le _, rfl, rfl, rfl, Nat.le_refl _, o0, (Below.refl _ _).alloc (Nat.le_refl _) _⟩
    case round =>
      obtain ⟨k, L, l, Ao, co, hk, rfl, rfl, he, hL, ho, hb⟩ := hrel
      clear o0 hc
      by_cases hlt : k < n
      · obtain ⟨x0, x1, b, off, Hx, rfl, hbB, c0, c1⟩ := (hx.below (hb.mono hB)).atPoint hlt
        have hpt := okPoint_at hv.out Hx.out
        have hd := l19Due_any b (off + k * 2) x0 x1 wr c0 c1 (by simp only at hpt; omega) (by simp only at hpt; omega)
        by_cases hq : dueD ⟨x0, x1⟩ ≤ day
        · have E : Hid (dueK xs day (k + 1) = l ++ [(k : Int)]) := by rw [Hid, dueK_yes Hx.out hq, he.out]
          have HS := hid (snocI l k)
          generalize dueD ⟨x0, x1⟩ = v at hd hq
          have hlo := ho.lt
          clear he hx hpt
          go_wp2_with (first
            | (go_at_call 35; refine hd.mono ?_; rintro r w2 ⟨rfl, b2⟩; replace ho := own_below ho b2; replace hb := hb.trans (b2.mono hb.size))
            | (at_builtin; refine wpList_append_lies _ rfl _ _ 27 rfl w.heap.size 2 i0 (.int .i64 0) 1 8 Tryd.underlying27 hi hz0 hz1 hz2 rfl (by omega) (.slice Ao L co) L (l.flatMap encI) rfl (ho.alloc _) ⟨w2.heap.size, 0, none⟩ 1 1 [.int .i64 (k : Int)] rfl rfl (World.news_of_block (cs := #[.int .i64 (k : Int)]) (t := 2) (fr := (0, 0)) (heap_alloc_new _ _)) (by simp [Value.oneCell']) (by omega) (by simp only [maxLen]; omega) (by omega) (by have := hb.size; simp; omega) (w2.heap.size + 1) (by simp) ?_; intro gg cap w3 ho3 hg3 hat3 hlt3))
          rw [HS.out] at ho3
          have hb3 : Below w.heap.size w w3 := (hb.alloc hb.size _).grown hg3 (by have := hb.size; simp; omega) (fun q hq => (ho.lt q hq).1)
          go_roundw
          all_goals first | exact ⟨k + 1, L + 1, _, _, _, by omega, by go_num, rfl, E, by omega, ho3, hb3⟩ | exact ⟨⟨k + 1, L + 1, _, _, _, by omega, by go_num, rfl, E, by omega, ho3, hb3⟩, by simp [intOf]; omega⟩ | (simp [intOf]; omega)
        · have E : Hid (dueK xs day (k + 1) = l) := by rw [Hid, dueK_no Hx.out hq, he.out]
          generalize dueD ⟨x0, x1⟩ = v at hd hq
          clear he hx hpt
          go_wp2_with (go_at_call 35; refine hd.mono ?_; rintro r w2 ⟨rfl, b2⟩; replace ho := own_below ho b2; replace hb := hb.trans (b2.mono hb.size))
          go_roundw
          all_goals first | exact ⟨k + 1, L, l, Ao, co, by omega, by go_num, rfl, E, by omega, ho, hb⟩ | exact ⟨⟨k + 1, L, l, Ao, co, by omega, by go_num, rfl, E, by omega, ho, hb⟩, by simp [intOf]; omega⟩ | (simp [intOf]; omega)
      · have : k = n := by omega
        subst this
        have E : Hid (dueF xs day = (l, 0)) := by rw [Hid, EF.out, hl.out, he.out]
        clear he hx EF
        go_wp2
        go_ret2
        rw [E.out]
        exact ⟨_, _, _, rfl, ho, hb⟩
  · have EF : Hid (dueF xs day = ([], codeP xs day)) := by simp [Hid, dueF, h0]
    generalize codeP xs day = z at hc h0 EF
    clear hx
    go_enter Tryd.func7, Tryd.ntmps7
    go_wp2_with (go_at_call 34; refine hc.mono ?_; rintro r w1 ⟨rfl, hw1⟩; replace hw1 := hw1.symm; subst hw1)
    go_ret2
    exact ListPost.bad EF.out (Below.refl _ _)
set_option maxHeartbeats 2000000 in
theorem implDueOn_any (A : Option Addr) (n c : Nat) (xs : List Point) (day : Int) (w : World) (B : Nat) (hB : B ≤ w.heap.size) (hn : n ≤ 2000000) (hx : Sl w B 2 encPoint A n xs) :
    Calls Tryd.prog 6 #[.slice A n c, .int .i64 day] w (ListPost w (dueF xs day)) := by
  have hc := pointsCode_any A n c xs day w B hB hn hx
  have hl := hid hx.len
  by_cases h0 : codeP xs day = 0
  · have EF : Hid (dueF xs day = (dueK xs day xs.length, 0)) := by simp [Hid, dueF, h0]
    have hv := hid (codeP_zero h0).1
    obtain ⟨i0, hi, hz0, hz1, hz2⟩ := info_parts int_info
    have o0 := fun (W : World) (h : w.heap.size ≤ W.heap.size) => World.ownsRow_lit (base := w.heap.size) (e := 2) (size := 1) W #[] 0 h (by simp [maxLen]) (by simp)
    rw [h0] at hc
    clear h0
    go_enter Tryd.func6, Tryd.ntmps6
    go_wp2_with (go_at_call 32; refine hc.mono ?_; rintro r w1 ⟨rfl, bc⟩)
    have hbc : Below w.heap.size w (w1.alloc (.cells #[] 2)) := bc.alloc bc.size _
    go_loopw [7, 8, 9, 19] (fun s _ _ i w1 => ∃ (k L : Nat) (l : List Int) (Ao : Option Addr) (co : Nat), k ≤ n ∧ i = .int .i64 k ∧ s = .slice Ao L co ∧ Hid (dueK xs day k = l) ∧ L ≤ k ∧ w1.ownsRow w.heap.size 2 1 (.slice Ao L co) L (l.flatMap encI) ∧ Below w.heap.size w w1) (fun _ _ _ i _ => n - (intOf i).toNat)
    case atStart => exact ⟨0, 0, [], some ⟨w1.heap.size, 0, none⟩, 0, Nat.zero_le _, rfl, rfl, rfl, Nat.le_refl _, o0 _ bc.size, hbc⟩
    case round =>
      clear bc hbc
      obtain ⟨k, L, l, Ao, co, hk, rfl, rfl, he, hL, ho, hb⟩ := hrel
      clear o0 hc
      by_cases hlt : k < n
      · obtain ⟨x0, x1, b, off, Hx, rfl, hbB, c0, c1⟩ := (hx.below (hb.mono hB)).atPoint hlt
        have hpt := okPoint_at hv.out Hx.out
        have hd := fun W => due_any x0 x1 W (by simp only at hpt; omega) (by simp only at hpt; omega)
        have hbs := hb.size
        by_cases hq : dueD ⟨x0, x1⟩ ≤ day
        · have E : Hid (dueK xs day (k + 1) = l ++ [(k : Int)]) := by rw [Hid, dueK_yes Hx.out hq, he.out]
          have HS := hid (snocI l k)
          generalize dueD ⟨x0, x1⟩ = v at hd hq
          have hlo := ho.lt
          clear he hx hpt
          go_wp2_with (first
            | (go_at_call 33; refine (hd _).mono ?_; rintro r w2 ⟨rfl, b2⟩; replace ho := own_below (ho.alloc (.cells #[.int .i64 x0, .int .i64 x1] 42)) b2; replace hb := (hb.alloc hb.size (.cells #[.int .i64 x0, .int .i64 x1] 42)).trans (b2.mono (by simp; omega)))
            | (at_builtin; refine wpList_append_lies _ rfl _ _ 27 rfl w.heap.size 2 i0 (.int .i64 0) 1 8 Tryd.underlying27 hi hz0 hz1 hz2 rfl (by omega) (.slice Ao L co) L (l.flatMap encI) rfl (ho.alloc _) ⟨w2.heap.size, 0, none⟩ 1 1 [.int .i64 (k : Int)] rfl rfl (World.news_of_block (cs := #[.int .i64 (k : Int)]) (t := 2) (fr := (0, 0)) (heap_alloc_new _ _)) (by simp [Value.oneCell']) (by omega) (by simp only [maxLen]; omega) (by omega) (by have := hb.size; simp; omega) (w2.heap.size + 1) (by simp) ?_; intro gg cap w3 ho3 hg3 hat3 hlt3))
          rw [HS.out] at ho3
          have hb3 : Below w.heap.size w w3 := (hb.alloc hb.size _).grown hg3 (by have := hb.size; simp; omega) (fun q hq => (ho.lt q hq).1)
          go_roundw
          all_goals first | exact ⟨k + 1, L + 1, _, _, _, by omega, by go_num, rfl, E, by omega, ho3, hb3⟩ | exact ⟨⟨k + 1, L + 1, _, _, _, by omega, by go_num, rfl, E, by omega, ho3, hb3⟩, by simp [intOf]; omega⟩ | (simp [intOf]; omega)
        · have E : Hid (dueK xs day (k + 1) = l) := by rw [Hid, dueK_no Hx.out hq, he.out]
          generalize dueD ⟨x0, x1⟩ = v at hd hq
          clear he hx hpt
          go_wp2_with (go_at_call 33; refine (hd _).mono ?_; rintro r w2 ⟨rfl, b2⟩; replace ho := own_below (ho.alloc (.cells #[.int .i64 x0, .int .i64 x1] 42)) b2; replace hb := (hb.alloc hb.size (.cells #[.int .i64 x0, .int .i64 x1] 42)).trans (b2.mono (by simp; omega)))
          go_roundw
          all_goals first | exact ⟨k + 1, L, l, Ao, co, by omega, by go_num, rfl, E, by omega, ho, hb⟩ | exact ⟨⟨k + 1, L, l, Ao, co, by omega, by go_num, rfl, E, by omega, ho, hb⟩, by simp [intOf]; omega⟩ | (simp [intOf]; omega)
      · have : k = n := by omega
        subst this
        have E : Hid (dueF xs day = (l, 0)) := by rw [Hid, EF.out, hl.out, he.out]
        clear he hx EF
        go_wp2
        go_ret2
        rw [E.out]
        exact ⟨_, _, _, rfl, ho, hb⟩
  · have EF : Hid (dueF xs day = ([], codeP xs day)) := by simp [Hid, dueF, h0]
    generalize codeP xs day = z at hc h0 EF
    clear hx
    go_enter Tryd.func6, Tryd.ntmps6
    go_wp2_with (go_at_call 32; refine hc.mono ?_; rintro r w1 ⟨rfl, b1⟩)
    go_ret2
    exact ListPost.bad EF.out b1
end Go.Proofs.YtehjfajmnciiaaaDoor
