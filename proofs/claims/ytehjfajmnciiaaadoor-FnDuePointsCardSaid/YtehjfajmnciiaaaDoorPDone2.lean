/-
  DonePoints: the reference's side. No condition.
-/
import Derived.Test.YtehjfajmnciiaaaDoorPDone
namespace Go.Proofs.YtehjfajmnciiaaaDoor
open Go.RowKit
set_option maxHeartbeats 400000

set_option maxHeartbeats 2000000 in
set_option maxRecDepth 100000 in
theorem specDonePoints_any (A : Option Addr) (n c : Nat) (xs : List Point) (A1 : Option Addr) (m1 c1 : Nat) (ks : List Int) (day : Int) (w : World) (B : Nat) (hB : B ≤ w.heap.size) (hn : n ≤ 2000000) (hm1 : m1 ≤ 2000000) (hx : Sl w B 2 encPoint A n xs) (hy : Sl w B 1 encI A1 m1 ks) :
    Calls Tryd.prog 14 #[.slice A n c, .slice A1 m1 c1, .int .i64 day] w (PtsPost w (doneF xs ks day)) := by
  have hc := l19Code_any A n c xs day w B hB hn hx
  have hl := hx.len
  have hy1 := hy.len
  have hr := fun W h1 h => l00Rises_any A1 m1 c1 ks 0 ((n : Int) - 1) W B h1 hm1 h
  by_cases h0 : codeP xs day = 0
  · have hv := (codeP_zero h0).1
    have hn30 := validPts_len hv
    rw [hl] at hn30
    cases hz : riseF 0 ((n : Int) - 1) none ks with
    | false =>
      have EF : Hid (doneF xs ks day = ([], 2)) := by simp [Hid, doneF, h0, hl, hz]
      rw [h0] at hc
      rw [hz] at hr
      clear hx h0 hz hv
      go_enter Tryd.func14, Tryd.ntmps14
      go_wp2_with (first
        | (go_at_call 34; refine hc.mono ?_; rintro r w1 ⟨rfl, hw1⟩; replace hw1 := hw1.symm; subst hw1)
        | (go_at_call 46; refine (hr _ hB hy).mono ?_; rintro r w1 ⟨rfl, b1⟩))
      go_ret2
      exact PtsPost.bad EF.out b1
    | true =>
      have EF : Hid (doneF xs ks day = (match doneK day ks xs with | some l => (l, 0) | none => ([], 6))) := by (simp only [Hid, doneF, h0, hl, hz, if_true]; rfl)
      have HM := hid (riseF_mem ks none hz)
      have Hy := hid hy1
      rw [h0] at hc
      rw [hz] at hr
      clear h0 hz hv
      rcases Nat.eq_zero_or_pos n with hn0 | hn0
      · subst hn0
        have hks : ks = [] := by
          cases hks : ks with
          | nil => rfl
          | cons x r => have := HM.out x (by rw [hks]; simp); omega
        have hxs : xs = [] := List.eq_nil_of_length_eq_zero hl
        obtain rfl : m1 = 0 := by rw [← hy1, hks]; rfl
        have E : Hid (doneF xs ks day = ([], 0)) := by rw [Hid, EF.out, hks, hxs]; rfl
        have o0 := fun (W : World) (h : w.heap.size ≤ W.heap.size) => World.ownsRow_lit (base := w.heap.size) (e := 42) (size := 2) W #[] 0 h (by simp [maxLen]) (by simp)
        have h1 : ∀ u : World, (pure #[] : Sem (Array Value)).run Tryd.prog u = .ok #[] u := fun _ => rfl
        have h2 : ∀ (p : Addr) (u : World), (storeCells p []).run Tryd.prog u = .ok () u := fun _ _ => rfl
        clear hx hks hxs EF hl hy1
        cases A
        all_goals go_enter Tryd.func14, Tryd.ntmps14
        all_goals go_wp2_with (first
          | (go_at_call 34; refine hc.mono ?_; rintro r w1 ⟨rfl, hw1⟩; replace hw1 := hw1.symm; subst hw1)
          | (go_at_call 46; refine (hr _ hB hy).mono ?_; rintro r w1 ⟨rfl, b1⟩))
        all_goals clear hc hr
        all_goals have o1 := o0 w1 b1.size
        all_goals have hb1 := b1.alloc b1.size (.cells #[] 42)
        all_goals clear o0
        all_goals go_loopw [10, 11] (fun i _ wl => i = .int .i64 0 ∧ wl.ownsRow w.heap.size 42 2 (.slice (some ⟨w1.heap.size, 0, none⟩) 0 0) 0 [] ∧ Below w.heap.size w wl) (fun _ _ _ => 0)
        all_goals first
          | exact ⟨rfl, o1, hb1⟩
          | skip
        all_goals
          obtain ⟨rfl, ho, hb⟩ := hrel
          clear o1 hb1
          go_wp2
          go_ret2
          rw [E.out]
          exact ⟨_, _, _, rfl, ho, hb⟩
      · obtain ⟨x0, x1, b, off, _, rfl, hb0, _⟩ := hx.atPoint hn0
        have Hl := hid hl
        obtain ⟨i0, hi, hz0, hz1, hz2⟩ := info_parts Point_info
        have o0 := fun (W : World) (h : w.heap.size ≤ W.heap.size) => World.ownsRow_lit (base := w.heap.size) (e := 42) (size := 2) W #[] 0 h (by simp [maxLen]) (by simp)
        have hlen : (xs.flatMap encPoint).length = n * 2 := by rw [flatMap_len encPoint_len, hl]
        clear hl hy1
        go_enter Tryd.func14, Tryd.ntmps14
        go_wp2_with (first
          | (go_at_call 34; refine hc.mono ?_; rintro r w1 ⟨rfl, hw1⟩; replace hw1 := hw1.symm; subst hw1)
          | (go_at_call 46; refine (hr _ hB hy).mono ?_; rintro r w1 ⟨rfl, b1⟩)
          | (at_builtin; have hnew := news_of_pts ((hx.below (b1.mono hB)).alloc (Nat.le_trans hB b1.size) (.cells #[] 42)); refine wpList_append_lies _ rfl _ _ 24 rfl w.heap.size 42 i0 (.agg #[.int .i64 0, .int .i64 0]) 2 16 Tryd.underlying24 hi hz0 hz1 hz2 rfl (by omega) (.slice (some ⟨w1.heap.size, 0, none⟩) 0 0) 0 [] rfl (o0 w1 b1.size) ⟨b, off, none⟩ n c (xs.flatMap encPoint) rfl hlen hnew (one_encP xs) (by omega) (by simp only [maxLen]; omega) (by omega) (by have := b1.size; simp; omega) (w1.heap.size + 1) (by simp) ?_; intro gg cap w3 ho3 hg3 hat3 hlt3))
        have hb3 : Below w.heap.size w w3 := (b1.alloc b1.size _).grown hg3 (by have := b1.size; simp; omega) (fun q hq => by have := b1.size; simp [Value.ownBlock] at hq; omega)
        rw [List.nil_append] at ho3
        simp only [Nat.zero_add] at ho3
        clear hc hr hx o0 hlen hg3 hat3 hlt3
        go_loopw [10, 11] (fun i _ wl => ∃ (j : Nat) (l : List Point), j ≤ m1 ∧ i = .int .i64 j ∧ Hid (doneK day ks xs = doneK day (ks.drop j) l) ∧ wl.ownsRow w.heap.size 42 2 (.slice (some ⟨gg, 0, none⟩) n cap) n (l.flatMap encPoint) ∧ Below w.heap.size w wl) (fun i _ _ => m1 - (intOf i).toNat)
        case atStart => exact ⟨0, xs, Nat.zero_le _, rfl, rfl, ho3, hb3⟩
        case round =>
          clear ho3 hb3
          obtain ⟨j, l, hj, rfl, he, ho, hb⟩ := hrel
          by_cases hlt : j < m1
          · obtain ⟨x, b, off, Hx, rfl, hbB, c0⟩ := (hy.below (hb.mono hB)).int hlt
            have hxm := HM.out x (List.mem_of_getElem? Hx.out)
            obtain ⟨k, rfl⟩ : ∃ k : Nat, x = k := ⟨x.toNat, by omega⟩
            have hkn : k < n := by omega
            obtain ⟨g, e3, hg0, hg1⟩ := own_some ho (by omega)
            obtain ⟨x0, x1, b', off', Hp, e, _, d0, d1⟩ := (own_sl encPoint_len (by omega) ho).atPoint hkn
            injection e with e
            injection e with e1 e2
            injection e3 with e3
            injection e3 with e3 _
            subst e1 e2 e3
            rw [Nat.zero_add] at d0 d1
            have he2 := he.out
            rw [drop_at Hx.out] at he2
            by_cases hq : day < x1
            · have E : Hid (doneF xs ks day = ([], 6)) := by rw [Hid, EF.out, he2, doneK_bad Hp.out hq]
              clear he he2 hy EF ho
              go_wp2
              go_ret2
              exact PtsPost.bad E.out (hb.alloc hb.size _)
            · have E : Hid (doneK day ks xs = doneK day (ks.drop (j + 1)) (l.set k ⟨x0, day⟩)) := by rw [Hid, he2, doneK_good Hp.out hq]
              clear he he2
              have i0 : (0 : Int) ≤ (j : Int) := by omega
              have i1 : (j : Int) < (m1 : Int) := by omega
              have i2 : (0 : Int) ≤ (k : Int) := by omega
              have i3 : (k : Int) < (n : Int) := by omega
              have ho1 : (wr.alloc (.cells #[.int .i64 x0, .int .i64 day] 42)).ownsRow w.heap.size 42 2 (.slice (some ⟨gg, 0, none⟩) n cap) n (l.flatMap encPoint) := by (repeat (first | with_reducible exact ho | with_reducible refine ow_drew ?_ | with_reducible refine ow_drewN ?_ | with_reducible refine ow_alloc ?_ | ((with_reducible refine ow_set ?_ ?_); focus (first | (simp [Value.ownBlock]; done) | (simp [Value.ownBlock]; omega)))))
              have hbA : Below w.heap.size w (wr.alloc (.cells #[.int .i64 x0, .int .i64 day] 42)) := hb.alloc hb.size _
              have s1 := (ho1.stored (k * 2) (.int .i64 x0)).1
              rw [set_encP0 _ _ _ _ Hp.out] at s1
              have f0 := (own_at ho1 (Below.refl _ _) (k * 2) (by omega)).2
              obtain ⟨v0, q0⟩ := (own_at ho1 (Below.refl _ _) (k * 2) (by omega)).1
              obtain ⟨v1, q1⟩ := (own_at s1 (Below.refl _ _) (k * 2 + 1) (by omega)).1
              have f1 := (own_at s1 (Below.refl _ _) (k * 2 + 1) (by omega)).2
              have f2 : (wr.alloc (.cells #[.int .i64 x0, .int .i64 day] 42)).drew.frozen? ⟨gg, k * 2, none⟩ = false := f0
              have f3 : ((wr.alloc (.cells #[.int .i64 x0, .int .i64 day] 42)).setCell ⟨gg, k * 2, none⟩ (.int .i64 x0)).drew.frozen? ⟨gg, k * 2 + 1, none⟩ = false := f1
              have f4 : (wr.alloc (.cells #[.int .i64 x0, .int .i64 day] 42)).frozen? ⟨gg, k * 2 + 1, none⟩ = false := (own_at ho1 (Below.refl _ _) (k * 2 + 1) (by omega)).2
              have s2 := (s1.stored (k * 2 + 1) (.int .i64 day)).1
              rw [set_encP1 _ _ _ _ _ Hp.out] at s2
              have s3 := (ow_drew s2)
              obtain ⟨x5, b5, off5, Hx5, e5, _, c5⟩ := (hy.below (hbA.mono hB)).int hlt
              have e6 := Hx.out.symm.trans Hx5.out
              injection e6 with e6
              injection e5 with e5
              injection e5 with e5 e7
              subst e5 e7 e6
              have hb2 : Below w.heap.size w ((((wr.alloc (.cells #[.int .i64 x0, .int .i64 day] 42)).setCell ⟨gg, k * 2, none⟩ (.int .i64 x0)).setCell ⟨gg, k * 2 + 1, none⟩ (.int .i64 day))).drew := ((hbA.setCell hg0 _).setCell hg0 _).drew
              clear hy EF HM
              have k0 : (wr.alloc (.cells #[.int .i64 x0, .int .i64 day] 42)).cell? ⟨wr.heap.size, 0, none⟩ = some (.int .i64 x0) := by simp
              have k1 : (wr.alloc (.cells #[.int .i64 x0, .int .i64 day] 42)).cell? ⟨wr.heap.size, 0 + 1, none⟩ = some (.int .i64 day) := by simp
              replace c5 : (wr.alloc (.cells #[.int .i64 x0, .int .i64 day] 42)).cell? ⟨b, off + j, none⟩ = some (.int .i64 k) := c5
              clear hbA ho1 s1
              go_wp2_with fail
              clear ho hb d0 d1 c0
              generalize wr.alloc (.cells #[.int .i64 x0, .int .i64 day] 42) = wa at *
              generalize wr.heap.size = H at *
              go_still_tail 7, (by kernel_rfl)
              change wpList _ _ _ _ _ wa.drew
              go_wp2
              go_roundw
              all_goals first | exact ⟨j + 1, _, by omega, by go_num, E, s3, hb2⟩ | exact ⟨⟨j + 1, _, by omega, by go_num, E, s3, hb2⟩, by simp [intOf]; omega⟩ | (simp [intOf]; omega)
          · have : j = m1 := by omega
            subst this
            have E : Hid (doneF xs ks day = (l, 0)) := by rw [Hid, EF.out, he.out, List.drop_of_length_le (by rw [Hy.out]; omega)]; rfl
            clear he hy EF
            go_wp2
            go_ret2
            rw [E.out]
            exact ⟨_, _, _, rfl, ho, hb⟩
  · have EF : Hid (doneF xs ks day = ([], codeP xs day)) := by simp [Hid, doneF, h0]
    generalize codeP xs day = z at hc h0 EF
    clear hx hr hy
    go_enter Tryd.func14, Tryd.ntmps14
    go_wp2_with (go_at_call 34; refine hc.mono ?_; rintro r w1 ⟨rfl, hw1⟩; replace hw1 := hw1.symm; subst hw1)
    go_ret2
    exact PtsPost.bad EF.out (Below.refl _ _)
end Go.Proofs.YtehjfajmnciiaaaDoor
