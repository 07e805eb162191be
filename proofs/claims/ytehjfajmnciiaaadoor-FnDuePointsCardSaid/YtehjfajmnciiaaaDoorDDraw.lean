/-
  Drawn points: one point, a spoilt one, a day. No condition.
-/
import Derived.Test.YtehjfajmnciiaaaDoorSrc
import Derived.Test.YtehjfajmnciiaaaDoorDPts
namespace Go.Proofs.YtehjfajmnciiaaaDoor
open Go.RowKit
set_option maxHeartbeats 400000

theorem SrcAt.drewP {w : World} {gs k : Nat} (h : SrcAt w gs k) : SrcAt w.drew gs k := h.below (Below.refl _ _).drew
theorem src_growP {a w w' : World} {gs : Nat} {row : Option Nat} (h : a.grownBy w (some gs)) (g : w.grownBy w' row) (hr : ∀ b, row = some b → a.heap.size ≤ b ∨ b = gs) : a.grownBy w' (some gs) :=
  ⟨g.os.trans h.os, g.tape.trans h.tape, g.output.trans h.output, Nat.le_trans h.size g.size, fun i hi hn => (g.block i (Nat.lt_of_lt_of_le hi h.size) (fun e => by
    rcases hr i e.symm with h1 | h1
    · omega
    · exact hn (by rw [h1]))).trans (h.block i hi hn)⟩
theorem src_gsetP {a w : World} {gs b o : Nat} {u : Value} (h : a.grownBy w (some gs)) (hp : a.heap.size ≤ b) : a.grownBy (w.setCell ⟨b, o, none⟩ u) (some gs) :=
  src_growP h (gr_set (World.grownBy.refl _ _)) (fun q hq => .inl (by injection hq with hq; subst hq; exact hp))
/-- a day -/
theorem l19DrawDay_any (gs k : Nat) (w : World) (h : SrcAt w gs k) (hk : k ≤ 90000) :
    Calls Tryd.prog 43 #[.pointer (some ⟨gs, 0, none⟩)] w fun r w' => ∃ z, r = .returned (.int .i64 z) ∧ -9223372036854775808 ≤ z ∧ z ≤ 100001 ∧ SrcAt w' gs (k + 4) ∧ w.grownBy w' (some gs) := by
  have hgl := h.lt
  have H := hid h
  clear h
  go_enter Tryd.func43, Tryd.ntmps43
  go_wp2_with fail
  refine (one_any gs k 10 w H.out (by omega) (by omega)).mono ?_
  rintro r w1 ⟨b, rfl, hs1, hg1⟩
  have gs1 := hs1.lt
  have S1 := hid hs1
  have G1 := hid hg1
  clear hs1 hg1 H
  cases b with
  | true =>
    have NN : Hid ((w1.alloc (.cells #[.int .i64 (-1), .int .i64 0, .int .i64 100000, .int .i64 100001, .int .i64 (-9223372036854775808)] 2)).ownsRow w1.heap.size 2 1 (.slice (some ⟨w1.heap.size, 0, none⟩) 5 5) 5 (([-1, 0, 100000, 100001, -9223372036854775808] : List Int).flatMap encI)) := by
      have := World.ownsRow_lit (base := w1.heap.size) (e := 2) (size := 1) w1 #[.int .i64 (-1), .int .i64 0, .int .i64 100000, .int .i64 100001, .int .i64 (-9223372036854775808)] 5 (Nat.le_refl _) (by simp [maxLen]) (by simp)
      simpa [Hid, encI] using this
    go_wp2_with fail
    refine (among_any gs (k + 2) (some ⟨w1.heap.size, 0, none⟩) 5 5 [-1, 0, 100000, 100001, -9223372036854775808] _ (S1.out.alloc _) (by omega) (by omega) (by omega) (own_sl encI_len (by omega) NN.out) (fun b off s e => by injection e with e; injection e with e; omega)).mono ?_
    rintro r w2 ⟨z, rfl, hz, hs2, hg2⟩
    have hzz : -9223372036854775808 ≤ z ∧ z ≤ 100001 := by
      simp only [List.mem_cons, List.not_mem_nil, or_false] at hz
      rcases hz with rfl | rfl | rfl | rfl | rfl <;> omega
    have g2 := G1.out.trans ((gr_alloc (World.grownBy.refl w1 (some gs))).trans hg2)
    clear hz hg2 G1 NN
    go_wp2_with fail
    go_ret
    exact ⟨z, rfl, hzz.1, hzz.2, hs2, g2⟩
  | false =>
    go_wp2_with fail
    refine (pick_any gs (k + 2) 160 _ S1.out (by omega) (by omega)).mono ?_
    rintro r w2 ⟨z, rfl, z0, z1, hs2, hg2⟩
    have g2 := G1.out.trans hg2
    clear hg2 G1
    go_wp2_with fail
    go_ret
    exact ⟨z, rfl, by omega, by omega, hs2, g2⟩
/-- a point -/
theorem l19New_any (gs k : Nat) (w : World) (h : SrcAt w gs k) (hk : k ≤ 90000) :
    Calls Tryd.prog 51 #[.pointer (some ⟨gs, 0, none⟩)] w fun r w' => ∃ x y, r = .returned (.agg #[.int .i64 x, .int .i64 y]) ∧ SrcAt w' gs (k + 4) ∧ w.grownBy w' (some gs) := by
  have hgl := h.lt
  have h0 := h.alloc (.cells #[.int .i64 0, .int .i64 0] 42)
  have H := hid h0
  clear h h0
  have g0 : w.grownBy (w.alloc (.cells #[.int .i64 0, .int .i64 0] 42)) (some gs) := gr_alloc (World.grownBy.refl _ _)
  obtain ⟨W0, hW0⟩ : ∃ W0, W0 = w.alloc (.cells #[.int .i64 0, .int .i64 0] 42) := ⟨_, rfl⟩
  rw [← hW0] at H g0
  have r0 : W0.cell? ⟨w.heap.size, 0, none⟩ = some (.int .i64 0) := by rw [hW0]; exact (World.cell?_alloc_at _ _ _ _ rfl).trans rfl
  have r1 : W0.cell? ⟨w.heap.size, 1, none⟩ = some (.int .i64 0) := by rw [hW0]; exact (World.cell?_alloc_at _ _ _ _ rfl).trans rfl
  have f0 : W0.frozen? ⟨w.heap.size, 0, none⟩ = false := by rw [hW0]; go_simp
  have f1 : W0.frozen? ⟨w.heap.size, 1, none⟩ = false := by rw [hW0]; go_simp
  have z0 : w.heap.size < W0.heap.size := World.block_lt_of_cell? _ _ r0
  have HW0 := hid hW0
  clear hW0
  go_enter Tryd.func51, Tryd.ntmps51
  go_wp2_with fail
  rw [← HW0.out]
  refine (pick_any gs k 30 W0 H.out (by omega) (by omega)).mono ?_
  rintro r w1 ⟨a, rfl, a0, a1, hs1, hg1⟩
  have ne : (some w.heap.size : Option Nat) ≠ some gs := by simp; omega
  replace r0 := hg1.cell r0 ne
  replace r1 := hg1.cell r1 ne
  replace f0 := (hg1.frozen_far ⟨w.heap.size, 0, none⟩ z0 ne).trans f0
  replace f1 := (hg1.frozen_far ⟨w.heap.size, 1, none⟩ z0 ne).trans f1
  have b29 : a ≤ 29 := by omega
  have z1 := hg1.size
  have g1 := g0.trans hg1
  have S1 := hid (hs1.alloc (.cells #[.int .i64 (1 + a), .int .i64 0] 42))
  have gs1 := hs1.lt
  have zw1 : w.heap.size < w1.heap.size := by omega
  clear H g0 hs1 hg1 HW0 a1
  go_wp2_with fail
  refine (pick_any gs (k + 2) 100 _ S1.out (by omega) (by omega)).mono ?_
  rintro r w2 ⟨b, rfl, b0, b1, hs2, hg2⟩
  have b99 : b ≤ 99 := by omega
  have p0 := hg2.cell (show (w1.alloc (.cells #[.int .i64 (1 + a), .int .i64 0] 42)).cell? ⟨w1.heap.size, 0, none⟩ = some (.int .i64 (1 + a)) from (World.cell?_alloc_at _ _ _ _ rfl).trans rfl) (by simp; omega)
  have p1 := hg2.cell (show (w1.alloc (.cells #[.int .i64 (1 + a), .int .i64 0] 42)).cell? ⟨w1.heap.size, 1, none⟩ = some (.int .i64 0) from (World.cell?_alloc_at _ _ _ _ rfl).trans rfl) (by simp; omega)
  have y1 := (hg2.frozen_far ⟨w1.heap.size, 1, none⟩ (by simp) (by simp; omega)).trans (show (w1.alloc (.cells #[.int .i64 (1 + a), .int .i64 0] 42)).frozen? ⟨w1.heap.size, 1, none⟩ = false by go_simp)
  replace r0 := hg2.cell ((World.cell?_alloc_lt w1 _ ⟨w.heap.size, 0, none⟩ zw1).trans r0) ne
  replace r1 := hg2.cell ((World.cell?_alloc_lt w1 _ ⟨w.heap.size, 1, none⟩ zw1).trans r1) ne
  have f0' : (w1.alloc (.cells #[.int .i64 (1 + a), .int .i64 0] 42)).frozen? ⟨w.heap.size, 0, none⟩ = false := ((Below.refl w1.heap.size w1).alloc (Nat.le_refl _) _).frozen (p := ⟨w.heap.size, 0, none⟩) zw1 |>.trans f0
  have f1' : (w1.alloc (.cells #[.int .i64 (1 + a), .int .i64 0] 42)).frozen? ⟨w.heap.size, 1, none⟩ = false := ((Below.refl w1.heap.size w1).alloc (Nat.le_refl _) _).frozen (p := ⟨w.heap.size, 1, none⟩) zw1 |>.trans f1
  replace f0 := (hg2.frozen_far ⟨w.heap.size, 0, none⟩ (by simp; omega) ne).trans f0'
  replace f1 := (hg2.frozen_far ⟨w.heap.size, 1, none⟩ (by simp; omega) ne).trans f1'
  have z2 := hg2.size
  have zz : w.heap.size < w2.heap.size := World.block_lt_of_cell? _ _ r0
  have g2 := (g1.trans (gr_alloc (o := .cells #[.int .i64 (1 + a), .int .i64 0] 42) (World.grownBy.refl w1 (some gs)))).trans hg2
  have nb : w.heap.size ≠ w1.heap.size := by omega
  have FIN : SrcAt (((w2.setCell ⟨w1.heap.size, 1, none⟩ (.int .i64 b)).setCell ⟨w.heap.size, 0, none⟩ (.int .i64 (1 + a))).setCell ⟨w.heap.size, 1, none⟩ (.int .i64 b)) gs (k + 4) ∧ w.grownBy (((w2.setCell ⟨w1.heap.size, 1, none⟩ (.int .i64 b)).setCell ⟨w.heap.size, 0, none⟩ (.int .i64 (1 + a))).setCell ⟨w.heap.size, 1, none⟩ (.int .i64 b)) (some gs) :=
    ⟨((hs2.set (by simp only; omega)).set (by simp only; omega)).set (by simp only; omega), src_gsetP (src_gsetP (src_gsetP g2 (by omega)) (Nat.le_refl _)) (Nat.le_refl _)⟩
  have HF := hid FIN
  clear FIN f0' f1' g1 S1 hs2 hg2 g2 b1
  go_wp2_with fail
  have q0 : (((w2.setCell ⟨w1.heap.size, 1, none⟩ (.int .i64 b)).setCell ⟨w.heap.size, 0, none⟩ (.int .i64 (1 + a))).setCell ⟨w.heap.size, 1, none⟩ (.int .i64 b)).cell? ⟨w.heap.size, 0, none⟩ = some (.int .i64 (1 + a)) :=
    (World.cell?_setCell_other _ _ _ _ (by simp)).trans (World.cell?_setCell_same _ _ _ ((cell_far (Ne.symm nb)).trans r0))
  have q1 : (((w2.setCell ⟨w1.heap.size, 1, none⟩ (.int .i64 b)).setCell ⟨w.heap.size, 0, none⟩ (.int .i64 (1 + a))).setCell ⟨w.heap.size, 1, none⟩ (.int .i64 b)).cell? ⟨w.heap.size, 1, none⟩ = some (.int .i64 b) :=
    World.cell?_setCell_same _ _ _ ((World.cell?_setCell_other _ _ _ _ (by simp)).trans ((cell_far (Ne.symm nb)).trans r1))
  refine bodyPost_ret (v := .agg #[.int .i64 (1 + a), .int .i64 b]) (by simp [results, Tryd.results51, go_sem, q0, q1]) rfl ⟨1 + a, b, rfl, HF.out⟩
end Go.Proofs.YtehjfajmnciiaaaDoor
