/-
  Drawn points: a spoilt one, a list of them; what the statement draws. No condition.
-/
import Derived.Test.YtehjfajmnciiaaaDoorDDraw
import Derived.Test.YtehjfajmnciiaaaDoorPDone2
import Derived.Test.YtehjfajmnciiaaaDoorRegL
import Derived.Test.YtehjfajmnciiaaaDoorGRow
namespace Go.Proofs.YtehjfajmnciiaaaDoor
open Go.RowKit
set_option maxHeartbeats 400000

theorem set_encPa : ∀ (l : List Point) (j : Nat) (x0 x1 d : Int), l[j]? = some ⟨x0, x1⟩ → (l.flatMap encPoint).set (j * 2) (.int .i64 d) = (l.set j ⟨d, x1⟩).flatMap encPoint := by
  intro l
  induction l with
  | nil => intro j x0 x1 d h; simp at h
  | cons y r ih =>
    intro j x0 x1 d h
    cases j with
    | zero => simp at h; subst h; simp [encPoint]
    | succ j =>
      have := ih j x0 x1 d (by simpa using h)
      rw [show (j + 1) * 2 = (j * 2) + 1 + 1 by omega]
      simp [encPoint] at this ⊢
      exact this
/-- a number of an own row of points overwritten -/
theorem own_putP {w : World} {lo n c g i j : Nat} {xs : List Point} (h : w.ownsRow lo 42 2 (.slice (some ⟨g, 0, none⟩) n c) n (xs.flatMap encPoint)) (hi : i < n) (hj : j ≤ 1) (z : Int) :
    ∃ ys : List Point, ys.length = n ∧ (w.setCell ⟨g, i * 2 + j, none⟩ (.int .i64 z)).ownsRow lo 42 2 (.slice (some ⟨g, 0, none⟩) n c) n (ys.flatMap encPoint) := by
  have hl := own_len encPoint_len (by omega) h
  obtain ⟨x0, x1, hx⟩ : ∃ x0 x1, xs[i]? = some (⟨x0, x1⟩ : Point) := ⟨_, _, List.getElem?_eq_getElem (by omega)⟩
  have hs := (h.stored (i * 2 + j) (.int .i64 z)).1
  rcases (show j = 0 ∨ j = 1 by omega) with rfl | rfl
  · rw [Nat.add_zero, set_encPa xs i x0 x1 z hx] at hs
    exact ⟨_, by rw [List.length_set]; exact hl.symm, hs⟩
  · rw [set_encP1 xs i x0 x1 z hx] at hs
    exact ⟨_, by rw [List.length_set]; exact hl.symm, hs⟩
/-- what a draw of points leaves -/
def DrawPts (gs K : Nat) (w : World) (r : Ending) (w' : World) : Prop :=
  ∃ (A : Option Addr) (c : Nat) (xs : List Point), r = .returned (.slice A xs.length c) ∧ xs.length ≤ 31 ∧ xs.length ≤ c ∧ w'.ownsRow w.heap.size 42 2 (.slice A xs.length c) xs.length (xs.flatMap encPoint) ∧ SrcAt w' gs K ∧ w.grownBy w' (some gs)
/-- one of the two numbers of a point behind a pointer is changed -/
theorem l19Spoil_any (gs k b o : Nat) (u0 u1 : Value) (w : World) (h : SrcAt w gs k) (hk : k ≤ 90000) (hb : gs < b) (c0 : w.cell? ⟨b, o, none⟩ = some u0) (c1 : w.cell? ⟨b, o + 1, none⟩ = some u1)
    (f0 : w.frozen? ⟨b, o, none⟩ = false) (f1 : w.frozen? ⟨b, o + 1, none⟩ = false) :
    Calls Tryd.prog 52 #[.pointer (some ⟨gs, 0, none⟩), .pointer (some ⟨b, o, none⟩)] w fun r w' =>
      ∃ (w1 : World) (j : Nat) (z : Int), r = .returned (.tuple #[]) ∧ j ≤ 1 ∧ w' = w1.setCell ⟨b, o + j, none⟩ (.int .i64 z) ∧ SrcAt w1 gs (k + 4) ∧ w.grownBy w1 (some gs) := by
  have hgl := h.lt
  have hbl := World.block_lt_of_cell? _ _ c0
  have ne : (some b : Option Nat) ≠ some gs := by simp; omega
  have H := hid h
  clear h
  go_enter Tryd.func52, Tryd.ntmps52
  go_wp2_with fail
  refine (one_any gs k 2 w H.out (by omega) (by omega)).mono ?_
  rintro r w1 ⟨q, rfl, hs1, hg1⟩
  have gs1 := hs1.lt
  replace c0 := hg1.cell c0 ne
  replace c1 := hg1.cell c1 ne
  replace f0 := (hg1.frozen_far ⟨b, o, none⟩ hbl ne).trans f0
  replace f1 := (hg1.frozen_far ⟨b, o + 1, none⟩ hbl ne).trans f1
  replace hbl := World.block_lt_of_cell? _ _ c0
  simp only at hbl
  have S1 := hid hs1
  have G1 := hid hg1
  clear hs1 hg1 H
  cases q with
  | true =>
    have NN : Hid ((w1.alloc (.cells #[.int .i64 (-1), .int .i64 0, .int .i64 1, .int .i64 1000, .int .i64 1001, .int .i64 (-9223372036854775808)] 2)).ownsRow w1.heap.size 2 1 (.slice (some ⟨w1.heap.size, 0, none⟩) 6 6) 6 (([-1, 0, 1, 1000, 1001, -9223372036854775808] : List Int).flatMap encI)) := by
      have := World.ownsRow_lit (base := w1.heap.size) (e := 2) (size := 1) w1 #[.int .i64 (-1), .int .i64 0, .int .i64 1, .int .i64 1000, .int .i64 1001, .int .i64 (-9223372036854775808)] 6 (Nat.le_refl _) (by simp [maxLen]) (by simp)
      simpa [Hid, encI] using this
    go_wp2_with fail
    refine (among_any gs (k + 2) (some ⟨w1.heap.size, 0, none⟩) 6 6 [-1, 0, 1, 1000, 1001, -9223372036854775808] _ (S1.out.alloc _) (by omega) (by omega) (by omega) (own_sl encI_len (by omega) NN.out) (fun b off s e => by injection e with e; injection e with e; omega)).mono ?_
    rintro r w2 ⟨z, rfl, hz, hs2, hg2⟩
    have g2 := G1.out.trans ((gr_alloc (World.grownBy.refl w1 (some gs))).trans hg2)
    replace c0 := hg2.cell ((World.cell?_alloc_lt w1 _ ⟨b, o, none⟩ hbl).trans c0) ne
    replace f0 := (hg2.frozen_far ⟨b, o, none⟩ (by simp; omega) ne).trans ((((Below.refl w1.heap.size w1).alloc (Nat.le_refl _) _).frozen (p := ⟨b, o, none⟩) hbl).trans f0)
    clear hz hg2 G1 NN S1 c1 f1
    have S2 := hid hs2
    have G2 := hid g2
    clear hs2 g2
    go_wp2_with fail
    refine bodyPost_end (results_none rfl _ _ _) rfl ?_
    exact ⟨w2, 0, z, rfl, by omega, rfl, S2.out, G2.out⟩
  | false =>
    have NN : Hid ((w1.alloc (.cells #[.int .i64 (-1), .int .i64 0, .int .i64 100000, .int .i64 100001] 2)).ownsRow w1.heap.size 2 1 (.slice (some ⟨w1.heap.size, 0, none⟩) 4 4) 4 (([-1, 0, 100000, 100001] : List Int).flatMap encI)) := by
      have := World.ownsRow_lit (base := w1.heap.size) (e := 2) (size := 1) w1 #[.int .i64 (-1), .int .i64 0, .int .i64 100000, .int .i64 100001] 4 (Nat.le_refl _) (by simp [maxLen]) (by simp)
      simpa [Hid, encI] using this
    go_wp2_with fail
    refine (among_any gs (k + 2) (some ⟨w1.heap.size, 0, none⟩) 4 4 [-1, 0, 100000, 100001] _ (S1.out.alloc _) (by omega) (by omega) (by omega) (own_sl encI_len (by omega) NN.out) (fun b off s e => by injection e with e; injection e with e; omega)).mono ?_
    rintro r w2 ⟨z, rfl, hz, hs2, hg2⟩
    have g2 := G1.out.trans ((gr_alloc (World.grownBy.refl w1 (some gs))).trans hg2)
    replace c1 := hg2.cell ((World.cell?_alloc_lt w1 _ ⟨b, o + 1, none⟩ hbl).trans c1) ne
    replace f1 := (hg2.frozen_far ⟨b, o + 1, none⟩ (by simp; omega) ne).trans ((((Below.refl w1.heap.size w1).alloc (Nat.le_refl _) _).frozen (p := ⟨b, o + 1, none⟩) hbl).trans f1)
    clear hz hg2 G1 NN S1 c0 f0
    have S2 := hid hs2
    have G2 := hid g2
    clear hs2 g2
    go_wp2_with fail
    refine bodyPost_end (results_none rfl _ _ _) rfl ?_
    exact ⟨w2, 1, z, rfl, by omega, rfl, S2.out, G2.out⟩
set_option maxHeartbeats 8000000 in
set_option maxRecDepth 100000 in
theorem l19Draw_any (gs k : Nat) (w : World) (h : SrcAt w gs k) (hk : k ≤ 10000) :
    Calls Tryd.prog 40 #[.pointer (some ⟨gs, 0, none⟩)] w (DrawPts gs (k + 200) w) := by
  obtain ⟨i0, hi, hz0, hz1, hz2⟩ := info_parts Point_info
  have hgl := h.lt
  have o0 := World.ownsRow_lit (base := w.heap.size) (e := 42) (size := 2) w #[] 0 (Nat.le_refl _) (by simp [maxLen]) (by simp)
  have b0 : w.grownBy (w.alloc (.cells #[] 42)) (some gs) := gr_alloc (World.grownBy.refl _ _)
  have H0 := hid (h.alloc (.cells #[] 42))
  have O0 := hid o0
  have B0 := hid b0
  clear h o0 b0
  go_enter Tryd.func40, Tryd.ntmps40
  go_wp2_with fail
  refine (pick_any gs k 8 _ H0.out (by omega) (by omega)).mono ?_
  rintro r w1 ⟨n, rfl, n0, n1, hs1, hg1⟩
  have n7 : n ≤ 7 := by omega
  have O1 := hid (own_src O0.out hg1 hgl)
  have S1 := hid hs1
  have B1 := hid (B0.out.trans hg1)
  clear H0 O0 B0 hs1 hg1 n1
  go_wp2_with fail
  refine (one_any gs _ 20 _ S1.out (by omega) (by omega)).mono ?_
  rintro r w2 ⟨q, rfl, hs2, hg2⟩
  have O2 := hid (own_src O1.out hg2 hgl)
  have S2 := hid hs2
  have B2 := hid (B1.out.trans hg2)
  clear S1 O1 B1 hs2 hg2
  cases q with
  | true =>
    go_wp2_with fail
    refine (pick_any gs _ 2 _ S2.out (by omega) (by omega)).mono ?_
    rintro r w3 ⟨m, rfl, m0, m1, hs3, hg3⟩
    have m2 : m ≤ 1 := by omega
    have O3 := hid (own_src O2.out hg3 hgl)
    have S3 := hid (hs3.mono (show _ ≤ k + 10 by omega))
    have B3 := hid (B2.out.trans hg3)
    obtain ⟨N, hN⟩ : ∃ N : Nat, 30 + m = (N : Int) := ⟨(30 + m).toNat, by omega⟩
    have hN31 : N ≤ 31 := by omega
    clear S2 O2 B2 hs3 hg3 m1 n0 n7
    go_wp2_with fail
    clear hN m0 m2
    go_loopw [3, 5] (fun o q wl => ∃ (g c : Nat) (xs : List Point) (j : Nat), xs.length + j = N ∧ o = .slice (some ⟨g, 0, none⟩) xs.length c ∧ q = .int .i64 (j : Nat) ∧ Hid (wl.ownsRow w.heap.size 42 2 (.slice (some ⟨g, 0, none⟩) xs.length c) xs.length (xs.flatMap encPoint)) ∧ Hid (SrcAt wl gs (k + 10 + 4 * xs.length)) ∧ Hid (w.grownBy wl (some gs))) (fun _ q _ => (intOf q).toNat)
    case atStart => exact ⟨_, _, [], N, by simp, rfl, rfl, O3, S3, B3⟩
    case round =>
      clear O3 S3 B3
      obtain ⟨g, c, xs, j, hj, rfl, rfl, hO, hS, hB⟩ := hrel
      have hlo := hO.out.lt
      have hgz := hB.out.size
      have hx31 : xs.length ≤ 31 := by omega
      by_cases hj0 : 0 < j
      · have j0 : (0 : Int) < (j : Int) := by omega
        have hj1 : xs.length + 1 + (j - 1) = N := by omega
        have j31 : (j : Int) ≤ 31 := by omega
        have hjn : (((j - 1 : Nat) : Nat) : Int) = (j : Int) - 1 := by omega
        have HJ := hid hj1
        have HJN := hid hjn
        clear hj hj1 hjn hN31
        go_wp2_with fail
        refine (l19New_any gs _ _ hS.out (by omega)).mono ?_
        rintro r w4 ⟨x, y, rfl, hs4, hg4⟩
        have O4 := hid (own_src hO.out hg4 hgl)
        have S4 := hid hs4
        have B4 := hid (hB.out.trans hg4)
        have z4 := hg4.size
        clear hO hS hB hs4 hg4
        go_wp2_with (at_builtin; refine wpList_append_lies _ rfl _ _ 24 rfl w.heap.size 42 i0 (.agg #[.int .i64 0, .int .i64 0]) 2 16 Tryd.underlying24 hi hz0 hz1 hz2 rfl (by omega) (.slice (some ⟨g, 0, none⟩) xs.length c) xs.length (xs.flatMap encPoint) rfl (O4.out.alloc _) ⟨w4.heap.size, 0, none⟩ 1 1 [.int .i64 x, .int .i64 y] rfl rfl (World.news_of_block (cs := #[.int .i64 x, .int .i64 y]) (t := 42) (fr := (0, 0)) (heap_alloc_new _ _)) (by simp [Value.oneCell']) (by omega) (by simp only [maxLen]; omega) (by omega) (by simp; omega) (w4.heap.size + 1) (by simp) ?_; intro gg cap w5 ho5 hg5 hat5 hlt5)
        have hlen : (xs ++ [(⟨x, y⟩ : Point)]).length = xs.length + 1 := by simp
        have e5 : xs.flatMap encPoint ++ [.int .i64 x, .int .i64 y] = (xs ++ [(⟨x, y⟩ : Point)]).flatMap encPoint := by simp [encPoint]
        rw [e5] at ho5
        have O5 : Hid (w5.ownsRow w.heap.size 42 2 (.slice (some ⟨gg, 0, none⟩) (xs ++ [(⟨x, y⟩ : Point)]).length cap) (xs ++ [(⟨x, y⟩ : Point)]).length ((xs ++ [(⟨x, y⟩ : Point)]).flatMap encPoint)) := by rw [hlen]; exact hid ho5
        have S5 : Hid (SrcAt w5 gs (k + 10 + 4 * (xs ++ [(⟨x, y⟩ : Point)]).length)) := hid (((S4.out.alloc (.cells #[.int .i64 x, .int .i64 y] 42)).grown hg5 (fun b hb => by have := (hlo b hb).1; omega)).mono (by rw [hlen]; omega))
        have B5 := hid (src_growP (gr_alloc (o := .cells #[.int .i64 x, .int .i64 y] 42) B4.out) hg5 (fun b hb => .inl (hlo b hb).1))
        clear O4 S4 B4 ho5 hg5 hat5 hlt5 e5 hlo hgz hx31
        go_roundw
        all_goals first
          | exact ⟨_, _, xs ++ [(⟨x, y⟩ : Point)], j - 1, by rw [hlen]; exact HJ.out, by rw [hlen], by rw [HJN.out], O5, S5, B5⟩
          | exact ⟨⟨_, _, xs ++ [(⟨x, y⟩ : Point)], j - 1, by rw [hlen]; exact HJ.out, by rw [hlen], by rw [HJN.out], O5, S5, B5⟩, by simp [intOf]; omega⟩
          | (simp [intOf]; omega)
      · obtain rfl : j = 0 := by omega
        obtain rfl : xs.length = N := by omega
        have hcap := own_form hO.out
        have hcp : xs.length ≤ c := by
          obtain ⟨A', c', e, hl⟩ := hcap
          simp only [Value.slice.injEq] at e
          omega
        clear hj hcap hj0
        have hgl4 := hS.out.lt
        by_cases hx0 : xs.length = 0
        · obtain rfl := List.eq_nil_of_length_eq_zero hx0
          go_wp2_with fail
          go_ret
          exact ⟨_, c, [], rfl, by omega, hcp, hO.out, hS.out.mono (by simp), hB.out⟩
        · have q0 : 0 < xs.length := by omega
          have q1 : (0 : Int) < (xs.length : Int) := by omega
          go_wp2_with fail
          refine (one_any gs _ 10 _ hS.out (by omega) (by omega)).mono ?_
          rintro r w4 ⟨b, rfl, hs4, hg4⟩
          have O4 := hid (own_src hO.out hg4 hgl)
          have S4 := hid hs4
          have B4 := hid (hB.out.trans hg4)
          clear hO hS hB hs4 hg4
          cases b with
          | false =>
            go_wp2_with fail
            go_ret
            exact ⟨_, c, xs, rfl, by omega, hcp, O4.out, S4.out.mono (by omega), B4.out⟩
          | true =>
            go_wp2_with fail
            refine (pick_any gs _ (xs.length : Int) _ S4.out (by omega) (by omega)).mono ?_
            rintro r w5 ⟨i, rfl, p0, p1, hs5, hg5⟩
            obtain ⟨I, rfl⟩ : ∃ I : Nat, i = (I : Int) := ⟨i.toNat, by omega⟩
            have p2 : (I : Int) < (xs.length : Int) := by omega
            have p3 : I < xs.length := by omega
            have O5 := hid (own_src O4.out hg5 hgl)
            have S5 := hid hs5
            have B5 := hid (B4.out.trans hg5)
            have hg0 := (hlo g rfl).1
            have f0 := (own_at O5.out (Below.refl _ _) (I * 2) (by omega)).2
            have f1 := (own_at O5.out (Below.refl _ _) (I * 2 + 1) (by omega)).2
            obtain ⟨u0, c0⟩ := (own_at O5.out (Below.refl _ _) (I * 2) (by omega)).1
            obtain ⟨u1, c1⟩ := (own_at O5.out (Below.refl _ _) (I * 2 + 1) (by omega)).1
            have cS := l19Spoil_any gs _ g (I * 2) u0 u1 _ S5.out (by omega) (by omega) c0 c1 f0 f1
            have CS := hid cS
            clear O4 S4 B4 hs5 hg5 p1 cS c0 c1 f0 f1 hlo
            go_wp2_with fail
            refine (CS.out).mono ?_
            rintro r w6 ⟨w7, jj, z, rfl, hjj, rfl, hs7, hg7⟩
            obtain ⟨ys, hyl, hy⟩ := own_putP (own_src O5.out hg7 hgl) p3 hjj z
            have O6 : Hid ((w7.setCell ⟨g, I * 2 + jj, none⟩ (.int .i64 z)).ownsRow w.heap.size 42 2 (.slice (some ⟨g, 0, none⟩) ys.length c) ys.length (ys.flatMap encPoint)) := by rw [hyl]; exact hid hy
            have S6 := hid (hs7.set (p := ⟨g, I * 2 + jj, none⟩) (u := .int .i64 z) (by simp only; omega))
            have B6 := hid (src_gsetP (o := I * 2 + jj) (u := .int .i64 z) (B5.out.trans hg7) hg0)
            clear O5 S5 B5 CS hs7 hg7 hy
            go_wp2_with fail
            go_ret
            exact ⟨_, c, ys, (by rw [hyl]; rfl), by omega, by omega, O6.out, S6.out.mono (by omega), B6.out⟩
  | false =>
    obtain ⟨N, rfl⟩ : ∃ N : Nat, n = (N : Int) := ⟨n.toNat, by omega⟩
    have hN31 : N ≤ 31 := by omega
    have O3 := O2
    have S3 := hid (S2.out.mono (show _ ≤ k + 10 by omega))
    have B3 := B2
    clear S2 O2 B2 n0 n7
    obtain ⟨w3, rfl⟩ : ∃ w3 : World, w3 = w2 := ⟨_, rfl⟩
    go_wp2_with fail
    go_loopw [3, 5] (fun o q wl => ∃ (g c : Nat) (xs : List Point) (j : Nat), xs.length + j = N ∧ o = .slice (some ⟨g, 0, none⟩) xs.length c ∧ q = .int .i64 (j : Nat) ∧ Hid (wl.ownsRow w.heap.size 42 2 (.slice (some ⟨g, 0, none⟩) xs.length c) xs.length (xs.flatMap encPoint)) ∧ Hid (SrcAt wl gs (k + 10 + 4 * xs.length)) ∧ Hid (w.grownBy wl (some gs))) (fun _ q _ => (intOf q).toNat)
    case atStart => exact ⟨_, _, [], N, by simp, rfl, rfl, O3, S3, B3⟩
    case round =>
      clear O3 S3 B3
      obtain ⟨g, c, xs, j, hj, rfl, rfl, hO, hS, hB⟩ := hrel
      have hlo := hO.out.lt
      have hgz := hB.out.size
      have hx31 : xs.length ≤ 31 := by omega
      by_cases hj0 : 0 < j
      · have j0 : (0 : Int) < (j : Int) := by omega
        have hj1 : xs.length + 1 + (j - 1) = N := by omega
        have j31 : (j : Int) ≤ 31 := by omega
        have hjn : (((j - 1 : Nat) : Nat) : Int) = (j : Int) - 1 := by omega
        have HJ := hid hj1
        have HJN := hid hjn
        clear hj hj1 hjn hN31
        go_wp2_with fail
        refine (l19New_any gs _ _ hS.out (by omega)).mono ?_
        rintro r w4 ⟨x, y, rfl, hs4, hg4⟩
        have O4 := hid (own_src hO.out hg4 hgl)
        have S4 := hid hs4
        have B4 := hid (hB.out.trans hg4)
        have z4 := hg4.size
        clear hO hS hB hs4 hg4
        go_wp2_with (at_builtin; refine wpList_append_lies _ rfl _ _ 24 rfl w.heap.size 42 i0 (.agg #[.int .i64 0, .int .i64 0]) 2 16 Tryd.underlying24 hi hz0 hz1 hz2 rfl (by omega) (.slice (some ⟨g, 0, none⟩) xs.length c) xs.length (xs.flatMap encPoint) rfl (O4.out.alloc _) ⟨w4.heap.size, 0, none⟩ 1 1 [.int .i64 x, .int .i64 y] rfl rfl (World.news_of_block (cs := #[.int .i64 x, .int .i64 y]) (t := 42) (fr := (0, 0)) (heap_alloc_new _ _)) (by simp [Value.oneCell']) (by omega) (by simp only [maxLen]; omega) (by omega) (by simp; omega) (w4.heap.size + 1) (by simp) ?_; intro gg cap w5 ho5 hg5 hat5 hlt5)
        have hlen : (xs ++ [(⟨x, y⟩ : Point)]).length = xs.length + 1 := by simp
        have e5 : xs.flatMap encPoint ++ [.int .i64 x, .int .i64 y] = (xs ++ [(⟨x, y⟩ : Point)]).flatMap encPoint := by simp [encPoint]
        rw [e5] at ho5
        have O5 : Hid (w5.ownsRow w.heap.size 42 2 (.slice (some ⟨gg, 0, none⟩) (xs ++ [(⟨x, y⟩ : Point)]).length cap) (xs ++ [(⟨x, y⟩ : Point)]).length ((xs ++ [(⟨x, y⟩ : Point)]).flatMap encPoint)) := by rw [hlen]; exact hid ho5
        have S5 : Hid (SrcAt w5 gs (k + 10 + 4 * (xs ++ [(⟨x, y⟩ : Point)]).length)) := hid (((S4.out.alloc (.cells #[.int .i64 x, .int .i64 y] 42)).grown hg5 (fun b hb => by have := (hlo b hb).1; omega)).mono (by rw [hlen]; omega))
        have B5 := hid (src_growP (gr_alloc (o := .cells #[.int .i64 x, .int .i64 y] 42) B4.out) hg5 (fun b hb => .inl (hlo b hb).1))
        clear O4 S4 B4 ho5 hg5 hat5 hlt5 e5 hlo hgz hx31
        go_roundw
        all_goals first
          | exact ⟨_, _, xs ++ [(⟨x, y⟩ : Point)], j - 1, by rw [hlen]; exact HJ.out, by rw [hlen], by rw [HJN.out], O5, S5, B5⟩
          | exact ⟨⟨_, _, xs ++ [(⟨x, y⟩ : Point)], j - 1, by rw [hlen]; exact HJ.out, by rw [hlen], by rw [HJN.out], O5, S5, B5⟩, by simp [intOf]; omega⟩
          | (simp [intOf]; omega)
      · obtain rfl : j = 0 := by omega
        obtain rfl : xs.length = N := by omega
        have hcap := own_form hO.out
        have hcp : xs.length ≤ c := by
          obtain ⟨A', c', e, hl⟩ := hcap
          simp only [Value.slice.injEq] at e
          omega
        clear hj hcap hj0
        have hgl4 := hS.out.lt
        by_cases hx0 : xs.length = 0
        · obtain rfl := List.eq_nil_of_length_eq_zero hx0
          go_wp2_with fail
          go_ret
          exact ⟨_, c, [], rfl, by omega, hcp, hO.out, hS.out.mono (by simp), hB.out⟩
        · have q0 : 0 < xs.length := by omega
          have q1 : (0 : Int) < (xs.length : Int) := by omega
          go_wp2_with fail
          refine (one_any gs _ 10 _ hS.out (by omega) (by omega)).mono ?_
          rintro r w4 ⟨b, rfl, hs4, hg4⟩
          have O4 := hid (own_src hO.out hg4 hgl)
          have S4 := hid hs4
          have B4 := hid (hB.out.trans hg4)
          clear hO hS hB hs4 hg4
          cases b with
          | false =>
            go_wp2_with fail
            go_ret
            exact ⟨_, c, xs, rfl, by omega, hcp, O4.out, S4.out.mono (by omega), B4.out⟩
          | true =>
            go_wp2_with fail
            refine (pick_any gs _ (xs.length : Int) _ S4.out (by omega) (by omega)).mono ?_
            rintro r w5 ⟨i, rfl, p0, p1, hs5, hg5⟩
            obtain ⟨I, rfl⟩ : ∃ I : Nat, i = (I : Int) := ⟨i.toNat, by omega⟩
            have p2 : (I : Int) < (xs.length : Int) := by omega
            have p3 : I < xs.length := by omega
            have O5 := hid (own_src O4.out hg5 hgl)
            have S5 := hid hs5
            have B5 := hid (B4.out.trans hg5)
            have hg0 := (hlo g rfl).1
            have f0 := (own_at O5.out (Below.refl _ _) (I * 2) (by omega)).2
            have f1 := (own_at O5.out (Below.refl _ _) (I * 2 + 1) (by omega)).2
            obtain ⟨u0, c0⟩ := (own_at O5.out (Below.refl _ _) (I * 2) (by omega)).1
            obtain ⟨u1, c1⟩ := (own_at O5.out (Below.refl _ _) (I * 2 + 1) (by omega)).1
            have cS := l19Spoil_any gs _ g (I * 2) u0 u1 _ S5.out (by omega) (by omega) c0 c1 f0 f1
            have CS := hid cS
            clear O4 S4 B4 hs5 hg5 p1 cS c0 c1 f0 f1 hlo
            go_wp2_with fail
            refine (CS.out).mono ?_
            rintro r w6 ⟨w7, jj, z, rfl, hjj, rfl, hs7, hg7⟩
            obtain ⟨ys, hyl, hy⟩ := own_putP (own_src O5.out hg7 hgl) p3 hjj z
            have O6 : Hid ((w7.setCell ⟨g, I * 2 + jj, none⟩ (.int .i64 z)).ownsRow w.heap.size 42 2 (.slice (some ⟨g, 0, none⟩) ys.length c) ys.length (ys.flatMap encPoint)) := by rw [hyl]; exact hid hy
            have S6 := hid (hs7.set (p := ⟨g, I * 2 + jj, none⟩) (u := .int .i64 z) (by simp only; omega))
            have B6 := hid (src_gsetP (o := I * 2 + jj) (u := .int .i64 z) (B5.out.trans hg7) hg0)
            clear O5 S5 B5 CS hs7 hg7 hy
            go_wp2_with fail
            go_ret
            exact ⟨_, c, ys, (by rw [hyl]; rfl), by omega, by omega, O6.out, S6.out.mono (by omega), B6.out⟩
end Go.Proofs.YtehjfajmnciiaaaDoor
