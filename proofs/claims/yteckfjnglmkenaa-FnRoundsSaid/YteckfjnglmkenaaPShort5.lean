/-
  ShortestRound: the program's side, whole. No condition.
-/
import Derived.Test.YteckfjnglmkenaaPShort4
namespace Go.Proofs.Yteckfjnglmkenaa
open Go.RowKit
set_option maxHeartbeats 400000

theorem marks_get (ps : List Int) : (marks 0 ps.length).map (getG ps) = ps := by
  apply List.ext_getElem
  · simp [marks]
  · intro i h1 h2
    simp [marks, getG, List.getD, List.getElem?_eq_getElem h2]
theorem getG_inj {ps : List Int} (hn : ps.Nodup) : ∀ x ∈ marks 0 ps.length, ∀ y ∈ marks 0 ps.length, getG ps x = getG ps y → x = y := by
  intro x hx y hy e
  have h1 := marks0_mem hx
  have h2 := marks0_mem hy
  have l1 : x.toNat < ps.length := by omega
  have l2 : y.toNat < ps.length := by omega
  simp only [getG, List.getD, List.getElem?_eq_getElem l1, List.getElem?_eq_getElem l2, Option.getD_some] at e
  have := (List.getElem_inj hn).1 e
  omega
theorem ord_get {css : List (List Int)} {ps : List Int} (hn : ps.Nodup) : ordG (fun rd st => leafR css (rd.map (getG ps)) st) ps.length (leftI (marks 0 ps.length) []) [] none = ordG (leafR css) ps.length ps [] none := by
  rw [leftI_nil, ordG_map (leaf := leafR css) ps.length (marks 0 ps.length) [] none (getG_inj hn), marks_get]
  rfl
theorem shortF_some {css : List (List Int)} {ps : List Int} (h0 : codeS css ps = 0) (h7 : ¬ 7 < ps.length) : ∃ q, ordG (leafR css) ps.length ps [] none = some q ∧ shortF css ps = (q.1, q.2, 0) := by
  obtain ⟨q, hq⟩ := Option.ne_none_iff_exists'.1 (ordG_some (css := css) ps.length ps [] none (.inr rfl))
  exact ⟨q, hq, by simp [shortF, h0, h7, hq]⟩
set_option maxHeartbeats 4000000 in
set_option maxRecDepth 100000 in
theorem implShortestRound_any (A : Option Addr) (n c : Nat) (rs : List Row) (A1 : Option Addr) (m1 c1 : Nat) (ps : List Int) (w : World) (B : Nat) (hB : B ≤ w.heap.size) (hn : n + tot rs ≤ 2000000) (hm1 : m1 ≤ 2000000) (hx : SlS w B A n rs) (hy : Sl w B 1 encI A1 m1 ps) :
    Calls Try.prog 9 #[.slice A n c, .slice A1 m1 c1] w (LPost2 w (shortF (cont rs) ps)) := by
  obtain ⟨W0, hW0⟩ : ∃ W0, W0 = (w.alloc (.cells #[.slice A n c] 22)).alloc (.cells #[.slice A1 m1 c1] 23) := ⟨_, rfl⟩
  have b0 : Below w.heap.size w W0 := by rw [hW0]; exact ((Below.refl _ _).alloc (Nat.le_refl _) _).alloc (by simp) _
  have z0 : W0.heap.size = w.heap.size + 2 := by rw [hW0]; simp
  have kp : W0.cell? ⟨w.heap.size, 0, none⟩ = some (.slice A n c) := by rw [hW0]; go_simp
  have ks : W0.cell? ⟨w.heap.size + 1, 0, none⟩ = some (.slice A1 m1 c1) := by rw [hW0]; go_simp
  have hlc : (cont rs).length = n := by rw [cont_len, hx.len]
  have hl := hy.len
  have hc := pathsCode_any A n c rs A1 m1 c1 ps W0 B (Nat.le_trans hB b0.size) hn hm1 (hx.below (b0.mono hB)) (hy.below (b0.mono hB))
  have HW := hid hW0
  clear hW0
  by_cases h0 : codeS (cont rs) ps = 0
  · rw [h0] at hc
    by_cases h7 : 7 < m1
    · have EF : Hid (shortF (cont rs) ps = ([], 0, 5)) := by simp [Hid, shortF, h0, hl, h7]
      clear hx hy h0 hl hlc
      go_enter Try.func9, Try.ntmps9
      go_wp2_with fail
      rw [← HW.out]
      refine hc.mono ?_
      rintro r w1 ⟨rfl, b1⟩
      replace ks := below_cell ks b1
      go_wp2_with fail
      go_ret3
      exact LPost2.bad EF.out (b0.trans (b1.mono b0.size))
    · obtain ⟨q, hq, hF⟩ := shortF_some h0 (by rw [hl]; exact h7)
      have hv := (codeS_zero h0).1
      have hnd := codeS_nodup h0
      have hin : inQ n ps := fun x hxx => by have := codeS_in h0 x hxx; rw [hlc] at this; omega
      have hog := ord_get (css := cont rs) hnd
      rw [hq, hl] at hog
      have eg := enters_of Try.func29 (by kernel_rfl) rfl
      have hor : ∀ (w1 W : World), Below w.heap.size w w1 → w.heap.size + 2 ≤ w1.heap.size → w1.heap.size + 3 ≤ W.heap.size →
          KR (w.heap.size + 1) w.heap.size (w1.heap.size + 1) (w1.heap.size + 3) A n c rs A1 m1 c1 ps B W none →
          Calls Try.prog 28 #[.int .i64 m1, .slice none 0 0, .func (.func 29) #[] #[.pointer (some ⟨w.heap.size + 1, 0, none⟩), .pointer (some ⟨w.heap.size, 0, none⟩), .pointer (some ⟨w1.heap.size + 1 + 1, 0, none⟩), .pointer (some ⟨w1.heap.size + 1, 0, none⟩)]] W
            fun r w' => r = .returned (.tuple #[]) ∧ KR (w.heap.size + 1) w.heap.size (w1.heap.size + 1) (w1.heap.size + 3) A n c rs A1 m1 c1 ps B w' (some q) ∧ Span (w1.heap.size + 1) (w1.heap.size + 1 + 2) W w' := by
        intro w1 W hb1 hz1 hz2 hK
        have := orders_any 29 #[.pointer (some ⟨w.heap.size + 1, 0, none⟩), .pointer (some ⟨w.heap.size, 0, none⟩), .pointer (some ⟨w1.heap.size + 1 + 1, 0, none⟩), .pointer (some ⟨w1.heap.size + 1, 0, none⟩)] eg (fun rd st => leafR (cont rs) (rd.map (getG ps)) st) m1 (w1.heap.size + 1) (by omega)
          (fun W st => KR (w.heap.size + 1) w.heap.size (w1.heap.size + 1) (w1.heap.size + 3) A n c rs A1 m1 c1 ps B W st)
          (fun W W' st hk hbb => hk.below (by have := hk.hlo; omega) hbb)
          (fun W A' c' rd st hk hr hrq => yieldR_any (w.heap.size + 1) w.heap.size (w1.heap.size + 1) (w1.heap.size + 3) A n c rs A1 m1 c1 ps B (by omega) (by omega) (by omega) (by omega) hv hx.len hin (by omega) W A' c' rd st hk hr hrq)
          m1 [] none 0 0 none W rfl (by omega) (fun x h => by simp at h) (by omega) (fun a h => by cases h) ⟨rfl, fun i x h => by simp at h⟩ hK
        rw [hog] at this
        exact this
      have HX := hid hx
      have HYY := hid hy
      have HOR := hid hor
      have HF := hid hF
      clear hx hy h0 hl hlc hq hF hv hnd hin hog eg hor
      go_enter Try.func9, Try.ntmps9
      go_wp2_with fail
      rw [← HW.out]
      refine hc.mono ?_
      rintro r w1 ⟨rfl, b1⟩
      have z1 := b1.size
      replace ks := below_cell ks b1
      replace kp := below_cell kp b1
      have b2 := b0.trans (b1.mono b0.size)
      have lb1 : w.heap.size + 1 < w1.heap.size := by omega
      have lb0 : w.heap.size < w1.heap.size := by omega
      obtain ⟨W2, hW2⟩ : ∃ W2, W2 = ((w1.alloc (.cells #[] 2)).alloc (.cells #[.slice (some ⟨w1.heap.size, 0, none⟩) 0 0] 23)).alloc (.cells #[.int .i64 (-1)] 2) := ⟨_, rfl⟩
      have b3 : Below w1.heap.size w1 W2 := by rw [hW2]; exact (((Below.refl _ _).alloc (Nat.le_refl _) _).alloc (by simp) _).alloc (by simp; omega) _
      have z2 : W2.heap.size = w1.heap.size + 3 := by rw [hW2]; simp
      have hbw : Below w.heap.size w W2 := b2.trans (b3.mono b2.size)
      have hT : TwoR W2 (w1.heap.size + 1) (w1.heap.size + 3) none := ⟨by rw [hW2]; go_simp, by rw [hW2]; go_simp, some ⟨w1.heap.size, 0, none⟩, 0, 0, -1, by rw [hW2]; go_simp, by rw [hW2]; go_simp, rfl⟩
      have hK : KR (w.heap.size + 1) w.heap.size (w1.heap.size + 1) (w1.heap.size + 3) A n c rs A1 m1 c1 ps B W2 none :=
        ⟨below_cell ks b3, below_cell kp b3, HX.out.below (hbw.mono hB), HYY.out.below (hbw.mono hB), hT, by omega⟩
      have HW2 := hid hW2
      have HK := hid hK
      clear hW2 hT hK
      go_wp2_with fail
      rw [← HW2.out]
      refine (HOR.out w1 W2 b2 (by omega) (by omega) HK.out).mono ?_
      rintro r w4 ⟨rfl, K4, S4⟩
      have hb4 : Below w.heap.size w w4 := S4.toBelow hbw (by omega) (by omega)
      obtain ⟨A6, n6, c6, l, e4, e5, hs⟩ := K4.two.best
      obtain ⟨qb, ql⟩ := q
      obtain ⟨ho, rfl, hq0⟩ := hs
      clear K4
      go_wp2_with fail
      go_quiet (fail)
      go_wp2_with fail
      go_ret3
      rw [HF.out]
      exact ⟨A6, n6, c6, rfl, (ow_drewN ho).mono (by omega), below_drewN hb4 nq⟩
  · have EF : Hid (shortF (cont rs) ps = ([], 0, codeS (cont rs) ps)) := by simp [Hid, shortF, h0]
    generalize codeS (cont rs) ps = z at hc h0 EF
    have q1 : (z == 0) = false := by simpa using h0
    have q2 : (z != 0) = true := by simpa using h0
    clear hx hy hlc hl h0
    go_enter Try.func9, Try.ntmps9
    go_wp2_with fail
    rw [← HW.out]
    refine hc.mono ?_
    rintro r w1 ⟨rfl, b1⟩
    go_wp2_with fail
    go_ret3
    exact LPost2.bad EF.out (b0.trans (b1.mono b0.size))
end Go.Proofs.Yteckfjnglmkenaa
