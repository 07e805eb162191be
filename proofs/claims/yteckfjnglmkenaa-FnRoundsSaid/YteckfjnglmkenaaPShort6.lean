/-
  ShortestRound: the reference's side, whole. No condition.
-/
import Derived.Test.YteckfjnglmkenaaPShort3
import Derived.Test.YteckfjnglmkenaaPShort5
namespace Go.Proofs.Yteckfjnglmkenaa
open Go.RowKit
set_option maxHeartbeats 400000

theorem ordG_perm {css : List (List Int)} : ∀ (m : Nat) (left rd : List Int) (st : RSt) (N : Nat), (∀ q, st = some q → q.1.length ≤ N) → rd.length + m ≤ N → ∀ q, ordG (leafR css) m left rd st = some q → q.1.length ≤ N := by
  intro m
  induction m with
  | zero =>
    intro left rd st N h1 h2 q hq
    simp only [ordG, leafR] at hq
    split at hq
    · injection hq with hq; subst hq; simp only; omega
    · exact h1 q hq
  | succ m ih =>
    intro left rd st N h1 h2
    suffices h : ∀ k q, ordK (leafR css) m left rd st k = some q → q.1.length ≤ N by
      intro q hq; rw [← ordK_all (Nat.le_refl _)] at hq; exact h _ q hq
    intro k
    induction k with
    | zero => intro q hq; exact h1 q hq
    | succ k ihk =>
      cases hx : left[k]? with
      | none =>
        have := List.getElem?_eq_none_iff.1 hx
        intro q hq
        rw [ordK_all (k := k + 1) (by omega), ← ordK_all this] at hq
        exact ihk q hq
      | some x =>
        intro q hq
        rw [ordK_succ hx] at hq
        exact ih _ _ _ N ihk (by simp; omega) q hq
theorem shortF_len (css : List (List Int)) (ps : List Int) : (shortF css ps).1.length ≤ 2000000 := by
  unfold shortF
  split
  · rename_i h
    have hl := codeS_len h
    split
    · simp
    · split
      · rename_i q hq
        have := ordG_perm ps.length ps [] none 30 (fun q h => by cases h) (by simp; omega) q hq
        simp only
        omega
      · simp
  · simp
set_option maxHeartbeats 4000000 in
set_option maxRecDepth 100000 in
theorem specShortestRound_any (A : Option Addr) (n c : Nat) (rs : List Row) (A1 : Option Addr) (m1 c1 : Nat) (ps : List Int) (w : World) (B : Nat) (hB : B ≤ w.heap.size) (hn : n + tot rs ≤ 2000000) (hm1 : m1 ≤ 2000000) (hcap : m1 ≤ c1) (hx : SlS w B A n rs) (hy : Sl w B 1 encI A1 m1 ps) :
    Calls Try.prog 6 #[.slice A n c, .slice A1 m1 c1] w (LPost2 w (shortF (cont rs) ps)) := by
  have hc := l19Some_any A n c rs A1 m1 c1 ps w B hB hn hm1 hx hy
  have hlc : (cont rs).length = n := by rw [cont_len, hx.len]
  have hl := hy.len
  by_cases h0 : codeS (cont rs) ps = 0
  · rw [h0] at hc
    by_cases h7 : 7 < m1
    · have EF : Hid (shortF (cont rs) ps = ([], 0, 5)) := by simp [Hid, shortF, h0, hl, h7]
      clear hx hy h0 hl hlc
      go_enter Try.func6, Try.ntmps6
      go_wp2_with fail
      refine hc.mono ?_
      rintro r w1 ⟨rfl, b1⟩
      go_wp2_with fail
      go_ret3
      exact LPost2.bad EF.out b1
    · obtain ⟨q, hq, hF⟩ := shortF_some h0 (by rw [hl]; exact h7)
      have hv := (codeS_zero h0).1
      have hnd := codeS_nodup h0
      have hin : inQ n ps := fun x hxx => by have := codeS_in h0 x hxx; rw [hlc] at this; omega
      have hwr := walkR_all hv ps.length ps [] none (by rw [hlc]; exact hin) (fun x h => by simp at h)
      rw [hq, hl] at hwr
      have HX := hid hx
      have HYY := hid hy
      have HF := hid hF
      have HWR := hid hwr
      have HV := hid hv
      have HIN := hid hin
      have HND := hid hnd
      clear hx hy h0 hl hlc hq hF hv hnd hin hwr
      go_enter Try.func6, Try.ntmps6
      go_wp2_with fail
      refine hc.mono ?_
      rintro r w1 ⟨rfl, b1⟩
      have z1 := b1.size
      obtain ⟨W2, hW2⟩ : ∃ W2, W2 = ((w1.alloc (.cells #[] 2)).alloc (.cells #[] 2)).alloc (.cells #[.slice A n c, .slice (some ⟨w1.heap.size, 0, none⟩) 0 0, .slice (some ⟨w1.heap.size + 1, 0, none⟩) 0 0, .int .i64 (-1)] 45) := ⟨_, rfl⟩
      have b3 : Below w1.heap.size w1 W2 := by rw [hW2]; exact (((Below.refl _ _).alloc (Nat.le_refl _) _).alloc (by simp) _).alloc (by simp; omega) _
      have z2 : W2.heap.size = w1.heap.size + 3 := by rw [hW2]; simp
      have hbw : Below w.heap.size w W2 := b1.trans (b3.mono b1.size)
      have ro : W2.ownsRow w1.heap.size 2 1 (.slice (some ⟨w1.heap.size, 0, none⟩) 0 0) 0 [] := by
        rw [hW2]
        exact ((World.ownsRow_lit (base := w1.heap.size) (e := 2) (size := 1) w1 #[] 0 (Nat.le_refl _) (by simp [maxLen]) (by simp)).alloc _).alloc _
      have hR : RecS W2 (w1.heap.size + 1 + 1) w1.heap.size A n c (some ⟨w1.heap.size, 0, none⟩) 0 0 [] none :=
        ⟨by rw [hW2]; go_simp, by rw [hW2]; go_simp, ro, by simp [Value.ownBlock]; omega, by rw [hW2]; go_simp, by rw [hW2]; go_simp, by rw [hW2]; go_simp, some ⟨w1.heap.size + 1, 0, none⟩, 0, 0, -1, by rw [hW2]; go_simp, by rw [hW2]; go_simp, rfl⟩
      have hbB := hbw.mono hB
      have hwr2 := HWR.out
      rw [show sumR (cont rs) [] = 0 from rfl, show endR [] = 0 from rfl] at hwr2
      have hwk : Calls Try.prog 26 #[.pointer (some ⟨w1.heap.size + 1 + 1, 0, none⟩), .slice A1 m1 c1, .int .i64 0, .int .i64 0] W2 fun r w' => r = .returned (.tuple #[]) ∧ ∃ Ar' cr', RecS w' (w1.heap.size + 1 + 1) w1.heap.size A n c Ar' 0 cr' [] (some q) ∧ Two2 (w1.heap.size + 1 + 1) (Value.slice (some ⟨w1.heap.size, 0, none⟩) 0 0).ownBlock W2 w' := by
        rw [← hwr2]
        rcases Nat.eq_zero_or_pos m1 with h | h
        · subst h
          have hn1 := (validP_len HV.out).1
          rw [cont_len, HX.out.len] at hn1
          exact (walkS_leaf (w1.heap.size + 1 + 1) w1.heap.size A n c rs B (by omega) (by omega) HV.out HX.out.len [] ps A1 c1 (some ⟨w1.heap.size, 0, none⟩) 0 0 0 0 none W2 (by omega) (by omega) (by omega) (by omega) (by omega) (HX.out.below hbB) hR).mono fun r w' ⟨h1, h2, h3⟩ => ⟨h1, _, _, h2, h3⟩
        · exact (walkS_any (w1.heap.size + 1 + 1) w1.heap.size A n c rs B (by omega) (by omega) HV.out HX.out.len m1 ps [] A1 c1 (some ⟨w1.heap.size, 0, none⟩) 0 0 0 0 none W2 HYY.out.len rfl (by omega) HIN.out (fun x h => by simp at h) HND.out rfl rfl (by omega) (HX.out.below hbB) ((HYY.out.below hbB).more (by omega)) hcap
            (fun a ha => by
              obtain ⟨_, b, o, _, e, hb, _⟩ := HYY.out.int h
              rw [ha] at e
              injection e with e
              subst e
              simp only [Value.ownBlock]
              exact ⟨by omega, fun e => by injection e with e; omega⟩) hR).mono fun r w' ⟨h1, Ar, cr, h2, _, h3⟩ => ⟨h1, Ar, cr, h2, h3⟩
      have HWK := hid hwk
      have HW2 := hid hW2
      clear hW2 hwk hR ro hwr2
      go_wp2_with fail
      rw [← HW2.out]
      refine HWK.out.mono ?_
      rintro r w4 ⟨rfl, Ar4, cr4, K4, T4⟩
      have hb4 : Below w.heap.size w w4 := Two2.toBelow hbw T4 (by omega) (fun b hb => by simp [Value.ownBlock] at hb; omega) (by omega)
      obtain ⟨A6, n6, c6, l, e4, e5, hs⟩ := K4.best
      obtain ⟨qb, ql⟩ := q
      obtain ⟨⟨⟨ho, _⟩, _⟩, rfl, hq0⟩ := hs
      clear K4
      go_wp2_with fail
      go_quiet (fail)
      go_wp2_with fail
      go_ret3
      rw [HF.out]
      exact ⟨A6, n6, c6, rfl, (ow_drewN ho).mono b1.size, below_drewN hb4 nq⟩
  · have EF : Hid (shortF (cont rs) ps = ([], 0, codeS (cont rs) ps)) := by simp [Hid, shortF, h0]
    generalize codeS (cont rs) ps = z at hc h0 EF
    have q1 : (z == 0) = false := by simpa using h0
    have q2 : (z != 0) = true := by simpa using h0
    clear hx hy hlc hl h0
    go_enter Try.func6, Try.ntmps6
    go_wp2_with fail
    refine hc.mono ?_
    rintro r w1 ⟨rfl, b1⟩
    go_wp2_with fail
    go_ret3
    exact LPost2.bad EF.out b1
end Go.Proofs.Yteckfjnglmkenaa
