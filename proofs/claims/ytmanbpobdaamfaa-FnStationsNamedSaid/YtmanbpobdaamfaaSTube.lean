/-
  Schemes: a way is added to a scheme of one's own. No condition.
-/
import Derived.Test.YtmanbpobdaamfaaSWay
import Derived.Deep.RegionLaw
namespace Go.Proofs.Ytmanbpobdaamfaa
open Go.RowKit
set_option maxHeartbeats 400000

set_option maxHeartbeats 4000000 in
set_option maxRecDepth 100000 in
theorem addWay_any (gs lo B0 : Nat) (s : SV) (x : Sch) (f t : ByteArray) (m : Int) (w : World) (hg0 : B0 ≤ gs) (hlo : B0 ≤ lo) (hlw : lo ≤ w.heap.size) (hl : x.st.length ≤ 20) (hl3 : x.wy.length ≤ 60) (h : XAt w gs lo s x) :
    Calls Try.prog 69 #[.pointer (some ⟨gs, 0, none⟩), .agg #[.string f, .string t, .int .i64 m]] w (AddPost gs lo B0 w (wyF x.st x.wy ⟨f, t, m⟩) (addWy x ⟨f, t, m⟩)) := by
  obtain ⟨A1, n1, c1, A2, n2, c2, A3, n3, c3⟩ := s
  obtain ⟨ln1, ln2, ln3⟩ := h.len
  simp only at ln1 ln2 ln3
  obtain ⟨W0, hW0⟩ : ∃ W0, W0 = w.alloc (.cells #[.string f, .string t, .int .i64 m] 54) := ⟨_, rfl⟩
  have b0 : Below w.heap.size w W0 := by rw [hW0]; exact (Below.refl _ _).alloc (Nat.le_refl _) _
  have b0B : Below B0 w W0 := b0.mono (by omega)
  have d0 : W0.cell? ⟨w.heap.size, 0, none⟩ = some (.string f) := by rw [hW0]; go_simp
  have d1 : W0.cell? ⟨w.heap.size, 1, none⟩ = some (.string t) := by rw [hW0]; go_simp
  have d2 : W0.cell? ⟨w.heap.size, 2, none⟩ = some (.int .i64 m) := by rw [hW0]; go_simp
  have HW := hid hW0
  clear hW0
  have hlt := h.lt
  have hlr : Hid (∀ b, (Value.slice A3 n3 c3).ownBlock = some b → lo ≤ b ∧ b < w.heap.size) := h.own.wy.lt
  have h0 := h.below b0
  have z0 := b0.size
  have k0 := h0.k0
  have k2 := h0.k2
  simp only at k0 k2
  have hsl := h0.own.sl
  have g1 := hasStation_any gs A1 n1 c1 x.st f W0 _ (by omega) hsl.st k0
  have g2 := hasStation_any gs A1 n1 c1 x.st t W0 _ (by omega) hsl.st k0
  have g4 := within_any m 1 2000 W0
  have g5 := hasWay_any gs A3 n3 c3 x.wy f t W0 _ (Nat.le_refl _) (by omega) hsl.wy k2
  have q3 := bs_eq (x := f) (y := t)
  have E : Hid (wyF x.st x.wy ⟨f, t, m⟩ = if hasS x.st f then if hasS x.st t then if decide (f = t) then 7 else if inR m 1 2000 then if hasW x.wy f t then 5 else if n3 < 60 then 0 else 8 else 4 else 6 else 6) := by
    simp only [Hid, wyF, decide_eq_true_eq, ← ln3]
  have EA := hid (show addWy x ⟨f, t, m⟩ = if wyF x.st x.wy ⟨f, t, m⟩ = 0 then ⟨x.st, x.rm, x.wy ++ [⟨f, t, m⟩]⟩ else x from rfl)
  have Ln := hid ln3
  generalize hasS x.st f = p1 at g1 E
  generalize hasS x.st t = p2 at g2 E
  generalize decide (f = t) = p3 at q3 E
  generalize inR m 1 2000 = p4 at g4 E
  generalize hasW x.wy f t = p5 at g5 E
  obtain ⟨i0, hi, hz0, hz1, hz2⟩ := info_parts Way_info
  have hr := h0.own.wy
  simp only at hr
  have q9 : (Value.slice A3 n3 c3).ownBlock ≠ some gs := h0.o3
  have hn60 : n3 ≤ 60 := by omega
  have fz := h0.f2
  have lg := h0.lt
  have Hh := hid h0
  have HR := hid hr
  clear h h0 ln1 ln2 ln3 hsl hr
  cases p1 with
  | false =>
    go_enter Try.func69, Try.ntmps69
    go_wp2_with fail
    rw [← HW.out]
    go_wp2_with (first | (go_at_call 43; (with_reducible refine g1.mono ?_); rintro r w1 ⟨rfl, e⟩; replace e := e.symm; subst e) | (go_at_call 43; (with_reducible refine g2.mono ?_); rintro r w1 ⟨rfl, e⟩; replace e := e.symm; subst e) | (go_at_call 90; refine g4.mono ?_; rintro r w1 ⟨rfl, e⟩; replace e := e.symm; subst e) | (go_at_call 64; refine g5.mono ?_; rintro r w5 ⟨rfl, b5⟩; replace k2 := below_cell k2 b5; replace d0 := below_cell d0 b5; replace d1 := below_cell d1 b5; replace d2 := below_cell d2 b5; replace fz := below_frz (v := .slice A3 n3 c3) (p := ⟨gs, 2, none⟩) (Hh.out.k2) fz b5; have z5 := b5.size))
    go_ret
    exact ⟨retI (by rw [E.out]; simp), ⟨_, by rw [EA.out, if_neg (by rw [E.out]; simp)]; exact Hh.out⟩, b0B⟩
  | true =>
    cases p2 with
    | false =>
      go_enter Try.func69, Try.ntmps69
      go_wp2_with fail
      rw [← HW.out]
      go_wp2_with (first | (go_at_call 43; (with_reducible refine g1.mono ?_); rintro r w1 ⟨rfl, e⟩; replace e := e.symm; subst e) | (go_at_call 43; (with_reducible refine g2.mono ?_); rintro r w1 ⟨rfl, e⟩; replace e := e.symm; subst e) | (go_at_call 90; refine g4.mono ?_; rintro r w1 ⟨rfl, e⟩; replace e := e.symm; subst e) | (go_at_call 64; refine g5.mono ?_; rintro r w5 ⟨rfl, b5⟩; replace k2 := below_cell k2 b5; replace d0 := below_cell d0 b5; replace d1 := below_cell d1 b5; replace d2 := below_cell d2 b5; replace fz := below_frz (v := .slice A3 n3 c3) (p := ⟨gs, 2, none⟩) (Hh.out.k2) fz b5; have z5 := b5.size))
      go_ret
      exact ⟨retI (by rw [E.out]; simp), ⟨_, by rw [EA.out, if_neg (by rw [E.out]; simp)]; exact Hh.out⟩, b0B⟩
    | true =>
      cases p3 with
      | true =>
        go_enter Try.func69, Try.ntmps69
        go_wp2_with fail
        rw [← HW.out]
        go_wp2_with (first | (go_at_call 43; (with_reducible refine g1.mono ?_); rintro r w1 ⟨rfl, e⟩; replace e := e.symm; subst e) | (go_at_call 43; (with_reducible refine g2.mono ?_); rintro r w1 ⟨rfl, e⟩; replace e := e.symm; subst e) | (go_at_call 90; refine g4.mono ?_; rintro r w1 ⟨rfl, e⟩; replace e := e.symm; subst e) | (go_at_call 64; refine g5.mono ?_; rintro r w5 ⟨rfl, b5⟩; replace k2 := below_cell k2 b5; replace d0 := below_cell d0 b5; replace d1 := below_cell d1 b5; replace d2 := below_cell d2 b5; replace fz := below_frz (v := .slice A3 n3 c3) (p := ⟨gs, 2, none⟩) (Hh.out.k2) fz b5; have z5 := b5.size))
        go_ret
        exact ⟨retI (by rw [E.out]; simp), ⟨_, by rw [EA.out, if_neg (by rw [E.out]; simp)]; exact Hh.out⟩, b0B⟩
      | false =>
        cases p4 with
        | false =>
          go_enter Try.func69, Try.ntmps69
          go_wp2_with fail
          rw [← HW.out]
          go_wp2_with (first | (go_at_call 43; (with_reducible refine g1.mono ?_); rintro r w1 ⟨rfl, e⟩; replace e := e.symm; subst e) | (go_at_call 43; (with_reducible refine g2.mono ?_); rintro r w1 ⟨rfl, e⟩; replace e := e.symm; subst e) | (go_at_call 90; refine g4.mono ?_; rintro r w1 ⟨rfl, e⟩; replace e := e.symm; subst e) | (go_at_call 64; refine g5.mono ?_; rintro r w5 ⟨rfl, b5⟩; replace k2 := below_cell k2 b5; replace d0 := below_cell d0 b5; replace d1 := below_cell d1 b5; replace d2 := below_cell d2 b5; replace fz := below_frz (v := .slice A3 n3 c3) (p := ⟨gs, 2, none⟩) (Hh.out.k2) fz b5; have z5 := b5.size))
          go_ret
          exact ⟨retI (by rw [E.out]; simp), ⟨_, by rw [EA.out, if_neg (by rw [E.out]; simp)]; exact Hh.out⟩, b0B⟩
        | true =>
          cases p5 with
          | true =>
            go_enter Try.func69, Try.ntmps69
            go_wp2_with fail
            rw [← HW.out]
            go_wp2_with (first | (go_at_call 43; (with_reducible refine g1.mono ?_); rintro r w1 ⟨rfl, e⟩; replace e := e.symm; subst e) | (go_at_call 43; (with_reducible refine g2.mono ?_); rintro r w1 ⟨rfl, e⟩; replace e := e.symm; subst e) | (go_at_call 90; refine g4.mono ?_; rintro r w1 ⟨rfl, e⟩; replace e := e.symm; subst e) | (go_at_call 64; refine g5.mono ?_; rintro r w5 ⟨rfl, b5⟩; replace k2 := below_cell k2 b5; replace d0 := below_cell d0 b5; replace d1 := below_cell d1 b5; replace d2 := below_cell d2 b5; replace fz := below_frz (v := .slice A3 n3 c3) (p := ⟨gs, 2, none⟩) (Hh.out.k2) fz b5; have z5 := b5.size))
            go_ret
            exact ⟨retI (by rw [E.out]; simp), ⟨_, by rw [EA.out, if_neg (by rw [E.out]; simp)]; exact Hh.out.below b5⟩, b0B.trans (b5.mono (by omega))⟩
          | false =>
            by_cases hlt60 : n3 < 60
            · have hne : ((n3 : Int) == 60) = false := by simp; omega
              have E0 : Hid (wyF x.st x.wy ⟨f, t, m⟩ = 0) := by rw [Hid, E.out]; simp; omega
              have EX : Hid (addWy x ⟨f, t, m⟩ = ⟨x.st, x.rm, x.wy ++ [⟨f, t, m⟩]⟩) := by rw [Hid, EA.out, if_pos E0.out]
              clear E EA
              go_enter Try.func69, Try.ntmps69
              go_wp2_with fail
              rw [← HW.out]
              go_wp2_with (first | (go_at_call 43; (with_reducible refine g1.mono ?_); rintro r w1 ⟨rfl, e⟩; replace e := e.symm; subst e) | (go_at_call 43; (with_reducible refine g2.mono ?_); rintro r w1 ⟨rfl, e⟩; replace e := e.symm; subst e) | (go_at_call 90; refine g4.mono ?_; rintro r w1 ⟨rfl, e⟩; replace e := e.symm; subst e) | (go_at_call 64; refine g5.mono ?_; rintro r w5 ⟨rfl, b5⟩; replace k2 := below_cell k2 b5; replace d0 := below_cell d0 b5; replace d1 := below_cell d1 b5; replace d2 := below_cell d2 b5; replace fz := below_frz (v := .slice A3 n3 c3) (p := ⟨gs, 2, none⟩) (Hh.out.k2) fz b5; have z5 := b5.size))
              have h5 := hid (Hh.out.below b5)
              have hr5 := own_below HR.out b5
              have l5 : gs < w5.heap.size := h5.out.lt
              have l6 : w.heap.size < w5.heap.size := World.block_lt_of_cell? _ _ d0
              go_region_law ((refine step_append_lies _ (by rfl) _ _ _ (by rfl) lo 54 i0 _ 3 40 Try.underlying27 hi hz0 hz1 hz2 rfl (by omega) (.slice A3 n3 c3) n3 (x.wy.flatMap encWay) (by rfl) ((ow_drew hr5).alloc _) ⟨w5.heap.size, 0, none⟩ 1 1 [.string f, .string t, .int .i64 m] (by rfl) (by rfl) (World.news_of_block (cs := #[.string f, .string t, .int .i64 m]) (t := 54) (fr := (0, 0)) (heap_alloc_new w5.drew _)) (by simp [Value.oneCell']) (by omega) (by simp only [maxLen]; omega) (by omega) (by simp; omega) (w5.heap.size + 1) (by simp) ?_; intro gg cap w3 ho3 hg3 hat3 hlt3; have hgg := (gr_alloc (gr_drew (World.grownBy.refl w5 _))).trans hg3; have f3 := (hgg.frozen_far ⟨gs, 2, none⟩ l5 (fun e => q9 e.symm)).trans fz; have k3 : ∃ v, w3.cell? ⟨gs, 2, none⟩ = some v := ⟨_, hgg.cell k2 (fun e => q9 e.symm)⟩; obtain ⟨v3, k3⟩ := k3))
              all_goals
                go_wp2_with fail
                go_ret
                refine ⟨retI E0.out.symm, ⟨⟨A1, n1, c1, A2, n2, c2, some ⟨gg, 0, none⟩, n3 + 1, cap⟩, ?_⟩, ?_⟩
                · rw [EX.out]
                  exact h5.out.put3 (H := w5.heap.size + 1) hgg (by omega) hat3 (by simpa [encWay] using ho3)
                · refine bl_set hg0 ?_
                  exact ((b0B.trans (b5.mono (by omega))).drew.alloc (by simp; omega) _).grown hg3 (by simp; omega) (fun b hb => by have := (hlr.out b hb).1; omega)
            · have hne : ((n3 : Int) == 60) = true := by simp; omega
              have Hlt := hid hlt60
              go_enter Try.func69, Try.ntmps69
              go_wp2_with fail
              rw [← HW.out]
              go_wp2_with (first | (go_at_call 43; (with_reducible refine g1.mono ?_); rintro r w1 ⟨rfl, e⟩; replace e := e.symm; subst e) | (go_at_call 43; (with_reducible refine g2.mono ?_); rintro r w1 ⟨rfl, e⟩; replace e := e.symm; subst e) | (go_at_call 90; refine g4.mono ?_; rintro r w1 ⟨rfl, e⟩; replace e := e.symm; subst e) | (go_at_call 64; refine g5.mono ?_; rintro r w5 ⟨rfl, b5⟩; replace k2 := below_cell k2 b5; replace d0 := below_cell d0 b5; replace d1 := below_cell d1 b5; replace d2 := below_cell d2 b5; replace fz := below_frz (v := .slice A3 n3 c3) (p := ⟨gs, 2, none⟩) (Hh.out.k2) fz b5; have z5 := b5.size))
              go_ret
              exact ⟨retI (by rw [E.out]; simp [Hlt.out]), ⟨_, by rw [EA.out, if_neg (by rw [E.out]; simp [Hlt.out])]; exact Hh.out.below b5⟩, b0B.trans (b5.mono (by omega))⟩
end Go.Proofs.Ytmanbpobdaamfaa
