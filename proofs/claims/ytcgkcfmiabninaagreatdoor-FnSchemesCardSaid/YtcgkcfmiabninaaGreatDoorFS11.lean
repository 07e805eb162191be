/-
  FS: texts STubeG, STubeGS, SOwnS, StFault, one behind the other. No condition but what each says.
-/
import Derived.Test.YtcgkcfmiabninaaGreatDoorFS10
import Derived.Deep.RegionLaw
import Derived.Deep.RegionHeldLaw
/-
  Schemes of one's own: a name, a way is added; where its lists lie then and what is kept. No condition.
-/
namespace Go.Proofs.YtcgkcfmiabninaaGreatDoor
open Go.RowKit
set_option maxHeartbeats 400000

set_option maxHeartbeats 4000000 in
set_option maxRecDepth 100000 in
theorem addWayG_any (gs lo B0 : Nat) (s : SV) (x : Sch) (f t : ByteArray) (m : Int) (w : World) (hg0 : B0 ≤ gs) (hlo : B0 ≤ lo) (hlw : lo ≤ w.heap.size) (hl : x.st.length ≤ 20) (hl3 : x.wy.length ≤ 60) (h : XAt w gs lo s x) :
    Calls Tryz.prog 56 #[.pointer (some ⟨gs, 0, none⟩), .agg #[.string f, .string t, .int .i64 m]] w (AddG gs lo B0 s w (wyF x.st x.wy ⟨f, t, m⟩) (addWy x ⟨f, t, m⟩)) := by
  obtain ⟨A1, n1, c1, A2, n2, c2, A3, n3, c3⟩ := s
  obtain ⟨ln1, ln2, ln3⟩ := h.len
  simp only at ln1 ln2 ln3
  obtain ⟨W0, hW0⟩ : ∃ W0, W0 = w.alloc (.cells #[.string f, .string t, .int .i64 m] 62) := ⟨_, rfl⟩
  have b0 : Below w.heap.size w W0 := by rw [hW0]; exact (Below.refl _ _).alloc (Nat.le_refl _) _
  have b0B : Below B0 w W0 := b0.mono (by omega)
  have d0 : W0.cell? ⟨w.heap.size, 0, none⟩ = some (.string f) := by rw [hW0]; go_simp
  have d1 : W0.cell? ⟨w.heap.size, 1, none⟩ = some (.string t) := by rw [hW0]; go_simp
  have d2 : W0.cell? ⟨w.heap.size, 2, none⟩ = some (.int .i64 m) := by rw [hW0]; go_simp
  have HW := hid hW0
  clear hW0
  have hlt := h.lt
  have hlr : Hid (∀ b, (Value.slice A3 n3 c3).ownBlock = some b → lo ≤ b ∧ b < w.heap.size) := h.own.wy.lt
  have h0 := h.below b0
  have z0 := b0.size
  have k0 := h0.k0
  have k2 := h0.k2
  simp only at k0 k2
  have hsl := h0.own.sl
  have g1 := hasStation_any gs A1 n1 c1 x.st f W0 _ (by omega) hsl.st k0
  have g2 := hasStation_any gs A1 n1 c1 x.st t W0 _ (by omega) hsl.st k0
  have g4 := within_any m 1 2000 W0
  have g5 := hasWay_any gs A3 n3 c3 x.wy f t W0 _ (Nat.le_refl _) (by omega) hsl.wy k2
  have q3 := bs_eq (x := f) (y := t)
  have E : Hid (wyF x.st x.wy ⟨f, t, m⟩ = if hasS x.st f then if hasS x.st t then if decide (f = t) then 7 else if inR m 1 2000 then if hasW x.wy f t then 5 else if n3 < 60 then 0 else 8 else 4 else 6 else 6) := by
    simp only [Hid, wyF, decide_eq_true_eq, ← ln3]
  have EA := hid (show addWy x ⟨f, t, m⟩ = if wyF x.st x.wy ⟨f, t, m⟩ = 0 then ⟨x.st, x.rm, x.wy ++ [⟨f, t, m⟩]⟩ else x from rfl)
  have Ln := hid ln3
  generalize hasS x.st f = p1 at g1 E
  generalize hasS x.st t = p2 at g2 E
  generalize decide (f = t) = p3 at q3 E
  generalize inR m 1 2000 = p4 at g4 E
  generalize hasW x.wy f t = p5 at g5 E
  obtain ⟨i0, hi, hz0, hz1, hz2⟩ := info_parts Way_info
  have hr := h0.own.wy
  simp only at hr
  have q9 : (Value.slice A3 n3 c3).ownBlock ≠ some gs := h0.o3
  have hn60 : n3 ≤ 60 := by omega
  have fz := h0.f2
  have lg := h0.lt
  have Hh := hid h0
  have HR := hid hr
  clear h h0 ln1 ln2 ln3 hsl hr
  cases p1 with
  | false =>
    go_enter Tryz.func56, Tryz.ntmps56
    go_wp2_with fail
    rw [← HW.out]
    go_wp2_with (first | (go_at_call 71; (with_reducible refine g1.mono ?_); rintro r w1 ⟨rfl, e⟩; replace e := e.symm; subst e) | (go_at_call 71; (with_reducible refine g2.mono ?_); rintro r w1 ⟨rfl, e⟩; replace e := e.symm; subst e) | (go_at_call 51; refine g4.mono ?_; rintro r w1 ⟨rfl, e⟩; replace e := e.symm; subst e) | (go_at_call 73; refine g5.mono ?_; rintro r w5 ⟨rfl, b5⟩; replace k2 := below_cell k2 b5; replace d0 := below_cell d0 b5; replace d1 := below_cell d1 b5; replace d2 := below_cell d2 b5; replace fz := below_frz (v := .slice A3 n3 c3) (p := ⟨gs, 2, none⟩) (Hh.out.k2) fz b5; have z5 := b5.size))
    go_ret
    exact ⟨retI (by rw [E.out]; simp), ⟨_, (by rw [EA.out, if_neg (by rw [E.out]; simp)]; exact Hh.out), Kin.refl _ _⟩, b0B, FarB.of b0⟩
  | true =>
    cases p2 with
    | false =>
      go_enter Tryz.func56, Tryz.ntmps56
      go_wp2_with fail
      rw [← HW.out]
      go_wp2_with (first | (go_at_call 71; (with_reducible refine g1.mono ?_); rintro r w1 ⟨rfl, e⟩; replace e := e.symm; subst e) | (go_at_call 71; (with_reducible refine g2.mono ?_); rintro r w1 ⟨rfl, e⟩; replace e := e.symm; subst e) | (go_at_call 51; refine g4.mono ?_; rintro r w1 ⟨rfl, e⟩; replace e := e.symm; subst e) | (go_at_call 73; refine g5.mono ?_; rintro r w5 ⟨rfl, b5⟩; replace k2 := below_cell k2 b5; replace d0 := below_cell d0 b5; replace d1 := below_cell d1 b5; replace d2 := below_cell d2 b5; replace fz := below_frz (v := .slice A3 n3 c3) (p := ⟨gs, 2, none⟩) (Hh.out.k2) fz b5; have z5 := b5.size))
      go_ret
      exact ⟨retI (by rw [E.out]; simp), ⟨_, (by rw [EA.out, if_neg (by rw [E.out]; simp)]; exact Hh.out), Kin.refl _ _⟩, b0B, FarB.of b0⟩
    | true =>
      cases p3 with
      | true =>
        go_enter Tryz.func56, Tryz.ntmps56
        go_wp2_with fail
        rw [← HW.out]
        go_wp2_with (first | (go_at_call 71; (with_reducible refine g1.mono ?_); rintro r w1 ⟨rfl, e⟩; replace e := e.symm; subst e) | (go_at_call 71; (with_reducible refine g2.mono ?_); rintro r w1 ⟨rfl, e⟩; replace e := e.symm; subst e) | (go_at_call 51; refine g4.mono ?_; rintro r w1 ⟨rfl, e⟩; replace e := e.symm; subst e) | (go_at_call 73; refine g5.mono ?_; rintro r w5 ⟨rfl, b5⟩; replace k2 := below_cell k2 b5; replace d0 := below_cell d0 b5; replace d1 := below_cell d1 b5; replace d2 := below_cell d2 b5; replace fz := below_frz (v := .slice A3 n3 c3) (p := ⟨gs, 2, none⟩) (Hh.out.k2) fz b5; have z5 := b5.size))
        go_ret
        exact ⟨retI (by rw [E.out]; simp), ⟨_, (by rw [EA.out, if_neg (by rw [E.out]; simp)]; exact Hh.out), Kin.refl _ _⟩, b0B, FarB.of b0⟩
      | false =>
        cases p4 with
        | false =>
          go_enter Tryz.func56, Tryz.ntmps56
          go_wp2_with fail
          rw [← HW.out]
          go_wp2_with (first | (go_at_call 71; (with_reducible refine g1.mono ?_); rintro r w1 ⟨rfl, e⟩; replace e := e.symm; subst e) | (go_at_call 71; (with_reducible refine g2.mono ?_); rintro r w1 ⟨rfl, e⟩; replace e := e.symm; subst e) | (go_at_call 51; refine g4.mono ?_; rintro r w1 ⟨rfl, e⟩; replace e := e.symm; subst e) | (go_at_call 73; refine g5.mono ?_; rintro r w5 ⟨rfl, b5⟩; replace k2 := below_cell k2 b5; replace d0 := below_cell d0 b5; replace d1 := below_cell d1 b5; replace d2 := below_cell d2 b5; replace fz := below_frz (v := .slice A3 n3 c3) (p := ⟨gs, 2, none⟩) (Hh.out.k2) fz b5; have z5 := b5.size))
          go_ret
          exact ⟨retI (by rw [E.out]; simp), ⟨_, (by rw [EA.out, if_neg (by rw [E.out]; simp)]; exact Hh.out), Kin.refl _ _⟩, b0B, FarB.of b0⟩
        | true =>
          cases p5 with
          | true =>
            go_enter Tryz.func56, Tryz.ntmps56
            go_wp2_with fail
            rw [← HW.out]
            go_wp2_with (first | (go_at_call 71; (with_reducible refine g1.mono ?_); rintro r w1 ⟨rfl, e⟩; replace e := e.symm; subst e) | (go_at_call 71; (with_reducible refine g2.mono ?_); rintro r w1 ⟨rfl, e⟩; replace e := e.symm; subst e) | (go_at_call 51; refine g4.mono ?_; rintro r w1 ⟨rfl, e⟩; replace e := e.symm; subst e) | (go_at_call 73; refine g5.mono ?_; rintro r w5 ⟨rfl, b5⟩; replace k2 := below_cell k2 b5; replace d0 := below_cell d0 b5; replace d1 := below_cell d1 b5; replace d2 := below_cell d2 b5; replace fz := below_frz (v := .slice A3 n3 c3) (p := ⟨gs, 2, none⟩) (Hh.out.k2) fz b5; have z5 := b5.size))
            go_ret
            exact ⟨retI (by rw [E.out]; simp), ⟨_, (by rw [EA.out, if_neg (by rw [E.out]; simp)]; exact Hh.out.below b5), Kin.refl _ _⟩, b0B.trans (b5.mono (by omega)), FarB.of (b0.trans (b5.mono (by omega)))⟩
          | false =>
            by_cases hlt60 : n3 < 60
            · have hne : ((n3 : Int) == 60) = false := by simp; omega
              have E0 : Hid (wyF x.st x.wy ⟨f, t, m⟩ = 0) := by rw [Hid, E.out]; simp; omega
              have EX : Hid (addWy x ⟨f, t, m⟩ = ⟨x.st, x.rm, x.wy ++ [⟨f, t, m⟩]⟩) := by rw [Hid, EA.out, if_pos E0.out]
              clear E EA
              go_enter Tryz.func56, Tryz.ntmps56
              go_wp2_with fail
              rw [← HW.out]
              go_wp2_with (first | (go_at_call 71; (with_reducible refine g1.mono ?_); rintro r w1 ⟨rfl, e⟩; replace e := e.symm; subst e) | (go_at_call 71; (with_reducible refine g2.mono ?_); rintro r w1 ⟨rfl, e⟩; replace e := e.symm; subst e) | (go_at_call 51; refine g4.mono ?_; rintro r w1 ⟨rfl, e⟩; replace e := e.symm; subst e) | (go_at_call 73; refine g5.mono ?_; rintro r w5 ⟨rfl, b5⟩; replace k2 := below_cell k2 b5; replace d0 := below_cell d0 b5; replace d1 := below_cell d1 b5; replace d2 := below_cell d2 b5; replace fz := below_frz (v := .slice A3 n3 c3) (p := ⟨gs, 2, none⟩) (Hh.out.k2) fz b5; have z5 := b5.size))
              have h5 := hid (Hh.out.below b5)
              have hr5 := own_below HR.out b5
              have l5 : gs < w5.heap.size := h5.out.lt
              have l6 : w.heap.size < w5.heap.size := World.block_lt_of_cell? _ _ d0
              go_region_law ((refine step_append_lies _ (by rfl) _ _ _ (by rfl) lo 62 i0 _ 3 40 Tryz.underlying23 hi hz0 hz1 hz2 rfl (by omega) (.slice A3 n3 c3) n3 (x.wy.flatMap encWay) (by rfl) ((ow_drew hr5).alloc _) ⟨w5.heap.size, 0, none⟩ 1 1 [.string f, .string t, .int .i64 m] (by rfl) (by rfl) (World.news_of_block (cs := #[.string f, .string t, .int .i64 m]) (t := 62) (fr := (0, 0)) (heap_alloc_new w5.drew _)) (by simp [Value.oneCell']) (by omega) (by simp only [maxLen]; omega) (by omega) (by simp; omega) (w5.heap.size + 1) (by simp) ?_; intro gg cap w3 ho3 hg3 hat3 hlt3; have hgg := (gr_alloc (gr_drew (World.grownBy.refl w5 _))).trans hg3; have f3 := (hgg.frozen_far ⟨gs, 2, none⟩ l5 (fun e => q9 e.symm)).trans fz; have k3 : ∃ v, w3.cell? ⟨gs, 2, none⟩ = some v := ⟨_, hgg.cell k2 (fun e => q9 e.symm)⟩; obtain ⟨v3, k3⟩ := k3))
              all_goals
                go_wp2_with fail
                go_ret
                refine ⟨retI E0.out.symm, ⟨⟨A1, n1, c1, A2, n2, c2, some ⟨gg, 0, none⟩, n3 + 1, cap⟩, ?_, Kin.put3 hat3 (by omega)⟩, ?_, fun b hb h1 h2 => ?_⟩
                · rw [EX.out]
                  exact h5.out.put3 (H := w5.heap.size + 1) hgg (by omega) hat3 (by simpa [encWay] using ho3)
                · refine bl_set hg0 ?_
                  exact ((b0B.trans (b5.mono (by omega))).drew.alloc (by simp; omega) _).grown hg3 (by simp; omega) (fun b hb => by have := (hlr.out b hb).1; omega)
                · exact (blk_far _ _ _ h1).trans ((hgg.block b (Nat.lt_of_lt_of_le hb (b0.trans (b5.mono (by omega))).size) (fun e => h2 (.inr (.inr e.symm)))).trans ((b0.trans (b5.mono (by omega))).block b hb))
            · have hne : ((n3 : Int) == 60) = true := by simp; omega
              have Hlt := hid hlt60
              go_enter Tryz.func56, Tryz.ntmps56
              go_wp2_with fail
              rw [← HW.out]
              go_wp2_with (first | (go_at_call 71; (with_reducible refine g1.mono ?_); rintro r w1 ⟨rfl, e⟩; replace e := e.symm; subst e) | (go_at_call 71; (with_reducible refine g2.mono ?_); rintro r w1 ⟨rfl, e⟩; replace e := e.symm; subst e) | (go_at_call 51; refine g4.mono ?_; rintro r w1 ⟨rfl, e⟩; replace e := e.symm; subst e) | (go_at_call 73; refine g5.mono ?_; rintro r w5 ⟨rfl, b5⟩; replace k2 := below_cell k2 b5; replace d0 := below_cell d0 b5; replace d1 := below_cell d1 b5; replace d2 := below_cell d2 b5; replace fz := below_frz (v := .slice A3 n3 c3) (p := ⟨gs, 2, none⟩) (Hh.out.k2) fz b5; have z5 := b5.size))
              go_ret
              exact ⟨retI (by rw [E.out]; simp [Hlt.out]), ⟨_, (by rw [EA.out, if_neg (by rw [E.out]; simp [Hlt.out])]; exact Hh.out.below b5), Kin.refl _ _⟩, b0B.trans (b5.mono (by omega)), FarB.of (b0.trans (b5.mono (by omega)))⟩
end Go.Proofs.YtcgkcfmiabninaaGreatDoor
/-
  Schemes of one's own: a name, a way is added; where its lists lie then and what is kept. No condition.
-/
namespace Go.Proofs.YtcgkcfmiabninaaGreatDoor
open Go.RowKit
set_option maxHeartbeats 400000

set_option maxHeartbeats 4000000 in
set_option maxRecDepth 100000 in
theorem l21TubeG_any (gs lo B0 : Nat) (s : SV) (x : Sch) (f t : ByteArray) (m : Int) (w : World) (hg0 : B0 ≤ gs) (hlo : B0 ≤ lo) (hlw : lo ≤ w.heap.size) (hl : x.st.length ≤ 20) (hl3 : x.wy.length ≤ 60) (h : XAt w gs lo s x) :
    Calls Tryz.prog 61 #[.pointer (some ⟨gs, 0, none⟩), .agg #[.string f, .string t, .int .i64 m]] w (AddG gs lo B0 s w (wyF x.st x.wy ⟨f, t, m⟩) (addWy x ⟨f, t, m⟩)) := by
  obtain ⟨A1, n1, c1, A2, n2, c2, A3, n3, c3⟩ := s
  obtain ⟨ln1, ln2, ln3⟩ := h.len
  simp only at ln1 ln2 ln3
  obtain ⟨W0, hW0⟩ : ∃ W0, W0 = w.alloc (.cells #[.string f, .string t, .int .i64 m] 62) := ⟨_, rfl⟩
  have b0 : Below w.heap.size w W0 := by rw [hW0]; exact (Below.refl _ _).alloc (Nat.le_refl _) _
  have b0B : Below B0 w W0 := b0.mono (by omega)
  have d0 : W0.cell? ⟨w.heap.size, 0, none⟩ = some (.string f) := by rw [hW0]; go_simp
  have d1 : W0.cell? ⟨w.heap.size, 1, none⟩ = some (.string t) := by rw [hW0]; go_simp
  have d2 : W0.cell? ⟨w.heap.size, 2, none⟩ = some (.int .i64 m) := by rw [hW0]; go_simp
  have HW := hid hW0
  clear hW0
  have hlt := h.lt
  have hlr : Hid (∀ b, (Value.slice A3 n3 c3).ownBlock = some b → lo ≤ b ∧ b < w.heap.size) := h.own.wy.lt
  have h0 := h.below b0
  have z0 := b0.size
  have k0 := h0.k0
  have k2 := h0.k2
  simp only at k0 k2
  have hsl := h0.own.sl
  have g1 := fun z W h => l21Has_any A1 n1 c1 x.st z W W0.heap.size (by omega) h
  have g4 := fun W => l00In_any m 1 2000 W
  have g5 := fun W h k => l21Way_any gs A3 n3 c3 x.wy f t W W0.heap.size (by omega) h k
  have e5 : hasW x.wy f t = decide (0 ≤ findFrom (wayIs f t) 0 x.wy) := (findFrom_any _ _ _).symm
  have hsst := hsl.st
  have hswy := hsl.wy
  have HE5 := hid e5
  clear e5
  have q3 := bs_eq (x := f) (y := t)
  have E : Hid (wyF x.st x.wy ⟨f, t, m⟩ = if hasS x.st f then if hasS x.st t then if decide (f = t) then 7 else if inR m 1 2000 then if hasW x.wy f t then 5 else if n3 < 60 then 0 else 8 else 4 else 6 else 6) := by
    simp only [Hid, wyF, decide_eq_true_eq, ← ln3]
  have EA := hid (show addWy x ⟨f, t, m⟩ = if wyF x.st x.wy ⟨f, t, m⟩ = 0 then ⟨x.st, x.rm, x.wy ++ [⟨f, t, m⟩]⟩ else x from rfl)
  have Ln := hid ln3
  generalize hasS x.st = PS at g1 E
  obtain ⟨p1, hp1⟩ : ∃ p1, PS f = p1 := ⟨_, rfl⟩
  obtain ⟨p2, hp2⟩ : ∃ p2, PS t = p2 := ⟨_, rfl⟩
  rw [hp1, hp2] at E
  generalize decide (f = t) = p3 at q3 E
  generalize inR m 1 2000 = p4 at g4 E
  generalize hasW x.wy f t = p5 at HE5 E
  generalize findFrom (wayIs f t) 0 x.wy = v5 at g5 HE5
  obtain ⟨i0, hi, hz0, hz1, hz2⟩ := info_parts Way_info
  have hr := h0.own.wy
  simp only at hr
  have q9 : (Value.slice A3 n3 c3).ownBlock ≠ some gs := h0.o3
  have hn60 : n3 ≤ 60 := by omega
  have fz := h0.f2
  have lg := h0.lt
  have Hh := hid h0
  have HR := hid hr
  clear h h0 ln1 ln2 ln3 hsl hr
  cases p1 with
  | false =>
    go_enter Tryz.func61, Tryz.ntmps61
    go_wp2_with fail
    rw [← HW.out]
    go_quiet ((go_at_call 75; exact Calls.quiet_of_same (g1 _ _ hsst)))
    have b1 := below_drewN (Below.refl W0.heap.size W0) nq
    replace k2 := below_cell k2 b1
    replace d0 := below_cell d0 b1
    replace d1 := below_cell d1 b1
    replace d2 := below_cell d2 b1
    replace fz := below_frz (v := .slice A3 n3 c3) (p := ⟨gs, 2, none⟩) (Hh.out.k2) fz b1
    replace hswy := hswy.below b1
    have z1 := b1.size
    generalize W0.drewN nq = W1 at *
    go_wp2_with (first | (go_at_call 52; refine (g4 _).mono ?_; rintro r w1 ⟨rfl, e⟩; replace e := e.symm; subst e) | (go_at_call 77; refine (g5 _ hswy k2).mono ?_; rintro r w1 ⟨rfl, e⟩; replace e := e.symm; subst e))
    go_ret
    exact ⟨retI (by rw [E.out]; simp), ⟨_, (by rw [EA.out, if_neg (by rw [E.out]; simp)]; exact Hh.out.below b1), Kin.refl _ _⟩, b0B.trans (b1.mono (by omega)), FarB.of (b0.trans (b1.mono (by omega)))⟩
  | true =>
    cases p2 with
    | false =>
      go_enter Tryz.func61, Tryz.ntmps61
      go_wp2_with fail
      rw [← HW.out]
      go_quiet ((go_at_call 75; exact Calls.quiet_of_same (g1 _ _ hsst)))
      have b1 := below_drewN (Below.refl W0.heap.size W0) nq
      replace k2 := below_cell k2 b1
      replace d0 := below_cell d0 b1
      replace d1 := below_cell d1 b1
      replace d2 := below_cell d2 b1
      replace fz := below_frz (v := .slice A3 n3 c3) (p := ⟨gs, 2, none⟩) (Hh.out.k2) fz b1
      replace hswy := hswy.below b1
      have z1 := b1.size
      generalize W0.drewN nq = W1 at *
      go_wp2_with (first | (go_at_call 52; refine (g4 _).mono ?_; rintro r w1 ⟨rfl, e⟩; replace e := e.symm; subst e) | (go_at_call 77; refine (g5 _ hswy k2).mono ?_; rintro r w1 ⟨rfl, e⟩; replace e := e.symm; subst e))
      go_ret
      exact ⟨retI (by rw [E.out]; simp), ⟨_, (by rw [EA.out, if_neg (by rw [E.out]; simp)]; exact Hh.out.below b1), Kin.refl _ _⟩, b0B.trans (b1.mono (by omega)), FarB.of (b0.trans (b1.mono (by omega)))⟩
    | true =>
      cases p3 with
      | true =>
        go_enter Tryz.func61, Tryz.ntmps61
        go_wp2_with fail
        rw [← HW.out]
        go_quiet ((go_at_call 75; exact Calls.quiet_of_same (g1 _ _ hsst)))
        have b1 := below_drewN (Below.refl W0.heap.size W0) nq
        replace k2 := below_cell k2 b1
        replace d0 := below_cell d0 b1
        replace d1 := below_cell d1 b1
        replace d2 := below_cell d2 b1
        replace fz := below_frz (v := .slice A3 n3 c3) (p := ⟨gs, 2, none⟩) (Hh.out.k2) fz b1
        replace hswy := hswy.below b1
        have z1 := b1.size
        generalize W0.drewN nq = W1 at *
        go_wp2_with (first | (go_at_call 52; refine (g4 _).mono ?_; rintro r w1 ⟨rfl, e⟩; replace e := e.symm; subst e) | (go_at_call 77; refine (g5 _ hswy k2).mono ?_; rintro r w1 ⟨rfl, e⟩; replace e := e.symm; subst e))
        go_ret
        exact ⟨retI (by rw [E.out]; simp), ⟨_, (by rw [EA.out, if_neg (by rw [E.out]; simp)]; exact Hh.out.below b1), Kin.refl _ _⟩, b0B.trans (b1.mono (by omega)), FarB.of (b0.trans (b1.mono (by omega)))⟩
      | false =>
        cases p4 with
        | false =>
          go_enter Tryz.func61, Tryz.ntmps61
          go_wp2_with fail
          rw [← HW.out]
          go_quiet ((go_at_call 75; exact Calls.quiet_of_same (g1 _ _ hsst)))
          have b1 := below_drewN (Below.refl W0.heap.size W0) nq
          replace k2 := below_cell k2 b1
          replace d0 := below_cell d0 b1
          replace d1 := below_cell d1 b1
          replace d2 := below_cell d2 b1
          replace fz := below_frz (v := .slice A3 n3 c3) (p := ⟨gs, 2, none⟩) (Hh.out.k2) fz b1
          replace hswy := hswy.below b1
          have z1 := b1.size
          generalize W0.drewN nq = W1 at *
          go_wp2_with (first | (go_at_call 52; refine (g4 _).mono ?_; rintro r w1 ⟨rfl, e⟩; replace e := e.symm; subst e) | (go_at_call 77; refine (g5 _ hswy k2).mono ?_; rintro r w1 ⟨rfl, e⟩; replace e := e.symm; subst e))
          go_ret
          exact ⟨retI (by rw [E.out]; simp), ⟨_, (by rw [EA.out, if_neg (by rw [E.out]; simp)]; exact Hh.out.below b1), Kin.refl _ _⟩, b0B.trans (b1.mono (by omega)), FarB.of (b0.trans (b1.mono (by omega)))⟩
        | true =>
          cases p5 with
          | true =>
            have hv5 : 0 ≤ v5 := by have := HE5.out; simpa using this.symm
            go_enter Tryz.func61, Tryz.ntmps61
            go_wp2_with fail
            rw [← HW.out]
            go_quiet ((go_at_call 75; exact Calls.quiet_of_same (g1 _ _ hsst)))
            have b1 := below_drewN (Below.refl W0.heap.size W0) nq
            replace k2 := below_cell k2 b1
            replace d0 := below_cell d0 b1
            replace d1 := below_cell d1 b1
            replace d2 := below_cell d2 b1
            replace fz := below_frz (v := .slice A3 n3 c3) (p := ⟨gs, 2, none⟩) (Hh.out.k2) fz b1
            replace hswy := hswy.below b1
            have z1 := b1.size
            generalize W0.drewN nq = W1 at *
            go_wp2_with (first | (go_at_call 52; refine (g4 _).mono ?_; rintro r w1 ⟨rfl, e⟩; replace e := e.symm; subst e) | (go_at_call 77; refine (g5 _ hswy k2).mono ?_; rintro r w1 ⟨rfl, e⟩; replace e := e.symm; subst e))
            go_ret
            exact ⟨retI (by rw [E.out]; simp), ⟨_, (by rw [EA.out, if_neg (by rw [E.out]; simp)]; exact Hh.out.below b1), Kin.refl _ _⟩, b0B.trans (b1.mono (by omega)), FarB.of (b0.trans (b1.mono (by omega)))⟩
          | false =>
            have hv5 : ¬ 0 ≤ v5 := by have := HE5.out; simpa using this.symm
            by_cases hlt60 : n3 < 60
            · have hne : ((n3 : Int) == 60) = false := by simp; omega
              have E0 : Hid (wyF x.st x.wy ⟨f, t, m⟩ = 0) := by rw [Hid, E.out]; simp; omega
              have EX : Hid (addWy x ⟨f, t, m⟩ = ⟨x.st, x.rm, x.wy ++ [⟨f, t, m⟩]⟩) := by rw [Hid, EA.out, if_pos E0.out]
              clear E EA
              go_enter Tryz.func61, Tryz.ntmps61
              go_wp2_with fail
              rw [← HW.out]
              go_quiet ((go_at_call 75; exact Calls.quiet_of_same (g1 _ _ hsst)))
              have b1 := below_drewN (Below.refl W0.heap.size W0) nq
              replace k2 := below_cell k2 b1
              replace d0 := below_cell d0 b1
              replace d1 := below_cell d1 b1
              replace d2 := below_cell d2 b1
              replace fz := below_frz (v := .slice A3 n3 c3) (p := ⟨gs, 2, none⟩) (Hh.out.k2) fz b1
              replace hswy := hswy.below b1
              have z1 := b1.size
              generalize W0.drewN nq = W1 at *
              go_wp2_with (first | (go_at_call 52; refine (g4 _).mono ?_; rintro r w1 ⟨rfl, e⟩; replace e := e.symm; subst e) | (go_at_call 77; refine (g5 _ hswy k2).mono ?_; rintro r w1 ⟨rfl, e⟩; replace e := e.symm; subst e))
              have h5 := hid (Hh.out.below b1)
              have hr5 := own_below HR.out b1
              have l5 : gs < W1.heap.size := h5.out.lt
              have l6 : w.heap.size < W1.heap.size := World.block_lt_of_cell? _ _ d0
              go_region_law ((refine step_append_lies _ (by rfl) _ _ _ (by rfl) lo 62 i0 _ 3 40 Tryz.underlying23 hi hz0 hz1 hz2 rfl (by omega) (.slice A3 n3 c3) n3 (x.wy.flatMap encWay) (by rfl) ((ow_drew hr5).alloc _) ⟨W1.heap.size, 0, none⟩ 1 1 [.string f, .string t, .int .i64 m] (by rfl) (by rfl) (World.news_of_block (cs := #[.string f, .string t, .int .i64 m]) (t := 62) (fr := (0, 0)) (heap_alloc_new W1.drew _)) (by simp [Value.oneCell']) (by omega) (by simp only [maxLen]; omega) (by omega) (by simp; omega) (W1.heap.size + 1) (by simp) ?_; intro gg cap w3 ho3 hg3 hat3 hlt3; have hgg := (gr_alloc (gr_drew (World.grownBy.refl W1 _))).trans hg3; have f3 := (hgg.frozen_far ⟨gs, 2, none⟩ l5 (fun e => q9 e.symm)).trans fz; have k3 : ∃ v, w3.cell? ⟨gs, 2, none⟩ = some v := ⟨_, hgg.cell k2 (fun e => q9 e.symm)⟩; obtain ⟨v3, k3⟩ := k3))
              all_goals
                go_wp2_with fail
                go_ret
                refine ⟨retI E0.out.symm, ⟨⟨A1, n1, c1, A2, n2, c2, some ⟨gg, 0, none⟩, n3 + 1, cap⟩, ?_, Kin.put3 hat3 (by omega)⟩, ?_, fun b hb h1 h2 => ?_⟩
                · rw [EX.out]
                  exact h5.out.put3 (H := W1.heap.size + 1) hgg (by omega) hat3 (by simpa [encWay] using ho3)
                · refine bl_set hg0 ?_
                  exact ((b0B.trans (b1.mono (by omega))).drew.alloc (by simp; omega) _).grown hg3 (by simp; omega) (fun b hb => by have := (hlr.out b hb).1; omega)
                · exact (blk_far _ _ _ h1).trans ((hgg.block b (Nat.lt_of_lt_of_le hb (b0.trans (b1.mono (by omega))).size) (fun e => h2 (.inr (.inr e.symm)))).trans ((b0.trans (b1.mono (by omega))).block b hb))
            · have hne : ((n3 : Int) == 60) = true := by simp; omega
              have Hlt := hid hlt60
              go_enter Tryz.func61, Tryz.ntmps61
              go_wp2_with fail
              rw [← HW.out]
              go_quiet ((go_at_call 75; exact Calls.quiet_of_same (g1 _ _ hsst)))
              have b1 := below_drewN (Below.refl W0.heap.size W0) nq
              replace k2 := below_cell k2 b1
              replace d0 := below_cell d0 b1
              replace d1 := below_cell d1 b1
              replace d2 := below_cell d2 b1
              replace fz := below_frz (v := .slice A3 n3 c3) (p := ⟨gs, 2, none⟩) (Hh.out.k2) fz b1
              replace hswy := hswy.below b1
              have z1 := b1.size
              generalize W0.drewN nq = W1 at *
              go_wp2_with (first | (go_at_call 52; refine (g4 _).mono ?_; rintro r w1 ⟨rfl, e⟩; replace e := e.symm; subst e) | (go_at_call 77; refine (g5 _ hswy k2).mono ?_; rintro r w1 ⟨rfl, e⟩; replace e := e.symm; subst e))
              go_ret
              exact ⟨retI (by rw [E.out]; simp [Hlt.out]), ⟨_, (by rw [EA.out, if_neg (by rw [E.out]; simp [Hlt.out])]; exact Hh.out.below b1), Kin.refl _ _⟩, b0B.trans (b1.mono (by omega)), FarB.of (b0.trans (b1.mono (by omega)))⟩
end Go.Proofs.YtcgkcfmiabninaaGreatDoor
/-
  Schemes: a copy of one's own (the reference's). No condition.
-/
namespace Go.Proofs.YtcgkcfmiabninaaGreatDoor
open Go.RowKit
set_option maxHeartbeats 400000

theorem heap_drew {w : World} {o : Obj} {k : Nat} (h : w.heap[k]? = some o) : w.drew.heap[k]? = some o := h
theorem heap_new {w : World} {o : Obj} {k : Nat} (h : k = w.heap.size) : (w.alloc o).heap[k]? = some o := by subst h; exact heap_alloc_new w o
theorem heap_old {w : World} {o : Obj} {k : Nat} (h : k < w.heap.size) : (w.alloc o).heap[k]? = w.heap[k]? := heap_alloc_old w o h
theorem heap_below {w w' : World} {k : Nat} {o : Obj} (hb : Below w.heap.size w w') (h : w.heap[k]? = some o) : w'.heap[k]? = some o := by
  rw [hb.block k (by rcases Nat.lt_or_ge k w.heap.size with h1 | h1; exact h1; rw [Array.getElem?_eq_none h1] at h; cases h)]
  exact h
/-- append onto an empty slice without room, at a step of a region that draws its order -/
theorem step_append_empty {P : Program} {w : World} {ops : Array Oper} {o : Oper} {a : Act} {K : Act → World → Prop} {Q : Exit → Act → World → Prop} {E : Prop} (hgd : o.guard = none) (s x : Operand) (t : TypeId)
    (ho : o.op = .call { callee := .builtin .append, args := #[s, x], argTypes := #[t, t] })
    (base : Nat) (e : TypeId) (i : TypeInfo) (z : Value) (size bytes : Nat) (ht : P.underlying t = some (.slice e)) (hi : P.info? e = some i) (hz : i.zero = some z)
    (hsize : i.size = size) (hby : i.bytes = bytes) (hzs : z.cells.size = size) (hsz : 0 < size)
    (q : Nat) (hs : a.eval s = .slice (some ⟨q, 0, none⟩) 0 0) (hq : w.heap[q]? = some (.cells #[] e (0, 0))) (hbq : base ≤ q)
    (X : Option Addr) (m c : Nat) (news : List Value) (hx : a.eval x = .slice X m c) (hl : news.length = m * size) (hnews : (X = none → m = 0) ∧ ∀ ad, X = some ad → ∀ j u, news[j]? = some u → w.cell? (ad.add j) = some u) (h1 : ∀ u ∈ news, u.oneCell' = true)
    (h63 : m ≤ maxLen) (hbytes : m * bytes ≤ 140737488355328) (hbase : base ≤ w.heap.size)
    (h : ∀ A c' w', w'.ownsRow base e size (.slice A m c') m news → Below w.heap.size w w' → (∀ q', obA A = some q' → (q' = q ∨ q' = w.heap.size) ∧ q' < w'.heap.size) → K (a.put o.dst (.slice A m c')) w') :
    if Region.wanted o (yielded ops a.tmps) = true then Oper.wp P o a w K Q else E := by
  have hw : Region.wanted o (yielded ops a.tmps) = true := by simp [Region.wanted, hgd]
  rw [if_pos hw]
  subst hsize
  subst hby
  have ho0 : w.ownsRow base e i.size (.slice (some ⟨q, 0, none⟩) 0 0) 0 [] := ⟨by simp, .inr ⟨q, 0, #[], rfl, hbq, hq, Nat.le_refl _, by simp, by simp, by simp⟩⟩
  have hql : q < w.heap.size := by
    rcases Nat.lt_or_ge q w.heap.size with h1 | h1
    · exact h1
    · rw [Array.getElem?_eq_none h1] at hq; cases hq
  have key : ∃ A c' w', (Builtin.append_ #[t, t] o.type #[.slice (some ⟨q, 0, none⟩) 0 0, .slice X m c]).run P w = .ok (.slice A m c') w' ∧
      w'.ownsRow base e i.size (.slice A m c') m news ∧ Below w.heap.size w w' ∧ (∀ q', obA A = some q' → (q' = q ∨ q' = w.heap.size) ∧ q' < w'.heap.size) := by
    by_cases hm : m = 0
    · subst hm
      have hn : news = [] := List.eq_nil_of_length_eq_zero (by simpa using hl)
      subst hn
      refine ⟨some ⟨q, 0, none⟩, 0, w, ?_, ho0, Below.refl _ _, ?_⟩
      · cases X <;> simp [Builtin.append_, run_underlying ht, sizeOf, typeInfo, hi, Builtin.lenOf, Builtin.firstCells, loadCells, loadCellsFrom, storeCells]
      · intro q' hq'
        have : q = q' := by simpa [obA] using hq'
        subst this
        exact ⟨.inl rfl, hql⟩
    · obtain ⟨ad, rfl⟩ : ∃ ad, X = some ad := by
        cases X with
        | none => exact absurd (hnews.1 rfl) hm
        | some ad => exact ⟨ad, rfl⟩
      have hnews := hnews.2 ad rfl
      have hr := run_append_grow (P := P) w t o.type e i z ht hi hz ⟨q, 0, none⟩ 0 0 [] (by simp) (by simp) ad m c news hl hnews (by omega) (by simp only [maxLen] at h63; omega) (growslice_fits (by omega) (by simpa using hbytes))
      simp only [Nat.zero_add] at hr
      have hge := grownCap_ge w m 0 e
      have hcm : grownCap w m 0 e ≤ maxLen := grownCap_le_maxLen w m 0 e h63
      refine ⟨_, _, _, hr, ⟨hl, .inr ⟨w.heap.size, _, _, rfl, hbase, heap_alloc_new w.drew _, hge, hcm, ?_, ?_⟩⟩, ((Below.refl _ _).drew).alloc (by simp) _, ?_⟩
      · simp only [Array.size_append, List.size_toArray, size_zeroCells, hzs, hl, List.length_nil, Nat.zero_add, ← Nat.add_mul]
        congr 1
        omega
      · simp only [Array.toList_append, List.nil_append]
        rw [← hl]
        simp
      · intro q' hq'
        have : w.heap.size = q' := by simpa [obA] using hq'
        subst this
        exact ⟨.inr rfl, by simp⟩
  obtain ⟨A, c', w', hr, h2, h3, h4⟩ := key
  unfold Oper.wp execOp
  simp only [ho, resolve, invoke, builtin, Sem.run_bind, Sem.run_pure, Result.andThen_ok, List.map_toArray, List.map_cons, List.map_nil, hs, hx, hr]
  exact h A c' w' h2 h3 h4
theorem news_strs {w : World} {B n : Nat} {X : Option Addr} {xs : List ByteArray} (hx : Sl w B 1 encS X n xs) : (X = none → n = 0) ∧ ∀ ad, X = some ad → ∀ (j : Nat) (u : Value), (xs.flatMap encS)[j]? = some u → w.cell? (ad.add j) = some u := by
  have hl := hx.len
  cases xs with
  | nil => exact ⟨fun _ => (by simpa using hl.symm), fun ad _ j u hj => (by simp at hj)⟩
  | cons a r =>
    obtain ⟨b, off, e, _, _⟩ := hx.2 0 a rfl
    subst e
    exact ⟨fun h => (by cases h), fun ad h => (by injection h with h; subst h; exact news_of_strs hx)⟩
theorem news_ways {w : World} {B n : Nat} {X : Option Addr} {xs : List Way} (hx : Sl w B 3 encWay X n xs) : (X = none → n = 0) ∧ ∀ ad, X = some ad → ∀ (j : Nat) (u : Value), (xs.flatMap encWay)[j]? = some u → w.cell? (ad.add j) = some u := by
  have hl := hx.len
  cases xs with
  | nil => exact ⟨fun _ => (by simpa using hl.symm), fun ad _ j u hj => (by simp at hj)⟩
  | cons a r =>
    obtain ⟨b, off, e, _, _⟩ := hx.2 0 a rfl
    subst e
    exact ⟨fun h => (by cases h), fun ad h => (by injection h with h; subst h; exact news_of_ways hx)⟩
set_option maxHeartbeats 8000000 in
set_option maxRecDepth 100000 in
theorem l21Own_any (gx : Nat) (X1 X2 X3 : Option Addr) (n1 c1 n2 c2 n3 c3 : Nat) (x : Sch) (w : World) (B : Nat) (hB : B ≤ w.heap.size) (hn1 : n1 ≤ 2000000) (hn2 : n2 ≤ 2000000) (hn3 : n3 ≤ 2000000) (hx : SlX w B ⟨X1, n1, c1, X2, n2, c2, X3, n3, c3⟩ x)
    (k0 : w.cell? ⟨gx, 0, none⟩ = some (.slice X1 n1 c1)) (k1 : w.cell? ⟨gx, 1, none⟩ = some (.slice X2 n2 c2)) (k2 : w.cell? ⟨gx, 2, none⟩ = some (.slice X3 n3 c3)) :
    Calls Tryz.prog 43 #[.pointer (some ⟨gx, 0, none⟩)] w fun r w' => ∃ A1 d1 A2 d2 A3 d3, r = .returned (.agg #[.slice A1 n1 d1, .slice A2 n2 d2, .slice A3 n3 d3]) ∧ OwnX w' w.heap.size ⟨A1, n1, d1, A2, n2, d2, A3, n3, d3⟩ x ∧ Below w.heap.size w w' := by
  obtain ⟨i0, hi, hz0, hz1, hz2⟩ := info_parts str_info
  obtain ⟨j0, hj, hy0, hy1, hy2⟩ := info_parts Way_info
  have lg := World.block_lt_of_cell? _ _ k0
  simp only at lg
  obtain ⟨W0, hW0⟩ : ∃ W0, W0 = w.alloc (.cells #[.slice none 0 0, .slice none 0 0, .slice none 0 0] 25) := ⟨_, rfl⟩
  have b0 : Below w.heap.size w W0 := by rw [hW0]; exact (Below.refl _ _).alloc (Nat.le_refl _) _
  have d0 : W0.cell? ⟨w.heap.size, 0, none⟩ = some (.slice none 0 0) := by rw [hW0]; go_simp
  have d1 : W0.cell? ⟨w.heap.size, 1, none⟩ = some (.slice none 0 0) := by rw [hW0]; go_simp
  have d2 : W0.cell? ⟨w.heap.size, 2, none⟩ = some (.slice none 0 0) := by rw [hW0]; go_simp
  have f0 : W0.frozen? ⟨w.heap.size, 0, none⟩ = false := by rw [hW0]; go_simp
  have f1 : W0.frozen? ⟨w.heap.size, 1, none⟩ = false := by rw [hW0]; go_simp
  have f2 : W0.frozen? ⟨w.heap.size, 2, none⟩ = false := by rw [hW0]; go_simp
  have z0 : w.heap.size < W0.heap.size := World.block_lt_of_cell? _ _ d0
  have HW := hid hW0
  clear hW0
  have x1 := hx.st.below (b0.mono hB)
  have x2 := hx.rm.below (b0.mono hB)
  have x3 := hx.wy.below (b0.mono hB)
  simp only at x1 x2 x3
  have N1 := hid (fun (W : World) (h : Below W0.heap.size W0 W) => news_strs (x1.below (h.mono (Nat.le_trans hB b0.size))))
  have N2 := hid (fun (W : World) (h : Below W0.heap.size W0 W) => news_strs (x2.below (h.mono (Nat.le_trans hB b0.size))))
  have N3 := hid (fun (W : World) (h : Below W0.heap.size W0 W) => news_ways (x3.below (h.mono (Nat.le_trans hB b0.size))))
  have l1 : Hid ((x.st.flatMap encS).length = n1 * 1) := by rw [Hid, flatMap_len encS_len, x1.len]
  have l2 : Hid ((x.rm.flatMap encS).length = n2 * 1) := by rw [Hid, flatMap_len encS_len, x2.len]
  have l3 : Hid ((x.wy.flatMap encWay).length = n3 * 3) := by rw [Hid, flatMap_len encWay_len, x3.len]
  clear hx x1 x2 x3
  replace k0 := below_cell k0 b0
  replace k1 := below_cell k1 b0
  replace k2 := below_cell k2 b0
  have hcur : Below W0.heap.size W0 W0.drew := (Below.refl _ _).drew
  have kk0 := below_cell k0 hcur
  go_enter Tryz.func43, Tryz.ntmps43
  go_wp2_with fail
  rw [← HW.out]
  go_region_held_law? (fun W => W.cell? ⟨gx, 0, none⟩ = some (.slice X1 n1 c1) ∧ W.cell? ⟨gx, 1, none⟩ = some (.slice X2 n2 c2) ∧ W.cell? ⟨gx, 2, none⟩ = some (.slice X3 n3 c3))
    (first
      | (go_split_ands; exact ⟨below_cell k0 (by (first | exact hcur | exact hcur.alloc (by have h5 := hcur.size; first | exact h5 | omega | (simp; done) | (simp; omega)) _ | exact (hcur.alloc (by have h5 := hcur.size; first | exact h5 | omega | (simp; done) | (simp; omega)) _).alloc (by have h5 := hcur.size; first | exact h5 | omega | (simp; done) | (simp; omega)) _ | exact ((hcur.alloc (by have h5 := hcur.size; first | exact h5 | omega | (simp; done) | (simp; omega)) _).alloc (by have h5 := hcur.size; first | exact h5 | omega | (simp; done) | (simp; omega)) _).alloc (by have h5 := hcur.size; first | exact h5 | omega | (simp; done) | (simp; omega)) _)), below_cell k1 (by (first | exact hcur | exact hcur.alloc (by have h5 := hcur.size; first | exact h5 | omega | (simp; done) | (simp; omega)) _ | exact (hcur.alloc (by have h5 := hcur.size; first | exact h5 | omega | (simp; done) | (simp; omega)) _).alloc (by have h5 := hcur.size; first | exact h5 | omega | (simp; done) | (simp; omega)) _ | exact ((hcur.alloc (by have h5 := hcur.size; first | exact h5 | omega | (simp; done) | (simp; omega)) _).alloc (by have h5 := hcur.size; first | exact h5 | omega | (simp; done) | (simp; omega)) _).alloc (by have h5 := hcur.size; first | exact h5 | omega | (simp; done) | (simp; omega)) _)), below_cell k2 (by (first | exact hcur | exact hcur.alloc (by have h5 := hcur.size; first | exact h5 | omega | (simp; done) | (simp; omega)) _ | exact (hcur.alloc (by have h5 := hcur.size; first | exact h5 | omega | (simp; done) | (simp; omega)) _).alloc (by have h5 := hcur.size; first | exact h5 | omega | (simp; done) | (simp; omega)) _ | exact ((hcur.alloc (by have h5 := hcur.size; first | exact h5 | omega | (simp; done) | (simp; omega)) _).alloc (by have h5 := hcur.size; first | exact h5 | omega | (simp; done) | (simp; omega)) _).alloc (by have h5 := hcur.size; first | exact h5 | omega | (simp; done) | (simp; omega)) _))⟩)
      | (go_split_ands; exact ⟨(far3 (by simp only; omega)).trans (below_cell k0 hcur), (far3 (by simp only; omega)).trans (below_cell k1 hcur), (far3 (by simp only; omega)).trans (below_cell k2 hcur)⟩)
      | go_keep)
    (first
      | (refine step_append_empty (by rfl) _ _ _ (by rfl) W0.heap.size 9 i0 _ 1 16 Tryz.underlying22 hi hz0 hz1 hz2 rfl (by omega) _ (by rfl) (by ((try (first | (refine Fa _ _ ?_) | (refine Fb _ _ ?_) | (refine Fc _ _ ?_) | (refine heap_drew ?_) | (refine heap_new ?_; focus (simp; done)) | (refine (heap_old ?_).trans ?_; focus (first | omega | (simp; done) | (simp; omega))))); (try (first | (refine Fa _ _ ?_) | (refine Fb _ _ ?_) | (refine Fc _ _ ?_) | (refine heap_drew ?_) | (refine heap_new ?_; focus (simp; done)) | (refine (heap_old ?_).trans ?_; focus (first | omega | (simp; done) | (simp; omega))))); (try (first | (refine Fa _ _ ?_) | (refine Fb _ _ ?_) | (refine Fc _ _ ?_) | (refine heap_drew ?_) | (refine heap_new ?_; focus (simp; done)) | (refine (heap_old ?_).trans ?_; focus (first | omega | (simp; done) | (simp; omega))))); (try (first | (refine Fa _ _ ?_) | (refine Fb _ _ ?_) | (refine Fc _ _ ?_) | (refine heap_drew ?_) | (refine heap_new ?_; focus (simp; done)) | (refine (heap_old ?_).trans ?_; focus (first | omega | (simp; done) | (simp; omega))))); (try (first | (refine Fa _ _ ?_) | (refine Fb _ _ ?_) | (refine Fc _ _ ?_) | (refine heap_drew ?_) | (refine heap_new ?_; focus (simp; done)) | (refine (heap_old ?_).trans ?_; focus (first | omega | (simp; done) | (simp; omega))))); (try (first | (refine Fa _ _ ?_) | (refine Fb _ _ ?_) | (refine Fc _ _ ?_) | (refine heap_drew ?_) | (refine heap_new ?_; focus (simp; done)) | (refine (heap_old ?_).trans ?_; focus (first | omega | (simp; done) | (simp; omega))))))) (by have h5 := hcur.size; first | omega | (simp; done) | (simp; omega)) X1 n1 c1 (x.st.flatMap encS) (by rfl) l1.out (N1.out _ (by (first | exact hcur | exact hcur.alloc (by have h5 := hcur.size; first | exact h5 | omega | (simp; done) | (simp; omega)) _ | exact (hcur.alloc (by have h5 := hcur.size; first | exact h5 | omega | (simp; done) | (simp; omega)) _).alloc (by have h5 := hcur.size; first | exact h5 | omega | (simp; done) | (simp; omega)) _ | exact ((hcur.alloc (by have h5 := hcur.size; first | exact h5 | omega | (simp; done) | (simp; omega)) _).alloc (by have h5 := hcur.size; first | exact h5 | omega | (simp; done) | (simp; omega)) _).alloc (by have h5 := hcur.size; first | exact h5 | omega | (simp; done) | (simp; omega)) _))) (one_encS _) (by simp only [maxLen]; omega) (by omega) (by have h5 := hcur.size; first | omega | (simp; done) | (simp; omega)) ?_; intro Aa da wa oa ha ma; have Fa := fun k o => heap_below (k := k) (o := o) ha; (try replace ob := own_below (by (first | exact ob | exact ob.alloc _ | exact (ob.alloc _).alloc _ | exact ((ob.alloc _).alloc _).alloc _)) ha); (try replace oc := own_below (by (first | exact oc | exact oc.alloc _ | exact (oc.alloc _).alloc _ | exact ((oc.alloc _).alloc _).alloc _)) ha); replace hcur : Below W0.heap.size W0 wa := Below.trans (by (first | exact hcur | exact hcur.alloc (by have h5 := hcur.size; first | exact h5 | omega | (simp; done) | (simp; omega)) _ | exact (hcur.alloc (by have h5 := hcur.size; first | exact h5 | omega | (simp; done) | (simp; omega)) _).alloc (by have h5 := hcur.size; first | exact h5 | omega | (simp; done) | (simp; omega)) _ | exact ((hcur.alloc (by have h5 := hcur.size; first | exact h5 | omega | (simp; done) | (simp; omega)) _).alloc (by have h5 := hcur.size; first | exact h5 | omega | (simp; done) | (simp; omega)) _).alloc (by have h5 := hcur.size; first | exact h5 | omega | (simp; done) | (simp; omega)) _)) (ha.mono (by have h5 := hcur.size; first | omega | (simp; done) | (simp; omega))); have ya := hcur.size; have za := ha.size; (try simp at za); have e0 := below_cell d0 hcur; have e1 := below_cell d1 hcur; have e2 := below_cell d2 hcur; have g0 := below_frz d0 f0 hcur; have g1 := below_frz d1 f1 hcur; have g2 := below_frz d2 f2 hcur; clear ha)
      | (refine step_append_empty (by rfl) _ _ _ (by rfl) W0.heap.size 9 i0 _ 1 16 Tryz.underlying22 hi hz0 hz1 hz2 rfl (by omega) _ (by rfl) (by ((try (first | (refine Fa _ _ ?_) | (refine Fb _ _ ?_) | (refine Fc _ _ ?_) | (refine heap_drew ?_) | (refine heap_new ?_; focus (simp; done)) | (refine (heap_old ?_).trans ?_; focus (first | omega | (simp; done) | (simp; omega))))); (try (first | (refine Fa _ _ ?_) | (refine Fb _ _ ?_) | (refine Fc _ _ ?_) | (refine heap_drew ?_) | (refine heap_new ?_; focus (simp; done)) | (refine (heap_old ?_).trans ?_; focus (first | omega | (simp; done) | (simp; omega))))); (try (first | (refine Fa _ _ ?_) | (refine Fb _ _ ?_) | (refine Fc _ _ ?_) | (refine heap_drew ?_) | (refine heap_new ?_; focus (simp; done)) | (refine (heap_old ?_).trans ?_; focus (first | omega | (simp; done) | (simp; omega))))); (try (first | (refine Fa _ _ ?_) | (refine Fb _ _ ?_) | (refine Fc _ _ ?_) | (refine heap_drew ?_) | (refine heap_new ?_; focus (simp; done)) | (refine (heap_old ?_).trans ?_; focus (first | omega | (simp; done) | (simp; omega))))); (try (first | (refine Fa _ _ ?_) | (refine Fb _ _ ?_) | (refine Fc _ _ ?_) | (refine heap_drew ?_) | (refine heap_new ?_; focus (simp; done)) | (refine (heap_old ?_).trans ?_; focus (first | omega | (simp; done) | (simp; omega))))); (try (first | (refine Fa _ _ ?_) | (refine Fb _ _ ?_) | (refine Fc _ _ ?_) | (refine heap_drew ?_) | (refine heap_new ?_; focus (simp; done)) | (refine (heap_old ?_).trans ?_; focus (first | omega | (simp; done) | (simp; omega))))))) (by have h5 := hcur.size; first | omega | (simp; done) | (simp; omega)) X2 n2 c2 (x.rm.flatMap encS) (by rfl) l2.out (N2.out _ (by (first | exact hcur | exact hcur.alloc (by have h5 := hcur.size; first | exact h5 | omega | (simp; done) | (simp; omega)) _ | exact (hcur.alloc (by have h5 := hcur.size; first | exact h5 | omega | (simp; done) | (simp; omega)) _).alloc (by have h5 := hcur.size; first | exact h5 | omega | (simp; done) | (simp; omega)) _ | exact ((hcur.alloc (by have h5 := hcur.size; first | exact h5 | omega | (simp; done) | (simp; omega)) _).alloc (by have h5 := hcur.size; first | exact h5 | omega | (simp; done) | (simp; omega)) _).alloc (by have h5 := hcur.size; first | exact h5 | omega | (simp; done) | (simp; omega)) _))) (one_encS _) (by simp only [maxLen]; omega) (by omega) (by have h5 := hcur.size; first | omega | (simp; done) | (simp; omega)) ?_; intro Ab db wb ob hb mb; have Fb := fun k o => heap_below (k := k) (o := o) hb; (try replace oa := own_below (by (first | exact oa | exact oa.alloc _ | exact (oa.alloc _).alloc _ | exact ((oa.alloc _).alloc _).alloc _)) hb); (try replace oc := own_below (by (first | exact oc | exact oc.alloc _ | exact (oc.alloc _).alloc _ | exact ((oc.alloc _).alloc _).alloc _)) hb); replace hcur : Below W0.heap.size W0 wb := Below.trans (by (first | exact hcur | exact hcur.alloc (by have h5 := hcur.size; first | exact h5 | omega | (simp; done) | (simp; omega)) _ | exact (hcur.alloc (by have h5 := hcur.size; first | exact h5 | omega | (simp; done) | (simp; omega)) _).alloc (by have h5 := hcur.size; first | exact h5 | omega | (simp; done) | (simp; omega)) _ | exact ((hcur.alloc (by have h5 := hcur.size; first | exact h5 | omega | (simp; done) | (simp; omega)) _).alloc (by have h5 := hcur.size; first | exact h5 | omega | (simp; done) | (simp; omega)) _).alloc (by have h5 := hcur.size; first | exact h5 | omega | (simp; done) | (simp; omega)) _)) (hb.mono (by have h5 := hcur.size; first | omega | (simp; done) | (simp; omega))); have yb := hcur.size; have zb := hb.size; (try simp at zb); have e0 := below_cell d0 hcur; have e1 := below_cell d1 hcur; have e2 := below_cell d2 hcur; have g0 := below_frz d0 f0 hcur; have g1 := below_frz d1 f1 hcur; have g2 := below_frz d2 f2 hcur; clear hb)
      | (refine step_append_empty (by rfl) _ _ _ (by rfl) W0.heap.size 62 j0 _ 3 40 Tryz.underlying23 hj hy0 hy1 hy2 rfl (by omega) _ (by rfl) (by ((try (first | (refine Fa _ _ ?_) | (refine Fb _ _ ?_) | (refine Fc _ _ ?_) | (refine heap_drew ?_) | (refine heap_new ?_; focus (simp; done)) | (refine (heap_old ?_).trans ?_; focus (first | omega | (simp; done) | (simp; omega))))); (try (first | (refine Fa _ _ ?_) | (refine Fb _ _ ?_) | (refine Fc _ _ ?_) | (refine heap_drew ?_) | (refine heap_new ?_; focus (simp; done)) | (refine (heap_old ?_).trans ?_; focus (first | omega | (simp; done) | (simp; omega))))); (try (first | (refine Fa _ _ ?_) | (refine Fb _ _ ?_) | (refine Fc _ _ ?_) | (refine heap_drew ?_) | (refine heap_new ?_; focus (simp; done)) | (refine (heap_old ?_).trans ?_; focus (first | omega | (simp; done) | (simp; omega))))); (try (first | (refine Fa _ _ ?_) | (refine Fb _ _ ?_) | (refine Fc _ _ ?_) | (refine heap_drew ?_) | (refine heap_new ?_; focus (simp; done)) | (refine (heap_old ?_).trans ?_; focus (first | omega | (simp; done) | (simp; omega))))); (try (first | (refine Fa _ _ ?_) | (refine Fb _ _ ?_) | (refine Fc _ _ ?_) | (refine heap_drew ?_) | (refine heap_new ?_; focus (simp; done)) | (refine (heap_old ?_).trans ?_; focus (first | omega | (simp; done) | (simp; omega))))); (try (first | (refine Fa _ _ ?_) | (refine Fb _ _ ?_) | (refine Fc _ _ ?_) | (refine heap_drew ?_) | (refine heap_new ?_; focus (simp; done)) | (refine (heap_old ?_).trans ?_; focus (first | omega | (simp; done) | (simp; omega))))))) (by have h5 := hcur.size; first | omega | (simp; done) | (simp; omega)) X3 n3 c3 (x.wy.flatMap encWay) (by rfl) l3.out (N3.out _ (by (first | exact hcur | exact hcur.alloc (by have h5 := hcur.size; first | exact h5 | omega | (simp; done) | (simp; omega)) _ | exact (hcur.alloc (by have h5 := hcur.size; first | exact h5 | omega | (simp; done) | (simp; omega)) _).alloc (by have h5 := hcur.size; first | exact h5 | omega | (simp; done) | (simp; omega)) _ | exact ((hcur.alloc (by have h5 := hcur.size; first | exact h5 | omega | (simp; done) | (simp; omega)) _).alloc (by have h5 := hcur.size; first | exact h5 | omega | (simp; done) | (simp; omega)) _).alloc (by have h5 := hcur.size; first | exact h5 | omega | (simp; done) | (simp; omega)) _))) (one_encWay _) (by simp only [maxLen]; omega) (by omega) (by have h5 := hcur.size; first | omega | (simp; done) | (simp; omega)) ?_; intro Ac dc wc oc hc mc; have Fc := fun k o => heap_below (k := k) (o := o) hc; (try replace oa := own_below (by (first | exact oa | exact oa.alloc _ | exact (oa.alloc _).alloc _ | exact ((oa.alloc _).alloc _).alloc _)) hc); (try replace ob := own_below (by (first | exact ob | exact ob.alloc _ | exact (ob.alloc _).alloc _ | exact ((ob.alloc _).alloc _).alloc _)) hc); replace hcur : Below W0.heap.size W0 wc := Below.trans (by (first | exact hcur | exact hcur.alloc (by have h5 := hcur.size; first | exact h5 | omega | (simp; done) | (simp; omega)) _ | exact (hcur.alloc (by have h5 := hcur.size; first | exact h5 | omega | (simp; done) | (simp; omega)) _).alloc (by have h5 := hcur.size; first | exact h5 | omega | (simp; done) | (simp; omega)) _ | exact ((hcur.alloc (by have h5 := hcur.size; first | exact h5 | omega | (simp; done) | (simp; omega)) _).alloc (by have h5 := hcur.size; first | exact h5 | omega | (simp; done) | (simp; omega)) _).alloc (by have h5 := hcur.size; first | exact h5 | omega | (simp; done) | (simp; omega)) _)) (hc.mono (by have h5 := hcur.size; first | omega | (simp; done) | (simp; omega))); have yc := hcur.size; have zc := hc.size; (try simp at zc); have e0 := below_cell d0 hcur; have e1 := below_cell d1 hcur; have e2 := below_cell d2 hcur; have g0 := below_frz d0 f0 hcur; have g1 := below_frz d1 f1 hcur; have g2 := below_frz d2 f2 hcur; clear hc))
  all_goals
    go_wp2_with fail
    have q0 := set3_0 e0 (.slice Aa n1 da) (.slice Ab n2 db) (.slice Ac n3 dc)
    have q1 := set3_1 e1 (.slice Aa n1 da) (.slice Ab n2 db) (.slice Ac n3 dc)
    have q2 := set3_2 e2 (.slice Aa n1 da) (.slice Ab n2 db) (.slice Ac n3 dc)
    have nab : ∀ q, obA Aa = some q → obA Ab ≠ some q := fun q h1 h2 => by have m1 := ma q h1; have m2 := mb q h2; (try simp at m1); (try simp at m2); omega
    have nac : ∀ q, obA Aa = some q → obA Ac ≠ some q := fun q h1 h2 => by have m1 := ma q h1; have m2 := mc q h2; (try simp at m1); (try simp at m2); omega
    have nbc : ∀ q, obA Ab = some q → obA Ac ≠ some q := fun q h1 h2 => by have m1 := mb q h1; have m2 := mc q h2; (try simp at m1); (try simp at m2); omega
    refine bodyPost_ret (v := .agg #[.slice Aa n1 da, .slice Ab n2 db, .slice Ac n3 dc]) (by simp [results, Tryz.results43, go_sem, q0, q1, q2]) rfl ⟨_, _, _, _, _, _, rfl, ⟨?_, ?_, ?_, apO nab, apO nac, apO nbc⟩, bl_set3 (by omega) (b0.trans (hcur.mono b0.size))⟩
    · exact ow_set3 (fun e => by have := (oa.lt _ e).1; omega) (oa.mono (by omega))
    · exact ow_set3 (fun e => by have := (ob.lt _ e).1; omega) (ob.mono (by omega))
    · exact ow_set3 (fun e => by have := (oc.lt _ e).1; omega) (oc.mono (by omega))
end Go.Proofs.YtcgkcfmiabninaaGreatDoor
/-
  Fault: a struct of numbers: how a slice of it reads; its copies, comparisons and marks. No condition.
-/
namespace Go.Proofs.YtcgkcfmiabninaaGreatDoor
open Go.RowKit Go.ChangeShapes Go.WideShapes Go.ChangeAt Go.Deep
set_option maxHeartbeats 400000

structure Fault where
  row : Int
  kind : Int
  deriving DecidableEq
def encFault (x : Fault) : List Value := [.int .i64 x.row, .int .i64 x.kind]
theorem encFault_len (x : Fault) : (encFault x).length = 2 := rfl
theorem Sl.atFault {w : World} {B : Nat} {A : Option Addr} {n : Nat} {xs : List Fault} (h : Sl w B 2 encFault A n xs) {i : Nat} (hi : i < n) :
    ∃ x0 x1 b off, Hid (xs[i]? = some ⟨x0, x1⟩) ∧ A = some ⟨b, off, none⟩ ∧ b < B ∧ w.cell? ⟨b, off + i * 2, none⟩ = some (.int .i64 x0) ∧ w.cell? ⟨b, off + i * 2 + 1, none⟩ = some (.int .i64 x1) := by
  obtain ⟨⟨x0, x1⟩, b, off, hx, e, hb, hc⟩ := h.at_ hi
  exact ⟨x0, x1, b, off, hx, e, hb, hc 0 _ rfl, hc 1 _ rfl⟩
theorem Sl.ofFault {w : World} {B n : Nat} {A : Option Addr} {xs : List Fault} (h : Sl w B 2 encFault A n xs) {i : Nat} {x0 x1 : Int} (hx : xs[i]? = some ⟨x0, x1⟩) :
    ∃ b off, A = some ⟨b, off, none⟩ ∧ b < B ∧ w.cell? ⟨b, off + i * 2, none⟩ = some (.int .i64 x0) ∧ w.cell? ⟨b, off + i * 2 + 1, none⟩ = some (.int .i64 x1) := by
  obtain ⟨b, off, e, hb, hc⟩ := h.2 i _ hx
  exact ⟨b, off, e, hb, hc 0 _ rfl, hc 1 _ rfl⟩
theorem Sl.inFault {w : World} {B b off n : Nat} {xs : List Fault} (h : Sl w B 2 encFault (some ⟨b, off, none⟩) n xs) {i : Nat} {x0 x1 : Int} (hx : xs[i]? = some ⟨x0, x1⟩) :
    w.cell? ⟨b, off + i * 2, none⟩ = some (.int .i64 x0) ∧ w.cell? ⟨b, off + i * 2 + 1, none⟩ = some (.int .i64 x1) := by
  obtain ⟨b', off', e, _, hc⟩ := h.2 i _ hx
  injection e with e
  injection e with e1 e2
  subst e1 e2
  exact ⟨hc 0 _ rfl, hc 1 _ rfl⟩

theorem Fault_info : (Tryz.prog.info? 42).map (fun i => (i.zero, i.size, i.bytes)) = some (some (.agg #[.int .i64 0, .int .i64 0]), 2, 16) := by kernel_rfl
theorem eqFault_yes (x0 x1 : Int) (w : World) :
    Calls Tryz.prog 33 #[.agg #[.int .i64 x0, .int .i64 x1], .agg #[.int .i64 x0, .int .i64 x1]] w fun e w' => e = .returned (.bool true) ∧ Below w.heap.size w w' := by
  go_enter Tryz.func33, Tryz.ntmps33
  go_wp2
  all_goals go_ret
  all_goals refine ⟨rfl, ?_⟩
  all_goals repeat (first | with_reducible assumption | with_reducible exact Below.refl _ _ | with_reducible refine bl_drew ?_ | with_reducible refine bl_drewN ?_ | ((with_reducible refine bl_set ?_ ?_); focus (first | (simp; done) | (simp; omega) | omega)) | ((with_reducible refine bl_alloc ?_ ?_); focus (first | (simp; done) | (simp; omega) | omega)))
theorem eqFaultS_yes (A : Option Addr) (n c : Nat) (A' : Option Addr) (n' c' : Nat) (w : World) (B : Nat) (hB : B ≤ w.heap.size) (xs : List Fault) (hn : n ≤ 2000000) (hx : Sl w B 2 encFault A n xs) (hy : Sl w B 2 encFault A' n' xs) :
    Calls Tryz.prog 8 #[.slice A n c, .slice A' n' c'] w fun e w' => e = .returned (.bool true) ∧ Below w.heap.size w w' := by
  obtain rfl : n = n' := hx.len.symm.trans hy.len
  go_enter Tryz.func8, Tryz.ntmps8
  go_wp2
  go_loopw [5] (fun i w1 => ∃ k : Nat, k ≤ n ∧ i = .int .i64 k ∧ Below w.heap.size w w1) (fun i _ => n - (intOf i).toNat)
  case atStart => exact ⟨0, Nat.zero_le _, rfl, Below.refl _ _⟩
  case round =>
    obtain ⟨k, hk, rfl, hb⟩ := hrel
    by_cases hlt : k < n
    · obtain ⟨x0, x1, b, off, Hx, rfl, hbB, c0, c1⟩ := (hx.below (hb.mono hB)).atFault hlt
      obtain ⟨x0', x1', b', off', Hy, rfl, hbB', c0', c1'⟩ := (hy.below (hb.mono hB)).atFault hlt
      obtain ⟨rfl, rfl⟩ : x0 = x0' ∧ x1 = x1' := by have := Hx.out.symm.trans Hy.out; simpa using this
      clear hx hy
      go_wp2
      go_region_with (go_at_call 33; refine (eqFault_yes _ _ _).mono ?_; rintro e w' ⟨rfl, hbb⟩)
      all_goals go_wp2
      all_goals have hb2 := hb.trans (Below.mono ((Below.refl _ _).drew.trans hbb) (by simpa using hb.size))
      all_goals go_roundw
      all_goals first | exact ⟨k + 1, by omega, by go_num, hb2⟩ | exact ⟨⟨k + 1, by omega, by go_num, hb2⟩, by simp [intOf]; omega⟩ | (simp [intOf]; omega)
    · go_wp2
      go_ret
      exact ⟨rfl, hb⟩
/-- the marks of some structs, one number a field -/
def marksFault (m : Int) (n : Nat) : List Fault := (List.range n).map fun i => ⟨m + 2 * (i : Nat), m + 2 * (i : Nat) + 1⟩
theorem marksFault_succ (m : Int) (n : Nat) : marksFault m (n + 1) = marksFault m n ++ [⟨m + 2 * n, m + 2 * n + 1⟩] := by simp [marksFault, List.range_succ]
theorem marksFault_len (m : Int) (n : Nat) : (marksFault m n).length = n := by simp [marksFault]
theorem markFaultS_any (lo : Nat) (A : Option Addr) (n c : Nat) (l : List Value) (m : Int) (w : World) (hn : n ≤ 2000000) (h0 : 0 ≤ m) (h1 : m ≤ 9000000) (hown : w.ownsRow lo 42 2 (.slice A n c) n l) :
    Calls Tryz.prog 10 #[.slice A n c, .int .i64 m] w fun e w' => e = .returned (.int .i64 (m + 2 * n)) ∧ w'.ownsRow lo 42 2 (.slice A n c) n ((marksFault m n).flatMap encFault) ∧ w.grownBy w' (Value.slice A n c).ownBlock := by
  go_enter Tryz.func10, Tryz.ntmps10
  go_wp2
  go_loopw [1, 5] (fun s i w1 => ∃ k l1, k ≤ n ∧ i = .int .i64 (k : Nat) ∧ s = .int .i64 (m + 2 * (k : Nat)) ∧ w1.ownsRow lo 42 2 (.slice A n c) n l1 ∧ Pre l1 ((marksFault m k).flatMap encFault) ∧ w.grownBy w1 (Value.slice A n c).ownBlock) (fun _ i _ => n - (intOf i).toNat)
  case atStart => exact ⟨0, l, Nat.zero_le _, rfl, by go_num, hown, Pre.nil _, World.grownBy.refl _ _⟩
  case round =>
    obtain ⟨k, l1, hk, rfl, rfl, hown1, hpre, hg⟩ := hrel
    clear hown
    by_cases hlt : k < n
    · obtain ⟨g, rfl, hlo, hgs⟩ := own_some hown1 (by omega)
      obtain ⟨⟨u0, e0⟩, f0⟩ := own_at hown1 (Below.refl _ _) (k * 2) (by omega)
      obtain ⟨⟨u1, e1⟩, f1⟩ := own_at hown1 (Below.refl _ _) (k * 2 + 1) (by omega)
      go_wp2
      have hP : ((marksFault m k).flatMap encFault).length = k * 2 := by rw [flatMap_len encFault_len, marksFault_len]
      have t1 := own_set hown1 hpre (j := k * 2) hP.symm (by omega) (.int .i64 (m + 2 * (k : Nat)))
      have g1 := (hown1.stored (k * 2) (.int .i64 (m + 2 * (k : Nat)))).2
      have t2 := own_set t1.1 t1.2 (j := k * 2 + 1) (by simp [hP]) (by omega) (.int .i64 (m + 2 * (k : Nat) + 1))
      have g2 := (t1.1.stored (k * 2 + 1) (.int .i64 (m + 2 * (k : Nat) + 1))).2
      have hg2 := (hg.trans g1).trans g2
      have e9 : ((marksFault m k).flatMap encFault ++ [.int .i64 (m + 2 * (k : Nat))]) ++ [.int .i64 (m + 2 * (k : Nat) + 1)] = (marksFault m (k + 1)).flatMap encFault := by rw [marksFault_succ, List.flatMap_append]; simp [encFault]
      have s9 := t2.2
      rw [e9] at s9
      clear e9 hP
      go_roundw
      all_goals first | exact ⟨k + 1, _, by omega, by go_num, by go_num, t2.1, s9, hg2⟩ | exact ⟨⟨k + 1, _, by omega, by go_num, by go_num, t2.1, s9, hg2⟩, by simp [intOf]; omega⟩ | (simp [intOf]; omega)
    · have : k = n := by omega
      subst this
      have e := hpre.all (by rw [hown1.1, flatMap_len encFault_len, marksFault_len])
      subst e
      clear hpre
      go_wp2
      go_ret
      exact ⟨rfl, hown1, hg⟩
theorem heldFaultS_any (A : Option Addr) (n c : Nat) (m : Int) (w : World) (B : Nat) (hn : n ≤ 2000000) (h0 : 0 ≤ m) (h1 : m ≤ 9000000) (hx : Sl w B 2 encFault A n (marksFault m n)) :
    Calls Tryz.prog 12 #[.slice A n c, .int .i64 m] w fun e w' => e = .returned (.int .i64 (m + 2 * n)) ∧ Below w.heap.size w w' := by
  go_enter Tryz.func12, Tryz.ntmps12
  go_wp2
  go_loopw [1, 5] (fun s i w1 => ∃ k : Nat, k ≤ n ∧ i = .int .i64 k ∧ s = .int .i64 (m + 2 * k) ∧ w1 = w) (fun _ i _ => n - (intOf i).toNat)
  case atStart => exact ⟨0, Nat.zero_le _, rfl, by go_num, rfl⟩
  case round =>
    obtain ⟨k, hk, rfl, rfl, rfl⟩ := hrel
    by_cases hlt : k < n
    · obtain ⟨x0, x1, b, off, Hx, rfl, hbB, c0, c1⟩ := hx.atFault hlt
      obtain ⟨rfl, rfl⟩ : x0 = m + 2 * k ∧ x1 = m + 2 * k + 1 := by
        have := Hx.out
        simp only [marksFault, List.getElem?_map, List.getElem?_range hlt, Option.map_some, Option.some.injEq, Fault.mk.injEq] at this
        omega
      clear hx
      go_wp2
      go_roundw
      all_goals first | exact ⟨k + 1, by omega, by go_num, by go_num, by trivial⟩ | exact ⟨⟨k + 1, by omega, by go_num, by go_num, by trivial⟩, by simp [intOf]; omega⟩ | (simp [intOf]; omega)
    · have : k = n := by omega
      subst this
      go_wp2
      go_ret
      exact ⟨rfl, Below.refl _ _⟩
end Go.Proofs.YtcgkcfmiabninaaGreatDoor
