/-
  FS: texts STubeS, SVal, SValS, SMet, SCode, PDel, one behind the other. No condition but what each says.
-/
import Derived.Test.YtcgkcfmiabninaaGreatDoorFS03
import Derived.Deep.RegionLaw
import Derived.Lib.SliceRun
import Derived.OwnWalk
/-
  Schemes: a way is added to a scheme of one's own. No condition.
-/
namespace Go.Proofs.YtcgkcfmiabninaaGreatDoor
open Go.RowKit
set_option maxHeartbeats 400000

set_option maxHeartbeats 4000000 in
set_option maxRecDepth 100000 in
theorem l21Tube_any (gs lo B0 : Nat) (s : SV) (x : Sch) (f t : ByteArray) (m : Int) (w : World) (hg0 : B0 ≤ gs) (hlo : B0 ≤ lo) (hlw : lo ≤ w.heap.size) (hl : x.st.length ≤ 20) (hl3 : x.wy.length ≤ 60) (h : XAt w gs lo s x) :
    Calls Tryz.prog 61 #[.pointer (some ⟨gs, 0, none⟩), .agg #[.string f, .string t, .int .i64 m]] w (AddPost gs lo B0 w (wyF x.st x.wy ⟨f, t, m⟩) (addWy x ⟨f, t, m⟩)) := by
  obtain ⟨A1, n1, c1, A2, n2, c2, A3, n3, c3⟩ := s
  obtain ⟨ln1, ln2, ln3⟩ := h.len
  simp only at ln1 ln2 ln3
  obtain ⟨W0, hW0⟩ : ∃ W0, W0 = w.alloc (.cells #[.string f, .string t, .int .i64 m] 62) := ⟨_, rfl⟩
  have b0 : Below w.heap.size w W0 := by rw [hW0]; exact (Below.refl _ _).alloc (Nat.le_refl _) _
  have b0B : Below B0 w W0 := b0.mono (by omega)
  have d0 : W0.cell? ⟨w.heap.size, 0, none⟩ = some (.string f) := by rw [hW0]; go_simp
  have d1 : W0.cell? ⟨w.heap.size, 1, none⟩ = some (.string t) := by rw [hW0]; go_simp
  have d2 : W0.cell? ⟨w.heap.size, 2, none⟩ = some (.int .i64 m) := by rw [hW0]; go_simp
  have HW := hid hW0
  clear hW0
  have hlt := h.lt
  have hlr : Hid (∀ b, (Value.slice A3 n3 c3).ownBlock = some b → lo ≤ b ∧ b < w.heap.size) := h.own.wy.lt
  have h0 := h.below b0
  have z0 := b0.size
  have k0 := h0.k0
  have k2 := h0.k2
  simp only at k0 k2
  have hsl := h0.own.sl
  have g1 := fun z W h => l21Has_any A1 n1 c1 x.st z W W0.heap.size (by omega) h
  have g4 := fun W => l00In_any m 1 2000 W
  have g5 := fun W h k => l21Way_any gs A3 n3 c3 x.wy f t W W0.heap.size (by omega) h k
  have e5 : hasW x.wy f t = decide (0 ≤ findFrom (wayIs f t) 0 x.wy) := (findFrom_any _ _ _).symm
  have hsst := hsl.st
  have hswy := hsl.wy
  have HE5 := hid e5
  clear e5
  have q3 := bs_eq (x := f) (y := t)
  have E : Hid (wyF x.st x.wy ⟨f, t, m⟩ = if hasS x.st f then if hasS x.st t then if decide (f = t) then 7 else if inR m 1 2000 then if hasW x.wy f t then 5 else if n3 < 60 then 0 else 8 else 4 else 6 else 6) := by
    simp only [Hid, wyF, decide_eq_true_eq, ← ln3]
  have EA := hid (show addWy x ⟨f, t, m⟩ = if wyF x.st x.wy ⟨f, t, m⟩ = 0 then ⟨x.st, x.rm, x.wy ++ [⟨f, t, m⟩]⟩ else x from rfl)
  have Ln := hid ln3
  generalize hasS x.st = PS at g1 E
  obtain ⟨p1, hp1⟩ : ∃ p1, PS f = p1 := ⟨_, rfl⟩
  obtain ⟨p2, hp2⟩ : ∃ p2, PS t = p2 := ⟨_, rfl⟩
  rw [hp1, hp2] at E
  generalize decide (f = t) = p3 at q3 E
  generalize inR m 1 2000 = p4 at g4 E
  generalize hasW x.wy f t = p5 at HE5 E
  generalize findFrom (wayIs f t) 0 x.wy = v5 at g5 HE5
  obtain ⟨i0, hi, hz0, hz1, hz2⟩ := info_parts Way_info
  have hr := h0.own.wy
  simp only at hr
  have q9 : (Value.slice A3 n3 c3).ownBlock ≠ some gs := h0.o3
  have hn60 : n3 ≤ 60 := by omega
  have fz := h0.f2
  have lg := h0.lt
  have Hh := hid h0
  have HR := hid hr
  clear h h0 ln1 ln2 ln3 hsl hr
  cases p1 with
  | false =>
    go_enter Tryz.func61, Tryz.ntmps61
    go_wp2_with fail
    rw [← HW.out]
    go_quiet ((go_at_call 75; exact Calls.quiet_of_same (g1 _ _ hsst)))
    have b1 := below_drewN (Below.refl W0.heap.size W0) nq
    replace k2 := below_cell k2 b1
    replace d0 := below_cell d0 b1
    replace d1 := below_cell d1 b1
    replace d2 := below_cell d2 b1
    replace fz := below_frz (v := .slice A3 n3 c3) (p := ⟨gs, 2, none⟩) (Hh.out.k2) fz b1
    replace hswy := hswy.below b1
    have z1 := b1.size
    generalize W0.drewN nq = W1 at *
    go_wp2_with (first | (go_at_call 52; refine (g4 _).mono ?_; rintro r w1 ⟨rfl, e⟩; replace e := e.symm; subst e) | (go_at_call 77; refine (g5 _ hswy k2).mono ?_; rintro r w1 ⟨rfl, e⟩; replace e := e.symm; subst e))
    go_ret
    exact ⟨retI (by rw [E.out]; simp), ⟨_, by rw [EA.out, if_neg (by rw [E.out]; simp)]; exact Hh.out.below b1⟩, b0B.trans (b1.mono (by omega))⟩
  | true =>
    cases p2 with
    | false =>
      go_enter Tryz.func61, Tryz.ntmps61
      go_wp2_with fail
      rw [← HW.out]
      go_quiet ((go_at_call 75; exact Calls.quiet_of_same (g1 _ _ hsst)))
      have b1 := below_drewN (Below.refl W0.heap.size W0) nq
      replace k2 := below_cell k2 b1
      replace d0 := below_cell d0 b1
      replace d1 := below_cell d1 b1
      replace d2 := below_cell d2 b1
      replace fz := below_frz (v := .slice A3 n3 c3) (p := ⟨gs, 2, none⟩) (Hh.out.k2) fz b1
      replace hswy := hswy.below b1
      have z1 := b1.size
      generalize W0.drewN nq = W1 at *
      go_wp2_with (first | (go_at_call 52; refine (g4 _).mono ?_; rintro r w1 ⟨rfl, e⟩; replace e := e.symm; subst e) | (go_at_call 77; refine (g5 _ hswy k2).mono ?_; rintro r w1 ⟨rfl, e⟩; replace e := e.symm; subst e))
      go_ret
      exact ⟨retI (by rw [E.out]; simp), ⟨_, by rw [EA.out, if_neg (by rw [E.out]; simp)]; exact Hh.out.below b1⟩, b0B.trans (b1.mono (by omega))⟩
    | true =>
      cases p3 with
      | true =>
        go_enter Tryz.func61, Tryz.ntmps61
        go_wp2_with fail
        rw [← HW.out]
        go_quiet ((go_at_call 75; exact Calls.quiet_of_same (g1 _ _ hsst)))
        have b1 := below_drewN (Below.refl W0.heap.size W0) nq
        replace k2 := below_cell k2 b1
        replace d0 := below_cell d0 b1
        replace d1 := below_cell d1 b1
        replace d2 := below_cell d2 b1
        replace fz := below_frz (v := .slice A3 n3 c3) (p := ⟨gs, 2, none⟩) (Hh.out.k2) fz b1
        replace hswy := hswy.below b1
        have z1 := b1.size
        generalize W0.drewN nq = W1 at *
        go_wp2_with (first | (go_at_call 52; refine (g4 _).mono ?_; rintro r w1 ⟨rfl, e⟩; replace e := e.symm; subst e) | (go_at_call 77; refine (g5 _ hswy k2).mono ?_; rintro r w1 ⟨rfl, e⟩; replace e := e.symm; subst e))
        go_ret
        exact ⟨retI (by rw [E.out]; simp), ⟨_, by rw [EA.out, if_neg (by rw [E.out]; simp)]; exact Hh.out.below b1⟩, b0B.trans (b1.mono (by omega))⟩
      | false =>
        cases p4 with
        | false =>
          go_enter Tryz.func61, Tryz.ntmps61
          go_wp2_with fail
          rw [← HW.out]
          go_quiet ((go_at_call 75; exact Calls.quiet_of_same (g1 _ _ hsst)))
          have b1 := below_drewN (Below.refl W0.heap.size W0) nq
          replace k2 := below_cell k2 b1
          replace d0 := below_cell d0 b1
          replace d1 := below_cell d1 b1
          replace d2 := below_cell d2 b1
          replace fz := below_frz (v := .slice A3 n3 c3) (p := ⟨gs, 2, none⟩) (Hh.out.k2) fz b1
          replace hswy := hswy.below b1
          have z1 := b1.size
          generalize W0.drewN nq = W1 at *
          go_wp2_with (first | (go_at_call 52; refine (g4 _).mono ?_; rintro r w1 ⟨rfl, e⟩; replace e := e.symm; subst e) | (go_at_call 77; refine (g5 _ hswy k2).mono ?_; rintro r w1 ⟨rfl, e⟩; replace e := e.symm; subst e))
          go_ret
          exact ⟨retI (by rw [E.out]; simp), ⟨_, by rw [EA.out, if_neg (by rw [E.out]; simp)]; exact Hh.out.below b1⟩, b0B.trans (b1.mono (by omega))⟩
        | true =>
          cases p5 with
          | true =>
            have hv5 : 0 ≤ v5 := by have := HE5.out; simpa using this.symm
            go_enter Tryz.func61, Tryz.ntmps61
            go_wp2_with fail
            rw [← HW.out]
            go_quiet ((go_at_call 75; exact Calls.quiet_of_same (g1 _ _ hsst)))
            have b1 := below_drewN (Below.refl W0.heap.size W0) nq
            replace k2 := below_cell k2 b1
            replace d0 := below_cell d0 b1
            replace d1 := below_cell d1 b1
            replace d2 := below_cell d2 b1
            replace fz := below_frz (v := .slice A3 n3 c3) (p := ⟨gs, 2, none⟩) (Hh.out.k2) fz b1
            replace hswy := hswy.below b1
            have z1 := b1.size
            generalize W0.drewN nq = W1 at *
            go_wp2_with (first | (go_at_call 52; refine (g4 _).mono ?_; rintro r w1 ⟨rfl, e⟩; replace e := e.symm; subst e) | (go_at_call 77; refine (g5 _ hswy k2).mono ?_; rintro r w1 ⟨rfl, e⟩; replace e := e.symm; subst e))
            go_ret
            exact ⟨retI (by rw [E.out]; simp), ⟨_, by rw [EA.out, if_neg (by rw [E.out]; simp)]; exact Hh.out.below b1⟩, b0B.trans (b1.mono (by omega))⟩
          | false =>
            have hv5 : ¬ 0 ≤ v5 := by have := HE5.out; simpa using this.symm
            by_cases hlt60 : n3 < 60
            · have hne : ((n3 : Int) == 60) = false := by simp; omega
              have E0 : Hid (wyF x.st x.wy ⟨f, t, m⟩ = 0) := by rw [Hid, E.out]; simp; omega
              have EX : Hid (addWy x ⟨f, t, m⟩ = ⟨x.st, x.rm, x.wy ++ [⟨f, t, m⟩]⟩) := by rw [Hid, EA.out, if_pos E0.out]
              clear E EA
              go_enter Tryz.func61, Tryz.ntmps61
              go_wp2_with fail
              rw [← HW.out]
              go_quiet ((go_at_call 75; exact Calls.quiet_of_same (g1 _ _ hsst)))
              have b1 := below_drewN (Below.refl W0.heap.size W0) nq
              replace k2 := below_cell k2 b1
              replace d0 := below_cell d0 b1
              replace d1 := below_cell d1 b1
              replace d2 := below_cell d2 b1
              replace fz := below_frz (v := .slice A3 n3 c3) (p := ⟨gs, 2, none⟩) (Hh.out.k2) fz b1
              replace hswy := hswy.below b1
              have z1 := b1.size
              generalize W0.drewN nq = W1 at *
              go_wp2_with (first | (go_at_call 52; refine (g4 _).mono ?_; rintro r w1 ⟨rfl, e⟩; replace e := e.symm; subst e) | (go_at_call 77; refine (g5 _ hswy k2).mono ?_; rintro r w1 ⟨rfl, e⟩; replace e := e.symm; subst e))
              have h5 := hid (Hh.out.below b1)
              have hr5 := own_below HR.out b1
              have l5 : gs < W1.heap.size := h5.out.lt
              have l6 : w.heap.size < W1.heap.size := World.block_lt_of_cell? _ _ d0
              go_region_law ((refine step_append_lies _ (by rfl) _ _ _ (by rfl) lo 62 i0 _ 3 40 Tryz.underlying23 hi hz0 hz1 hz2 rfl (by omega) (.slice A3 n3 c3) n3 (x.wy.flatMap encWay) (by rfl) ((ow_drew hr5).alloc _) ⟨W1.heap.size, 0, none⟩ 1 1 [.string f, .string t, .int .i64 m] (by rfl) (by rfl) (World.news_of_block (cs := #[.string f, .string t, .int .i64 m]) (t := 62) (fr := (0, 0)) (heap_alloc_new W1.drew _)) (by simp [Value.oneCell']) (by omega) (by simp only [maxLen]; omega) (by omega) (by simp; omega) (W1.heap.size + 1) (by simp) ?_; intro gg cap w3 ho3 hg3 hat3 hlt3; have hgg := (gr_alloc (gr_drew (World.grownBy.refl W1 _))).trans hg3; have f3 := (hgg.frozen_far ⟨gs, 2, none⟩ l5 (fun e => q9 e.symm)).trans fz; have k3 : ∃ v, w3.cell? ⟨gs, 2, none⟩ = some v := ⟨_, hgg.cell k2 (fun e => q9 e.symm)⟩; obtain ⟨v3, k3⟩ := k3))
              all_goals
                go_wp2_with fail
                go_ret
                refine ⟨retI E0.out.symm, ⟨⟨A1, n1, c1, A2, n2, c2, some ⟨gg, 0, none⟩, n3 + 1, cap⟩, ?_⟩, ?_⟩
                · rw [EX.out]
                  exact h5.out.put3 (H := W1.heap.size + 1) hgg (by omega) hat3 (by simpa [encWay] using ho3)
                · refine bl_set hg0 ?_
                  exact ((b0B.trans (b1.mono (by omega))).drew.alloc (by simp; omega) _).grown hg3 (by simp; omega) (fun b hb => by have := (hlr.out b hb).1; omega)
            · have hne : ((n3 : Int) == 60) = true := by simp; omega
              have Hlt := hid hlt60
              go_enter Tryz.func61, Tryz.ntmps61
              go_wp2_with fail
              rw [← HW.out]
              go_quiet ((go_at_call 75; exact Calls.quiet_of_same (g1 _ _ hsst)))
              have b1 := below_drewN (Below.refl W0.heap.size W0) nq
              replace k2 := below_cell k2 b1
              replace d0 := below_cell d0 b1
              replace d1 := below_cell d1 b1
              replace d2 := below_cell d2 b1
              replace fz := below_frz (v := .slice A3 n3 c3) (p := ⟨gs, 2, none⟩) (Hh.out.k2) fz b1
              replace hswy := hswy.below b1
              have z1 := b1.size
              generalize W0.drewN nq = W1 at *
              go_wp2_with (first | (go_at_call 52; refine (g4 _).mono ?_; rintro r w1 ⟨rfl, e⟩; replace e := e.symm; subst e) | (go_at_call 77; refine (g5 _ hswy k2).mono ?_; rintro r w1 ⟨rfl, e⟩; replace e := e.symm; subst e))
              go_ret
              exact ⟨retI (by rw [E.out]; simp [Hlt.out]), ⟨_, by rw [EA.out, if_neg (by rw [E.out]; simp [Hlt.out])]; exact Hh.out.below b1⟩, b0B.trans (b1.mono (by omega))⟩
end Go.Proofs.YtcgkcfmiabninaaGreatDoor
/-
  ValidScheme: both sides. No condition.
-/
namespace Go.Proofs.YtcgkcfmiabninaaGreatDoor
open Go.RowKit
set_option maxHeartbeats 400000

set_option maxHeartbeats 4000000 in
set_option maxRecDepth 100000 in
theorem implValid_any (s : SV) (x : Sch) (w : World) (B : Nat) (hB : B ≤ w.heap.size) (hn : s.n1 ≤ 2000000 ∧ s.n2 ≤ 2000000 ∧ s.n3 ≤ 2000000) (hx : SlX w B s x) (hz : Hid (BigX x)) :
    Calls Tryz.prog 24 #[s.v] w fun r w' => r = .returned (.bool (validX x)) ∧ Below w.heap.size w w' := by
  obtain ⟨A1, n1, c1, A2, n2, c2, A3, n3, c3⟩ := s
  simp only [SV.v] at hn ⊢
  obtain ⟨hn1, hn2, hn3⟩ := hn
  obtain ⟨x1, x2, x3⟩ := hx
  simp only at x1 x2 x3
  have L1 := hid x1.len
  have L2 := hid x2.len
  have L3 := hid x3.len
  obtain ⟨W0, hW0⟩ : ∃ W0, W0 = (w.alloc (.cells #[.slice A1 n1 c1, .slice A2 n2 c2, .slice A3 n3 c3] 25)).alloc (.cells #[.slice none 0 0, .slice none 0 0, .slice none 0 0] 25) := ⟨_, rfl⟩
  have b0 : Below w.heap.size w W0 := by rw [hW0]; exact ((Below.refl _ _).alloc (Nat.le_refl _) _).alloc (by simp) _
  have z0 : W0.heap.size = w.heap.size + 2 := by rw [hW0]; simp
  have d0 : W0.cell? ⟨w.heap.size, 0, none⟩ = some (.slice A1 n1 c1) := by rw [hW0]; go_simp
  have d1 : W0.cell? ⟨w.heap.size, 1, none⟩ = some (.slice A2 n2 c2) := by rw [hW0]; go_simp
  have d2 : W0.cell? ⟨w.heap.size, 2, none⟩ = some (.slice A3 n3 c3) := by rw [hW0]; go_simp
  have X0 : XAt W0 (w.heap.size + 1) (w.heap.size + 1) ⟨none, 0, 0, none, 0, 0, none, 0, 0⟩ ⟨[], [], []⟩ := by
    refine ⟨?_, ?_, ?_, ?_, ?_, ?_, ⟨World.ownsRow_nil _ _ _ _, World.ownsRow_nil _ _ _ _, World.ownsRow_nil _ _ _ _, fun b h => by simp [Value.ownBlock] at h, fun b h => by simp [Value.ownBlock] at h, fun b h => by simp [Value.ownBlock] at h⟩, by simp [Value.ownBlock], by simp [Value.ownBlock], by simp [Value.ownBlock]⟩
    all_goals rw [hW0]
    all_goals go_simp
  have HZ1 : Hid (∀ z ∈ x.st, z.size ≤ 9223372036854775807) := hz.out.1
  have HZ2 : Hid (∀ z ∈ x.rm, z.size ≤ 9223372036854775807) := hz.out.2.1
  have V := hid (show validX x = (okL stF [] x.st && (okL (rmF x.st) [] x.rm && okL (wyF x.st) [] x.wy)) from rfl)
  have HW := hid hW0
  clear hW0 hz
  go_enter Tryz.func24, Tryz.ntmps24
  go_wp2_with fail
  rw [← HW.out]
  have bb : Below (w.heap.size + 1) W0 W0 := Below.refl _ _
  have n20 : 0 ≤ 20 := by omega
  go_loopw [5, 14] (fun _ i wl => ∃ (k : Nat) (s2 : SV), k ≤ n1 ∧ k ≤ 20 ∧ i = .int .i64 k ∧ Hid (XAt wl (w.heap.size + 1) (w.heap.size + 1) s2 ⟨x.st.take k, [], []⟩) ∧ Hid (okL stF [] x.st = okL stF (x.st.take k) (x.st.drop k)) ∧ Below (w.heap.size + 1) W0 wl) (fun _ i _ => n1 - (intOf i).toNat)
  case atStart => exact ⟨0, _, Nat.zero_le _, Nat.zero_le _, rfl, X0, rfl, bb⟩
  case round =>
    obtain ⟨k, s2, hk, hk2, rfl, hX, he, hb⟩ := hrel
    have zb := hb.size
    have e0 : wr.cell? ⟨w.heap.size, 0, none⟩ = some (.slice A1 n1 c1) := (hb.cell (by simp)).trans d0
    have e1 : wr.cell? ⟨w.heap.size, 1, none⟩ = some (.slice A2 n2 c2) := (hb.cell (by simp)).trans d1
    have e2 : wr.cell? ⟨w.heap.size, 2, none⟩ = some (.slice A3 n3 c3) := (hb.cell (by simp)).trans d2
    have hbB : Below B w wr := (b0.trans (hb.mono (by omega))).mono hB
    have hbw : Below w.heap.size w wr := b0.trans (hb.mono (by omega))
    by_cases hlt : k < n1
    · obtain ⟨z, b, off, Hz, rfl, hbb, l0⟩ := (x1.below hbB).str hlt
      have hzs := HZ1.out z (List.mem_of_getElem? Hz.out)
      have he2 := he.out
      rw [okL_at Hz.out] at he2
      have TA := hid (take_at Hz.out)
      have TL : Hid ((x.st.take k).length = k) := by rw [Hid, List.length_take]; have := L1.out; omega
      have hi0 : (0 : Int) ≤ (k : Int) := by omega
      have hi1 : (k : Int) < (n1 : Int) := by omega
      have hc := addStation_any (w.heap.size + 1) (w.heap.size + 1) (w.heap.size + 1) s2 ⟨x.st.take k, [], []⟩ z wr (by omega) (by omega) (by omega) hzs (by rw [TL.out]; exact hk2) hX.out
      by_cases hf : stF (x.st.take k) z = 0
      · have He : Hid (okL stF [] x.st = okL stF (x.st.take (k + 1)) (x.st.drop (k + 1))) := by rw [Hid, he2, hf]; rfl
        have hk3 : k + 1 ≤ 20 := by have := stF_zero hf; rw [TL.out] at this; omega
        have EX : Hid (addSt ⟨x.st.take k, [], []⟩ z = ⟨x.st.take (k + 1), [], []⟩) := by rw [Hid, addSt]; simp only [hf, if_true, TA.out]
        simp only [hf] at hc
        clear he he2 hf x1 x2 x3 hX
        go_wp2_with fail
        refine hc.mono ?_
        rintro r w6 ⟨rfl, ⟨s6, hX6⟩, b6⟩
        rw [EX.out] at hX6
        have HX6 := hid hX6
        clear hX6
        have hb6 := hb.trans b6
        go_wp2_with fail
        go_roundw
        all_goals first | exact ⟨k + 1, s6, by omega, hk3, by go_num, HX6, He, hb6⟩ | exact ⟨⟨k + 1, s6, by omega, hk3, by go_num, HX6, He, hb6⟩, by simp [intOf]; omega⟩ | (simp [intOf]; omega)
      · have Ev : Hid (validX x = false) := by
          rw [Hid, V.out, he2, decide_eq_false hf]; rfl
        obtain ⟨q, hq⟩ : ∃ q, stF (x.st.take k) z = q := ⟨_, rfl⟩
        rw [hq] at hf
        have hq1 : (q == 0) = false := by simpa using hf
        have hq2 : (q != 0) = true := by simpa using hf
        simp only [hq] at hc
        clear he he2 hf hq x1 x2 x3 hX
        go_wp2_with fail
        refine hc.mono ?_
        rintro r w6 ⟨rfl, _, b6⟩
        go_wp2_with fail
        go_ret
        exact ⟨retB Ev.out.symm, hbw.trans (b6.mono (by omega))⟩
    · have hkn : k = n1 := by omega
      subst hkn
      have TE : Hid (x.st.take k = x.st) := List.take_of_length_le (by rw [L1.out]; exact Nat.le_refl _)
      have Eo1 : Hid (okL stF [] x.st = true) := by rw [Hid, he.out]; exact okL_end (by rw [L1.out]; exact Nat.le_refl _)
      have hX2 := hX.out
      rw [TE.out] at hX2
      have X1 := hid hX2
      clear hX hX2 he
      have n20 : x.st.length ≤ 20 := by rw [L1.out]; exact hk2
      have bb := hb
      clear zb hb hbB hbw hlt hk hk2
      go_wp2_with fail
      obtain ⟨wq, hwq⟩ : ∃ wq : World, wq = wr := ⟨_, rfl⟩
      subst hwq
      go_loopw [7, 25] (fun _ i wl => ∃ (k : Nat) (s2 : SV), k ≤ n2 ∧ i = .int .i64 k ∧ Hid (XAt wl (w.heap.size + 1) (w.heap.size + 1) s2 ⟨x.st, x.rm.take k, []⟩) ∧ Hid (okL (rmF x.st) [] x.rm = okL (rmF x.st) (x.rm.take k) (x.rm.drop k)) ∧ Below (w.heap.size + 1) W0 wl) (fun _ i _ => n2 - (intOf i).toNat)
      case atStart => exact ⟨0, _, Nat.zero_le _, rfl, (by simpa [Hid] using X1.out), rfl, bb⟩
      case round =>
        obtain ⟨k, s2, hk, rfl, hX, he, hb⟩ := hrel
        clear bb
        have zb := hb.size
        have e1 : wr.cell? ⟨w.heap.size, 1, none⟩ = some (.slice A2 n2 c2) := (hb.cell (by simp)).trans d1
        have e2 : wr.cell? ⟨w.heap.size, 2, none⟩ = some (.slice A3 n3 c3) := (hb.cell (by simp)).trans d2
        have hbB : Below B w wr := (b0.trans (hb.mono (by omega))).mono hB
        have hbw : Below w.heap.size w wr := b0.trans (hb.mono (by omega))
        by_cases hlt : k < n2
        · obtain ⟨z, b, off, Hz, rfl, hbb, l0⟩ := (x2.below hbB).str hlt
          have hzs := HZ2.out z (List.mem_of_getElem? Hz.out)
          have he2 := he.out
          rw [okL_at Hz.out] at he2
          have TA := hid (take_at Hz.out)
          have TL : Hid ((x.rm.take k).length = k) := by rw [Hid, List.length_take]; have := L2.out; omega
          have hi0 : (0 : Int) ≤ (k : Int) := by omega
          have hi1 : (k : Int) < (n2 : Int) := by omega
          have hc := addRoom_any (w.heap.size + 1) (w.heap.size + 1) (w.heap.size + 1) s2 ⟨x.st, x.rm.take k, []⟩ z wr (by omega) (by omega) (by omega) hzs n20 (by rw [TL.out]; omega) hX.out
          by_cases hf : rmF x.st (x.rm.take k) z = 0
          · have He : Hid (okL (rmF x.st) [] x.rm = okL (rmF x.st) (x.rm.take (k + 1)) (x.rm.drop (k + 1))) := by rw [Hid, he2, hf]; rfl
            have EX : Hid (addRm ⟨x.st, x.rm.take k, []⟩ z = ⟨x.st, x.rm.take (k + 1), []⟩) := by rw [Hid, addRm]; simp only [hf, if_true, TA.out]
            simp only [hf] at hc
            clear he he2 hf x1 x2 x3 hX
            go_wp2_with fail
            refine hc.mono ?_
            rintro r w6 ⟨rfl, ⟨s6, hX6⟩, b6⟩
            rw [EX.out] at hX6
            have HX6 := hid hX6
            clear hX6
            have hb6 := hb.trans b6
            go_wp2_with fail
            go_roundw
            all_goals first | exact ⟨k + 1, s6, by omega, by go_num, HX6, He, hb6⟩ | exact ⟨⟨k + 1, s6, by omega, by go_num, HX6, He, hb6⟩, by simp [intOf]; omega⟩ | (simp [intOf]; omega)
          · have Ev : Hid (validX x = false) := by
              rw [Hid, V.out, he2, decide_eq_false hf]; simp
            obtain ⟨q, hq⟩ : ∃ q, rmF x.st (x.rm.take k) z = q := ⟨_, rfl⟩
            rw [hq] at hf
            have hq1 : (q == 0) = false := by simpa using hf
            have hq2 : (q != 0) = true := by simpa using hf
            simp only [hq] at hc
            clear he he2 hf hq x1 x2 x3 hX
            go_wp2_with fail
            refine hc.mono ?_
            rintro r w6 ⟨rfl, _, b6⟩
            go_wp2_with fail
            go_ret
            exact ⟨retB Ev.out.symm, hbw.trans (b6.mono (by omega))⟩
        · have hkn : k = n2 := by omega
          subst hkn
          have TE : Hid (x.rm.take k = x.rm) := List.take_of_length_le (by rw [L2.out]; exact Nat.le_refl _)
          have Eo2 : Hid (okL (rmF x.st) [] x.rm = true) := by rw [Hid, he.out]; exact okL_end (by rw [L2.out]; exact Nat.le_refl _)
          have hX2 := hX.out
          rw [TE.out] at hX2
          have X2 := hid hX2
          clear hX hX2 he
          have bb := hb
          clear zb hb hbB hbw hlt hk
          go_wp2_with fail
          obtain ⟨wq, hwq⟩ : ∃ wq : World, wq = wr := ⟨_, rfl⟩
          subst hwq
          go_loopw [9, 36] (fun _ i wl => ∃ (k : Nat) (s2 : SV), k ≤ n3 ∧ k ≤ 60 ∧ i = .int .i64 k ∧ Hid (XAt wl (w.heap.size + 1) (w.heap.size + 1) s2 ⟨x.st, x.rm, x.wy.take k⟩) ∧ Hid (okL (wyF x.st) [] x.wy = okL (wyF x.st) (x.wy.take k) (x.wy.drop k)) ∧ Below (w.heap.size + 1) W0 wl) (fun _ i _ => n3 - (intOf i).toNat)
          case atStart => exact ⟨0, _, Nat.zero_le _, Nat.zero_le _, rfl, (by simpa [Hid] using X2.out), rfl, bb⟩
          case round =>
            obtain ⟨k, s2, hk, hk2, rfl, hX, he, hb⟩ := hrel
            clear bb
            have zb := hb.size
            have e2 : wr.cell? ⟨w.heap.size, 2, none⟩ = some (.slice A3 n3 c3) := (hb.cell (by simp)).trans d2
            have hbB : Below B w wr := (b0.trans (hb.mono (by omega))).mono hB
            have hbw : Below w.heap.size w wr := b0.trans (hb.mono (by omega))
            by_cases hlt : k < n3
            · obtain ⟨f, t, m, b, off, Hz, rfl, hbb, l0, l1, l2⟩ := (x3.below hbB).atWay hlt
              have he2 := he.out
              rw [okL_at Hz.out] at he2
              have TA := hid (take_at Hz.out)
              have TL : Hid ((x.wy.take k).length = k) := by rw [Hid, List.length_take]; have := L3.out; omega
              have hi0 : (0 : Int) ≤ (k : Int) := by omega
              have hi1 : (k : Int) < (n3 : Int) := by omega
              obtain ⟨W5, hW5⟩ : ∃ W5, W5 = wr.alloc (.cells #[.string f, .string t, .int .i64 m] 62) := ⟨_, rfl⟩
              have b5 : Below wr.heap.size wr W5 := by rw [hW5]; exact (Below.refl _ _).alloc (Nat.le_refl _) _
              have z5 := b5.size
              have HW5 := hid hW5
              have hc := addWay_any (w.heap.size + 1) (w.heap.size + 1) (w.heap.size + 1) s2 ⟨x.st, x.rm, x.wy.take k⟩ f t m W5 (by omega) (by omega) (by omega) n20 (by rw [TL.out]; exact hk2) (hX.out.below b5)
              have hb5 : Below (w.heap.size + 1) W0 W5 := hb.trans (b5.mono (by omega))
              have hbw5 : Below w.heap.size w W5 := hbw.trans (b5.mono hbw.size)
              clear hW5
              by_cases hf : wyF x.st (x.wy.take k) ⟨f, t, m⟩ = 0
              · have He : Hid (okL (wyF x.st) [] x.wy = okL (wyF x.st) (x.wy.take (k + 1)) (x.wy.drop (k + 1))) := by rw [Hid, he2, hf]; rfl
                have hk3 : k + 1 ≤ 60 := by have := (wyF_zero hf).1; rw [TL.out] at this; omega
                have EX : Hid (addWy ⟨x.st, x.rm, x.wy.take k⟩ ⟨f, t, m⟩ = ⟨x.st, x.rm, x.wy.take (k + 1)⟩) := by rw [Hid, addWy]; simp only [hf, if_true, TA.out]
                simp only [hf] at hc
                clear he he2 hf x1 x2 x3 hX
                go_wp2_with fail
                rw [← HW5.out]
                refine hc.mono ?_
                rintro r w6 ⟨rfl, ⟨s6, hX6⟩, b6⟩
                rw [EX.out] at hX6
                have HX6 := hid hX6
                clear hX6
                have hb6 := hb5.trans b6
                go_wp2_with fail
                go_roundw
                all_goals first | exact ⟨k + 1, s6, by omega, hk3, by go_num, HX6, He, hb6⟩ | exact ⟨⟨k + 1, s6, by omega, hk3, by go_num, HX6, He, hb6⟩, by simp [intOf]; omega⟩ | (simp [intOf]; omega)
              · have Ev : Hid (validX x = false) := by
                  rw [Hid, V.out, he2, decide_eq_false hf]; simp
                obtain ⟨q, hq⟩ : ∃ q, wyF x.st (x.wy.take k) ⟨f, t, m⟩ = q := ⟨_, rfl⟩
                rw [hq] at hf
                have hq1 : (q == 0) = false := by simpa using hf
                have hq2 : (q != 0) = true := by simpa using hf
                simp only [hq] at hc
                clear he he2 hf hq x1 x2 x3 hX
                go_wp2_with fail
                rw [← HW5.out]
                refine hc.mono ?_
                rintro r w6 ⟨rfl, _, b6⟩
                go_wp2_with fail
                go_ret
                exact ⟨retB Ev.out.symm, hbw5.trans (b6.mono (by omega))⟩
            · have hkn : k = n3 := by omega
              subst hkn
              have TE : Hid (x.wy.take k = x.wy) := List.take_of_length_le (by rw [L3.out]; exact Nat.le_refl _)
              have Eo3 : Hid (okL (wyF x.st) [] x.wy = true) := by rw [Hid, he.out]; exact okL_end (by rw [L3.out]; exact Nat.le_refl _)
              have hX2 := hX.out
              rw [TE.out] at hX2
              have X3 := hid hX2
              clear hX hX2 he
              have Ev : Hid (validX x = true) := by rw [Hid, V.out, Eo1.out, Eo2.out, Eo3.out]; rfl
              clear x1 x2 x3
              go_wp2_with fail
              go_ret
              exact ⟨retB Ev.out.symm, hbw⟩
end Go.Proofs.YtcgkcfmiabninaaGreatDoor
/-
  ValidScheme: both sides. No condition.
-/
namespace Go.Proofs.YtcgkcfmiabninaaGreatDoor
open Go.RowKit
set_option maxHeartbeats 400000

theorem l21Empty_any (w : World) : Calls Tryz.prog 26 #[] w fun r w' => r = .returned (.agg #[.slice (some ⟨w.heap.size + 1, 0, none⟩) 0 0, .slice (some ⟨w.heap.size + 2, 0, none⟩) 0 0, .slice (some ⟨w.heap.size + 3, 0, none⟩) 0 0]) ∧
    OwnX w' w.heap.size ⟨some ⟨w.heap.size + 1, 0, none⟩, 0, 0, some ⟨w.heap.size + 2, 0, none⟩, 0, 0, some ⟨w.heap.size + 3, 0, none⟩, 0, 0⟩ ⟨[], [], []⟩ ∧ Below w.heap.size w w' := by
  go_enter Tryz.func26, Tryz.ntmps26
  go_wp2_with fail
  refine bodyPost_ret (v := .agg #[.slice (some ⟨w.heap.size + 1, 0, none⟩) 0 0, .slice (some ⟨w.heap.size + 2, 0, none⟩) 0 0, .slice (some ⟨w.heap.size + 3, 0, none⟩) 0 0]) (by simp [results, Tryz.results26, go_sem]) rfl ⟨rfl, ?_, ?_⟩
  · obtain ⟨box, hbox⟩ : ∃ box, box = Obj.cells #[.slice (some ⟨w.heap.size + 1, 0, none⟩) 0 0, .slice (some ⟨w.heap.size + 1 + 1, 0, none⟩) 0 0, .slice (some ⟨w.heap.size + 1 + 1 + 1, 0, none⟩) 0 0] 25 := ⟨_, rfl⟩
    rw [← hbox]
    have r1 := ((World.ownsRow_lit (base := w.heap.size) (e := 9) (size := 1) (w.alloc box) #[] 0 (by simp) (by simp [maxLen]) (by simp)).alloc (.cells #[] 9)).alloc (.cells #[] 62)
    have r2 := (World.ownsRow_lit (base := w.heap.size) (e := 9) (size := 1) ((w.alloc box).alloc (.cells #[] 9)) #[] 0 (by simp; omega) (by simp [maxLen]) (by simp)).alloc (.cells #[] 62)
    have r3 := World.ownsRow_lit (base := w.heap.size) (e := 62) (size := 3) (((w.alloc box).alloc (.cells #[] 9)).alloc (.cells #[] 9)) #[] 0 (by simp; omega) (by simp [maxLen]) (by simp)
    simp only [World.size_alloc] at r1 r2 r3
    exact ⟨r1, r2, r3, fun b h e => by simp [Value.ownBlock] at h e; omega, fun b h e => by simp [Value.ownBlock] at h e; omega, fun b h e => by simp [Value.ownBlock] at h e; omega⟩
  · exact ((((Below.refl _ _).alloc (Nat.le_refl _) _).alloc (by simp) _).alloc (by simp; omega) _).alloc (by simp; omega) _
set_option maxHeartbeats 4000000 in
set_option maxRecDepth 100000 in
theorem l21Ok_any (gx : Nat) (s : SV) (x : Sch) (w : World) (B : Nat) (hB : B ≤ w.heap.size) (hn : s.n1 ≤ 2000000 ∧ s.n2 ≤ 2000000 ∧ s.n3 ≤ 2000000) (hx : SlX w B s x) (hz : Hid (BigX x)) (c0 : w.cell? ⟨gx, 0, none⟩ = some (.slice s.A1 s.n1 s.c1)) (c1 : w.cell? ⟨gx, 1, none⟩ = some (.slice s.A2 s.n2 s.c2)) (c2 : w.cell? ⟨gx, 2, none⟩ = some (.slice s.A3 s.n3 s.c3)) :
    Calls Tryz.prog 47 #[.pointer (some ⟨gx, 0, none⟩)] w fun r w' => r = .returned (.bool (validX x)) ∧ Below w.heap.size w w' := by
  obtain ⟨A1, n1, k1, A2, n2, k2, A3, n3, k3⟩ := s
  simp only at hn c0 c1 c2
  obtain ⟨hn1, hn2, hn3⟩ := hn
  obtain ⟨x1, x2, x3⟩ := hx
  simp only at x1 x2 x3
  have L1 := hid x1.len
  have L2 := hid x2.len
  have L3 := hid x3.len
  have lx := World.block_lt_of_cell? _ _ c0
  simp only at lx
  have he := l21Empty_any w
  have HZ1 : Hid (∀ z ∈ x.st, z.size ≤ 9223372036854775807) := hz.out.1
  have HZ2 : Hid (∀ z ∈ x.rm, z.size ≤ 9223372036854775807) := hz.out.2.1
  have V := hid (show validX x = (okL stF [] x.st && (okL (rmF x.st) [] x.rm && okL (wyF x.st) [] x.wy)) from rfl)
  clear hz
  go_enter Tryz.func47, Tryz.ntmps47
  go_wp2_with fail
  refine he.mono ?_
  rintro r w1 ⟨rfl, oX, b1⟩
  have z1 := b1.size
  obtain ⟨W0, hW0⟩ : ∃ W0, W0 = w1.alloc (.cells #[.slice (some ⟨w.heap.size + 1, 0, none⟩) 0 0, .slice (some ⟨w.heap.size + 2, 0, none⟩) 0 0, .slice (some ⟨w.heap.size + 3, 0, none⟩) 0 0] 25) := ⟨_, rfl⟩
  have b2 : Below w1.heap.size w1 W0 := by rw [hW0]; exact (Below.refl _ _).alloc (Nat.le_refl _) _
  have b0 : Below w.heap.size w W0 := b1.trans (b2.mono b1.size)
  have z0 : W0.heap.size = w1.heap.size + 1 := by rw [hW0]; simp
  have oX2 := oX.below b2
  have lX := oX.inX
  have X0 : XAt W0 w1.heap.size w.heap.size ⟨some ⟨w.heap.size + 1, 0, none⟩, 0, 0, some ⟨w.heap.size + 2, 0, none⟩, 0, 0, some ⟨w.heap.size + 3, 0, none⟩, 0, 0⟩ ⟨[], [], []⟩ := by
    refine ⟨?_, ?_, ?_, ?_, ?_, ?_, oX2, fun e => absurd (lX _ (.inl e)).2 (Nat.lt_irrefl _), fun e => absurd (lX _ (.inr (.inl e))).2 (Nat.lt_irrefl _), fun e => absurd (lX _ (.inr (.inr e))).2 (Nat.lt_irrefl _)⟩
    all_goals rw [hW0]
    all_goals go_simp
  have HW := hid hW0
  clear hW0 oX oX2 lX
  go_wp2_with fail
  rw [← HW.out]
  have bb : Below (w.heap.size) W0 W0 := Below.refl _ _
  have n20 : 0 ≤ 20 := by omega
  go_loopw [4] (fun i wl => ∃ (k : Nat) (s2 : SV), k ≤ n1 ∧ k ≤ 20 ∧ i = .int .i64 k ∧ Hid (XAt wl (w1.heap.size) (w.heap.size) s2 ⟨x.st.take k, [], []⟩) ∧ Hid (okL stF [] x.st = okL stF (x.st.take k) (x.st.drop k)) ∧ Below (w.heap.size) W0 wl) (fun i _ => n1 - (intOf i).toNat)
  case atStart => exact ⟨0, _, Nat.zero_le _, Nat.zero_le _, rfl, X0, rfl, bb⟩
  case round =>
    obtain ⟨k, s2, hk, hk2, rfl, hX, he, hb⟩ := hrel
    have zb := hb.size
    have e0 : wr.cell? ⟨gx, 0, none⟩ = some (.slice A1 n1 k1) := (hb.cell (by simpa using lx)).trans (below_cell c0 b0)
    have e1 : wr.cell? ⟨gx, 1, none⟩ = some (.slice A2 n2 k2) := (hb.cell (by simpa using lx)).trans (below_cell c1 b0)
    have e2 : wr.cell? ⟨gx, 2, none⟩ = some (.slice A3 n3 k3) := (hb.cell (by simpa using lx)).trans (below_cell c2 b0)
    have hbB : Below B w wr := (b0.trans hb).mono hB
    have hbw : Below w.heap.size w wr := b0.trans hb
    by_cases hlt : k < n1
    · obtain ⟨z, b, off, Hz, rfl, hbb, l0⟩ := (x1.below hbB).str hlt
      have hzs := HZ1.out z (List.mem_of_getElem? Hz.out)
      have he2 := he.out
      rw [okL_at Hz.out] at he2
      have TA := hid (take_at Hz.out)
      have TL : Hid ((x.st.take k).length = k) := by rw [Hid, List.length_take]; have := L1.out; omega
      have hi0 : (0 : Int) ≤ (k : Int) := by omega
      have hi1 : (k : Int) < (n1 : Int) := by omega
      have hc := l21Station_any (w1.heap.size) (w.heap.size) (w.heap.size) s2 ⟨x.st.take k, [], []⟩ z wr (by omega) (by omega) (by omega) hzs (by rw [TL.out]; exact hk2) hX.out
      by_cases hf : stF (x.st.take k) z = 0
      · have He : Hid (okL stF [] x.st = okL stF (x.st.take (k + 1)) (x.st.drop (k + 1))) := by rw [Hid, he2, hf]; rfl
        have hk3 : k + 1 ≤ 20 := by have := stF_zero hf; rw [TL.out] at this; omega
        have EX : Hid (addSt ⟨x.st.take k, [], []⟩ z = ⟨x.st.take (k + 1), [], []⟩) := by rw [Hid, addSt]; simp only [hf, if_true, TA.out]
        simp only [hf] at hc
        clear he he2 hf x1 x2 x3 hX
        go_wp2_with fail
        refine hc.mono ?_
        rintro r w6 ⟨rfl, ⟨s6, hX6⟩, b6⟩
        rw [EX.out] at hX6
        have HX6 := hid hX6
        clear hX6
        have hb6 := hb.trans b6
        go_wp2_with fail
        go_roundw
        all_goals first | exact ⟨k + 1, s6, by omega, hk3, by go_num, HX6, He, hb6⟩ | exact ⟨⟨k + 1, s6, by omega, hk3, by go_num, HX6, He, hb6⟩, by simp [intOf]; omega⟩ | (simp [intOf]; omega)
      · have Ev : Hid (validX x = false) := by
          rw [Hid, V.out, he2, decide_eq_false hf]; rfl
        obtain ⟨q, hq⟩ : ∃ q, stF (x.st.take k) z = q := ⟨_, rfl⟩
        rw [hq] at hf
        have hq1 : (q == 0) = false := by simpa using hf
        have hq2 : (q != 0) = true := by simpa using hf
        simp only [hq] at hc
        clear he he2 hf hq x1 x2 x3 hX
        go_wp2_with fail
        refine hc.mono ?_
        rintro r w6 ⟨rfl, _, b6⟩
        go_wp2_with fail
        go_ret
        exact ⟨retB Ev.out.symm, hbw.trans (b6.mono (by omega))⟩
    · have hkn : k = n1 := by omega
      subst hkn
      have TE : Hid (x.st.take k = x.st) := List.take_of_length_le (by rw [L1.out]; exact Nat.le_refl _)
      have Eo1 : Hid (okL stF [] x.st = true) := by rw [Hid, he.out]; exact okL_end (by rw [L1.out]; exact Nat.le_refl _)
      have hX2 := hX.out
      rw [TE.out] at hX2
      have X1 := hid hX2
      clear hX hX2 he
      have n20 : x.st.length ≤ 20 := by rw [L1.out]; exact hk2
      have bb := hb
      clear zb hb hbB hbw hlt hk hk2
      go_wp2_with fail
      obtain ⟨wq, hwq⟩ : ∃ wq : World, wq = wr := ⟨_, rfl⟩
      subst hwq
      go_loopw [5] (fun i wl => ∃ (k : Nat) (s2 : SV), k ≤ n2 ∧ i = .int .i64 k ∧ Hid (XAt wl (w1.heap.size) (w.heap.size) s2 ⟨x.st, x.rm.take k, []⟩) ∧ Hid (okL (rmF x.st) [] x.rm = okL (rmF x.st) (x.rm.take k) (x.rm.drop k)) ∧ Below (w.heap.size) W0 wl) (fun i _ => n2 - (intOf i).toNat)
      case atStart => exact ⟨0, _, Nat.zero_le _, rfl, (by simpa [Hid] using X1.out), rfl, bb⟩
      case round =>
        obtain ⟨k, s2, hk, rfl, hX, he, hb⟩ := hrel
        clear bb
        have zb := hb.size
        have e1 : wr.cell? ⟨gx, 1, none⟩ = some (.slice A2 n2 k2) := (hb.cell (by simpa using lx)).trans (below_cell c1 b0)
        have e2 : wr.cell? ⟨gx, 2, none⟩ = some (.slice A3 n3 k3) := (hb.cell (by simpa using lx)).trans (below_cell c2 b0)
        have hbB : Below B w wr := (b0.trans hb).mono hB
        have hbw : Below w.heap.size w wr := b0.trans hb
        by_cases hlt : k < n2
        · obtain ⟨z, b, off, Hz, rfl, hbb, l0⟩ := (x2.below hbB).str hlt
          have hzs := HZ2.out z (List.mem_of_getElem? Hz.out)
          have he2 := he.out
          rw [okL_at Hz.out] at he2
          have TA := hid (take_at Hz.out)
          have TL : Hid ((x.rm.take k).length = k) := by rw [Hid, List.length_take]; have := L2.out; omega
          have hi0 : (0 : Int) ≤ (k : Int) := by omega
          have hi1 : (k : Int) < (n2 : Int) := by omega
          have hc := l21Room_any (w1.heap.size) (w.heap.size) (w.heap.size) s2 ⟨x.st, x.rm.take k, []⟩ z wr (by omega) (by omega) (by omega) hzs n20 (by rw [TL.out]; omega) hX.out
          by_cases hf : rmF x.st (x.rm.take k) z = 0
          · have He : Hid (okL (rmF x.st) [] x.rm = okL (rmF x.st) (x.rm.take (k + 1)) (x.rm.drop (k + 1))) := by rw [Hid, he2, hf]; rfl
            have EX : Hid (addRm ⟨x.st, x.rm.take k, []⟩ z = ⟨x.st, x.rm.take (k + 1), []⟩) := by rw [Hid, addRm]; simp only [hf, if_true, TA.out]
            simp only [hf] at hc
            clear he he2 hf x1 x2 x3 hX
            go_wp2_with fail
            refine hc.mono ?_
            rintro r w6 ⟨rfl, ⟨s6, hX6⟩, b6⟩
            rw [EX.out] at hX6
            have HX6 := hid hX6
            clear hX6
            have hb6 := hb.trans b6
            go_wp2_with fail
            go_roundw
            all_goals first | exact ⟨k + 1, s6, by omega, by go_num, HX6, He, hb6⟩ | exact ⟨⟨k + 1, s6, by omega, by go_num, HX6, He, hb6⟩, by simp [intOf]; omega⟩ | (simp [intOf]; omega)
          · have Ev : Hid (validX x = false) := by
              rw [Hid, V.out, he2, decide_eq_false hf]; simp
            obtain ⟨q, hq⟩ : ∃ q, rmF x.st (x.rm.take k) z = q := ⟨_, rfl⟩
            rw [hq] at hf
            have hq1 : (q == 0) = false := by simpa using hf
            have hq2 : (q != 0) = true := by simpa using hf
            simp only [hq] at hc
            clear he he2 hf hq x1 x2 x3 hX
            go_wp2_with fail
            refine hc.mono ?_
            rintro r w6 ⟨rfl, _, b6⟩
            go_wp2_with fail
            go_ret
            exact ⟨retB Ev.out.symm, hbw.trans (b6.mono (by omega))⟩
        · have hkn : k = n2 := by omega
          subst hkn
          have TE : Hid (x.rm.take k = x.rm) := List.take_of_length_le (by rw [L2.out]; exact Nat.le_refl _)
          have Eo2 : Hid (okL (rmF x.st) [] x.rm = true) := by rw [Hid, he.out]; exact okL_end (by rw [L2.out]; exact Nat.le_refl _)
          have hX2 := hX.out
          rw [TE.out] at hX2
          have X2 := hid hX2
          clear hX hX2 he
          have bb := hb
          clear zb hb hbB hbw hlt hk
          go_wp2_with fail
          obtain ⟨wq, hwq⟩ : ∃ wq : World, wq = wr := ⟨_, rfl⟩
          subst hwq
          go_loopw [6] (fun i wl => ∃ (k : Nat) (s2 : SV), k ≤ n3 ∧ k ≤ 60 ∧ i = .int .i64 k ∧ Hid (XAt wl (w1.heap.size) (w.heap.size) s2 ⟨x.st, x.rm, x.wy.take k⟩) ∧ Hid (okL (wyF x.st) [] x.wy = okL (wyF x.st) (x.wy.take k) (x.wy.drop k)) ∧ Below (w.heap.size) W0 wl) (fun i _ => n3 - (intOf i).toNat)
          case atStart => exact ⟨0, _, Nat.zero_le _, Nat.zero_le _, rfl, (by simpa [Hid] using X2.out), rfl, bb⟩
          case round =>
            obtain ⟨k, s2, hk, hk2, rfl, hX, he, hb⟩ := hrel
            clear bb
            have zb := hb.size
            have e2 : wr.cell? ⟨gx, 2, none⟩ = some (.slice A3 n3 k3) := (hb.cell (by simpa using lx)).trans (below_cell c2 b0)
            have hbB : Below B w wr := (b0.trans hb).mono hB
            have hbw : Below w.heap.size w wr := b0.trans hb
            by_cases hlt : k < n3
            · obtain ⟨f, t, m, b, off, Hz, rfl, hbb, l0, l1, l2⟩ := (x3.below hbB).atWay hlt
              have he2 := he.out
              rw [okL_at Hz.out] at he2
              have TA := hid (take_at Hz.out)
              have TL : Hid ((x.wy.take k).length = k) := by rw [Hid, List.length_take]; have := L3.out; omega
              have hi0 : (0 : Int) ≤ (k : Int) := by omega
              have hi1 : (k : Int) < (n3 : Int) := by omega
              have hc := l21Tube_any (w1.heap.size) (w.heap.size) (w.heap.size) s2 ⟨x.st, x.rm, x.wy.take k⟩ f t m wr (by omega) (by omega) (by omega) n20 (by rw [TL.out]; exact hk2) hX.out
              by_cases hf : wyF x.st (x.wy.take k) ⟨f, t, m⟩ = 0
              · have He : Hid (okL (wyF x.st) [] x.wy = okL (wyF x.st) (x.wy.take (k + 1)) (x.wy.drop (k + 1))) := by rw [Hid, he2, hf]; rfl
                have hk3 : k + 1 ≤ 60 := by have := (wyF_zero hf).1; rw [TL.out] at this; omega
                have EX : Hid (addWy ⟨x.st, x.rm, x.wy.take k⟩ ⟨f, t, m⟩ = ⟨x.st, x.rm, x.wy.take (k + 1)⟩) := by rw [Hid, addWy]; simp only [hf, if_true, TA.out]
                simp only [hf] at hc
                clear he he2 hf x1 x2 x3 hX
                go_wp2_with fail
                refine hc.mono ?_
                rintro r w6 ⟨rfl, ⟨s6, hX6⟩, b6⟩
                rw [EX.out] at hX6
                have HX6 := hid hX6
                clear hX6
                have hb6 := hb.trans b6
                go_wp2_with fail
                go_roundw
                all_goals first | exact ⟨k + 1, s6, by omega, hk3, by go_num, HX6, He, hb6⟩ | exact ⟨⟨k + 1, s6, by omega, hk3, by go_num, HX6, He, hb6⟩, by simp [intOf]; omega⟩ | (simp [intOf]; omega)
              · have Ev : Hid (validX x = false) := by
                  rw [Hid, V.out, he2, decide_eq_false hf]; simp
                obtain ⟨q, hq⟩ : ∃ q, wyF x.st (x.wy.take k) ⟨f, t, m⟩ = q := ⟨_, rfl⟩
                rw [hq] at hf
                have hq1 : (q == 0) = false := by simpa using hf
                have hq2 : (q != 0) = true := by simpa using hf
                simp only [hq] at hc
                clear he he2 hf hq x1 x2 x3 hX
                go_wp2_with fail
                refine hc.mono ?_
                rintro r w6 ⟨rfl, _, b6⟩
                go_wp2_with fail
                go_ret
                exact ⟨retB Ev.out.symm, hbw.trans (b6.mono (by omega))⟩
            · have hkn : k = n3 := by omega
              subst hkn
              have TE : Hid (x.wy.take k = x.wy) := List.take_of_length_le (by rw [L3.out]; exact Nat.le_refl _)
              have Eo3 : Hid (okL (wyF x.st) [] x.wy = true) := by rw [Hid, he.out]; exact okL_end (by rw [L3.out]; exact Nat.le_refl _)
              have hX2 := hX.out
              rw [TE.out] at hX2
              have X3 := hid hX2
              clear hX hX2 he
              have Ev : Hid (validX x = true) := by rw [Hid, V.out, Eo1.out, Eo2.out, Eo3.out]; rfl
              clear x1 x2 x3
              go_wp2_with fail
              go_ret
              exact ⟨retB Ev.out.symm, hbw⟩
theorem specValid_any (s : SV) (x : Sch) (w : World) (B : Nat) (hB : B ≤ w.heap.size) (hn : s.n1 ≤ 2000000 ∧ s.n2 ≤ 2000000 ∧ s.n3 ≤ 2000000) (hx : SlX w B s x) (hz : Hid (BigX x)) :
    Calls Tryz.prog 25 #[s.v] w fun r w' => r = .returned (.bool (validX x)) ∧ Below w.heap.size w w' := by
  obtain ⟨A1, n1, c1, A2, n2, c2, A3, n3, c3⟩ := s
  simp only [SV.v] at hn ⊢
  obtain ⟨W0, hW0⟩ : ∃ W0, W0 = w.alloc (.cells #[.slice A1 n1 c1, .slice A2 n2 c2, .slice A3 n3 c3] 25) := ⟨_, rfl⟩
  have b0 : Below w.heap.size w W0 := by rw [hW0]; exact (Below.refl _ _).alloc (Nat.le_refl _) _
  have hc := l21Ok_any w.heap.size ⟨A1, n1, c1, A2, n2, c2, A3, n3, c3⟩ x W0 B (Nat.le_trans hB b0.size) hn (hx.below (b0.mono hB)) hz (by rw [hW0]; go_simp) (by rw [hW0]; go_simp) (by rw [hW0]; go_simp)
  have HW := hid hW0
  generalize validX x = v at hc
  clear hW0 hx hz
  go_enter Tryz.func25, Tryz.ntmps25
  go_wp2_with fail
  rw [← HW.out]
  refine hc.mono ?_
  rintro r w1 ⟨rfl, b1⟩
  go_wp2_with fail
  go_ret
  exact ⟨rfl, b0.trans (b1.mono b0.size)⟩
end Go.Proofs.YtcgkcfmiabninaaGreatDoor
/-
  ValidScheme, MetresOf: both sides. No condition.
-/
namespace Go.Proofs.YtcgkcfmiabninaaGreatDoor
open Go.RowKit
set_option maxHeartbeats 400000

theorem implValidScheme_any (s : SV) (x : Sch) (w : World) (B : Nat) (hB : B ≤ w.heap.size) (hn : s.n1 ≤ 2000000 ∧ s.n2 ≤ 2000000 ∧ s.n3 ≤ 2000000) (hx : SlX w B s x) (hz : Hid (BigX x)) :
    Calls Tryz.prog 24 #[s.v] w fun r w' => r = .returned (.bool (validX x)) ∧ Below w.heap.size w w' := implValid_any s x w B hB hn hx hz
theorem specValidScheme_any (s : SV) (x : Sch) (w : World) (B : Nat) (hB : B ≤ w.heap.size) (hn : s.n1 ≤ 2000000 ∧ s.n2 ≤ 2000000 ∧ s.n3 ≤ 2000000) (hx : SlX w B s x) (hz : Hid (BigX x)) :
    Calls Tryz.prog 25 #[s.v] w fun r w' => r = .returned (.bool (validX x)) ∧ Below w.heap.size w w' := specValid_any s x w B hB hn hx hz
end Go.Proofs.YtcgkcfmiabninaaGreatDoor
/-
  Schemes: what a valid one fulfils; the code of a scheme and a name; places in a list. No condition.
-/
namespace Go.Proofs.YtcgkcfmiabninaaGreatDoor
open Go.RowKit
set_option maxHeartbeats 400000

theorem Span.cell {lo hi : Nat} {a w : World} {p : Addr} {v : Value} (h : Span lo hi a w) (hp : ¬ (lo ≤ p.block ∧ p.block < hi)) (hc : a.cell? p = some v) : w.cell? p = some v :=
  (World.cell?_of_block (h.block p.block (World.block_lt_of_cell? _ _ hc) hp)).trans hc
theorem okL_mem {α : Type} {f : List α → α → Int} : ∀ (xs p : List α), okL f p xs = true → ∀ (k : Nat) (x : α), xs[k]? = some x → f (p ++ xs.take k) x = 0 := by
  intro xs
  induction xs with
  | nil => intro p _ k x h; simp at h
  | cons y r ih =>
    intro p h k x hx
    simp only [okL, Bool.and_eq_true, decide_eq_true_eq] at h
    cases k with
    | zero => simp at hx; subst hx; simpa using h.1
    | succ k =>
      have := ih (p ++ [y]) h.2 k x (by simpa using hx)
      simpa using this
theorem validX_way {x : Sch} (h : validX x = true) {k : Nat} {y : Way} (hy : x.wy[k]? = some y) : 1 ≤ y.metres ∧ y.metres ≤ 2000 ∧ k < 60 := by
  simp only [validX, Bool.and_eq_true] at h
  have h1 := wyF_zero (okL_mem _ _ h.2.2 k y hy)
  have h2 : k < x.wy.length := (List.getElem?_eq_some_iff.1 hy).1
  simp only [List.nil_append, List.length_take] at h1
  omega
theorem validX_wyl {x : Sch} (h : validX x = true) : x.wy.length ≤ 60 := by
  rcases Nat.lt_or_ge 60 x.wy.length with hl | hl
  · have := (validX_way h (k := 60) (List.getElem?_eq_getElem hl)).2.2
    omega
  · exact hl
theorem validX_stl {x : Sch} (h : validX x = true) : x.st.length ≤ 20 := by
  rcases Nat.lt_or_ge 20 x.st.length with hl | hl
  · simp only [validX, Bool.and_eq_true] at h
    have h1 := stF_zero (okL_mem _ _ h.1 20 _ (List.getElem?_eq_getElem hl))
    simp only [List.nil_append, List.length_take] at h1
    omega
  · exact hl

/-- the places of those that fulfil p, among the first k -/
def idxF {α : Type} (p : α → Bool) (xs : List α) : Nat → List Int
  | 0 => []
  | k + 1 => match xs[k]? with
    | some x => if p x then idxF p xs k ++ [(k : Int)] else idxF p xs k
    | none => idxF p xs k
theorem idxF_yes {α : Type} {p : α → Bool} {xs : List α} {k : Nat} {x : α} (h : xs[k]? = some x) (hp : p x = true) : idxF p xs (k + 1) = idxF p xs k ++ [(k : Int)] := by simp [idxF, h, hp]
theorem idxF_no {α : Type} {p : α → Bool} {xs : List α} {k : Nat} {x : α} (h : xs[k]? = some x) (hp : p x = false) : idxF p xs (k + 1) = idxF p xs k := by simp [idxF, h, hp]
theorem idxF_len {α : Type} (p : α → Bool) (xs : List α) : ∀ k, (idxF p xs k).length ≤ k := by
  intro k
  induction k with
  | zero => simp [idxF]
  | succ k ih =>
    simp only [idxF]
    split
    · split
      · simp; omega
      · omega
    · omega
/-- a list of numbers and a code -/
def IPost (w : World) (R : List Int × Int) (r : Ending) (w' : World) : Prop :=
  ∃ A n c, r = .returned (.tuple #[.slice A n c, .int .i64 R.2]) ∧ w'.ownsRow w.heap.size 2 1 (.slice A n c) n (R.1.flatMap encI) ∧ Below w.heap.size w w'
theorem IPost.bad {w w' : World} {R : List Int × Int} {z : Int} (hR : R = ([], z)) (hb : Below w.heap.size w w') : IPost w R (.returned (.tuple #[.slice none 0 0, .int .i64 z])) w' := by
  subst hR
  exact ⟨none, 0, 0, rfl, World.ownsRow_nil _ _ _ _, hb⟩
theorem snocIx (xs : List Int) (z : Int) : xs.flatMap encI ++ [.int .i64 z] = (xs ++ [z]).flatMap encI := by simp [encI]

def codeX (x : Sch) (z : ByteArray) : Int := if validX x then if hasS x.st z then 0 else 3 else 1
end Go.Proofs.YtcgkcfmiabninaaGreatDoor
/-
  slices.Delete of one place of a row of numbers that the caller owns. No condition.
-/
namespace Go.Proofs.YtcgkcfmiabninaaGreatDoor
open Go.RowKit
set_option maxHeartbeats 400000

/-- some cells written from a place on -/
def setL {α : Type} (l : List α) : Nat → List α → List α
  | _, [] => l
  | o, v :: r => setL (l.set o v) (o + 1) r
theorem setL_len {α : Type} : ∀ (vs : List α) (l : List α) (o : Nat), (setL l o vs).length = l.length := by
  intro vs
  induction vs with
  | nil => intro l o; rfl
  | cons v r ih => intro l o; rw [setL, ih]; simp
theorem setL_eq {α : Type} : ∀ (vs : List α) (l : List α) (o : Nat), o + vs.length ≤ l.length → setL l o vs = l.take o ++ vs ++ l.drop (o + vs.length) := by
  intro vs
  induction vs with
  | nil => intro l o _; simp [setL]
  | cons v r ih =>
    intro l o h
    simp only [List.length_cons] at h
    rw [setL, ih _ _ (by simp; omega)]
    rw [List.take_set, List.drop_set, if_pos (by omega)]
    have h1 : (l.take (o + 1)).set o v = l.take o ++ [v] := by
      rw [List.take_add_one, List.getElem?_eq_getElem (by omega)]
      simp only [Option.toList_some]
      rw [List.set_append_right _ _ (by simp; omega)]
      have : o - (l.take o).length = 0 := by simp; omega
      rw [this]
      rfl
    rw [h1, show o + 1 + r.length = o + (r.length + 1) by omega]
    simp
theorem own_setCells {lo T k g n c : Nat} : ∀ (vs : List Value) (o : Nat) (w : World) (l : List Value), w.ownsRow lo T k (.slice (some ⟨g, 0, none⟩) n c) n l →
    (w.setCells g o vs).ownsRow lo T k (.slice (some ⟨g, 0, none⟩) n c) n (setL l o vs) ∧ w.grownBy (w.setCells g o vs) (some g) := by
  intro vs
  induction vs with
  | nil => intro o w l h; exact ⟨h, World.grownBy.refl _ _⟩
  | cons v r ih =>
    intro o w l h
    obtain ⟨h1, h2⟩ := h.stored o v
    obtain ⟨h3, h4⟩ := ih (o + 1) _ _ h1
    exact ⟨h3, h2.trans h4⟩
theorem own_shrink {w : World} {lo T k g n c m : Nat} {l : List Value} (h : w.ownsRow lo T k (.slice (some ⟨g, 0, none⟩) n c) n l) (hm : m ≤ n) : w.ownsRow lo T k (.slice (some ⟨g, 0, none⟩) m c) m (l.take (m * k)) := by
  have hmk : m * k ≤ n * k := Nat.mul_le_mul_right k hm
  refine ⟨by rw [List.length_take, h.1]; omega, ?_⟩
  rcases h.2 with ⟨h', _⟩ | ⟨g', cap', cur, h', hb, hg, hnc, hcm, hcs, htake⟩
  · simp at h'
  · simp only [Value.slice.injEq, Option.some.injEq, Addr.mk.injEq, and_true, true_and] at h'
    obtain ⟨rfl, rfl⟩ := h'
    refine .inr ⟨g, c, cur, rfl, hb, hg, by omega, hcm, hcs, ?_⟩
    rw [← htake, List.take_take]
    congr 1
    omega
theorem enc_map (xs : List Int) : xs.flatMap encI = xs.map (Value.int .i64) := by
  induction xs with
  | nil => rfl
  | cons x r ih => simp [encI, ih]
theorem del_list (xs : List Int) (i : Nat) (hi : i < xs.length) :
    (setL (setL (xs.flatMap encI) i ((xs.drop (i + 1)).flatMap encI)) (xs.length - 1) [.int .i64 0]).take ((xs.length - 1) * 1) = (xs.eraseIdx i).flatMap encI := by
  simp only [enc_map]
  have hl : (xs.map (Value.int .i64)).length = xs.length := by simp
  rw [setL_eq _ _ _ (by rw [setL_len]; simp; omega), setL_eq _ _ _ (by simp; omega)]
  have h1 : ((xs.map (Value.int .i64)).take i ++ (xs.drop (i + 1)).map (Value.int .i64)).length = xs.length - 1 := by simp; omega
  rw [Nat.mul_one, List.append_assoc, List.take_append_of_le_length (by simp; omega), List.take_of_length_le (by simp; omega), List.take_append_of_le_length (by rw [h1]; omega), List.take_of_length_le (by rw [h1]; omega), List.eraseIdx_eq_take_drop_succ]
  simp
end Go.Proofs.YtcgkcfmiabninaaGreatDoor
