/-
  Raised tariffs: the program's side. No condition.
-/
import Derived.Test.YtbgpdaclaknapaaTRaise
namespace Go.Proofs.Ytbgpdaclaknapaa
open Go.RowKit
set_option maxHeartbeats 400000

theorem raiseFn_any (a p : Int) (gp go : Nat) (w : World) (hm : w.cell? ⟨gp, go, none⟩ = some (.int .i64 p)) (hp0 : 0 ≤ p) (hp1 : p ≤ 100) (a0 : 0 ≤ a) (a1 : a ≤ 100000) :
    Calls Try.prog 54 #[.int .i64 a, .pointer (some ⟨gp, go, none⟩)] w fun r w' => r = .returned (.int .i64 (raised p a)) ∧ w' = w := by
  obtain ⟨z1, z2⟩ := raised_in hp0 hp1 a0 a1
  have hR := roundedUp_any (a * (100 + p)) 100 w (by omega) (by omega) (by omega) (by omega)
  have E : (a * (100 + p) + 100 - 1).tdiv 100 = raised p a := by unfold raised upTo; congr 1; omega
  rw [E] at hR
  clear E z2
  go_enter Try.func54, Try.ntmps54
  go_wp2_with (go_at_call 51; refine hR.mono ?_; rintro r w1 ⟨rfl, rfl⟩)
  go_ret
  exact ⟨rfl, rfl⟩
set_option maxHeartbeats 20000000 in
set_option maxRecDepth 100000 in
theorem implRaiseTariff_any (A : Option Addr) (n c : Nat) (xs : List Step) (h e p : Int) (w : World) (B : Nat) (hB : B ≤ w.heap.size) (hn : n ≤ 2000000) (hx : Sl w B 2 encStep A n xs) :
    Calls Try.prog 24 #[.agg #[.slice A n c, .int .i64 h, .int .i64 e], .int .i64 p] w (RaisePost w (raiseT xs h e p)) := by
  have hol := hx.len
  obtain ⟨wa, hwa⟩ : ∃ wa, wa = (((w.alloc (.cells #[.slice A n c, .int .i64 h, .int .i64 e] 30)).alloc (.cells #[.int .i64 p] 2)).alloc (.cells #[.slice none 0 0, .int .i64 0, .int .i64 0] 30)) := ⟨_, rfl⟩
  have hbw : Below w.heap.size w wa := by rw [hwa]; exact (((Below.refl _ _).alloc (Nat.le_refl _) _).alloc (by simp) _).alloc (by simp; omega) _
  have k0 : wa.cell? ⟨w.heap.size, 0, none⟩ = some (.slice A n c) := by rw [hwa]; go_simp
  have k1 : wa.cell? ⟨w.heap.size, 1, none⟩ = some (.int .i64 h) := by rw [hwa]; go_simp
  have k2 : wa.cell? ⟨w.heap.size, 2, none⟩ = some (.int .i64 e) := by rw [hwa]; go_simp
  have kp : wa.cell? ⟨w.heap.size + 1, 0, none⟩ = some (.int .i64 p) := by rw [hwa]; go_simp
  have u0 : wa.cell? ⟨w.heap.size + 2, 0, none⟩ = some (.slice none 0 0) := by rw [hwa]; go_simp
  have u1 : wa.cell? ⟨w.heap.size + 2, 1, none⟩ = some (.int .i64 0) := by rw [hwa]; go_simp
  have u2 : wa.cell? ⟨w.heap.size + 2, 2, none⟩ = some (.int .i64 0) := by rw [hwa]; go_simp
  have v0 : wa.frozen? ⟨w.heap.size + 2, 0, none⟩ = false := by rw [hwa]; go_simp
  have v1 : wa.frozen? ⟨w.heap.size + 2, 1, none⟩ = false := by rw [hwa]; go_simp
  have v2 : wa.frozen? ⟨w.heap.size + 2, 2, none⟩ = false := by rw [hwa]; go_simp
  have kz : wa.heap.size = w.heap.size + 3 := by rw [hwa]; simp
  have hc := ValidTariff_any A n c xs h e wa B (Nat.le_trans hB hbw.size) hn (hx.below (hbw.mono hB))
  have hx2 := hx.below (hbw.mono hB)
  have hBz := Nat.le_trans hB hbw.size
  clear hx
  cases hv : validT ⟨xs, h, e⟩ with
  | false =>
    have E : Hid (raiseT xs h e p = ([], 0, 0, 1)) := by simp [Hid, raiseT, hv]
    rw [hv] at hc
    clear hx2 hv
    subst hwa
    go_enter Try.func24, Try.ntmps24
    go_wp2_with (go_at_call 27; refine hc.mono ?_; rintro r w1 ⟨rfl, b1⟩; replace u0 := below_cell u0 b1; replace u1 := below_cell u1 b1; replace u2 := below_cell u2 b1; replace v0 := below_frz v0 (by simp) b1; replace v1 := below_frz v1 (by simp) b1; replace v2 := below_frz v2 (by simp) b1)
    refine bodyPost_ret (v := .tuple #[.agg #[.slice none 0 0, .int .i64 0, .int .i64 0], .int .i64 1]) (by simp [results, Try.results24, go_sem, u0, u1, u2]) rfl (RaisePost.bad E.out ?_)
    have hb1 := hbw.trans (b1.mono hbw.size)
    repeat (first | with_reducible assumption | with_reducible exact Below.refl _ _ | with_reducible refine bl_drew ?_ | with_reducible refine bl_drewN ?_ | ((with_reducible refine bl_set ?_ ?_); focus (first | (simp; done) | (simp; omega) | omega)) | ((with_reducible refine bl_alloc ?_ ?_); focus (first | (simp; done) | (simp; omega) | omega)))
  | true =>
    rw [hv] at hc
    cases hp : inR p 0 100 with
    | false =>
      have E : Hid (raiseT xs h e p = ([], 0, 0, 2)) := by simp [Hid, raiseT, hv, hp]
      have hi := within_any p 0 100
      rw [hp] at hi
      clear hx2 hv hp
      subst hwa
      go_enter Try.func24, Try.ntmps24
      go_wp2_with (first
        | (go_at_call 27; refine hc.mono ?_; rintro r w1 ⟨rfl, b1⟩; replace u0 := below_cell u0 b1; replace u1 := below_cell u1 b1; replace u2 := below_cell u2 b1; replace v0 := below_frz v0 (by simp) b1; replace v1 := below_frz v1 (by simp) b1; replace v2 := below_frz v2 (by simp) b1; replace kp := below_cell kp b1)
        | (go_at_call 53; refine (hi _).mono ?_; rintro r w1 ⟨rfl, rfl⟩))
      refine bodyPost_ret (v := .tuple #[.agg #[.slice none 0 0, .int .i64 0, .int .i64 0], .int .i64 2]) (by simp [results, Try.results24, go_sem, u0, u1, u2]) rfl (RaisePost.bad E.out ?_)
      have hb1 := hbw.trans (b1.mono hbw.size)
      repeat (first | with_reducible assumption | with_reducible exact Below.refl _ _ | with_reducible refine bl_drew ?_ | with_reducible refine bl_drewN ?_ | ((with_reducible refine bl_set ?_ ?_); focus (first | (simp; done) | (simp; omega) | omega)) | ((with_reducible refine bl_alloc ?_ ?_); focus (first | (simp; done) | (simp; omega) | omega)))
    | true =>
      have hi := within_any p 0 100
      rw [hp] at hi
      obtain ⟨hp0, hp1⟩ := inR_iff.1 hp
      obtain ⟨hss, hl0, hl1, h0, h1, e0, e1⟩ := validT_parts hv
      have Hss := hid hss
      have E : Hid (raiseT xs h e p = if validT ⟨raisedS p xs, raised p h, e⟩ then (raisedS p xs, raised p h, e, 0) else ([], 0, 0, 5)) := by simp [Hid, raiseT, hv, hp]
      obtain ⟨z1, z2⟩ := raised_in hp0 hp1 h0 h1
      clear hv hp hss
      subst hwa
      go_enter Try.func24, Try.ntmps24
      go_wp2_with (first
        | (go_at_call 27; refine hc.mono ?_; rintro r w1 ⟨rfl, b1⟩; replace u0 := below_cell u0 b1; replace u1 := below_cell u1 b1; replace u2 := below_cell u2 b1; replace v0 := below_frz v0 (by simp) b1; replace v1 := below_frz v1 (by simp) b1; replace v2 := below_frz v2 (by simp) b1; replace k0 := below_cell k0 b1; replace k1 := below_cell k1 b1; replace k2 := below_cell k2 b1; replace kp := below_cell kp b1; have lz := World.block_lt_of_cell? _ _ u0; have ly := World.block_lt_of_cell? _ _ k0; have lx := World.block_lt_of_cell? _ _ kp; simp only at lz ly lx)
        | (go_at_call 53; refine (hi _).mono ?_; rintro r w1 ⟨rfl, rfl⟩))
      go_region_held3 (fun W => W.cell? ⟨w.heap.size, 1, none⟩ = some (.int .i64 h) ∧ W.cell? ⟨w.heap.size, 2, none⟩ = some (.int .i64 e) ∧ W.cell? ⟨w.heap.size + 1, 0, none⟩ = some (.int .i64 p))
        (first
          | go_keep
          | (go_split_ands; exact ⟨by assumption, by assumption, by assumption⟩))
        (first
          | (go_at_call 54; with_reducible refine (raiseFn_any h p (w.heap.size + 1) 0 _ (by go_split_ands; assumption) hp0 hp1 h0 h1).mono ?_; rintro r w2 ⟨rfl, rfl⟩))
      all_goals
        have hbq := hbw.trans (b1.mono hbw.size)
        have hxq := hx2.below (b1.mono hBz)
        have hBq := Nat.le_trans hBz b1.size
        have hmono : w.heap.size ≤ w1.heap.size := hbq.size
        clear hx2 hBz hbw hc hi b1 k1 k2 kz
        go_wp2_with fail
        go_loopw [31] (fun i wl => ∃ (k : Nat) (Ao : Option Addr) (co : Nat), k ≤ n ∧ i = .int .i64 k ∧ wl.cell? ⟨w1.heap.size, 0, none⟩ = some (.slice Ao k co) ∧ wl.frozen? ⟨w1.heap.size, 0, none⟩ = false ∧
            wl.cell? ⟨w1.heap.size, 1, none⟩ = some (.int .i64 (raised p h)) ∧ wl.cell? ⟨w1.heap.size, 2, none⟩ = some (.int .i64 e) ∧ (Value.slice Ao k co).ownBlock ≠ some w1.heap.size ∧
            wl.ownsRow w1.heap.size 56 2 (.slice Ao k co) k ((raisedS p (xs.take k)).flatMap encStep) ∧ Below w1.heap.size w1 wl) (fun i _ => n - (intOf i).toNat)
        case atStart => exact ⟨0, none, 0, Nat.zero_le _, rfl, by go_simp, by go_simp, by go_simp, by go_simp, by simp [Value.ownBlock], World.ownsRow_nil _ _ _ _, ((Below.refl _ _).alloc (Nat.le_refl _) _).drew⟩
        case round =>
          obtain ⟨k, Ao, co, hk, rfl, m0, mf, m1, m2, hne, ho, hb⟩ := hrel
          have k0' := below_cell k0 hb
          have kp' := below_cell kp hb
          have lw := World.block_lt_of_cell? _ _ m0
          simp only at lw
          by_cases hlt : k < n
          · obtain ⟨x0, x1, b, off, Hx, rfl, hbB, c0, c1⟩ := (hxq.below (hb.mono hBq)).atStep hlt
            have hxk := Hss.out _ (List.mem_of_getElem? Hx.out)
            simp only at hxk
            have hlo := ho.lt
            obtain ⟨i0, hi, hz0, hz1, hz2⟩ := info_parts Step_info
            clear k0 u0 u1 u2 v0 v1 v2
            go_wp2_with fail
            have nP : some (w.heap.size + 1) ≠ (Value.slice Ao k co).ownBlock := fun e => by have := (hlo _ e.symm).1; omega
            have nT : some wr.heap.size ≠ (Value.slice Ao k co).ownBlock := fun e => by have := (hlo _ e.symm).2; omega
            have kpq : ((wr.alloc (.cells #[.int .i64 x0, .int .i64 x1] 56)).drew).cell? ⟨w.heap.size + 1, 0, none⟩ = some (.int .i64 p) := below_cell kp' ((Below.refl _ _).alloc (Nat.le_refl _) _).drew
            clear z1 z2 h0 h1 e0 e1
            go_region_law
              (first
                | (refine step_append_lies _ (by rfl) _ _ _ (by rfl) w1.heap.size 56 i0 _ 2 16 Try.underlying28 hi hz0 hz1 hz2 rfl (by omega) (.slice Ao k co) k _ (by rfl) (((ho.alloc _).alloc _).drew) ⟨wr.heap.size + 1, 0, none⟩ 1 1 [.int .i64 x0, .int .i64 (raised p x1)] (by rfl) (by rfl) (World.news_of_block (cs := #[.int .i64 x0, .int .i64 (raised p x1)]) (t := 56) (fr := (0, 0)) (by have hnew := heap_alloc_new (wr.alloc (.cells #[.int .i64 x0, .int .i64 x1] 56)) (.cells #[.int .i64 x0, .int .i64 (raised p x1)] 56); rw [show (wr.alloc (.cells #[.int .i64 x0, .int .i64 x1] 56)).heap.size = wr.heap.size + 1 from by simp] at hnew; exact hnew)) (by simp [Value.oneCell']) (by omega) (by simp only [maxLen]; omega) (by omega) (by simp; omega) (wr.heap.size + 2) (by simp) ?_
                   intro gg cap w3 ho3 hg3 hat3 hlt3
                   have bA : Below wr.heap.size wr (((wr.alloc (.cells #[.int .i64 x0, .int .i64 x1] 56)).alloc (.cells #[.int .i64 x0, .int .i64 (raised p x1)] 56)).drew) := (((Below.refl _ _).alloc (Nat.le_refl _) _).alloc (by simp) _).drew
                   have m03 : w3.cell? ⟨w1.heap.size, 0, none⟩ = some (.slice Ao k co) := hg3.cell (below_cell m0 bA) (Ne.symm hne)
                   have mf3 : w3.frozen? ⟨w1.heap.size, 0, none⟩ = false := (World.frozen?_of_block (hg3.block w1.heap.size (by simp; omega) (Ne.symm hne))).trans ((bA.frozen lw).trans mf)
                   have hne4 : (Value.slice (some ⟨gg, 0, none⟩) (k + 1) cap).ownBlock ≠ some w1.heap.size := by
                     rcases hat3 with h | h
                     · rw [h] at hne; exact hne
                     · simp [Value.ownBlock]; omega
                   have E3 : (raisedS p (xs.take k)).flatMap encStep ++ [.int .i64 x0, .int .i64 (raised p x1)] = (raisedS p (xs.take (k + 1))).flatMap encStep := by
                     rw [take_at Hx.out]; simp [raisedS, encStep]
                   rw [E3] at ho3
                   have m13 : w3.cell? ⟨w1.heap.size, 1, none⟩ = some (.int .i64 (raised p h)) := hg3.cell (below_cell m1 bA) (Ne.symm hne)
                   have m23 : w3.cell? ⟨w1.heap.size, 2, none⟩ = some (.int .i64 e) := hg3.cell (below_cell m2 bA) (Ne.symm hne)
                   have hb3 : Below w1.heap.size w1 w3 := (hb.trans (bA.mono hb.size)).grown hg3 (by simp; omega) (fun q hq => (hlo q hq).1)
                   have hb4 : Below w1.heap.size w1 (w3.setCell ⟨w1.heap.size, 0, none⟩ (.slice (some ⟨gg, 0, none⟩) (k + 1) cap)) := hb3.setCell (by simp) _
                   have n0 : (w3.setCell ⟨w1.heap.size, 0, none⟩ (.slice (some ⟨gg, 0, none⟩) (k + 1) cap)).cell? ⟨w1.heap.size, 0, none⟩ = some (.slice (some ⟨gg, 0, none⟩) (k + 1) cap) := World.cell?_setCell_same _ _ _ m03
                   have n1 : (w3.setCell ⟨w1.heap.size, 0, none⟩ (.slice (some ⟨gg, 0, none⟩) (k + 1) cap)).cell? ⟨w1.heap.size, 1, none⟩ = some (.int .i64 (raised p h)) := (World.cell?_setCell_other _ _ _ _ (by simp)).trans m13
                   have n2 : (w3.setCell ⟨w1.heap.size, 0, none⟩ (.slice (some ⟨gg, 0, none⟩) (k + 1) cap)).cell? ⟨w1.heap.size, 2, none⟩ = some (.int .i64 e) := (World.cell?_setCell_other _ _ _ _ (by simp)).trans m23
                   have n3 : (w3.setCell ⟨w1.heap.size, 0, none⟩ (.slice (some ⟨gg, 0, none⟩) (k + 1) cap)).frozen? ⟨w1.heap.size, 0, none⟩ = false := by simpa using mf3
                   have o4 : (w3.setCell ⟨w1.heap.size, 0, none⟩ (.slice (some ⟨gg, 0, none⟩) (k + 1) cap)).ownsRow w1.heap.size 56 2 (.slice (some ⟨gg, 0, none⟩) (k + 1) cap) (k + 1) _ := ow_set hne4 ho3
                   clear E3 m13 m23 hb3)
                | (go_simp; go_at_call 54; refine (raiseFn_any x1 p (w.heap.size + 1) 0 _ kpq hp0 hp1 hxk.2.1 hxk.2.2).mono ?_; rintro r w2 ⟨rfl, rfl⟩))
            all_goals go_wp2_with fail
            all_goals go_roundw
            all_goals first
              | exact ⟨k + 1, _, _, by omega, by go_num, n0, n3, n1, n2, hne4, o4, hb4⟩
              | (simp [intOf]; omega)
              | exact ⟨⟨k + 1, _, _, by omega, by go_num, n0, n3, n1, n2, hne4, o4, hb4⟩, by simp [intOf]; omega⟩
          · have : k = n := by omega
            subst this
            rw [List.take_of_length_le (by omega)] at ho
            have hso := own_sl encStep_len (by omega) ho
            have hc2 := ValidTariff_any Ao k co (raisedS p xs) (raised p h) e wr wr.heap.size (Nat.le_refl _) (by omega) hso
            have q0 := below_cell u0 hb
            have q1 := below_cell u1 hb
            have q2 := below_cell u2 hb
            have lm := World.block_lt_of_cell? _ _ m0
            simp only at lm
            have hbr := hbq.trans (hb.mono hmono)
            have f0' := below_frz v0 (by simp; omega) hb
            have f1' := below_frz v1 (by simp; omega) hb
            have f2' := below_frz v2 (by simp; omega) hb
            cases hv2 : validT ⟨raisedS p xs, raised p h, e⟩ with
            | false =>
              have E2 : Hid (raiseT xs h e p = ([], 0, 0, 5)) := by rw [Hid, E.out, hv2]; rfl
              rw [hv2] at hc2
              clear hso E hv2 u0 u1 u2 v0 v1 v2
              go_wp2_with (go_at_call 27; refine hc2.mono ?_; rintro r w5 ⟨rfl, b5⟩; replace q0 := below_cell q0 b5; replace q1 := below_cell q1 b5; replace q2 := below_cell q2 b5; replace f0' := below_frz f0' (by simp; omega) b5; replace f1' := below_frz f1' (by simp; omega) b5; replace f2' := below_frz f2' (by simp; omega) b5)
              refine bodyPost_ret (v := .tuple #[.agg #[.slice none 0 0, .int .i64 0, .int .i64 0], .int .i64 5]) (by simp [results, Try.results24, go_sem, q0, q1, q2]) rfl (RaisePost.bad E2.out ?_)
              have hb5 := hbr.trans (b5.mono hbr.size)
              repeat (first | with_reducible assumption | with_reducible exact Below.refl _ _ | with_reducible refine bl_drew ?_ | with_reducible refine bl_drewN ?_ | ((with_reducible refine bl_set ?_ ?_); focus (first | (simp; done) | (simp; omega) | omega)) | ((with_reducible refine bl_alloc ?_ ?_); focus (first | (simp; done) | (simp; omega) | omega)))
            | true =>
              have E2 : Hid (raiseT xs h e p = (raisedS p xs, raised p h, e, 0)) := by rw [Hid, E.out, hv2]; rfl
              rw [hv2] at hc2
              clear hso E hv2 u0 u1 u2 v0 v1 v2
              go_wp2_with (go_at_call 27; refine hc2.mono ?_; rintro r w5 ⟨rfl, b5⟩; replace q0 := below_cell q0 b5; replace q1 := below_cell q1 b5; replace q2 := below_cell q2 b5; replace f0' := below_frz f0' (by simp; omega) b5; replace f1' := below_frz f1' (by simp; omega) b5; replace f2' := below_frz f2' (by simp; omega) b5; replace m0 := below_cell m0 b5; replace m1 := below_cell m1 b5; replace m2 := below_cell m2 b5)
              have o5 := own_below ho b5
              have hb5 := hbr.trans (b5.mono hbr.size)
              have hA5 : ∀ z, (Value.slice Ao k co).ownBlock = some z → w1.heap.size ≤ z := fun z hz => (ho.lt z hz).1
              have hq5 : (Value.slice Ao k co).ownBlock ≠ some (w.heap.size + 2) := fun e => by have := hA5 _ e; omega
              have o6 := ow_set (p := ⟨w.heap.size + 2, 2, none⟩) (u := .int .i64 e) hq5 (ow_set (p := ⟨w.heap.size + 2, 1, none⟩) (u := .int .i64 (raised p h)) hq5 (ow_set (p := ⟨w.heap.size + 2, 0, none⟩) (u := .slice Ao k co) hq5 o5))
              have g0 := World.cell?_setCell_same w5 _ (.slice Ao k co) q0
              have g1 := World.cell?_setCell_same (w5.setCell ⟨w.heap.size + 2, 0, none⟩ (.slice Ao k co)) ⟨w.heap.size + 2, 1, none⟩ (.int .i64 (raised p h)) ((World.cell?_setCell_other _ _ _ _ (by simp)).trans q1)
              have g2 := World.cell?_setCell_same ((w5.setCell ⟨w.heap.size + 2, 0, none⟩ (.slice Ao k co)).setCell ⟨w.heap.size + 2, 1, none⟩ (.int .i64 (raised p h))) ⟨w.heap.size + 2, 2, none⟩ (.int .i64 e) ((World.cell?_setCell_other _ _ _ _ (by simp)).trans ((World.cell?_setCell_other _ _ _ _ (by simp)).trans q2))
              replace g0 := (World.cell?_setCell_other _ ⟨w.heap.size + 2, 2, none⟩ _ (.int .i64 e) (by simp)).trans ((World.cell?_setCell_other _ ⟨w.heap.size + 2, 1, none⟩ _ (.int .i64 (raised p h)) (by simp)).trans g0)
              replace g1 := (World.cell?_setCell_other _ ⟨w.heap.size + 2, 2, none⟩ _ (.int .i64 e) (by simp)).trans g1
              have hb6 := ((hb5.setCell (p := ⟨w.heap.size + 2, 0, none⟩) (by simp) (.slice Ao k co)).setCell (p := ⟨w.heap.size + 2, 1, none⟩) (by simp) (.int .i64 (raised p h))).setCell (p := ⟨w.heap.size + 2, 2, none⟩) (by simp) (.int .i64 e)
              generalize (((w5.setCell ⟨w.heap.size + 2, 0, none⟩ (.slice Ao k co)).setCell ⟨w.heap.size + 2, 1, none⟩ (.int .i64 (raised p h))).setCell ⟨w.heap.size + 2, 2, none⟩ (.int .i64 e)) = w6 at *
              refine bodyPost_ret (v := .tuple #[.agg #[.slice Ao k co, .int .i64 (raised p h), .int .i64 e], .int .i64 0]) (by simp [results, Try.results24, go_sem, g0, g1, g2]) rfl ?_
              rw [E2.out]
              exact ⟨Ao, k, co, rfl, o6.mono hmono, hb6⟩
end Go.Proofs.Ytbgpdaclaknapaa
