/-
  Drawn tariffs that are bent, drawn weights and distances. No condition.
-/
import Derived.Test.YtngfhpklakhehaaGreatDoorTDraw
import Derived.Deep.RegionHeld3
namespace Go.Proofs.YtngfhpklakhehaaGreatDoor
open Go.RowKit
set_option maxHeartbeats 400000

theorem set_encStep : ∀ (xs : List Step) (m : Nat) (z : Int), ∃ ys : List Step, ys.length = xs.length ∧ ys.flatMap encStep = (xs.flatMap encStep).set m (.int .i64 z)
  | [], m, z => ⟨[], rfl, by simp⟩
  | x :: xs, 0, z => ⟨⟨z, x.p⟩ :: xs, rfl, by simp [encStep]⟩
  | x :: xs, 1, z => ⟨⟨x.g, z⟩ :: xs, rfl, by simp [encStep]⟩
  | x :: xs, m + 2, z => by
    obtain ⟨ys, h1, h2⟩ := set_encStep xs m z
    exact ⟨x :: ys, by simp [h1], by simp [encStep] at h2 ⊢; exact h2⟩
namespace TarAt
variable {w w' : World} {lo gt gs g : Nat} {A : Option Addr} {c : Nat} {xs : List Step} {h e : Int}
/-- a number of a step that is overwritten -/
theorem step (t : TarAt w lo gt (some ⟨g, 0, none⟩) c xs h e) (m : Nat) (z : Int) : ∃ ys : List Step, ys.length = xs.length ∧ TarAt (w.setCell ⟨g, m, none⟩ (.int .i64 z)) lo gt (some ⟨g, 0, none⟩) c ys h e := by
  obtain ⟨ys, h1, h2⟩ := set_encStep xs m z
  have hne := t.ne g rfl
  have hs := (t.own.stored m (.int .i64 z)).1
  rw [← h2] at hs
  refine ⟨ys, h1, by rw [h1]; exact hs, fun b hb => by simp [Value.ownBlock] at hb; omega, ?_, ?_, ?_, ?_, ?_, ?_⟩
  · rw [h1]; exact (cell_far (by simp only; exact hne)).trans t.c0
  · exact (cell_far (by simp only; exact hne)).trans t.c1
  · exact (cell_far (by simp only; exact hne)).trans t.c2
  · rw [World.frozen?_setCell]; exact t.f0
  · rw [World.frozen?_setCell]; exact t.f1
  · rw [World.frozen?_setCell]; exact t.f2
/-- the steps begun anew -/
theorem fresh (t : TarAt w lo gt A c xs h e) (hlo : lo ≤ w.heap.size) : TarAt ((w.alloc (.cells #[] 57)).setCell ⟨gt, 0, none⟩ (.slice (some ⟨w.heap.size, 0, none⟩) 0 0)) lo gt (some ⟨w.heap.size, 0, none⟩) 0 [] h e := by
  have hl := t.lt
  have ta := t.alloc (.cells #[] 57)
  have o := World.ownsRow_lit (base := lo) (e := 57) (size := 2) w #[] 0 hlo (by simp only [maxLen]; omega) rfl
  refine ⟨ow_set (by simp [Value.ownBlock]; omega) (by simpa using o), fun b hb => by simp [Value.ownBlock] at hb; omega, World.cell?_setCell_same _ _ _ ta.c0, (World.cell?_setCell_other _ _ _ _ (by simp)).trans ta.c1, (World.cell?_setCell_other _ _ _ _ (by simp)).trans ta.c2, ?_, ?_, ?_⟩
  · rw [World.frozen?_setCell]; exact ta.f0
  · rw [World.frozen?_setCell]; exact ta.f1
  · rw [World.frozen?_setCell]; exact ta.f2
end TarAt
theorem l23DrawMetres_any (gs k : Nat) (w : World) (h : SrcAt w gs k) (hk : k ≤ 10000) :
    Calls Tryz.prog 28 #[.pointer (some ⟨gs, 0, none⟩)] w fun e w' => ∃ r, e = .returned (.int .i64 r) ∧ SrcAt w' gs (k + 4) ∧ w.grownBy w' (some gs) := by
  have H := hid h
  clear h
  go_enter Tryz.func28, Tryz.ntmps28
  go_wp2_with fail
  refine (one_any gs k 10 _ H.out (by omega) (by omega)).mono ?_
  rintro r w1 ⟨b, rfl, hs, hg⟩
  have H1 := hid hs
  clear hs H
  cases b with
  | true =>
    have la : (w1.alloc (.cells #[.int .i64 (-1), .int .i64 0, .int .i64 20000, .int .i64 20001] 2)).ownsRow w1.heap.size 2 1 (.slice (some ⟨w1.heap.size, 0, none⟩) 4 4) 4 (([-1, 0, 20000, 20001] : List Int).flatMap encI) := World.ownsRow_lit w1 #[.int .i64 (-1), .int .i64 0, .int .i64 20000, .int .i64 20001] 4 (Nat.le_refl _) (by simp [maxLen]) (by simp)
    have hlit := own_sl encI_len (by omega) la
    have hgw := H1.out.lt
    clear la
    have H2 := hid (H1.out.alloc (.cells #[.int .i64 (-1), .int .i64 0, .int .i64 20000, .int .i64 20001] 2))
    have HL := hid hlit
    clear H1 hlit
    go_wp2_with fail
    refine (among_any gs _ (some ⟨w1.heap.size, 0, none⟩) 4 4 _ _ H2.out (by omega) (by omega) (by omega) HL.out (fun b o s e => by injection e with e; injection e with e1 e2; omega)).mono ?_
    rintro r w2 ⟨x, rfl, _, hs2, hg2⟩
    clear H2 HL
    go_wp2_with fail
    go_ret
    exact ⟨x, rfl, hs2.mono (by omega), (gr_alloc hg).trans hg2⟩
  | false =>
    go_wp2_with fail
    refine (pick_any gs _ 1500 _ H1.out (by omega) (by omega)).mono ?_
    rintro r w2 ⟨x, rfl, _, _, hs2, hg2⟩
    clear H1
    go_wp2_with fail
    go_ret
    exact ⟨x, rfl, hs2.mono (by omega), hg.trans hg2⟩
theorem l23DrawGrams_any (gs k : Nat) (w : World) (h : SrcAt w gs k) (hk : k ≤ 10000) :
    Calls Tryz.prog 27 #[.pointer (some ⟨gs, 0, none⟩)] w fun e w' => ∃ r, e = .returned (.int .i64 r) ∧ SrcAt w' gs (k + 4) ∧ w.grownBy w' (some gs) := by
  have H := hid h
  clear h
  go_enter Tryz.func27, Tryz.ntmps27
  go_wp2_with fail
  refine (one_any gs k 10 _ H.out (by omega) (by omega)).mono ?_
  rintro r w1 ⟨b, rfl, hs, hg⟩
  have H1 := hid hs
  clear hs H
  cases b with
  | true =>
    have la : (w1.alloc (.cells #[.int .i64 (-1), .int .i64 0, .int .i64 1, .int .i64 5000, .int .i64 5001] 2)).ownsRow w1.heap.size 2 1 (.slice (some ⟨w1.heap.size, 0, none⟩) 5 5) 5 (([-1, 0, 1, 5000, 5001] : List Int).flatMap encI) := World.ownsRow_lit w1 #[.int .i64 (-1), .int .i64 0, .int .i64 1, .int .i64 5000, .int .i64 5001] 5 (Nat.le_refl _) (by simp [maxLen]) (by simp)
    have hlit := own_sl encI_len (by omega) la
    have hgw := H1.out.lt
    clear la
    have H2 := hid (H1.out.alloc (.cells #[.int .i64 (-1), .int .i64 0, .int .i64 1, .int .i64 5000, .int .i64 5001] 2))
    have HL := hid hlit
    clear H1 hlit
    go_wp2_with fail
    refine (among_any gs _ (some ⟨w1.heap.size, 0, none⟩) 5 5 _ _ H2.out (by omega) (by omega) (by omega) HL.out (fun b o s e => by injection e with e; injection e with e1 e2; omega)).mono ?_
    rintro r w2 ⟨x, rfl, _, hs2, hg2⟩
    clear H2 HL
    go_wp2_with fail
    go_ret
    exact ⟨x, rfl, hs2.mono (by omega), (gr_alloc hg).trans hg2⟩
  | false =>
    go_wp2_with fail
    refine (pick_any gs _ 900 _ H1.out (by omega) (by omega)).mono ?_
    rintro r w2 ⟨x, rfl, _, _, hs2, hg2⟩
    clear H1
    go_wp2_with fail
    go_ret
    exact ⟨x, rfl, hs2.mono (by omega), hg.trans hg2⟩
set_option maxHeartbeats 8000000 in
set_option maxRecDepth 100000 in
theorem l23Bent_any (gs k : Nat) (w : World) (h : SrcAt w gs k) (hk : k ≤ 9000) :
    Calls Tryz.prog 26 #[.pointer (some ⟨gs, 0, none⟩)] w (DrawT gs (k + 80) (w.heap.size + 2) 0 w) := by
  obtain ⟨i0, hi, hz0, hz1, hz2⟩ := info_parts stepT_info
  have hgl := h.lt
  have r0 : Res3 (w.alloc (.cells #[.slice none 0 0, .int .i64 0, .int .i64 0] 26)) w.heap.size (.slice none 0 0) (.int .i64 0) (.int .i64 0) := ⟨by go_simp, by go_simp, by go_simp, by go_simp, by go_simp, by go_simp⟩
  have hd := l23Draw_any gs k (w.alloc (.cells #[.slice none 0 0, .int .i64 0, .int .i64 0] 26)) (h.alloc _) (by omega)
  have R0 := hid r0
  clear h r0
  go_enter Tryz.func26, Tryz.ntmps26
  go_wp2_with fail
  refine hd.mono ?_
  rintro r w1 ⟨A, c, xs, hh, ee, rfl, hm1, hm9, hO, hS, hG⟩
  clear hd
  have e2 : (w.alloc (.cells #[.slice none 0 0, .int .i64 0, .int .i64 0] 26)).heap.size + 1 = w.heap.size + 2 := by simp
  rw [e2] at hO
  obtain ⟨g, rfl, hlo, hgs⟩ := own_some hO (by omega)
  have hsz := hG.size
  rw [World.size_alloc] at hsz
  have T1 : Hid (TarAt (w1.alloc (.cells #[.slice (some ⟨g, 0, none⟩) xs.length c, .int .i64 hh, .int .i64 ee] 26)) (w.heap.size + 2) w1.heap.size (some ⟨g, 0, none⟩) c xs hh ee) :=
    ⟨hO.alloc _, fun q hq => by simp [Value.ownBlock] at hq; omega, (World.cell?_alloc_at _ _ _ _ rfl).trans rfl, (World.cell?_alloc_at _ _ _ _ rfl).trans rfl, (World.cell?_alloc_at _ _ _ _ rfl).trans rfl, by go_simp, by go_simp, by go_simp⟩
  have R1 := hid ((R0.out.grow hG (by simp; omega)).alloc (.cells #[.slice (some ⟨g, 0, none⟩) xs.length c, .int .i64 hh, .int .i64 ee] 26))
  have S1 := hid (hS.alloc (.cells #[.slice (some ⟨g, 0, none⟩) xs.length c, .int .i64 hh, .int .i64 ee] 26))
  have G1 : w.grownBy (w1.alloc (.cells #[.slice (some ⟨g, 0, none⟩) xs.length c, .int .i64 hh, .int .i64 ee] 26)) (some gs) := gr_alloc ((gr_alloc (World.grownBy.refl _ _)).trans hG)
  have gsw1 := hS.lt
  clear R0 hO hS hG e2
  obtain ⟨wa, hwa⟩ : ∃ wa : World, wa = w1.alloc (.cells #[.slice (some ⟨g, 0, none⟩) xs.length c, .int .i64 hh, .int .i64 ee] 26) := ⟨_, rfl⟩
  have hwas : wa.heap.size = w1.heap.size + 1 := by rw [hwa]; simp
  have HWA := hid hwa
  have k0 : (w1.alloc (.cells #[.slice (some ⟨g, 0, none⟩) xs.length c, .int .i64 hh, .int .i64 ee] 26)).cell? ⟨w1.heap.size, 0, none⟩ = some (.slice (some ⟨g, 0, none⟩) xs.length c) := (World.cell?_alloc_at _ _ _ _ rfl).trans rfl
  rw [← hwa] at T1 R1 S1 G1 k0
  have SD := hid (S1.out.below ((Below.refl (gs + 1) wa).drew))
  have HSZ := hid hwas
  clear hwa hwas
  go_wp2_with fail
  rw [← HWA.out]
  have lg1 : w1.heap.size < wa.heap.size := by have := HSZ.out; omega
  go_region_held3 (fun W => W.cell? ⟨w1.heap.size, 0, none⟩ = some (.slice (some ⟨g, 0, none⟩) xs.length c))
    (first
      | go_keep
      | exact cell_src (by assumption) hg2 (by omega))
    (first
      | (go_at_call 51; with_reducible refine (pick_any gs _ _ _ SD.out (by omega) (by omega)).mono ?_; rintro r w2 ⟨ai, rfl, a0, a1, hs2, hg2⟩; obtain ⟨i, rfl⟩ : ∃ i : Nat, ai = (i : Int) := ⟨ai.toNat, by omega⟩; have i1 : (i : Int) < (xs.length : Int) := by omega))
  have T2 := hid ((T1.out.below (Below.refl _ _).drew).src hg2 (by omega) (by omega))
  have R2 := hid ((R1.out.below (Below.refl _ _).drew).grow hg2 (by simp; omega))
  have G2 := (gr_drew G1).trans hg2
  have S2 := hid hs2
  have lg2 : w1.heap.size < w2.heap.size := T2.out.lt
  clear T1 R1 S1 G1 SD hs2 hg2 k0 HWA HSZ lg1
  go_wp2_with fail
  refine (pick_any gs _ 24 _ S2.out (by omega) (by omega)).mono ?_
  rintro r w3 ⟨z, rfl, z0, z1, hs3, hg3⟩
  have T3 := hid (T2.out.src hg3 (by omega) (by omega))
  have R3 := hid (R2.out.grow hg3 (by simp; omega))
  have G3 := G2.trans hg3
  have S3 := hid hs3
  have lg3 : w1.heap.size < w3.heap.size := T3.out.lt
  have lr3 := R3.out.lt
  clear T2 R2 G2 S2 hs3 hg3 lg2
  by_cases q0 : z = 0
  · subst q0
    have la : (w3.alloc (.cells #[.int .i64 (-1), .int .i64 0, .int .i64 1, .int .i64 5000, .int .i64 5001] 2)).ownsRow w3.heap.size 2 1 (.slice (some ⟨w3.heap.size, 0, none⟩) 5 5) 5 (([-1, 0, 1, 5000, 5001] : List Int).flatMap encI) := World.ownsRow_lit w3 #[.int .i64 (-1), .int .i64 0, .int .i64 1, .int .i64 5000, .int .i64 5001] 5 (Nat.le_refl _) (by simp [maxLen]) (by simp)
    have hlit := own_sl encI_len (by omega) la
    have hgw := S3.out.lt
    clear la

    have S4 := hid (S3.out.alloc (.cells #[.int .i64 (-1), .int .i64 0, .int .i64 1, .int .i64 5000, .int .i64 5001] 2))
    have HL := hid hlit
    clear S3 hlit
    go_wp2_with fail
    refine (among_any gs _ (some ⟨w3.heap.size, 0, none⟩) 5 5 _ _ S4.out (by omega) (by omega) (by omega) HL.out (fun b o s e => by injection e with e; injection e with e1 e2; omega)).mono ?_
    rintro r w4 ⟨x, rfl, hxm, hs4, hg4⟩
    have T4 := hid ((T3.out.alloc (.cells #[.int .i64 (-1), .int .i64 0, .int .i64 1, .int .i64 5000, .int .i64 5001] 2)).src hg4 (by omega) (by omega))
    have R4 := hid ((R3.out.alloc (.cells #[.int .i64 (-1), .int .i64 0, .int .i64 1, .int .i64 5000, .int .i64 5001] 2)).grow hg4 (by simp; omega))
    have G4 := (gr_alloc G3).trans hg4
    have S4' := hid hs4
    have lg4 : w1.heap.size < w4.heap.size := T4.out.lt
    clear T3 R3 G3 HL S4 hs4 hg4

    obtain ⟨⟨u0, u1⟩, u2⟩ := own_at T4.out.own (Below.refl _ _) (i * 2) (by omega)
    obtain ⟨ys, hyl, hT5⟩ := T4.out.step (i * 2) x
    have T5 := hid hT5
    have R5 := hid (R4.out.set (p := ⟨g, i * 2, none⟩) (u := .int .i64 x) (by simp only; omega))
    have G5 := hid (gs_set (p := ⟨g, i * 2, none⟩) (u := .int .i64 x) G4 (by simp only; omega) rfl)
    have S5 := hid (S4'.out.set (p := ⟨g, i * 2, none⟩) (u := .int .i64 x) (by simp only; omega))
    have HYL := hid hyl
    have hl9 : ys.length ≤ 9 := by omega

    have c0 := T4.out.c0
    have c1 := T4.out.c1
    have c2 := T4.out.c2
    have r0 := R4.out.c0
    have r1 := R4.out.c1
    have r2 := R4.out.c2
    have e0 := R4.out.f0
    have e1 := R4.out.f1
    have e2 := R4.out.f2
    have z0' := T4.out.f0
    have z1' := T4.out.f1
    have z2' := T4.out.f2
    have lrz := R4.out.lt
    have ltz := T4.out.lt

    clear T4 R4 G4 S4' hT5 hyl
    go_wp2_with fail

    have d0 := R5.out.c0
    have d1 := R5.out.c1
    have d2 := R5.out.c2
    have hO := hid T5.out.own
    have hlo := hid T5.out.own.lt
    clear T5 R5

    have s0 : ((w4.setCell ⟨g, i * 2, none⟩ (.int .i64 x)).setCell ⟨w.heap.size, 0, none⟩ (.slice (some ⟨g, 0, none⟩) xs.length c)).cell? ⟨w.heap.size, 0, none⟩ = some (.slice (some ⟨g, 0, none⟩) xs.length c) := World.cell?_setCell_same _ _ _ d0
    have s1 : (((w4.setCell ⟨g, i * 2, none⟩ (.int .i64 x)).setCell ⟨w.heap.size, 0, none⟩ (.slice (some ⟨g, 0, none⟩) xs.length c)).setCell ⟨w.heap.size, 1, none⟩ (.int .i64 hh)).cell? ⟨w.heap.size, 1, none⟩ = some (.int .i64 hh) := World.cell?_setCell_same _ _ _ ((World.cell?_setCell_other _ _ _ _ (by simp)).trans d1)
    have s2 : ((((w4.setCell ⟨g, i * 2, none⟩ (.int .i64 x)).setCell ⟨w.heap.size, 0, none⟩ (.slice (some ⟨g, 0, none⟩) xs.length c)).setCell ⟨w.heap.size, 1, none⟩ (.int .i64 hh)).setCell ⟨w.heap.size, 2, none⟩ (.int .i64 ee)).cell? ⟨w.heap.size, 2, none⟩ = some (.int .i64 ee) := World.cell?_setCell_same _ _ _ ((World.cell?_setCell_other _ _ _ _ (by simp)).trans ((World.cell?_setCell_other _ _ _ _ (by simp)).trans d2))
    refine bodyPost_ret (v := .agg #[(.slice (some ⟨g, 0, none⟩) xs.length c), .int .i64 hh, .int .i64 ee]) (by simp [results, Tryz.results26, go_sem, s0, s1, s2]) rfl ⟨(some ⟨g, 0, none⟩), c, ys, hh, ee, by rw [HYL.out], Nat.zero_le _, hl9, ?_, ?_, ?_⟩
    · have hne : ∀ j, (Value.slice (some ⟨g, 0, none⟩) (ys).length c).ownBlock ≠ some (⟨w.heap.size, j, none⟩ : Addr).block := fun j e => by have := (hlo.out _ e).1; simp only at this; omega
      exact ow_set (hne _) (ow_set (hne _) (ow_set (hne _) hO.out))
    · exact (((S5.out.mono (show _ ≤ k + 80 by omega)).set hgl).set hgl).set hgl
    · exact gs_set (gs_set (gs_set G5.out (Nat.le_refl _) rfl) (Nat.le_refl _) rfl) (Nat.le_refl _) rfl
  · have n0 : (z == 0) = false := by rw [beq_eq_false_iff_ne]; exact q0
    by_cases q1 : z = 1
    · subst q1
      have la : (w3.alloc (.cells #[.int .i64 (-1), .int .i64 0, .int .i64 100000, .int .i64 100001, .int .i64 (-9223372036854775808)] 2)).ownsRow w3.heap.size 2 1 (.slice (some ⟨w3.heap.size, 0, none⟩) 5 5) 5 (([-1, 0, 100000, 100001, -9223372036854775808] : List Int).flatMap encI) := World.ownsRow_lit w3 #[.int .i64 (-1), .int .i64 0, .int .i64 100000, .int .i64 100001, .int .i64 (-9223372036854775808)] 5 (Nat.le_refl _) (by simp [maxLen]) (by simp)
      have hlit := own_sl encI_len (by omega) la
      have hgw := S3.out.lt
      clear la

      have S4 := hid (S3.out.alloc (.cells #[.int .i64 (-1), .int .i64 0, .int .i64 100000, .int .i64 100001, .int .i64 (-9223372036854775808)] 2))
      have HL := hid hlit
      clear S3 hlit
      go_wp2_with fail
      refine (among_any gs _ (some ⟨w3.heap.size, 0, none⟩) 5 5 _ _ S4.out (by omega) (by omega) (by omega) HL.out (fun b o s e => by injection e with e; injection e with e1 e2; omega)).mono ?_
      rintro r w4 ⟨x, rfl, hxm, hs4, hg4⟩
      have T4 := hid ((T3.out.alloc (.cells #[.int .i64 (-1), .int .i64 0, .int .i64 100000, .int .i64 100001, .int .i64 (-9223372036854775808)] 2)).src hg4 (by omega) (by omega))
      have R4 := hid ((R3.out.alloc (.cells #[.int .i64 (-1), .int .i64 0, .int .i64 100000, .int .i64 100001, .int .i64 (-9223372036854775808)] 2)).grow hg4 (by simp; omega))
      have G4 := (gr_alloc G3).trans hg4
      have S4' := hid hs4
      have lg4 : w1.heap.size < w4.heap.size := T4.out.lt
      clear T3 R3 G3 HL S4 hs4 hg4

      obtain ⟨⟨u0, u1⟩, u2⟩ := own_at T4.out.own (Below.refl _ _) (i * 2 + 1) (by omega)
      obtain ⟨ys, hyl, hT5⟩ := T4.out.step (i * 2 + 1) x
      have T5 := hid hT5
      have R5 := hid (R4.out.set (p := ⟨g, i * 2 + 1, none⟩) (u := .int .i64 x) (by simp only; omega))
      have G5 := hid (gs_set (p := ⟨g, i * 2 + 1, none⟩) (u := .int .i64 x) G4 (by simp only; omega) rfl)
      have S5 := hid (S4'.out.set (p := ⟨g, i * 2 + 1, none⟩) (u := .int .i64 x) (by simp only; omega))
      have HYL := hid hyl
      have hl9 : ys.length ≤ 9 := by omega

      have c0 := T4.out.c0
      have c1 := T4.out.c1
      have c2 := T4.out.c2
      have r0 := R4.out.c0
      have r1 := R4.out.c1
      have r2 := R4.out.c2
      have e0 := R4.out.f0
      have e1 := R4.out.f1
      have e2 := R4.out.f2
      have z0' := T4.out.f0
      have z1' := T4.out.f1
      have z2' := T4.out.f2
      have lrz := R4.out.lt
      have ltz := T4.out.lt

      clear T4 R4 G4 S4' hT5 hyl
      go_wp2_with fail

      have d0 := R5.out.c0
      have d1 := R5.out.c1
      have d2 := R5.out.c2
      have hO := hid T5.out.own
      have hlo := hid T5.out.own.lt
      clear T5 R5

      have s0 : ((w4.setCell ⟨g, i * 2 + 1, none⟩ (.int .i64 x)).setCell ⟨w.heap.size, 0, none⟩ (.slice (some ⟨g, 0, none⟩) xs.length c)).cell? ⟨w.heap.size, 0, none⟩ = some (.slice (some ⟨g, 0, none⟩) xs.length c) := World.cell?_setCell_same _ _ _ d0
      have s1 : (((w4.setCell ⟨g, i * 2 + 1, none⟩ (.int .i64 x)).setCell ⟨w.heap.size, 0, none⟩ (.slice (some ⟨g, 0, none⟩) xs.length c)).setCell ⟨w.heap.size, 1, none⟩ (.int .i64 hh)).cell? ⟨w.heap.size, 1, none⟩ = some (.int .i64 hh) := World.cell?_setCell_same _ _ _ ((World.cell?_setCell_other _ _ _ _ (by simp)).trans d1)
      have s2 : ((((w4.setCell ⟨g, i * 2 + 1, none⟩ (.int .i64 x)).setCell ⟨w.heap.size, 0, none⟩ (.slice (some ⟨g, 0, none⟩) xs.length c)).setCell ⟨w.heap.size, 1, none⟩ (.int .i64 hh)).setCell ⟨w.heap.size, 2, none⟩ (.int .i64 ee)).cell? ⟨w.heap.size, 2, none⟩ = some (.int .i64 ee) := World.cell?_setCell_same _ _ _ ((World.cell?_setCell_other _ _ _ _ (by simp)).trans ((World.cell?_setCell_other _ _ _ _ (by simp)).trans d2))
      refine bodyPost_ret (v := .agg #[(.slice (some ⟨g, 0, none⟩) xs.length c), .int .i64 hh, .int .i64 ee]) (by simp [results, Tryz.results26, go_sem, s0, s1, s2]) rfl ⟨(some ⟨g, 0, none⟩), c, ys, hh, ee, by rw [HYL.out], Nat.zero_le _, hl9, ?_, ?_, ?_⟩
      · have hne : ∀ j, (Value.slice (some ⟨g, 0, none⟩) (ys).length c).ownBlock ≠ some (⟨w.heap.size, j, none⟩ : Addr).block := fun j e => by have := (hlo.out _ e).1; simp only at this; omega
        exact ow_set (hne _) (ow_set (hne _) (ow_set (hne _) hO.out))
      · exact (((S5.out.mono (show _ ≤ k + 80 by omega)).set hgl).set hgl).set hgl
      · exact gs_set (gs_set (gs_set G5.out (Nat.le_refl _) rfl) (Nat.le_refl _) rfl) (Nat.le_refl _) rfl
    · have n1 : (z == 1) = false := by rw [beq_eq_false_iff_ne]; exact q1
      by_cases q2 : z = 2
      · subst q2
        have la : (w3.alloc (.cells #[.int .i64 (-1), .int .i64 0, .int .i64 100000, .int .i64 100001] 2)).ownsRow w3.heap.size 2 1 (.slice (some ⟨w3.heap.size, 0, none⟩) 4 4) 4 (([-1, 0, 100000, 100001] : List Int).flatMap encI) := World.ownsRow_lit w3 #[.int .i64 (-1), .int .i64 0, .int .i64 100000, .int .i64 100001] 4 (Nat.le_refl _) (by simp [maxLen]) (by simp)
        have hlit := own_sl encI_len (by omega) la
        have hgw := S3.out.lt
        clear la

        have S4 := hid (S3.out.alloc (.cells #[.int .i64 (-1), .int .i64 0, .int .i64 100000, .int .i64 100001] 2))
        have HL := hid hlit
        clear S3 hlit
        go_wp2_with fail
        refine (among_any gs _ (some ⟨w3.heap.size, 0, none⟩) 4 4 _ _ S4.out (by omega) (by omega) (by omega) HL.out (fun b o s e => by injection e with e; injection e with e1 e2; omega)).mono ?_
        rintro r w4 ⟨x, rfl, hxm, hs4, hg4⟩
        have T4 := hid ((T3.out.alloc (.cells #[.int .i64 (-1), .int .i64 0, .int .i64 100000, .int .i64 100001] 2)).src hg4 (by omega) (by omega))
        have R4 := hid ((R3.out.alloc (.cells #[.int .i64 (-1), .int .i64 0, .int .i64 100000, .int .i64 100001] 2)).grow hg4 (by simp; omega))
        have G4 := (gr_alloc G3).trans hg4
        have S4' := hid hs4
        have lg4 : w1.heap.size < w4.heap.size := T4.out.lt
        clear T3 R3 G3 HL S4 hs4 hg4

        have T5 := hid (T4.out.put1 x)
        have R5 := hid (R4.out.set (p := ⟨w1.heap.size, 1, none⟩) (u := .int .i64 x) (by simp only; omega))
        have G5 := hid (gs_set (p := ⟨w1.heap.size, 1, none⟩) (u := .int .i64 x) G4 (by simp only; omega) rfl)
        have S5 := hid (S4'.out.set (p := ⟨w1.heap.size, 1, none⟩) (u := .int .i64 x) (by simp only; omega))
        have hl9 : xs.length ≤ 9 := hm9

        have c0 := T4.out.c0
        have c1 := T4.out.c1
        have c2 := T4.out.c2
        have r0 := R4.out.c0
        have r1 := R4.out.c1
        have r2 := R4.out.c2
        have e0 := R4.out.f0
        have e1 := R4.out.f1
        have e2 := R4.out.f2
        have z0' := T4.out.f0
        have z1' := T4.out.f1
        have z2' := T4.out.f2
        have lrz := R4.out.lt
        have ltz := T4.out.lt

        clear T4 R4 G4 S4'
        go_wp2_with fail

        have d0 := R5.out.c0
        have d1 := R5.out.c1
        have d2 := R5.out.c2
        have hO := hid T5.out.own
        have hlo := hid T5.out.own.lt
        clear T5 R5

        have s0 : ((w4.setCell ⟨w1.heap.size, 1, none⟩ (.int .i64 x)).setCell ⟨w.heap.size, 0, none⟩ (.slice (some ⟨g, 0, none⟩) xs.length c)).cell? ⟨w.heap.size, 0, none⟩ = some (.slice (some ⟨g, 0, none⟩) xs.length c) := World.cell?_setCell_same _ _ _ d0
        have s1 : (((w4.setCell ⟨w1.heap.size, 1, none⟩ (.int .i64 x)).setCell ⟨w.heap.size, 0, none⟩ (.slice (some ⟨g, 0, none⟩) xs.length c)).setCell ⟨w.heap.size, 1, none⟩ (.int .i64 x)).cell? ⟨w.heap.size, 1, none⟩ = some (.int .i64 x) := World.cell?_setCell_same _ _ _ ((World.cell?_setCell_other _ _ _ _ (by simp)).trans d1)
        have s2 : ((((w4.setCell ⟨w1.heap.size, 1, none⟩ (.int .i64 x)).setCell ⟨w.heap.size, 0, none⟩ (.slice (some ⟨g, 0, none⟩) xs.length c)).setCell ⟨w.heap.size, 1, none⟩ (.int .i64 x)).setCell ⟨w.heap.size, 2, none⟩ (.int .i64 ee)).cell? ⟨w.heap.size, 2, none⟩ = some (.int .i64 ee) := World.cell?_setCell_same _ _ _ ((World.cell?_setCell_other _ _ _ _ (by simp)).trans ((World.cell?_setCell_other _ _ _ _ (by simp)).trans d2))
        refine bodyPost_ret (v := .agg #[(.slice (some ⟨g, 0, none⟩) xs.length c), .int .i64 x, .int .i64 ee]) (by simp [results, Tryz.results26, go_sem, s0, s1, s2]) rfl ⟨(some ⟨g, 0, none⟩), c, xs, x, ee, rfl, Nat.zero_le _, hl9, ?_, ?_, ?_⟩
        · have hne : ∀ j, (Value.slice (some ⟨g, 0, none⟩) (xs).length c).ownBlock ≠ some (⟨w.heap.size, j, none⟩ : Addr).block := fun j e => by have := (hlo.out _ e).1; simp only at this; omega
          exact ow_set (hne _) (ow_set (hne _) (ow_set (hne _) hO.out))
        · exact (((S5.out.mono (show _ ≤ k + 80 by omega)).set hgl).set hgl).set hgl
        · exact gs_set (gs_set (gs_set G5.out (Nat.le_refl _) rfl) (Nat.le_refl _) rfl) (Nat.le_refl _) rfl
      · have n2 : (z == 2) = false := by rw [beq_eq_false_iff_ne]; exact q2
        by_cases q3 : z = 3
        · subst q3
          have la : (w3.alloc (.cells #[.int .i64 (-1), .int .i64 0, .int .i64 1000, .int .i64 1001] 2)).ownsRow w3.heap.size 2 1 (.slice (some ⟨w3.heap.size, 0, none⟩) 4 4) 4 (([-1, 0, 1000, 1001] : List Int).flatMap encI) := World.ownsRow_lit w3 #[.int .i64 (-1), .int .i64 0, .int .i64 1000, .int .i64 1001] 4 (Nat.le_refl _) (by simp [maxLen]) (by simp)
          have hlit := own_sl encI_len (by omega) la
          have hgw := S3.out.lt
          clear la

          have S4 := hid (S3.out.alloc (.cells #[.int .i64 (-1), .int .i64 0, .int .i64 1000, .int .i64 1001] 2))
          have HL := hid hlit
          clear S3 hlit
          go_wp2_with fail
          refine (among_any gs _ (some ⟨w3.heap.size, 0, none⟩) 4 4 _ _ S4.out (by omega) (by omega) (by omega) HL.out (fun b o s e => by injection e with e; injection e with e1 e2; omega)).mono ?_
          rintro r w4 ⟨x, rfl, hxm, hs4, hg4⟩
          have T4 := hid ((T3.out.alloc (.cells #[.int .i64 (-1), .int .i64 0, .int .i64 1000, .int .i64 1001] 2)).src hg4 (by omega) (by omega))
          have R4 := hid ((R3.out.alloc (.cells #[.int .i64 (-1), .int .i64 0, .int .i64 1000, .int .i64 1001] 2)).grow hg4 (by simp; omega))
          have G4 := (gr_alloc G3).trans hg4
          have S4' := hid hs4
          have lg4 : w1.heap.size < w4.heap.size := T4.out.lt
          clear T3 R3 G3 HL S4 hs4 hg4

          have T5 := hid (T4.out.put2 x)
          have R5 := hid (R4.out.set (p := ⟨w1.heap.size, 2, none⟩) (u := .int .i64 x) (by simp only; omega))
          have G5 := hid (gs_set (p := ⟨w1.heap.size, 2, none⟩) (u := .int .i64 x) G4 (by simp only; omega) rfl)
          have S5 := hid (S4'.out.set (p := ⟨w1.heap.size, 2, none⟩) (u := .int .i64 x) (by simp only; omega))
          have hl9 : xs.length ≤ 9 := hm9

          have c0 := T4.out.c0
          have c1 := T4.out.c1
          have c2 := T4.out.c2
          have r0 := R4.out.c0
          have r1 := R4.out.c1
          have r2 := R4.out.c2
          have e0 := R4.out.f0
          have e1 := R4.out.f1
          have e2 := R4.out.f2
          have z0' := T4.out.f0
          have z1' := T4.out.f1
          have z2' := T4.out.f2
          have lrz := R4.out.lt
          have ltz := T4.out.lt

          clear T4 R4 G4 S4'
          go_wp2_with fail

          have d0 := R5.out.c0
          have d1 := R5.out.c1
          have d2 := R5.out.c2
          have hO := hid T5.out.own
          have hlo := hid T5.out.own.lt
          clear T5 R5

          have s0 : ((w4.setCell ⟨w1.heap.size, 2, none⟩ (.int .i64 x)).setCell ⟨w.heap.size, 0, none⟩ (.slice (some ⟨g, 0, none⟩) xs.length c)).cell? ⟨w.heap.size, 0, none⟩ = some (.slice (some ⟨g, 0, none⟩) xs.length c) := World.cell?_setCell_same _ _ _ d0
          have s1 : (((w4.setCell ⟨w1.heap.size, 2, none⟩ (.int .i64 x)).setCell ⟨w.heap.size, 0, none⟩ (.slice (some ⟨g, 0, none⟩) xs.length c)).setCell ⟨w.heap.size, 1, none⟩ (.int .i64 hh)).cell? ⟨w.heap.size, 1, none⟩ = some (.int .i64 hh) := World.cell?_setCell_same _ _ _ ((World.cell?_setCell_other _ _ _ _ (by simp)).trans d1)
          have s2 : ((((w4.setCell ⟨w1.heap.size, 2, none⟩ (.int .i64 x)).setCell ⟨w.heap.size, 0, none⟩ (.slice (some ⟨g, 0, none⟩) xs.length c)).setCell ⟨w.heap.size, 1, none⟩ (.int .i64 hh)).setCell ⟨w.heap.size, 2, none⟩ (.int .i64 x)).cell? ⟨w.heap.size, 2, none⟩ = some (.int .i64 x) := World.cell?_setCell_same _ _ _ ((World.cell?_setCell_other _ _ _ _ (by simp)).trans ((World.cell?_setCell_other _ _ _ _ (by simp)).trans d2))
          refine bodyPost_ret (v := .agg #[(.slice (some ⟨g, 0, none⟩) xs.length c), .int .i64 hh, .int .i64 x]) (by simp [results, Tryz.results26, go_sem, s0, s1, s2]) rfl ⟨(some ⟨g, 0, none⟩), c, xs, hh, x, rfl, Nat.zero_le _, hl9, ?_, ?_, ?_⟩
          · have hne : ∀ j, (Value.slice (some ⟨g, 0, none⟩) (xs).length c).ownBlock ≠ some (⟨w.heap.size, j, none⟩ : Addr).block := fun j e => by have := (hlo.out _ e).1; simp only at this; omega
            exact ow_set (hne _) (ow_set (hne _) (ow_set (hne _) hO.out))
          · exact (((S5.out.mono (show _ ≤ k + 80 by omega)).set hgl).set hgl).set hgl
          · exact gs_set (gs_set (gs_set G5.out (Nat.le_refl _) rfl) (Nat.le_refl _) rfl) (Nat.le_refl _) rfl
        · have n3 : (z == 3) = false := by rw [beq_eq_false_iff_ne]; exact q3
          by_cases q4 : z = 4
          · subst q4
            have T4 := hid (T3.out.fresh (by omega))
            have R4 := hid ((R3.out.alloc (.cells #[] 57)).set (p := ⟨w1.heap.size, 0, none⟩) (u := .slice (some ⟨w3.heap.size, 0, none⟩) 0 0) (by simp only; omega))
            have G4 := gs_set (p := ⟨w1.heap.size, 0, none⟩) (u := .slice (some ⟨w3.heap.size, 0, none⟩) 0 0) (gr_alloc (o := .cells #[] 57) G3) (by simp only; omega) rfl
            have S4 := hid ((S3.out.alloc (.cells #[] 57)).set (p := ⟨w1.heap.size, 0, none⟩) (u := .slice (some ⟨w3.heap.size, 0, none⟩) 0 0) (by simp only; omega))
            have c0 := T3.out.c0
            have z0' := T3.out.f0
            have hsz4 : ((w3.alloc (.cells #[] 57)).setCell ⟨w1.heap.size, 0, none⟩ (.slice (some ⟨w3.heap.size, 0, none⟩) 0 0)).heap.size = w3.heap.size + 1 := by simp
            obtain ⟨wb, hwb⟩ : ∃ wb : World, wb = (w3.alloc (.cells #[] 57)).setCell ⟨w1.heap.size, 0, none⟩ (.slice (some ⟨w3.heap.size, 0, none⟩) 0 0) := ⟨_, rfl⟩
            rw [← hwb] at T4 R4 G4 S4 hsz4

            have la : (wb.alloc (.cells #[.int .i64 0, .int .i64 8, .int .i64 9] 2)).ownsRow wb.heap.size 2 1 (.slice (some ⟨wb.heap.size, 0, none⟩) 3 3) 3 (([0, 8, 9] : List Int).flatMap encI) := World.ownsRow_lit wb #[.int .i64 0, .int .i64 8, .int .i64 9] 3 (Nat.le_refl _) (by simp [maxLen]) (by simp)
            have hlit := own_sl encI_len (by omega) la
            have hgw := S4.out.lt
            clear la

            have S5 := hid (S4.out.alloc (.cells #[.int .i64 0, .int .i64 8, .int .i64 9] 2))
            have T5 := hid (T4.out.alloc (.cells #[.int .i64 0, .int .i64 8, .int .i64 9] 2))
            have R5 := hid (R4.out.alloc (.cells #[.int .i64 0, .int .i64 8, .int .i64 9] 2))
            have G5 := hid (gr_alloc (o := .cells #[.int .i64 0, .int .i64 8, .int .i64 9] 2) G4)
            have HL := hid hlit
            clear T3 R3 G3 S3 T4 R4 G4 S4 hlit
            have hgwb : gs < wb.heap.size := hgw
            have hcomm : (w3.alloc (.cells #[] 57)).setCell ⟨w1.heap.size, 0, none⟩ (.slice (some ⟨w3.heap.size, 0, none⟩) 0 0) = (w3.setCell ⟨w1.heap.size, 0, none⟩ (.slice (some ⟨w3.heap.size, 0, none⟩) 0 0)).alloc (.cells #[] 57) := by go_simp
            rw [hwb, hcomm] at S5 T5 R5 G5 HL hgw hgwb
            have hsz5 : ((w3.setCell ⟨w1.heap.size, 0, none⟩ (.slice (some ⟨w3.heap.size, 0, none⟩) 0 0)).alloc (.cells #[] 57)).heap.size = w3.heap.size + 1 := by simp
            rw [hsz5] at HL
            go_wp2_with fail
            refine (among_any gs _ (some ⟨w3.heap.size + 1, 0, none⟩) 3 3 _ _ S5.out (by omega) (by omega) (by omega) HL.out (fun b o s e => by injection e with e; injection e with e1 e2; omega)).mono ?_
            rintro r w5 ⟨x, rfl, hxm, hs5, hg5⟩
            have x09 : 0 ≤ x ∧ x ≤ 9 := by simp at hxm; omega
            have T6 := hid (T5.out.src hg5 (by omega) (by omega))
            have R6 := hid (R5.out.grow hg5 (by simp; omega))
            have G6 := G5.out.trans hg5
            have S6 := hid hs5
            have lg5 : w1.heap.size < w5.heap.size := T6.out.lt
            obtain ⟨x0, x9⟩ := x09
            clear T5 R5 G5 S5 HL hs5 hg5 hxm hwb hsz4 hsz5 hcomm
            go_wp2_with fail
            go_loopw [5] (fun vk wl => ∃ (A : Option Addr) (c : Nat) (xs : List Step) (z : Int), vk = .int .i64 z ∧ 0 ≤ z ∧ z + xs.length ≤ 9 ∧ Hid (TarAt wl (w.heap.size + 2) w1.heap.size A c xs hh ee) ∧ Hid (Res3 wl w.heap.size (.slice none 0 0) (.int .i64 0) (.int .i64 0)) ∧ Hid (SrcAt wl gs (k + 60)) ∧ w.grownBy wl (some gs) ∧ w1.heap.size < wl.heap.size) (fun vk _ => (intOf vk).toNat)
            case atStart => exact ⟨_, _, [], x, rfl, x0, by simp; omega, T6, R6, hid (S6.out.mono (by omega)), G6, lg5⟩
            case round =>
              obtain ⟨A, c, xs, z, rfl, z0, z1, hT, hR, hS, hG, hgl3⟩ := hrel
              clear T6 R6 S6 G6
              by_cases hz : 0 < z
              · have hlo := hT.out.own.lt
                have k0 := hT.out.c0
                have fz := hT.out.f0
                have lr := hR.out.lt
                have nb : ∀ b, (Value.slice A xs.length c).ownBlock = some b → w.heap.size < b ∧ gs < b := fun b hb => by have := (hlo b hb).1; omega
                go_wp2_with (at_builtin; refine wpList_append_lies _ rfl _ _ 24 rfl (w.heap.size + 2) 57 i0 (.agg #[.int .i64 0, .int .i64 0]) 2 16 Tryz.underlying24 hi hz0 hz1 hz2 rfl (by omega) (.slice A xs.length c) xs.length (xs.flatMap encStep) rfl (hT.out.own.alloc _) ⟨wr.heap.size, 0, none⟩ 1 1 [.int .i64 ((xs.length : Int) + 1), .int .i64 5] rfl rfl (World.news_of_block (cs := #[.int .i64 ((xs.length : Int) + 1), .int .i64 5]) (t := 57) (fr := (0, 0)) (heap_alloc_new _ _)) (by simp [Value.oneCell']) (by omega) (by simp only [maxLen]; omega) (by omega) (by simp; omega) (wr.heap.size + 1) (by simp) ?_; intro gg cap w6 ho6 hg6 hat6 hlt6; have hgg := (gr_alloc (World.grownBy.refl wr _)).trans hg6; have ne6 : some w1.heap.size ≠ (Value.slice A xs.length c).ownBlock := (fun q => hT.out.ne _ q.symm rfl); have k6 := hgg.cell k0 ne6; have f6 := (hgg.frozen_far ⟨w1.heap.size, 0, none⟩ hgl3 ne6).trans fz)
                have T7 := hid ((hT.out.alloc (.cells #[.int .i64 ((xs.length : Int) + 1), .int .i64 5] 57)).snoc (z := ⟨(xs.length : Int) + 1, 5⟩) (by simpa [encStep] using ho6) hg6 (hat6.imp id (fun e => by simp; omega)))
                have S7 := hid (((hS.out.alloc (.cells #[.int .i64 ((xs.length : Int) + 1), .int .i64 5] 57)).grown hg6 (fun b hb => (nb b hb).2)).set (p := ⟨w1.heap.size, 0, none⟩) (u := .slice (some ⟨gg, 0, none⟩) (xs.length + 1) cap) (by simp only; omega))
                have R7 := hid (((hR.out.alloc (.cells #[.int .i64 ((xs.length : Int) + 1), .int .i64 5] 57)).grow hg6 (fun e => by have := (nb _ e).1; omega)).set (p := ⟨w1.heap.size, 0, none⟩) (u := .slice (some ⟨gg, 0, none⟩) (xs.length + 1) cap) (by simp only; omega))
                have G7 := gs_set (p := ⟨w1.heap.size, 0, none⟩) (u := .slice (some ⟨gg, 0, none⟩) (xs.length + 1) cap) (gs_grow (gr_alloc (o := .cells #[.int .i64 ((xs.length : Int) + 1), .int .i64 5] 57) hG) hg6 (fun b hb => .inl (by have := (nb b hb).1; omega))) (by simp only; omega) rfl
                have lg7 := T7.out.lt
                have hlen : (xs ++ [(⟨(xs.length : Int) + 1, 5⟩ : Step)]).length = xs.length + 1 := by simp
                clear ho6 hg6 hgg hT hR hS hG k6 f6 k0 fz hlo nb
                go_roundw
                all_goals first | exact ⟨_, _, xs ++ [⟨(xs.length : Int) + 1, 5⟩], z - 1, rfl, by omega, by omega, T7, R7, S7, G7, lg7⟩ | exact ⟨⟨_, _, xs ++ [⟨(xs.length : Int) + 1, 5⟩], z - 1, rfl, by omega, by omega, T7, R7, S7, G7, lg7⟩, by simp [intOf]; omega⟩ | (simp [intOf]; omega)
              · have hl9 : xs.length ≤ 9 := by omega
                have G5 := hid hG
                have S5 := hS
                have c0 := hT.out.c0
                have c1 := hT.out.c1
                have c2 := hT.out.c2
                have r0 := hR.out.c0
                have r1 := hR.out.c1
                have r2 := hR.out.c2
                have e0 := hR.out.f0
                have e1 := hR.out.f1
                have e2 := hR.out.f2
                have z0' := hT.out.f0
                have z1' := hT.out.f1
                have z2' := hT.out.f2
                have lrz := hR.out.lt
                have ltz := hT.out.lt

                have d0 := hR.out.c0
                have d1 := hR.out.c1
                have d2 := hR.out.c2
                have hO := hid hT.out.own
                have hlo := hid hT.out.own.lt

                clear hT hR hG hS
                go_wp2_with fail

                have s0 : (wr.setCell ⟨w.heap.size, 0, none⟩ (.slice A xs.length c)).cell? ⟨w.heap.size, 0, none⟩ = some (.slice A xs.length c) := World.cell?_setCell_same _ _ _ d0
                have s1 : ((wr.setCell ⟨w.heap.size, 0, none⟩ (.slice A xs.length c)).setCell ⟨w.heap.size, 1, none⟩ (.int .i64 hh)).cell? ⟨w.heap.size, 1, none⟩ = some (.int .i64 hh) := World.cell?_setCell_same _ _ _ ((World.cell?_setCell_other _ _ _ _ (by simp)).trans d1)
                have s2 : (((wr.setCell ⟨w.heap.size, 0, none⟩ (.slice A xs.length c)).setCell ⟨w.heap.size, 1, none⟩ (.int .i64 hh)).setCell ⟨w.heap.size, 2, none⟩ (.int .i64 ee)).cell? ⟨w.heap.size, 2, none⟩ = some (.int .i64 ee) := World.cell?_setCell_same _ _ _ ((World.cell?_setCell_other _ _ _ _ (by simp)).trans ((World.cell?_setCell_other _ _ _ _ (by simp)).trans d2))
                refine bodyPost_ret (v := .agg #[(.slice A xs.length c), .int .i64 hh, .int .i64 ee]) (by simp [results, Tryz.results26, go_sem, s0, s1, s2]) rfl ⟨A, c, xs, hh, ee, rfl, Nat.zero_le _, hl9, ?_, ?_, ?_⟩
                · have hne : ∀ j, (Value.slice A (xs).length c).ownBlock ≠ some (⟨w.heap.size, j, none⟩ : Addr).block := fun j e => by have := (hlo.out _ e).1; simp only at this; omega
                  exact ow_set (hne _) (ow_set (hne _) (ow_set (hne _) hO.out))
                · exact (((S5.out.mono (show _ ≤ k + 80 by omega)).set hgl).set hgl).set hgl
                · exact gs_set (gs_set (gs_set G5.out (Nat.le_refl _) rfl) (Nat.le_refl _) rfl) (Nat.le_refl _) rfl
          · have n4 : (z == 4) = false := by rw [beq_eq_false_iff_ne]; exact q4
            have hl9 : xs.length ≤ 9 := hm9
            have G5 := hid G3
            have S5 := S3

            have c0 := T3.out.c0
            have c1 := T3.out.c1
            have c2 := T3.out.c2
            have r0 := R3.out.c0
            have r1 := R3.out.c1
            have r2 := R3.out.c2
            have e0 := R3.out.f0
            have e1 := R3.out.f1
            have e2 := R3.out.f2
            have z0' := T3.out.f0
            have z1' := T3.out.f1
            have z2' := T3.out.f2
            have lrz := R3.out.lt
            have ltz := T3.out.lt

            have d0 := R3.out.c0
            have d1 := R3.out.c1
            have d2 := R3.out.c2
            have hO := hid T3.out.own
            have hlo := hid T3.out.own.lt

            clear T3 R3 G3 S3
            go_wp2_with fail

            have s0 : (w3.setCell ⟨w.heap.size, 0, none⟩ (.slice (some ⟨g, 0, none⟩) xs.length c)).cell? ⟨w.heap.size, 0, none⟩ = some (.slice (some ⟨g, 0, none⟩) xs.length c) := World.cell?_setCell_same _ _ _ d0
            have s1 : ((w3.setCell ⟨w.heap.size, 0, none⟩ (.slice (some ⟨g, 0, none⟩) xs.length c)).setCell ⟨w.heap.size, 1, none⟩ (.int .i64 hh)).cell? ⟨w.heap.size, 1, none⟩ = some (.int .i64 hh) := World.cell?_setCell_same _ _ _ ((World.cell?_setCell_other _ _ _ _ (by simp)).trans d1)
            have s2 : (((w3.setCell ⟨w.heap.size, 0, none⟩ (.slice (some ⟨g, 0, none⟩) xs.length c)).setCell ⟨w.heap.size, 1, none⟩ (.int .i64 hh)).setCell ⟨w.heap.size, 2, none⟩ (.int .i64 ee)).cell? ⟨w.heap.size, 2, none⟩ = some (.int .i64 ee) := World.cell?_setCell_same _ _ _ ((World.cell?_setCell_other _ _ _ _ (by simp)).trans ((World.cell?_setCell_other _ _ _ _ (by simp)).trans d2))
            refine bodyPost_ret (v := .agg #[(.slice (some ⟨g, 0, none⟩) xs.length c), .int .i64 hh, .int .i64 ee]) (by simp [results, Tryz.results26, go_sem, s0, s1, s2]) rfl ⟨(some ⟨g, 0, none⟩), c, xs, hh, ee, rfl, Nat.zero_le _, hl9, ?_, ?_, ?_⟩
            · have hne : ∀ j, (Value.slice (some ⟨g, 0, none⟩) (xs).length c).ownBlock ≠ some (⟨w.heap.size, j, none⟩ : Addr).block := fun j e => by have := (hlo.out _ e).1; simp only at this; omega
              exact ow_set (hne _) (ow_set (hne _) (ow_set (hne _) hO.out))
            · exact (((S5.out.mono (show _ ≤ k + 80 by omega)).set hgl).set hgl).set hgl
            · exact gs_set (gs_set (gs_set G5.out (Nat.le_refl _) rfl) (Nat.le_refl _) rfl) (Nat.le_refl _) rfl
end Go.Proofs.YtngfhpklakhehaaGreatDoor
