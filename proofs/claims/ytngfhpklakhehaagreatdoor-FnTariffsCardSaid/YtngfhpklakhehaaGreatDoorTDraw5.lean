/-
  The draws of PriceFor, HeaviestWithin, FarthestWithin, TariffText. No condition.
-/
import Derived.Test.YtngfhpklakhehaaGreatDoorTDraw2
namespace Go.Proofs.YtngfhpklakhehaaGreatDoor
open Go.RowKit
set_option maxHeartbeats 400000

theorem Bytes.lift {w w' : World} {B m : Nat} {v : Value} (h : Bytes w B m v) (hB : B ≤ w.heap.size) (hb : Below w.heap.size w w') : Bytes w' w'.heap.size m v := (h.below (hb.mono hB)).more (Nat.le_trans hB hb.size)
theorem l23DrawMoney_any (gs k : Nat) (w : World) (h : SrcAt w gs k) (hk : k ≤ 10000) :
    Calls Tryz.prog 36 #[.pointer (some ⟨gs, 0, none⟩)] w fun e w' => ∃ r, e = .returned (.int .i64 r) ∧ SrcAt w' gs (k + 4) ∧ w.grownBy w' (some gs) := by
  have H := hid h
  clear h
  go_enter Tryz.func36, Tryz.ntmps36
  go_wp2_with fail
  refine (one_any gs k 10 _ H.out (by omega) (by omega)).mono ?_
  rintro r w1 ⟨b, rfl, hs, hg⟩
  have H1 := hid hs
  clear hs H
  cases b with
  | true =>
    have la : (w1.alloc (.cells #[.int .i64 (-1), .int .i64 0, .int .i64 1000000000, .int .i64 1000000001, .int .i64 (-9223372036854775808)] 2)).ownsRow w1.heap.size 2 1 (.slice (some ⟨w1.heap.size, 0, none⟩) 5 5) 5 (([-1, 0, 1000000000, 1000000001, -9223372036854775808] : List Int).flatMap encI) := World.ownsRow_lit w1 #[.int .i64 (-1), .int .i64 0, .int .i64 1000000000, .int .i64 1000000001, .int .i64 (-9223372036854775808)] 5 (Nat.le_refl _) (by simp [maxLen]) (by simp)
    have hlit := own_sl encI_len (by omega) la
    have hgw := H1.out.lt
    clear la
    have H2 := hid (H1.out.alloc (.cells #[.int .i64 (-1), .int .i64 0, .int .i64 1000000000, .int .i64 1000000001, .int .i64 (-9223372036854775808)] 2))
    have HL := hid hlit
    clear H1 hlit
    go_wp2_with fail
    refine (among_any gs _ (some ⟨w1.heap.size, 0, none⟩) 5 5 _ _ H2.out (by omega) (by omega) (by omega) HL.out (fun b o s e => by injection e with e; injection e with e1 e2; omega)).mono ?_
    rintro r w2 ⟨x, rfl, _, hs2, hg2⟩
    clear H2 HL
    go_wp2_with fail
    go_ret
    exact ⟨x, rfl, hs2.mono (by omega), (gr_alloc hg).trans hg2⟩
  | false =>
    go_wp2_with fail
    refine (pick_any gs _ 400 _ H1.out (by omega) (by omega)).mono ?_
    rintro r w2 ⟨x, rfl, _, _, hs2, hg2⟩
    clear H1
    go_wp2_with fail
    go_ret
    exact ⟨x, rfl, hs2.mono (by omega), hg.trans hg2⟩
/-- what a draw of a tariff, two numbers and a bool leaves -/
def DrawS3 (w : World) (r : Ending) (w' : World) : Prop :=
  ∃ (A : Option Addr) (c : Nat) (xs : List Step) (h e m g : Int) (z : Bool), r = .returned (.tuple #[.agg #[.slice A xs.length c, .int .i64 h, .int .i64 e], .int .i64 m, .int .i64 g, .bool z]) ∧ xs.length ≤ 9 ∧ Hid (Sl w' w'.heap.size 2 encStep A xs.length xs) ∧ Below w.heap.size w w'
/-- what a draw of a tariff leaves -/
def DrawS0 (w : World) (r : Ending) (w' : World) : Prop :=
  ∃ (A : Option Addr) (c : Nat) (xs : List Step) (h e : Int), r = .returned (.agg #[.slice A xs.length c, .int .i64 h, .int .i64 e]) ∧ xs.length ≤ 9 ∧ Hid (Sl w' w'.heap.size 2 encStep A xs.length xs) ∧ Below w.heap.size w w'
set_option maxHeartbeats 4000000 in
set_option maxRecDepth 100000 in
theorem DrawPriceFor_any (v : Value) (w : World) (hv : Bytes w w.heap.size 5000 v) : Calls Tryz.prog 5 #[v] w (DrawS3 w) := by
  have r0 : Res3 (w.alloc (.cells #[.slice none 0 0, .int .i64 0, .int .i64 0] 26)) w.heap.size (.slice none 0 0) (.int .i64 0) (.int .i64 0) := ⟨by go_simp, by go_simp, by go_simp, by go_simp, by go_simp, by go_simp⟩
  have hf := l00From_any v (w.alloc (.cells #[.slice none 0 0, .int .i64 0, .int .i64 0] 26)) (hv.lift (Nat.le_refl _) ((Below.refl _ _).alloc (Nat.le_refl _) _))
  have hsz : (w.alloc (.cells #[.slice none 0 0, .int .i64 0, .int .i64 0] 26)).heap.size = w.heap.size + 1 := by simp
  rw [hsz] at hf
  have R0 := hid r0
  clear hv hsz r0
  go_enter Tryz.func5, Tryz.ntmps5
  go_wp2_with fail
  refine hf.mono ?_
  rintro r w1 ⟨rfl, hs, hb, hl⟩
  have R1 := hid (R0.out.below (hb.mono (by simp)))
  have b1 : Below w.heap.size w w1 := ((Below.refl _ _).alloc (Nat.le_refl _) _).trans (hb.mono (by omega))
  have hd := l23Bent_any (w.heap.size + 1) 0 w1 hs (by omega)
  have lr1 := R1.out.lt
  clear hf hs hb R0
  go_wp2_with fail
  refine hd.mono ?_
  rintro r w2 ⟨A, c, xs, hh, ee, rfl, _, hm9, hO, hS, hG⟩
  clear hd
  have R2 := hid ((R1.out.grow hG (by simp)).alloc (.cells #[.slice A xs.length c, .int .i64 hh, .int .i64 ee] 26))
  have T2 : Hid (TarAt (w2.alloc (.cells #[.slice A xs.length c, .int .i64 hh, .int .i64 ee] 26)) (w1.heap.size + 2) w2.heap.size A c xs hh ee) :=
    ⟨hO.alloc _, fun q hq => by have := (hO.lt q hq).2; omega, (World.cell?_alloc_at _ _ _ _ rfl).trans rfl, (World.cell?_alloc_at _ _ _ _ rfl).trans rfl, (World.cell?_alloc_at _ _ _ _ rfl).trans rfl, by go_simp, by go_simp, by go_simp⟩
  have S2 := hid (hS.alloc (.cells #[.slice A xs.length c, .int .i64 hh, .int .i64 ee] 26))
  have b2 := (below_src b1 hG (by omega) (by omega)).alloc (by have := hG.size; omega) (.cells #[.slice A xs.length c, .int .i64 hh, .int .i64 ee] 26)
  have z12 := hG.size
  clear R1 hO hS hG b1
  go_wp2_with fail
  refine (l23DrawGrams_any _ _ _ S2.out (by omega)).mono ?_
  rintro r w3 ⟨m, rfl, hs3, hg3⟩
  have R3 := hid (R2.out.grow hg3 (by simp))
  have T3 := hid (T2.out.src hg3 (by omega) (by omega))
  have S3 := hid hs3
  have b3 := below_src b2 hg3 (by omega) (by simp; omega)
  have l3 := T3.out.lt
  clear R2 T2 S2 b2 hs3 hg3
  go_wp2_with fail
  refine (l23DrawMetres_any _ _ _ S3.out (by omega)).mono ?_
  rintro r w4 ⟨n, rfl, hs4, hg4⟩
  have R4 := hid (R3.out.grow hg4 (by simp))
  have T4 := hid (T3.out.src hg4 (by omega) (by omega))
  have S4 := hid hs4
  have b4 := below_src b3 hg4 (by omega) (by omega)
  clear R3 T3 S3 b3 hs4 hg4
  have S9 := hid (S4.out.below ((Below.refl _ _).drew))
  have t0 := T4.out.c0
  have t1 := T4.out.c1
  have t2 := T4.out.c2
  have lr := R4.out.lt
  have lt := T4.out.lt
  have lzz := T4.out.own.lt
  go_wp2_with fail
  go_region_held3 (fun W => W.cell? ⟨w2.heap.size, 0, none⟩ = some (.slice A xs.length c) ∧ W.cell? ⟨w2.heap.size, 1, none⟩ = some (.int .i64 hh) ∧ W.cell? ⟨w2.heap.size, 2, none⟩ = some (.int .i64 ee))
    (first
      | (go_keep; done)
      | (go_split_ands; exact ⟨cell_src (by assumption) hg6 (by omega), cell_src (by assumption) hg6 (by omega), cell_src (by assumption) hg6 (by omega)⟩)
      | (go_split_ands; exact ⟨(cell_far (by simp only; omega)).trans ((cell_far (by simp only; omega)).trans ((cell_far (by simp only; omega)).trans (by assumption))), (cell_far (by simp only; omega)).trans ((cell_far (by simp only; omega)).trans ((cell_far (by simp only; omega)).trans (by assumption))), (cell_far (by simp only; omega)).trans ((cell_far (by simp only; omega)).trans ((cell_far (by simp only; omega)).trans (by assumption)))⟩))
    (first
      | (go_at_call 29; with_reducible refine (one_any _ _ 3 _ S9.out (by omega) (by omega)).mono ?_; rintro r w6 ⟨zz, rfl, hs6, hg6⟩; have R6 := ((R4.out.below (Below.refl _ _).drew).grow hg6 (by simp)); have d0 := R6.c0; have d1 := R6.c1; have d2 := R6.c2; have e0 := R6.f0; have e1 := R6.f1; have e2 := R6.f2))
  have HO := hid (own_src (ow_drew T4.out.own) hg6 (by omega))
  have HLO := hid lzz
  have HB := hid (below_src b4.drew hg6 (by omega) (by show _ ≤ w4.heap.size; omega))
  clear T4 R4 S4 S9 R6 hs6 hg6 lzz b4 t0 t1 t2

  have s0 : (w6.setCell ⟨w.heap.size, 0, none⟩ (.slice A xs.length c)).cell? ⟨w.heap.size, 0, none⟩ = some (.slice A xs.length c) := World.cell?_setCell_same _ _ _ d0
  have s1 : ((w6.setCell ⟨w.heap.size, 0, none⟩ (.slice A xs.length c)).setCell ⟨w.heap.size, 1, none⟩ (.int .i64 hh)).cell? ⟨w.heap.size, 1, none⟩ = some (.int .i64 hh) := World.cell?_setCell_same _ _ _ ((World.cell?_setCell_other _ _ _ _ (by simp)).trans d1)
  have s2 : (((w6.setCell ⟨w.heap.size, 0, none⟩ (.slice A xs.length c)).setCell ⟨w.heap.size, 1, none⟩ (.int .i64 hh)).setCell ⟨w.heap.size, 2, none⟩ (.int .i64 ee)).cell? ⟨w.heap.size, 2, none⟩ = some (.int .i64 ee) := World.cell?_setCell_same _ _ _ ((World.cell?_setCell_other _ _ _ _ (by simp)).trans ((World.cell?_setCell_other _ _ _ _ (by simp)).trans d2))
  go_wp2_with fail
  refine bodyPost_ret (v := .tuple #[.agg #[(.slice A xs.length c), .int .i64 hh, .int .i64 ee], .int .i64 m, .int .i64 n, .bool zz]) (by simp [results, Tryz.results5, go_sem, s0, s1, s2]) rfl ⟨A, c, xs, hh, ee, m, n, zz, rfl, hm9, ?_, ?_⟩
  · have hne : ∀ j, (Value.slice A xs.length c).ownBlock ≠ some (⟨w.heap.size, j, none⟩ : Addr).block := fun j e => by have := (HLO.out _ e).1; simp only at this; omega
    exact own_sl encStep_len (by omega) (ow_set (hne _) (ow_set (hne _) (ow_set (hne _) HO.out)))
  · exact bl_set (Nat.le_refl _) (bl_set (Nat.le_refl _) (bl_set (Nat.le_refl _) HB.out))
set_option maxHeartbeats 4000000 in
set_option maxRecDepth 100000 in
theorem DrawHeaviestWithin_any (v : Value) (w : World) (hv : Bytes w w.heap.size 5000 v) : Calls Tryz.prog 8 #[v] w (DrawS3 w) := by
  have r0 : Res3 (w.alloc (.cells #[.slice none 0 0, .int .i64 0, .int .i64 0] 26)) w.heap.size (.slice none 0 0) (.int .i64 0) (.int .i64 0) := ⟨by go_simp, by go_simp, by go_simp, by go_simp, by go_simp, by go_simp⟩
  have hf := l00From_any v (w.alloc (.cells #[.slice none 0 0, .int .i64 0, .int .i64 0] 26)) (hv.lift (Nat.le_refl _) ((Below.refl _ _).alloc (Nat.le_refl _) _))
  have hsz : (w.alloc (.cells #[.slice none 0 0, .int .i64 0, .int .i64 0] 26)).heap.size = w.heap.size + 1 := by simp
  rw [hsz] at hf
  have R0 := hid r0
  clear hv hsz r0
  go_enter Tryz.func8, Tryz.ntmps8
  go_wp2_with fail
  refine hf.mono ?_
  rintro r w1 ⟨rfl, hs, hb, hl⟩
  have R1 := hid (R0.out.below (hb.mono (by simp)))
  have b1 : Below w.heap.size w w1 := ((Below.refl _ _).alloc (Nat.le_refl _) _).trans (hb.mono (by omega))
  have hd := l23Bent_any (w.heap.size + 1) 0 w1 hs (by omega)
  have lr1 := R1.out.lt
  clear hf hs hb R0
  go_wp2_with fail
  refine hd.mono ?_
  rintro r w2 ⟨A, c, xs, hh, ee, rfl, _, hm9, hO, hS, hG⟩
  clear hd
  have R2 := hid ((R1.out.grow hG (by simp)).alloc (.cells #[.slice A xs.length c, .int .i64 hh, .int .i64 ee] 26))
  have T2 : Hid (TarAt (w2.alloc (.cells #[.slice A xs.length c, .int .i64 hh, .int .i64 ee] 26)) (w1.heap.size + 2) w2.heap.size A c xs hh ee) :=
    ⟨hO.alloc _, fun q hq => by have := (hO.lt q hq).2; omega, (World.cell?_alloc_at _ _ _ _ rfl).trans rfl, (World.cell?_alloc_at _ _ _ _ rfl).trans rfl, (World.cell?_alloc_at _ _ _ _ rfl).trans rfl, by go_simp, by go_simp, by go_simp⟩
  have S2 := hid (hS.alloc (.cells #[.slice A xs.length c, .int .i64 hh, .int .i64 ee] 26))
  have b2 := (below_src b1 hG (by omega) (by omega)).alloc (by have := hG.size; omega) (.cells #[.slice A xs.length c, .int .i64 hh, .int .i64 ee] 26)
  have z12 := hG.size
  clear R1 hO hS hG b1
  go_wp2_with fail
  refine (l23DrawMetres_any _ _ _ S2.out (by omega)).mono ?_
  rintro r w3 ⟨m, rfl, hs3, hg3⟩
  have R3 := hid (R2.out.grow hg3 (by simp))
  have T3 := hid (T2.out.src hg3 (by omega) (by omega))
  have S3 := hid hs3
  have b3 := below_src b2 hg3 (by omega) (by simp; omega)
  have l3 := T3.out.lt
  clear R2 T2 S2 b2 hs3 hg3
  go_wp2_with fail
  refine (l23DrawMoney_any _ _ _ S3.out (by omega)).mono ?_
  rintro r w4 ⟨n, rfl, hs4, hg4⟩
  have R4 := hid (R3.out.grow hg4 (by simp))
  have T4 := hid (T3.out.src hg4 (by omega) (by omega))
  have S4 := hid hs4
  have b4 := below_src b3 hg4 (by omega) (by omega)
  clear R3 T3 S3 b3 hs4 hg4
  have S9 := hid (S4.out.below ((Below.refl _ _).drew))
  have t0 := T4.out.c0
  have t1 := T4.out.c1
  have t2 := T4.out.c2
  have lr := R4.out.lt
  have lt := T4.out.lt
  have lzz := T4.out.own.lt
  go_wp2_with fail
  go_region_held3 (fun W => W.cell? ⟨w2.heap.size, 0, none⟩ = some (.slice A xs.length c) ∧ W.cell? ⟨w2.heap.size, 1, none⟩ = some (.int .i64 hh) ∧ W.cell? ⟨w2.heap.size, 2, none⟩ = some (.int .i64 ee))
    (first
      | (go_keep; done)
      | (go_split_ands; exact ⟨cell_src (by assumption) hg6 (by omega), cell_src (by assumption) hg6 (by omega), cell_src (by assumption) hg6 (by omega)⟩)
      | (go_split_ands; exact ⟨(cell_far (by simp only; omega)).trans ((cell_far (by simp only; omega)).trans ((cell_far (by simp only; omega)).trans (by assumption))), (cell_far (by simp only; omega)).trans ((cell_far (by simp only; omega)).trans ((cell_far (by simp only; omega)).trans (by assumption))), (cell_far (by simp only; omega)).trans ((cell_far (by simp only; omega)).trans ((cell_far (by simp only; omega)).trans (by assumption)))⟩))
    (first
      | (go_at_call 29; with_reducible refine (one_any _ _ 3 _ S9.out (by omega) (by omega)).mono ?_; rintro r w6 ⟨zz, rfl, hs6, hg6⟩; have R6 := ((R4.out.below (Below.refl _ _).drew).grow hg6 (by simp)); have d0 := R6.c0; have d1 := R6.c1; have d2 := R6.c2; have e0 := R6.f0; have e1 := R6.f1; have e2 := R6.f2))
  have HO := hid (own_src (ow_drew T4.out.own) hg6 (by omega))
  have HLO := hid lzz
  have HB := hid (below_src b4.drew hg6 (by omega) (by show _ ≤ w4.heap.size; omega))
  clear T4 R4 S4 S9 R6 hs6 hg6 lzz b4 t0 t1 t2

  have s0 : (w6.setCell ⟨w.heap.size, 0, none⟩ (.slice A xs.length c)).cell? ⟨w.heap.size, 0, none⟩ = some (.slice A xs.length c) := World.cell?_setCell_same _ _ _ d0
  have s1 : ((w6.setCell ⟨w.heap.size, 0, none⟩ (.slice A xs.length c)).setCell ⟨w.heap.size, 1, none⟩ (.int .i64 hh)).cell? ⟨w.heap.size, 1, none⟩ = some (.int .i64 hh) := World.cell?_setCell_same _ _ _ ((World.cell?_setCell_other _ _ _ _ (by simp)).trans d1)
  have s2 : (((w6.setCell ⟨w.heap.size, 0, none⟩ (.slice A xs.length c)).setCell ⟨w.heap.size, 1, none⟩ (.int .i64 hh)).setCell ⟨w.heap.size, 2, none⟩ (.int .i64 ee)).cell? ⟨w.heap.size, 2, none⟩ = some (.int .i64 ee) := World.cell?_setCell_same _ _ _ ((World.cell?_setCell_other _ _ _ _ (by simp)).trans ((World.cell?_setCell_other _ _ _ _ (by simp)).trans d2))
  go_wp2_with fail
  refine bodyPost_ret (v := .tuple #[.agg #[(.slice A xs.length c), .int .i64 hh, .int .i64 ee], .int .i64 m, .int .i64 n, .bool zz]) (by simp [results, Tryz.results8, go_sem, s0, s1, s2]) rfl ⟨A, c, xs, hh, ee, m, n, zz, rfl, hm9, ?_, ?_⟩
  · have hne : ∀ j, (Value.slice A xs.length c).ownBlock ≠ some (⟨w.heap.size, j, none⟩ : Addr).block := fun j e => by have := (HLO.out _ e).1; simp only at this; omega
    exact own_sl encStep_len (by omega) (ow_set (hne _) (ow_set (hne _) (ow_set (hne _) HO.out)))
  · exact bl_set (Nat.le_refl _) (bl_set (Nat.le_refl _) (bl_set (Nat.le_refl _) HB.out))
set_option maxHeartbeats 4000000 in
set_option maxRecDepth 100000 in
theorem DrawFarthestWithin_any (v : Value) (w : World) (hv : Bytes w w.heap.size 5000 v) : Calls Tryz.prog 11 #[v] w (DrawS3 w) := by
  have r0 : Res3 (w.alloc (.cells #[.slice none 0 0, .int .i64 0, .int .i64 0] 26)) w.heap.size (.slice none 0 0) (.int .i64 0) (.int .i64 0) := ⟨by go_simp, by go_simp, by go_simp, by go_simp, by go_simp, by go_simp⟩
  have hf := l00From_any v (w.alloc (.cells #[.slice none 0 0, .int .i64 0, .int .i64 0] 26)) (hv.lift (Nat.le_refl _) ((Below.refl _ _).alloc (Nat.le_refl _) _))
  have hsz : (w.alloc (.cells #[.slice none 0 0, .int .i64 0, .int .i64 0] 26)).heap.size = w.heap.size + 1 := by simp
  rw [hsz] at hf
  have R0 := hid r0
  clear hv hsz r0
  go_enter Tryz.func11, Tryz.ntmps11
  go_wp2_with fail
  refine hf.mono ?_
  rintro r w1 ⟨rfl, hs, hb, hl⟩
  have R1 := hid (R0.out.below (hb.mono (by simp)))
  have b1 : Below w.heap.size w w1 := ((Below.refl _ _).alloc (Nat.le_refl _) _).trans (hb.mono (by omega))
  have hd := l23Bent_any (w.heap.size + 1) 0 w1 hs (by omega)
  have lr1 := R1.out.lt
  clear hf hs hb R0
  go_wp2_with fail
  refine hd.mono ?_
  rintro r w2 ⟨A, c, xs, hh, ee, rfl, _, hm9, hO, hS, hG⟩
  clear hd
  have R2 := hid ((R1.out.grow hG (by simp)).alloc (.cells #[.slice A xs.length c, .int .i64 hh, .int .i64 ee] 26))
  have T2 : Hid (TarAt (w2.alloc (.cells #[.slice A xs.length c, .int .i64 hh, .int .i64 ee] 26)) (w1.heap.size + 2) w2.heap.size A c xs hh ee) :=
    ⟨hO.alloc _, fun q hq => by have := (hO.lt q hq).2; omega, (World.cell?_alloc_at _ _ _ _ rfl).trans rfl, (World.cell?_alloc_at _ _ _ _ rfl).trans rfl, (World.cell?_alloc_at _ _ _ _ rfl).trans rfl, by go_simp, by go_simp, by go_simp⟩
  have S2 := hid (hS.alloc (.cells #[.slice A xs.length c, .int .i64 hh, .int .i64 ee] 26))
  have b2 := (below_src b1 hG (by omega) (by omega)).alloc (by have := hG.size; omega) (.cells #[.slice A xs.length c, .int .i64 hh, .int .i64 ee] 26)
  have z12 := hG.size
  clear R1 hO hS hG b1
  go_wp2_with fail
  refine (l23DrawGrams_any _ _ _ S2.out (by omega)).mono ?_
  rintro r w3 ⟨m, rfl, hs3, hg3⟩
  have R3 := hid (R2.out.grow hg3 (by simp))
  have T3 := hid (T2.out.src hg3 (by omega) (by omega))
  have S3 := hid hs3
  have b3 := below_src b2 hg3 (by omega) (by simp; omega)
  have l3 := T3.out.lt
  clear R2 T2 S2 b2 hs3 hg3
  go_wp2_with fail
  refine (l23DrawMoney_any _ _ _ S3.out (by omega)).mono ?_
  rintro r w4 ⟨n, rfl, hs4, hg4⟩
  have R4 := hid (R3.out.grow hg4 (by simp))
  have T4 := hid (T3.out.src hg4 (by omega) (by omega))
  have S4 := hid hs4
  have b4 := below_src b3 hg4 (by omega) (by omega)
  clear R3 T3 S3 b3 hs4 hg4
  have S9 := hid (S4.out.below ((Below.refl _ _).drew))
  have t0 := T4.out.c0
  have t1 := T4.out.c1
  have t2 := T4.out.c2
  have lr := R4.out.lt
  have lt := T4.out.lt
  have lzz := T4.out.own.lt
  go_wp2_with fail
  go_region_held3 (fun W => W.cell? ⟨w2.heap.size, 0, none⟩ = some (.slice A xs.length c) ∧ W.cell? ⟨w2.heap.size, 1, none⟩ = some (.int .i64 hh) ∧ W.cell? ⟨w2.heap.size, 2, none⟩ = some (.int .i64 ee))
    (first
      | (go_keep; done)
      | (go_split_ands; exact ⟨cell_src (by assumption) hg6 (by omega), cell_src (by assumption) hg6 (by omega), cell_src (by assumption) hg6 (by omega)⟩)
      | (go_split_ands; exact ⟨(cell_far (by simp only; omega)).trans ((cell_far (by simp only; omega)).trans ((cell_far (by simp only; omega)).trans (by assumption))), (cell_far (by simp only; omega)).trans ((cell_far (by simp only; omega)).trans ((cell_far (by simp only; omega)).trans (by assumption))), (cell_far (by simp only; omega)).trans ((cell_far (by simp only; omega)).trans ((cell_far (by simp only; omega)).trans (by assumption)))⟩))
    (first
      | (go_at_call 29; with_reducible refine (one_any _ _ 3 _ S9.out (by omega) (by omega)).mono ?_; rintro r w6 ⟨zz, rfl, hs6, hg6⟩; have R6 := ((R4.out.below (Below.refl _ _).drew).grow hg6 (by simp)); have d0 := R6.c0; have d1 := R6.c1; have d2 := R6.c2; have e0 := R6.f0; have e1 := R6.f1; have e2 := R6.f2))
  have HO := hid (own_src (ow_drew T4.out.own) hg6 (by omega))
  have HLO := hid lzz
  have HB := hid (below_src b4.drew hg6 (by omega) (by show _ ≤ w4.heap.size; omega))
  clear T4 R4 S4 S9 R6 hs6 hg6 lzz b4 t0 t1 t2

  have s0 : (w6.setCell ⟨w.heap.size, 0, none⟩ (.slice A xs.length c)).cell? ⟨w.heap.size, 0, none⟩ = some (.slice A xs.length c) := World.cell?_setCell_same _ _ _ d0
  have s1 : ((w6.setCell ⟨w.heap.size, 0, none⟩ (.slice A xs.length c)).setCell ⟨w.heap.size, 1, none⟩ (.int .i64 hh)).cell? ⟨w.heap.size, 1, none⟩ = some (.int .i64 hh) := World.cell?_setCell_same _ _ _ ((World.cell?_setCell_other _ _ _ _ (by simp)).trans d1)
  have s2 : (((w6.setCell ⟨w.heap.size, 0, none⟩ (.slice A xs.length c)).setCell ⟨w.heap.size, 1, none⟩ (.int .i64 hh)).setCell ⟨w.heap.size, 2, none⟩ (.int .i64 ee)).cell? ⟨w.heap.size, 2, none⟩ = some (.int .i64 ee) := World.cell?_setCell_same _ _ _ ((World.cell?_setCell_other _ _ _ _ (by simp)).trans ((World.cell?_setCell_other _ _ _ _ (by simp)).trans d2))
  go_wp2_with fail
  refine bodyPost_ret (v := .tuple #[.agg #[(.slice A xs.length c), .int .i64 hh, .int .i64 ee], .int .i64 m, .int .i64 n, .bool zz]) (by simp [results, Tryz.results11, go_sem, s0, s1, s2]) rfl ⟨A, c, xs, hh, ee, m, n, zz, rfl, hm9, ?_, ?_⟩
  · have hne : ∀ j, (Value.slice A xs.length c).ownBlock ≠ some (⟨w.heap.size, j, none⟩ : Addr).block := fun j e => by have := (HLO.out _ e).1; simp only at this; omega
    exact own_sl encStep_len (by omega) (ow_set (hne _) (ow_set (hne _) (ow_set (hne _) HO.out)))
  · exact bl_set (Nat.le_refl _) (bl_set (Nat.le_refl _) (bl_set (Nat.le_refl _) HB.out))
set_option maxHeartbeats 4000000 in
set_option maxRecDepth 100000 in
theorem DrawTariffText_any (v : Value) (w : World) (hv : Bytes w w.heap.size 5000 v) : Calls Tryz.prog 14 #[v] w (DrawS0 w) := by
  have r0 : Res3 (w.alloc (.cells #[.slice none 0 0, .int .i64 0, .int .i64 0] 26)) w.heap.size (.slice none 0 0) (.int .i64 0) (.int .i64 0) := ⟨by go_simp, by go_simp, by go_simp, by go_simp, by go_simp, by go_simp⟩
  have hf := l00From_any v (w.alloc (.cells #[.slice none 0 0, .int .i64 0, .int .i64 0] 26)) (hv.lift (Nat.le_refl _) ((Below.refl _ _).alloc (Nat.le_refl _) _))
  have hsz : (w.alloc (.cells #[.slice none 0 0, .int .i64 0, .int .i64 0] 26)).heap.size = w.heap.size + 1 := by simp
  rw [hsz] at hf
  have R0 := hid r0
  clear hv hsz r0
  go_enter Tryz.func14, Tryz.ntmps14
  go_wp2_with fail
  refine hf.mono ?_
  rintro r w1 ⟨rfl, hs, hb, hl⟩
  have R1 := hid (R0.out.below (hb.mono (by simp)))
  have b1 : Below w.heap.size w w1 := ((Below.refl _ _).alloc (Nat.le_refl _) _).trans (hb.mono (by omega))
  have hd := l23Bent_any (w.heap.size + 1) 0 w1 hs (by omega)
  have lr1 := R1.out.lt
  clear hf hs hb R0
  go_wp2_with fail
  refine hd.mono ?_
  rintro r w2 ⟨A, c, xs, hh, ee, rfl, _, hm9, hO, hS, hG⟩
  clear hd
  have R2 := hid (R1.out.grow hG (by simp))
  have d0 := R2.out.c0
  have d1 := R2.out.c1
  have d2 := R2.out.c2
  have e0 := R2.out.f0
  have e1 := R2.out.f1
  have e2 := R2.out.f2
  have lr := R2.out.lt
  have HLO := hid hO.lt
  have HO := hid hO
  have HB := hid (below_src b1 hG (by omega) (by omega))
  clear R1 R2 hO hS hG b1

  have s0 : (w2.setCell ⟨w.heap.size, 0, none⟩ (.slice A xs.length c)).cell? ⟨w.heap.size, 0, none⟩ = some (.slice A xs.length c) := World.cell?_setCell_same _ _ _ d0
  have s1 : ((w2.setCell ⟨w.heap.size, 0, none⟩ (.slice A xs.length c)).setCell ⟨w.heap.size, 1, none⟩ (.int .i64 hh)).cell? ⟨w.heap.size, 1, none⟩ = some (.int .i64 hh) := World.cell?_setCell_same _ _ _ ((World.cell?_setCell_other _ _ _ _ (by simp)).trans d1)
  have s2 : (((w2.setCell ⟨w.heap.size, 0, none⟩ (.slice A xs.length c)).setCell ⟨w.heap.size, 1, none⟩ (.int .i64 hh)).setCell ⟨w.heap.size, 2, none⟩ (.int .i64 ee)).cell? ⟨w.heap.size, 2, none⟩ = some (.int .i64 ee) := World.cell?_setCell_same _ _ _ ((World.cell?_setCell_other _ _ _ _ (by simp)).trans ((World.cell?_setCell_other _ _ _ _ (by simp)).trans d2))
  go_wp2_with fail
  refine bodyPost_ret (v := .agg #[(.slice A xs.length c), .int .i64 hh, .int .i64 ee]) (by simp [results, Tryz.results14, go_sem, s0, s1, s2]) rfl ⟨A, c, xs, hh, ee, rfl, hm9, ?_, ?_⟩
  · have hne : ∀ j, (Value.slice A xs.length c).ownBlock ≠ some (⟨w.heap.size, j, none⟩ : Addr).block := fun j e => by have := (HLO.out _ e).1; simp only at this; omega
    exact own_sl encStep_len (by omega) (ow_set (hne _) (ow_set (hne _) (ow_set (hne _) HO.out)))
  · exact bl_set (Nat.le_refl _) (bl_set (Nat.le_refl _) (bl_set (Nat.le_refl _) HB.out))
end Go.Proofs.YtngfhpklakhehaaGreatDoor
