/-
  Drawn queues: they are valid and small. No condition.
-/
import Derived.Test.YtfhlooegeklpaaaSrc
import Derived.Test.YtfhlooegeklpaaaQPlain5
import Derived.Deep.RegionLaw
namespace Go.Proofs.Ytfhlooegeklpaaa
open Go.RowKit
set_option maxHeartbeats 400000

/-- what a draw of a queue leaves -/
def DrawQ (gs K : Nat) (w : World) (e : Ending) (w' : World) : Prop :=
  ∃ A c xs, e = .returned (.slice A xs.length c) ∧ smallQ xs = true ∧ w'.ownsRow (gs + 1) 43 3 (.slice A xs.length c) xs.length (xs.flatMap encItem) ∧ SrcAt w' gs K ∧ Below gs w w'
set_option maxHeartbeats 4000000 in
set_option maxRecDepth 100000 in
theorem l22Draw_any (gs k : Nat) (w : World) (h : SrcAt w gs k) (hk : k ≤ 1000) :
    Calls Try.prog 34 #[.pointer (some ⟨gs, 0, none⟩)] w (DrawQ gs (k + 60) w) := by
  obtain ⟨i0, hi, hz0, hz1, hz2⟩ := info_parts item_info
  have hgl := h.lt
  have o0 : (w.alloc (.cells #[] 43)).ownsRow (gs + 1) 43 3 (.slice (some ⟨w.heap.size, 0, none⟩) 0 0) 0 [] := World.ownsRow_lit w #[] 0 (by omega) (by simp only [maxLen]; omega) rfl
  have h1 := h.below (((Below.refl (gs + 1) w).alloc (by omega) (.cells #[] 43)))
  have H1 := hid h1
  have O0 := hid o0
  clear h h1 o0
  go_enter Try.func34, Try.ntmps34
  go_wp2_with fail
  refine (pick_any gs k 9 _ H1.out (by omega) (by omega)).mono ?_
  rintro e w1 ⟨r, rfl, r0, r1, hs1, hg1⟩
  have r8 : r ≤ 8 := by omega
  have ho1 := own_src O0.out hg1 (Nat.lt_succ_self gs)
  have hb1 : Below gs w w1 := below_src ((Below.refl gs w).alloc (by omega) _) hg1 (Nat.le_refl _) (by simp; omega)
  have HS1 := hid hs1
  have HO1 := hid ho1
  clear hs1 hg1 ho1 H1 O0 r1
  go_wp2_with fail
  go_loopw [3, 4] (fun o i wl => ∃ (A : Option Addr) (c : Nat) (xs : List Item) (z : Int), o = .slice A xs.length c ∧ i = .int .i64 z ∧ 0 ≤ z ∧ z + xs.length ≤ 8 ∧ Hid (xs.all smallI = true) ∧ Hid (wl.ownsRow (gs + 1) 43 3 (.slice A xs.length c) xs.length (xs.flatMap encItem)) ∧ Hid (SrcAt wl gs (k + 2 + 6 * xs.length)) ∧ Below gs w wl ∧ gs < wl.heap.size) (fun _ i _ => (intOf i).toNat)
  case atStart => exact ⟨_, _, [], r, rfl, rfl, r0, by simp; omega, rfl, HO1, HS1, hb1, HS1.out.lt⟩
  case round =>
    obtain ⟨A, c, xs, z, rfl, rfl, z0, z1, Ha, Ho, Hs, hb, hgl⟩ := hrel
    clear HS1 HO1
    by_cases hz : 0 < z
    · go_wp2_with fail
      refine (pick_any gs _ 40 _ Hs.out (by omega) (by omega)).mono ?_
      rintro e w2 ⟨a, rfl, a0, a1, hs2, hg2⟩
      have a39 : a ≤ 39 := by omega
      have ho2 := own_src Ho.out hg2 (Nat.lt_succ_self gs)
      have hb2 := below_src hb hg2 (Nat.le_refl _) (by omega)
      have hl2 : gs < w2.heap.size := hs2.lt
      have HS2 := hid hs2
      have HO2 := hid ho2
      clear hs2 hg2 ho2 Ho Hs a1
      go_wp2_with fail
      refine (pick_any gs _ 9 _ (HS2.out.alloc _) (by omega) (by omega)).mono ?_
      rintro e w3 ⟨t, rfl, t0, t1, hs3, hg3⟩
      have t8 : t ≤ 8 := by omega
      have ho3 := own_src (HO2.out.alloc _) hg3 (Nat.lt_succ_self gs)
      have hb3 := below_src (hb2.alloc (by omega) _) hg3 (Nat.le_refl _) (by simp; omega)
      have c0 : w3.cell? ⟨w2.heap.size, 0, none⟩ = some (.int .i64 a) := cell_src (by go_simp) hg3 (by omega)
      have c1 : w3.cell? ⟨w2.heap.size, 1, none⟩ = some (.int .i64 0) := cell_src (by go_simp) hg3 (by omega)
      have c2 : w3.cell? ⟨w2.heap.size, 2, none⟩ = some (.int .i64 0) := cell_src (by go_simp) hg3 (by omega)
      have f1 : w3.frozen? ⟨w2.heap.size, 1, none⟩ = false := frz_src (by go_simp) hg3 (by omega) (by simp)
      have f2 : w3.frozen? ⟨w2.heap.size, 2, none⟩ = false := frz_src (by go_simp) hg3 (by omega) (by simp)
      have l3 : w2.heap.size < w3.heap.size := World.block_lt_of_cell? _ _ c0
      have n3 : (Value.slice A xs.length c).ownBlock ≠ some w2.heap.size := fun e => by have := (HO2.out.lt _ e).2; omega
      have HS3 := hid hs3
      have HO3 := hid ho3
      clear hs3 hg3 ho3 HS2 HO2 t1
      go_wp2_with fail
      refine (pick_any gs _ 4 _ (HS3.out.set (by simp only; omega)) (by omega) (by omega)).mono ?_
      rintro e w4 ⟨q, rfl, q0, q1, hs4, hg4⟩
      have q3 : q ≤ 3 := by omega
      have ho4 := own_src (ow_set n3 HO3.out) hg4 (Nat.lt_succ_self gs)
      have hb4 := below_src (bl_set (p := ⟨w2.heap.size, 1, none⟩) (u := .int .i64 (1 + t)) (by simp only; omega) hb3) hg4 (Nat.le_refl _) (by simp; omega)
      have d0 : w4.cell? ⟨w2.heap.size, 0, none⟩ = some (.int .i64 a) := cell_src ((World.cell?_setCell_other _ _ _ _ (by simp)).trans c0) hg4 (by omega)
      have d1 : w4.cell? ⟨w2.heap.size, 1, none⟩ = some (.int .i64 (1 + t)) := cell_src (World.cell?_setCell_same _ _ _ c1) hg4 (by omega)
      have d2 : w4.cell? ⟨w2.heap.size, 2, none⟩ = some (.int .i64 0) := cell_src ((World.cell?_setCell_other _ _ _ _ (by simp)).trans c2) hg4 (by omega)
      have g2 : w4.frozen? ⟨w2.heap.size, 2, none⟩ = false := frz_src (by rw [World.frozen?_setCell]; exact f2) hg4 (by omega) (by simpa using l3)
      have l4 : w2.heap.size < w4.heap.size := World.block_lt_of_cell? _ _ d0
      have hl4 : gs < w4.heap.size := hs4.lt
      have HS4 := hid (hs4.set (p := ⟨w2.heap.size, 2, none⟩) (u := .int .i64 q) (by simp only; omega))
      have ho5 := ow_set (p := ⟨w2.heap.size, 2, none⟩) (u := .int .i64 q) n3 ho4
      have hb5 := bl_set (p := ⟨w2.heap.size, 2, none⟩) (u := .int .i64 q) (by simp only; omega) hb4
      have HO5 := hid ho5
      clear hs4 hg4 ho4 ho5 HS3 HO3 q1 c0 c1 c2 f1 f2
      go_wp2_with (at_builtin; go_loud (refine wpList_append_lies _ rfl _ _ 28 rfl (gs + 1) 43 i0 (.agg #[.int .i64 0, .int .i64 0, .int .i64 0]) 3 24 Try.underlying28 hi hz0 hz1 hz2 rfl (by omega) (.slice A xs.length c) xs.length (xs.flatMap encItem) rfl (HO5.out.alloc _) ⟨w4.heap.size, 0, none⟩ 1 1 [.int .i64 a, .int .i64 (1 + t), .int .i64 q] rfl rfl (World.news_of_block (cs := #[.int .i64 a, .int .i64 (1 + t), .int .i64 q]) (t := 43) (fr := (0, 0)) (heap_at (by simp))) (by simp [Value.oneCell']) (by omega) (by simp only [maxLen]; omega) (by omega) (by simp; omega) (w4.heap.size + 1) (by simp) ?_; intro gg cap w7 ho7 hg7 hat7 hlt7))
      have hs7 := ((HS4.out.alloc (.cells #[.int .i64 a, .int .i64 (1 + t), .int .i64 q] 43)).grown hg7 (fun b hb => (HO5.out.lt b hb).1)).mono (show k + 2 + 6 * xs.length + 2 + 2 + 2 ≤ k + 2 + 6 * (xs ++ [(⟨a, 1 + t, q⟩ : Item)]).length by simp; omega)
      have hb7 := grown_below (hb5.alloc (by simp; omega) (.cells #[.int .i64 a, .int .i64 (1 + t), .int .i64 q] 43)) hg7 (by simp; omega) (fun b hb => by have := (HO5.out.lt b hb).1; omega)
      have ha7 : (xs ++ [(⟨a, 1 + t, q⟩ : Item)]).all smallI = true := by
        rw [List.all_append, Ha.out]
        simp [smallI, inR]
        omega
      have ho8 : w7.ownsRow (gs + 1) 43 3 (.slice (some ⟨gg, 0, none⟩) (xs ++ [(⟨a, 1 + t, q⟩ : Item)]).length cap) (xs ++ [(⟨a, 1 + t, q⟩ : Item)]).length ((xs ++ [(⟨a, 1 + t, q⟩ : Item)]).flatMap encItem) := by simpa [encItem] using ho7
      have hl7 := hs7.lt
      have HS7 := hid hs7
      have HO7 := hid ho8
      have HA7 := hid ha7
      clear hs7 ho8 ha7 ho7 hg7
      go_roundw
      all_goals first | exact ⟨_, _, xs ++ [⟨a, 1 + t, q⟩], z - 1, by simp, rfl, by omega, by simp; omega, HA7, HO7, HS7, hb7, hl7⟩ | exact ⟨⟨_, _, xs ++ [⟨a, 1 + t, q⟩], z - 1, by simp, rfl, by omega, by simp; omega, HA7, HO7, HS7, hb7, hl7⟩, by simp [intOf]; omega⟩ | (simp [intOf]; omega)
    · have hzz : z = 0 := by omega
      go_wp2_with fail
      go_ret
      exact ⟨A, c, xs, rfl, by have h1 := Ha.out; simp only [smallQ, h1, Bool.and_true, decide_eq_true_eq]; omega, Ho.out, Hs.out.mono (by omega), hb⟩
/-- some bytes give a small queue -/
theorem A2Queue_any (v : Value) (w : World) (hv : Bytes w w.heap.size 5000 v) : Calls Try.prog 13 #[v] w (DrawQ w.heap.size 60 w) := by
  have hc := l00From_any v w hv
  clear hv
  go_enter Try.func13, Try.ntmps13
  go_wp2_with fail
  refine hc.mono ?_
  rintro e w1 ⟨rfl, hs, hb, hl⟩
  have hd := l22Draw_any w.heap.size 0 w1 hs (by omega)
  clear hs hc
  go_wp2_with fail
  refine hd.mono ?_
  rintro e w2 ⟨A, c, xs, rfl, hq, ho, hs, hb2⟩
  have P : DrawQ w.heap.size 60 w (.returned (.slice A xs.length c)) w2 := ⟨A, c, xs, rfl, hq, ho, hs, hb.trans hb2⟩
  clear hq ho hs hd
  go_wp2_with fail
  go_ret
  exact P
end Go.Proofs.Ytfhlooegeklpaaa
