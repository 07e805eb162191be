/-
  Drawn tariffs. No condition.
-/
import Derived.Test.YtngfhpklakhehaaGreatDoorSrc
import Derived.Test.YtngfhpklakhehaaGreatDoorTList
namespace Go.Proofs.YtngfhpklakhehaaGreatDoor
open Go.RowKit
set_option maxHeartbeats 400000

theorem stepT_info : (Tryz.prog.info? 57).map (fun i => (i.zero, i.size, i.bytes)) = some (some (.agg #[.int .i64 0, .int .i64 0]), 2, 16) := by kernel_rfl
/-- a tariff under way: its three cells in block gt, its steps in a row of one's own -/
structure TarAt (w : World) (lo gt : Nat) (A : Option Addr) (c : Nat) (xs : List Step) (h e : Int) : Prop where
  own : w.ownsRow lo 57 2 (.slice A xs.length c) xs.length (xs.flatMap encStep)
  ne : ∀ b, (Value.slice A xs.length c).ownBlock = some b → b ≠ gt
  c0 : w.cell? ⟨gt, 0, none⟩ = some (.slice A xs.length c)
  c1 : w.cell? ⟨gt, 1, none⟩ = some (.int .i64 h)
  c2 : w.cell? ⟨gt, 2, none⟩ = some (.int .i64 e)
  f0 : w.frozen? ⟨gt, 0, none⟩ = false
  f1 : w.frozen? ⟨gt, 1, none⟩ = false
  f2 : w.frozen? ⟨gt, 2, none⟩ = false
namespace TarAt
variable {w w' : World} {lo gt gs : Nat} {A : Option Addr} {c : Nat} {xs : List Step} {h e : Int}
theorem lt (t : TarAt w lo gt A c xs h e) : gt < w.heap.size := World.block_lt_of_cell? _ _ t.c0
theorem below (t : TarAt w lo gt A c xs h e) (hb : Below w.heap.size w w') : TarAt w' lo gt A c xs h e :=
  have hl := t.lt
  ⟨own_below t.own hb, t.ne, below_cell t.c0 hb, below_cell t.c1 hb, below_cell t.c2 hb, (hb.frozen (p := ⟨gt, 0, none⟩) hl).trans t.f0, (hb.frozen (p := ⟨gt, 1, none⟩) hl).trans t.f1, (hb.frozen (p := ⟨gt, 2, none⟩) hl).trans t.f2⟩
theorem alloc (t : TarAt w lo gt A c xs h e) (o : Obj) : TarAt (w.alloc o) lo gt A c xs h e := t.below ((Below.refl _ _).alloc (Nat.le_refl _) o)
theorem src (t : TarAt w lo gt A c xs h e) (hg : w.grownBy w' (some gs)) (hlo : gs < lo) (hgt : gt ≠ gs) : TarAt w' lo gt A c xs h e :=
  have hl := t.lt
  ⟨own_src t.own hg hlo, t.ne, cell_src t.c0 hg hgt, cell_src t.c1 hg hgt, cell_src t.c2 hg hgt, frz_src t.f0 hg hgt hl, frz_src t.f1 hg hgt hl, frz_src t.f2 hg hgt hl⟩
/-- a step that is appended -/
theorem snoc {gg cap : Nat} {z : Step} (t : TarAt w lo gt A c xs h e) (ho : w'.ownsRow lo 57 2 (.slice (some ⟨gg, 0, none⟩) (xs.length + 1) cap) (xs.length + 1) (xs.flatMap encStep ++ [.int .i64 z.g, .int .i64 z.p]))
    (hg : w.grownBy w' (Value.slice A xs.length c).ownBlock) (hat : (Value.slice A xs.length c).ownBlock = some gg ∨ w.heap.size ≤ gg) :
    TarAt (w'.setCell ⟨gt, 0, none⟩ (.slice (some ⟨gg, 0, none⟩) (xs.length + 1) cap)) lo gt (some ⟨gg, 0, none⟩) cap (xs ++ [z]) h e := by
  have hl := t.lt
  have hne : some gt ≠ (Value.slice A xs.length c).ownBlock := fun q => t.ne gt q.symm rfl
  have hgg : gg ≠ gt := by
    rcases hat with q | q
    · exact t.ne gg q
    · omega
  have hlen : (xs ++ [z]).length = xs.length + 1 := by simp
  have k0 := hg.cell t.c0 hne
  have k1 := hg.cell t.c1 hne
  have k2 := hg.cell t.c2 hne
  refine ⟨?_, fun b hb => ?_, ?_, ?_, ?_, ?_, ?_, ?_⟩
  · rw [hlen, List.flatMap_append]
    refine ow_set (by simp [Value.ownBlock, hgg]) ?_
    simpa [encStep] using ho
  · simp [Value.ownBlock] at hb
    omega
  · rw [hlen]
    exact World.cell?_setCell_same _ _ _ k0
  · exact (World.cell?_setCell_other _ _ _ _ (by simp)).trans k1
  · exact (World.cell?_setCell_other _ _ _ _ (by simp)).trans k2
  · rw [World.frozen?_setCell]; exact (hg.frozen_far ⟨gt, 0, none⟩ hl hne).trans t.f0
  · rw [World.frozen?_setCell]; exact (hg.frozen_far ⟨gt, 1, none⟩ hl hne).trans t.f1
  · rw [World.frozen?_setCell]; exact (hg.frozen_far ⟨gt, 2, none⟩ hl hne).trans t.f2
theorem put1 (t : TarAt w lo gt A c xs h e) (z : Int) : TarAt (w.setCell ⟨gt, 1, none⟩ (.int .i64 z)) lo gt A c xs z e :=
  ⟨ow_set (fun q => t.ne _ q rfl) t.own, t.ne, (World.cell?_setCell_other _ _ _ _ (by simp)).trans t.c0, World.cell?_setCell_same _ _ _ t.c1, (World.cell?_setCell_other _ _ _ _ (by simp)).trans t.c2,
    by rw [World.frozen?_setCell]; exact t.f0, by rw [World.frozen?_setCell]; exact t.f1, by rw [World.frozen?_setCell]; exact t.f2⟩
theorem put2 (t : TarAt w lo gt A c xs h e) (z : Int) : TarAt (w.setCell ⟨gt, 2, none⟩ (.int .i64 z)) lo gt A c xs h z :=
  ⟨ow_set (fun q => t.ne _ q rfl) t.own, t.ne, (World.cell?_setCell_other _ _ _ _ (by simp)).trans t.c0, (World.cell?_setCell_other _ _ _ _ (by simp)).trans t.c1, World.cell?_setCell_same _ _ _ t.c2,
    by rw [World.frozen?_setCell]; exact t.f0, by rw [World.frozen?_setCell]; exact t.f1, by rw [World.frozen?_setCell]; exact t.f2⟩
end TarAt
theorem gs_grow {a w w' : World} {gs : Nat} {row : Option Nat} (h : a.grownBy w (some gs)) (g : w.grownBy w' row) (hr : ∀ b, row = some b → a.heap.size ≤ b ∨ b = gs) : a.grownBy w' (some gs) :=
  ⟨g.os.trans h.os, g.tape.trans h.tape, g.output.trans h.output, Nat.le_trans h.size g.size, fun i hi hn => (g.block i (Nat.lt_of_lt_of_le hi h.size) (fun e => by
    rcases hr i e.symm with h1 | h1
    · omega
    · exact hn (by rw [h1]))).trans (h.block i hi hn)⟩
theorem gs_set {a w : World} {gs : Nat} {p : Addr} {u : Value} (h : a.grownBy w (some gs)) (hp : a.heap.size ≤ p.block) (hs : p.spot = none) : a.grownBy (w.setCell p u) (some gs) := by
  obtain ⟨b, o, s⟩ := p
  simp only at hs
  subst hs
  exact gs_grow h (gr_set (World.grownBy.refl _ _)) (fun q hq => .inl (by injection hq with hq; subst hq; exact hp))
/-- a block of three cells that nobody writes meanwhile -/
structure Res3 (w : World) (gr : Nat) (v0 v1 v2 : Value) : Prop where
  c0 : w.cell? ⟨gr, 0, none⟩ = some v0
  c1 : w.cell? ⟨gr, 1, none⟩ = some v1
  c2 : w.cell? ⟨gr, 2, none⟩ = some v2
  f0 : w.frozen? ⟨gr, 0, none⟩ = false
  f1 : w.frozen? ⟨gr, 1, none⟩ = false
  f2 : w.frozen? ⟨gr, 2, none⟩ = false
namespace Res3
variable {w w' : World} {gr : Nat} {v0 v1 v2 : Value}
theorem lt (t : Res3 w gr v0 v1 v2) : gr < w.heap.size := World.block_lt_of_cell? _ _ t.c0
theorem below (t : Res3 w gr v0 v1 v2) (hb : Below w.heap.size w w') : Res3 w' gr v0 v1 v2 :=
  have hl := t.lt
  ⟨below_cell t.c0 hb, below_cell t.c1 hb, below_cell t.c2 hb, (hb.frozen (p := ⟨gr, 0, none⟩) hl).trans t.f0, (hb.frozen (p := ⟨gr, 1, none⟩) hl).trans t.f1, (hb.frozen (p := ⟨gr, 2, none⟩) hl).trans t.f2⟩
theorem alloc (t : Res3 w gr v0 v1 v2) (o : Obj) : Res3 (w.alloc o) gr v0 v1 v2 := t.below ((Below.refl _ _).alloc (Nat.le_refl _) o)
theorem grow {row : Option Nat} (t : Res3 w gr v0 v1 v2) (hg : w.grownBy w' row) (hne : row ≠ some gr) : Res3 w' gr v0 v1 v2 :=
  have hl := t.lt
  have hn : some gr ≠ row := fun q => hne q.symm
  ⟨hg.cell t.c0 hn, hg.cell t.c1 hn, hg.cell t.c2 hn, (hg.frozen_far ⟨gr, 0, none⟩ hl hn).trans t.f0, (hg.frozen_far ⟨gr, 1, none⟩ hl hn).trans t.f1, (hg.frozen_far ⟨gr, 2, none⟩ hl hn).trans t.f2⟩
theorem set {p : Addr} {u : Value} (t : Res3 w gr v0 v1 v2) (hp : p.block ≠ gr) : Res3 (w.setCell p u) gr v0 v1 v2 :=
  ⟨(cell_far hp).trans t.c0, (cell_far hp).trans t.c1, (cell_far hp).trans t.c2, by rw [World.frozen?_setCell]; exact t.f0, by rw [World.frozen?_setCell]; exact t.f1, by rw [World.frozen?_setCell]; exact t.f2⟩
end Res3
/-- what a draw of a tariff leaves -/
def DrawT (gs K lo m : Nat) (w : World) (r : Ending) (w' : World) : Prop :=
  ∃ (A : Option Addr) (c : Nat) (xs : List Step) (h e : Int), r = .returned (.agg #[.slice A xs.length c, .int .i64 h, .int .i64 e]) ∧ m ≤ xs.length ∧ xs.length ≤ 9 ∧ w'.ownsRow lo 57 2 (.slice A xs.length c) xs.length (xs.flatMap encStep) ∧ SrcAt w' gs K ∧ w.grownBy w' (some gs)
set_option maxHeartbeats 4000000 in
set_option maxRecDepth 100000 in
theorem l23Draw_any (gs k : Nat) (w : World) (h : SrcAt w gs k) (hk : k ≤ 10000) :
    Calls Tryz.prog 44 #[.pointer (some ⟨gs, 0, none⟩)] w (DrawT gs (k + 40) (w.heap.size + 1) 1 w) := by
  obtain ⟨i0, hi, hz0, hz1, hz2⟩ := info_parts stepT_info
  have hgl := h.lt
  have o0 : ((w.alloc (.cells #[.slice none 0 0, .int .i64 0, .int .i64 0] 26)).alloc (.cells #[] 57)).ownsRow (w.heap.size + 1) 57 2 (.slice (some ⟨w.heap.size + 1, 0, none⟩) 0 0) 0 [] := by
    have := World.ownsRow_lit (base := w.heap.size + 1) (e := 57) (size := 2) (w.alloc (.cells #[.slice none 0 0, .int .i64 0, .int .i64 0] 26)) #[] 0 (by simp) (by simp only [maxLen]; omega) rfl
    simpa using this
  have h1 := (h.alloc (.cells #[.slice none 0 0, .int .i64 0, .int .i64 0] 26)).alloc (.cells #[] 57)
  have hb0 : w.grownBy ((w.alloc (.cells #[.slice none 0 0, .int .i64 0, .int .i64 0] 26)).alloc (.cells #[] 57)) (some gs) := gr_alloc (gr_alloc (World.grownBy.refl _ _))
  have H1 := hid h1
  have O0 := hid o0
  have r0 : Res3 ((w.alloc (.cells #[.slice none 0 0, .int .i64 0, .int .i64 0] 26)).alloc (.cells #[] 57)) w.heap.size (.slice none 0 0) (.int .i64 0) (.int .i64 0) := ⟨by go_simp, by go_simp, by go_simp, by go_simp, by go_simp, by go_simp⟩
  have R0 := hid r0
  clear h h1 o0 r0
  go_enter Tryz.func44, Tryz.ntmps44
  go_wp2_with fail
  refine (pick_any gs k 20 _ H1.out (by omega) (by omega)).mono ?_
  rintro r w1 ⟨a, rfl, a0, a1, hs1, hg1⟩
  have O1 := hid (own_src O0.out hg1 (by omega))
  have R1 := hid (R0.out.grow hg1 (by simp; omega))
  have hb1 := hb0.trans hg1
  have H2 := hid hs1
  have a19 : a ≤ 19 := by omega
  clear O0 R0 H1 hb0 hs1 hg1 a1
  go_wp2_with fail
  refine (pick_any gs _ 12 _ H2.out (by omega) (by omega)).mono ?_
  rintro r w2 ⟨b, rfl, b0, b1, hs2, hg2⟩
  have O2 := hid (own_src O1.out hg2 (by omega))
  have R2 := hid (R1.out.grow hg2 (by simp; omega))
  have hb2 := hb1.trans hg2
  have H3 := hid hs2
  have b11 : b ≤ 11 := by omega
  have hr2 := R2.out.lt
  have hw2 := hs2.lt
  clear O1 R1 H2 hb1 hs2 hg2 b1
  have T3 : Hid (TarAt (w2.alloc (.cells #[.slice (some ⟨w.heap.size + 1, 0, none⟩) 0 0, .int .i64 a, .int .i64 (10 * b)] 26)) (w.heap.size + 1) w2.heap.size (some ⟨w.heap.size + 1, 0, none⟩) 0 [] a (10 * b)) :=
    ⟨O2.out.alloc _, fun q hq => by have := (O2.out.lt q hq).2; omega, (World.cell?_alloc_at _ _ _ _ rfl).trans rfl, (World.cell?_alloc_at _ _ _ _ rfl).trans rfl, (World.cell?_alloc_at _ _ _ _ rfl).trans rfl, by go_simp, by go_simp, by go_simp⟩
  have R3 := hid (R2.out.alloc (.cells #[.slice (some ⟨w.heap.size + 1, 0, none⟩) 0 0, .int .i64 a, .int .i64 (10 * b)] 26))
  have H4 := hid (H3.out.alloc (.cells #[.slice (some ⟨w.heap.size + 1, 0, none⟩) 0 0, .int .i64 a, .int .i64 (10 * b)] 26))
  have hb3 := gr_alloc (o := .cells #[.slice (some ⟨w.heap.size + 1, 0, none⟩) 0 0, .int .i64 a, .int .i64 (10 * b)] 26) hb2
  clear O2 R2 H3 hb2
  obtain ⟨gt, hgt⟩ : ∃ gt, gt = w2.heap.size := ⟨_, rfl⟩
  go_wp2_with fail
  refine (pick_any gs _ 40 _ H4.out (by omega) (by omega)).mono ?_
  rintro r w3 ⟨pr, rfl, p0, p1, hs3, hg3⟩
  have p39 : pr ≤ 39 := by omega
  have T4 := hid (T3.out.src hg3 (by omega) (by omega))
  have R4 := hid (R3.out.grow hg3 (by simp; omega))
  have hb4 := hb3.trans hg3
  have H5 := hid hs3
  clear T3 R3 H4 hb3 hs3 hg3 p1
  go_wp2_with fail
  refine (pick_any gs _ 4 _ H5.out (by omega) (by omega)).mono ?_
  rintro r w4 ⟨nk, rfl, n0, n1, hs4, hg4⟩
  have n3 : nk ≤ 3 := by omega
  have T5 := hid (T4.out.src hg4 (by omega) (by omega))
  have R5 := hid (R4.out.grow hg4 (by simp; omega))
  have hb5 := hb4.trans hg4
  have H6 := hid hs4
  have hw4 := hs4.lt
  clear T4 R4 H5 hb4 hs4 hg4 n1
  go_wp2_with fail
  go_loopw [4, 5, 6] (fun vg vp vk wl => ∃ (A : Option Addr) (c : Nat) (xs : List Step) (g p z : Int), vg = .int .i64 g ∧ vp = .int .i64 p ∧ vk = .int .i64 z ∧ 0 ≤ z ∧ z + xs.length ≤ 4 ∧ 1 ≤ z + xs.length ∧ 0 ≤ g ∧ g ≤ 300 * (xs.length : Int) ∧ 0 ≤ p ∧ p ≤ 44 + 49 * (xs.length : Int) ∧
    Hid (TarAt wl (w.heap.size + 1) w2.heap.size A c xs a (10 * b)) ∧ Hid (Res3 wl w.heap.size (.slice none 0 0) (.int .i64 0) (.int .i64 0)) ∧ Hid (SrcAt wl gs (k + 8 + 4 * xs.length)) ∧ w.grownBy wl (some gs) ∧ gs < wl.heap.size ∧ w2.heap.size < wl.heap.size) (fun _ _ vk _ => (intOf vk).toNat)
  case atStart => exact ⟨_, _, [], 0, 5 + pr, 1 + nk, rfl, rfl, rfl, by omega, by simp; omega, by simp; omega, by omega, by simp, by omega, by simp; omega, T5, R5, hid (H6.out.mono (by simp)), hb5, hw4, T5.out.lt⟩
  case round =>
    obtain ⟨A, c, xs, g, p, z, rfl, rfl, rfl, z0, z1, z2, g0, g1, p0, p1, hT, hR, hS, hb, hgl2, hgl3⟩ := hrel
    clear T5 R5 H6 hb5
    by_cases hz : 0 < z
    · go_wp2_with fail
      refine (pick_any gs _ 6 _ hS.out (by omega) (by omega)).mono ?_
      rintro r w5 ⟨q, rfl, q0, q1, hs5, hg5⟩
      have q5 : q ≤ 5 := by omega
      have T6 := hid (hT.out.src hg5 (by omega) (by omega))
      have R6 := hid (hR.out.grow hg5 (by simp; omega))
      have hb6 := hb.trans hg5
      have H7 := hid hs5
      have hl5 := hs5.lt
      have hl6 := T6.out.lt
      have g50 : g + 50 * (1 + q) ≤ 1500 := by omega
      have hlo := T6.out.own.lt
      clear hT hR hS hb hs5 hg5 q1
      obtain ⟨G, hG⟩ : ∃ G, G = g + 50 * (1 + q) := ⟨_, rfl⟩
      rw [← hG] at g50
      have G0 : 0 ≤ G := by omega
      have G1 : G ≤ 300 * ((xs.length : Int) + 1) := by omega
      have k0 := T6.out.c0
      have fz := T6.out.f0
      go_wp2_with (at_builtin; refine wpList_append_lies _ rfl _ _ 24 rfl (w.heap.size + 1) 57 i0 (.agg #[.int .i64 0, .int .i64 0]) 2 16 Tryz.underlying24 hi hz0 hz1 hz2 rfl (by omega) (.slice A xs.length c) xs.length (xs.flatMap encStep) rfl (T6.out.own.alloc _) ⟨w5.heap.size, 0, none⟩ 1 1 [.int .i64 (g + 50 * (1 + q)), .int .i64 p] rfl rfl (World.news_of_block (cs := #[.int .i64 (g + 50 * (1 + q)), .int .i64 p]) (t := 57) (fr := (0, 0)) (heap_alloc_new _ _)) (by simp [Value.oneCell']) (by omega) (by simp only [maxLen]; omega) (by omega) (by simp; omega) (w5.heap.size + 1) (by simp) ?_; intro gg cap w6 ho6 hg6 hat6 hlt6; have hgg := (gr_alloc (World.grownBy.refl w5 _)).trans hg6; have ne6 : some w2.heap.size ≠ (Value.slice A xs.length c).ownBlock := (fun q => T6.out.ne _ q.symm rfl); have k6 := hgg.cell k0 ne6; have f6 := (hgg.frozen_far ⟨w2.heap.size, 0, none⟩ hl6 ne6).trans fz)
      have hT7 := (T6.out.alloc (.cells #[.int .i64 (g + 50 * (1 + q)), .int .i64 p] 57)).snoc (z := ⟨g + 50 * (1 + q), p⟩) (by simpa [encStep] using ho6) hg6 (hat6.imp id (fun e => by simp; omega))
      have T7 := hid hT7
      have S7 := hid (((H7.out.alloc (.cells #[.int .i64 (g + 50 * (1 + q)), .int .i64 p] 57)).grown hg6 (fun b hb => by have := (hlo b hb).1; omega)).set (p := ⟨w2.heap.size, 0, none⟩) (u := .slice (some ⟨gg, 0, none⟩) (xs.length + 1) cap) (by simp only; omega))
      have R7 := hid (((R6.out.alloc (.cells #[.int .i64 (g + 50 * (1 + q)), .int .i64 p] 57)).grow hg6 (fun e => by have := (hlo _ e).1; omega)).set (p := ⟨w2.heap.size, 0, none⟩) (u := .slice (some ⟨gg, 0, none⟩) (xs.length + 1) cap) (by simp only; omega))
      have hb7 := gs_set (p := ⟨w2.heap.size, 0, none⟩) (u := .slice (some ⟨gg, 0, none⟩) (xs.length + 1) cap) (gs_grow (gr_alloc (o := .cells #[.int .i64 (g + 50 * (1 + q)), .int .i64 p] 57) hb6) hg6 (fun b hb => .inl (by have := (hlo b hb).1; omega))) (by simp only; omega) rfl
      clear ho6 hg6 hgg T6 R6 H7 hb6 hT7 k6 f6 k0 fz hlo
      refine (pick_any gs _ 50 _ S7.out (by omega) (by omega)).mono ?_
      rintro r w8 ⟨y, rfl, y0, y1, hs8, hg8⟩
      have y49 : y ≤ 49 := by omega
      have T8 := hid (T7.out.src hg8 (by omega) (by omega))
      have R8 := hid (R7.out.grow hg8 (by simp; omega))
      have hb8 := hb7.trans hg8
      have H8 := hid (hs8.mono (show _ ≤ k + 8 + 4 * (xs ++ [(⟨g + 50 * (1 + q), p⟩ : Step)]).length by simp; omega))
      have hl8 := hs8.lt
      have hl9 := T8.out.lt
      have hlen : (xs ++ [(⟨g + 50 * (1 + q), p⟩ : Step)]).length = xs.length + 1 := by simp
      clear T7 R7 S7 hb7 hs8 hg8 y1
      go_wp2_with fail
      go_roundw
      all_goals first | exact ⟨_, _, xs ++ [⟨g + 50 * (1 + q), p⟩], g + 50 * (1 + q), p + y, z - 1, rfl, rfl, rfl, by omega, by omega, by omega, by omega, by omega, by omega, by omega, T8, R8, H8, hb8, hl8, hl9⟩ | exact ⟨⟨_, _, xs ++ [⟨g + 50 * (1 + q), p⟩], g + 50 * (1 + q), p + y, z - 1, rfl, rfl, rfl, by omega, by omega, by omega, by omega, by omega, by omega, by omega, T8, R8, H8, hb8, hl8, hl9⟩, by simp [intOf]; omega⟩ | (simp [intOf]; omega)
    · have hz0' : z = 0 := by omega
      have r0 := hR.out
      have t0 := hT.out
      have c0 := t0.c0
      have c1 := t0.c1
      have c2 := t0.c2
      have d0 := r0.c0
      have d1 := r0.c1
      have d2 := r0.c2
      have e0 := r0.f0
      have e1 := r0.f1
      have e2 := r0.f2
      have hO := hid t0.own
      have hlo := hid t0.own.lt
      have hl1 : 1 ≤ xs.length := by omega
      have hl4 : xs.length ≤ 9 := by omega
      clear r0 t0 hR hT
      go_wp2_with fail
      have s0 : (wr.setCell ⟨w.heap.size, 0, none⟩ (.slice A xs.length c)).cell? ⟨w.heap.size, 0, none⟩ = some (.slice A xs.length c) := World.cell?_setCell_same _ _ _ d0
      have s1 : ((wr.setCell ⟨w.heap.size, 0, none⟩ (.slice A xs.length c)).setCell ⟨w.heap.size, 1, none⟩ (.int .i64 a)).cell? ⟨w.heap.size, 1, none⟩ = some (.int .i64 a) := World.cell?_setCell_same _ _ _ ((World.cell?_setCell_other _ _ _ _ (by simp)).trans d1)
      have s2 : (((wr.setCell ⟨w.heap.size, 0, none⟩ (.slice A xs.length c)).setCell ⟨w.heap.size, 1, none⟩ (.int .i64 a)).setCell ⟨w.heap.size, 2, none⟩ (.int .i64 (10 * b))).cell? ⟨w.heap.size, 2, none⟩ = some (.int .i64 (10 * b)) := World.cell?_setCell_same _ _ _ ((World.cell?_setCell_other _ _ _ _ (by simp)).trans ((World.cell?_setCell_other _ _ _ _ (by simp)).trans d2))
      refine bodyPost_ret (v := .agg #[.slice A xs.length c, .int .i64 a, .int .i64 (10 * b)]) (by simp [results, Tryz.results44, go_sem, s0, s1, s2]) rfl ⟨A, c, xs, a, 10 * b, rfl, hl1, hl4, ?_, ?_, ?_⟩
      · have hne : ∀ j, (Value.slice A xs.length c).ownBlock ≠ some (⟨w.heap.size, j, none⟩ : Addr).block := fun j e => by have := (hlo.out _ e).1; simp only at this; omega
        exact ow_set (hne _) (ow_set (hne _) (ow_set (hne _) hO.out))
      · have hlt : gs < w.heap.size := hgl
        exact (((hS.out.mono (show _ ≤ k + 40 by omega)).set hlt).set hlt).set hlt
      · exact gs_set (gs_set (gs_set hb (Nat.le_refl _) rfl) (Nat.le_refl _) rfl) (Nat.le_refl _) rfl
end Go.Proofs.YtngfhpklakhehaaGreatDoor
