/-
  FS: texts SBent, one behind the other. No condition but what each says.
-/
import Derived.Test.YtcgkcfmiabninaaGreatDoorFS06
/-
  Drawn schemes: the draw that is seldom not valid. No condition.
-/
namespace Go.Proofs.YtcgkcfmiabninaaGreatDoor
open Go.RowKit
set_option maxHeartbeats 400000

/-- how many ways the scheme in a block has -/
def lenC (w : World) (gx : Nat) : Nat := match w.cell? ⟨gx, 2, none⟩ with | some (.slice _ n _) => n | _ => 0
theorem lenC_of {w : World} {gx n c : Nat} {A : Option Addr} (h : w.cell? ⟨gx, 2, none⟩ = some (.slice A n c)) : lenC w gx = n := by unfold lenC; rw [h]
theorem FewX.up {m m' : Nat} {x : Sch} (h : FewX m x) (hm : m ≤ m') : FewX m' x := ⟨Nat.le_trans h.1 hm, Nat.le_trans h.2.1 hm, Nat.le_trans h.2.2.1 hm, h.2.2.2⟩
theorem FewX.st {m : Nat} {x : Sch} (h : FewX m x) {z : ByteArray} (hz : z.size ≤ 12) : FewX (m + 1) ⟨x.st ++ [z], x.rm, x.wy⟩ :=
  ⟨by simp only [List.length_append, List.length_cons, List.length_nil]; have := h.1; omega, Nat.le_succ_of_le h.2.1, Nat.le_succ_of_le h.2.2.1, fun y hy => by
    rcases List.mem_append.1 hy with h1 | h1
    · exact h.2.2.2.1 y h1
    · obtain rfl : y = z := by simpa using h1
      exact hz, h.2.2.2.2⟩
theorem FewX.rm {m : Nat} {x : Sch} (h : FewX m x) {z : ByteArray} (hz : z.size ≤ 12) : FewX (m + 1) ⟨x.st, x.rm ++ [z], x.wy⟩ :=
  ⟨Nat.le_succ_of_le h.1, by simp only [List.length_append, List.length_cons, List.length_nil]; have := h.2.1; omega, Nat.le_succ_of_le h.2.2.1, h.2.2.2.1, fun y hy => by
    rcases List.mem_append.1 hy with h1 | h1
    · exact h.2.2.2.2.1 y h1
    · obtain rfl : y = z := by simpa using h1
      exact hz, h.2.2.2.2.2⟩
theorem FewX.wy {m : Nat} {x : Sch} (h : FewX m x) {z : Way} (hz : z.fr.size ≤ 12 ∧ z.«to».size ≤ 12) : FewX (m + 1) ⟨x.st, x.rm, x.wy ++ [z]⟩ :=
  ⟨Nat.le_succ_of_le h.1, Nat.le_succ_of_le h.2.1, by simp only [List.length_append, List.length_cons, List.length_nil]; have := h.2.2.1; omega, h.2.2.2.1, h.2.2.2.2.1, fun y hy => by
    rcases List.mem_append.1 hy with h1 | h1
    · exact h.2.2.2.2.2 y h1
    · obtain rfl : y = z := by simpa using h1
      exact hz⟩
set_option maxHeartbeats 16000000 in
set_option maxRecDepth 100000 in
theorem l21Bent_any (gs k : Nat) (w : World) (h : SrcAt w gs k) (hk : k ≤ 9000) :
    Calls Tryz.prog 40 #[.pointer (some ⟨gs, 0, none⟩)] w (DrawX gs (k + 120) (FewX 62) w) := by
  have hgl := h.lt
  obtain ⟨i0, hi, hz0, hz1, hz2⟩ := info_parts str_info
  obtain ⟨j0, hj, hy0, hy1, hy2⟩ := info_parts Way_info
  obtain ⟨W0, hW0⟩ : ∃ W0, W0 = w.alloc (.cells #[.slice none 0 0, .slice none 0 0, .slice none 0 0] 25) := ⟨_, rfl⟩
  have r0 : Blk3 W0 w.heap.size (.slice none 0 0) (.slice none 0 0) (.slice none 0 0) := by rw [hW0]; exact ⟨by go_simp, by go_simp, by go_simp, by go_simp, by go_simp, by go_simp⟩
  have g0 : w.grownBy W0 (some gs) := by rw [hW0]; exact gr_alloc (World.grownBy.refl _ _)
  have h0 : SrcAt W0 gs k := by rw [hW0]; exact h.alloc _
  have z0 : w.heap.size < W0.heap.size := by rw [hW0]; simp
  have hD : Calls Tryz.prog 42 #[.pointer (some ⟨gs, 0, none⟩)] W0 fun r w' => ∃ A1 n1 c1 A2 n2 c2 A3 n3 c3 x, r = .returned (.agg #[.slice A1 n1 c1, .slice A2 n2 c2, .slice A3 n3 c3]) ∧ OwnX w' W0.heap.size ⟨A1, n1, c1, A2, n2, c2, A3, n3, c3⟩ x ∧ TinyX x ∧ SrcAt w' gs (k + 100) ∧ W0.grownBy w' (some gs) :=
    (l21Draw_any gs k W0 h0 (by omega)).mono fun r w' ⟨⟨A1, n1, c1, A2, n2, c2, A3, n3, c3⟩, x, h⟩ => ⟨A1, n1, c1, A2, n2, c2, A3, n3, c3, x, h⟩
  have HW0 := hid hW0
  clear hW0 h
  go_enter Tryz.func40, Tryz.ntmps40
  go_wp2_with fail
  rw [← HW0.out]
  refine hD.mono ?_
  rintro r w1 ⟨A1, n1, c1, A2, n2, c2, A3, n3, c3, x, rfl, o1, px, hs1, hg1⟩
  clear hD
  have z1 := hg1.size
  obtain ⟨W2, hW2⟩ : ∃ W2, W2 = w1.alloc (.cells #[.slice A1 n1 c1, .slice A2 n2 c2, .slice A3 n3 c3] 25) := ⟨_, rfl⟩
  have a2 : Below w1.heap.size w1 W2 := by rw [hW2]; exact (Below.refl _ _).alloc (Nat.le_refl _) _
  have X2 : XAt W2 w1.heap.size W0.heap.size ⟨A1, n1, c1, A2, n2, c2, A3, n3, c3⟩ x := by
    refine ⟨?_, ?_, ?_, ?_, ?_, ?_, o1.below a2, fun e => absurd (o1.st.lt _ e).2 (Nat.lt_irrefl _), fun e => absurd (o1.rm.lt _ e).2 (Nat.lt_irrefl _), fun e => absurd (o1.wy.lt _ e).2 (Nat.lt_irrefl _)⟩
    all_goals rw [hW2]
    all_goals go_simp
  have T2 : StX w W2 gs w.heap.size w1.heap.size W0.heap.size (k + 100) ⟨A1, n1, c1, A2, n2, c2, A3, n3, c3⟩ x :=
    ⟨X2, hs1.below (a2.mono (by have := hs1.lt; omega)), (r0.grow hg1 (by simp; omega)).at_ a2 (by omega), src_below (g0.trans hg1) a2 (by omega), hgl, Nat.le_refl _, z0, z1⟩
  obtain ⟨gx, hgx⟩ : ∃ gx, gx = w1.heap.size := ⟨_, rfl⟩
  obtain ⟨lo, hlo⟩ : ∃ lo, lo = W0.heap.size := ⟨_, rfl⟩
  have HW2 := hid hW2
  have gsw : gs < W2.heap.size := T2.src.lt
  go_wp2_with fail
  rw [← HW2.out]
  refine (pick_any gs (k + 100) 24 W2 T2.src (by omega) (by omega)).mono ?_
  rintro r w3 ⟨q, rfl, q0, q1, hs3, hg3⟩
  have T3 := T2.pick hs3 hg3
  rw [← hgx, ← hlo] at T3
  rw [← hgx]
  have TH := hid T3
  have px8 := hid px
  clear T3 T2 X2 r0 g0 h0 o1 px a2 hs1 hg1 hs3 hg3 HW2 hW2 HW0 hgx hlo z0 z1 q1 gsw
  by_cases h0 : q = 0
  · subst h0
    have T := TH.out
    have g0 := T.xa.k0
    have fz := T.xa.f0
    have q9 := T.xa.o1
    have lg := T.lt
    simp only at g0 q9
    have hl := T.xa.len.1
    have hb := px8.out.1
    simp only at hl
    have hn : n1 ≤ 8 := by have := hb.1; omega
    have e1 : (some gx : Option Nat) ≠ some gs := by have := T.h1; have := T.h2; have := T.h3; have := T.h4; simp; omega
    have d0 : w3.drew.cell? ⟨gx, 0, none⟩ = some (.slice A1 n1 c1) := g0
    have gsr : gs < w3.heap.size := T.src.lt
    have lo3 : lo ≤ w3.heap.size := by have := T.h4; omega
    have TC := hid T.drew
    have TP := hid px8.out.1
    clear T hl hb TH px8
    go_wp2_with fail
    refine wp_region_last (n := 8) (S := (fun W => W.cell? ⟨gx, 0, none⟩ = some (.slice A1 n1 c1))) (by kernel_rfl) (by kernel_rfl) ?_ (fun hHeld => ?_)
    · (try dsimp only); (first | exact d0 | go_keep)
    refine wpAnyH_take (i := 0) (oi := ⟨some 14, Go.Op.fieldAddr 25 (Go.Operand.tmp 3) 0, 0, "l21_language.go:391", #[], none⟩) (v := ?_) rfl (by kernel_rfl) (by kernel_rfl) (by kernel_rfl) (fun _ _ _ h => h) (Or.inl ⟨by rfl, ?_⟩) (by assumption) ?_
    rotate_left
    · intro w hSw; (try dsimp only at hSw); go_split_ands; go_simp; first | done | with_reducible rfl
    (try simp only [Act.put, List.setIfInBounds_toArray, List.set_cons_zero, List.set_cons_succ])
    refine wpAnyH_take (i := 1) (oi := ⟨some 15, Go.Op.load 22 (Go.Operand.tmp 14), 22, "l21_language.go:391", #[⟨0, Go.Ground.data⟩], none⟩) (v := ?_) rfl (by kernel_rfl) (by kernel_rfl) (by kernel_rfl) (fun _ _ _ h => h) (Or.inl ⟨by rfl, ?_⟩) (by assumption) ?_
    rotate_left
    · intro w hSw; (try dsimp only at hSw); go_split_ands; go_simp; first | done | with_reducible rfl
    (try simp only [Act.put, List.setIfInBounds_toArray, List.set_cons_zero, List.set_cons_succ])
    refine wpAnyH_take (i := 2) (oi := ⟨some 16, Go.Op.move (Go.Operand.tmp 0), 58, "l21_language.go:391", #[], none⟩) (v := ?_) rfl (by kernel_rfl) (by kernel_rfl) (by kernel_rfl) (fun _ _ _ h => h) (Or.inl ⟨by rfl, ?_⟩) (by assumption) ?_
    rotate_left
    · intro w hSw; (try dsimp only at hSw); go_split_ands; go_simp; first | done | with_reducible rfl
    (try simp only [Act.put, List.setIfInBounds_toArray, List.set_cons_zero, List.set_cons_succ])
    refine wpAnyH_ready (rs := [3]) (by kernel_rfl) (by simp) ?_
    refine AllReadyH.cons rfl (fun K hK => ?_) ?_
    · skip
      go_simp
      have NN : Hid ((w3.drew.alloc (.cells #[.string ⟨#[]⟩, .string ⟨#[98, 97, 110, 107]⟩, .string ⟨#[66, 97, 110, 107]⟩, .string ⟨#[110, 101, 119]⟩] 9)).ownsRow w3.heap.size 9 1 (.slice (some ⟨w3.heap.size, 0, none⟩) 4 4) 4 (([⟨#[]⟩, ⟨#[98, 97, 110, 107]⟩, ⟨#[66, 97, 110, 107]⟩, ⟨#[110, 101, 119]⟩] : List ByteArray).flatMap encS)) := by
        have := World.ownsRow_lit (base := w3.heap.size) (e := 9) (size := 1) (w3.drew) #[.string ⟨#[]⟩, .string ⟨#[98, 97, 110, 107]⟩, .string ⟨#[66, 97, 110, 107]⟩, .string ⟨#[110, 101, 119]⟩] 4 (Nat.le_refl _) (by simp [maxLen]) (by simp)
        simpa [Hid, encS] using this
      replace TC := hid (TC.out.alloc (.cells #[.string ⟨#[]⟩, .string ⟨#[98, 97, 110, 107]⟩, .string ⟨#[66, 97, 110, 107]⟩, .string ⟨#[110, 101, 119]⟩] 9))
      refine hK.out _ _ ?_ (fun hH2 => ?_)
      · (try dsimp only); (exact below_cell hHeld ((Below.refl _ _).alloc (Nat.le_refl _) _))
      clear hK K hHeld; have hHeld := hH2; clear hH2
      refine wpAnyH_ready (rs := [4]) (by kernel_rfl) (by simp) ?_
      refine AllReadyH.cons rfl (fun K hK => ?_) ?_
      · skip
        go_simp
        go_wp2_with (go_at_call 67; refine (text_any gs (k + 102) (some ⟨w3.heap.size, 0, none⟩) 4 4 [⟨#[]⟩, ⟨#[98, 97, 110, 107]⟩, ⟨#[66, 97, 110, 107]⟩, ⟨#[110, 101, 119]⟩] _ TC.out.src (by omega) (by omega) (by omega) (own_sl encS_len (by omega) NN.out) (fun b off s e => by injection e with e; injection e with e; omega)).mono ?_; rintro r wa ⟨z, rfl, hz, hsa, hga⟩)
        have zz : z.size ≤ 12 := by
          simp only [List.mem_cons, List.not_mem_nil, or_false] at hz
          rcases hz with rfl | rfl | rfl | rfl <;> decide
        replace TC := hid (TC.out.pick hsa hga)
        have hza := hga.size
        have HR := hid TC.out.xa.own.st
        have ga := hga.cell (below_cell d0 ((Below.refl _ _).alloc (Nat.le_refl _) _)) e1
        have fa := TC.out.xa.f0
        have la := TC.out.lt
        have loa : lo ≤ wa.heap.size := by have := TC.out.h4; omega
        refine hK.out _ _ ?_ (fun hH2 => ?_)
        · (try dsimp only); (exact ga)
        clear hK K hHeld; have hHeld := hH2; clear hH2
        refine wpAnyH_ready (rs := [5]) (by kernel_rfl) (by simp) ?_
        refine AllReadyH.cons rfl (fun K hK => ?_) ?_
        · skip
          go_simp
          refine hK.out _ _ ?_ (fun hH2 => ?_)
          · (try dsimp only); (exact below_cell hHeld ((Below.refl _ _).alloc (Nat.le_refl _) _))
          clear hK K hHeld; have hHeld := hH2; clear hH2
          refine wpAnyH_ready (rs := [6]) (by kernel_rfl) (by simp) ?_
          refine AllReadyH.cons rfl (fun K hK => ?_) ?_
          · skip
            refine step_append_lies _ (by rfl) _ _ _ (by rfl) lo 9 i0 _ 1 16 Tryz.underlying22 hi hz0 hz1 hz2 rfl (by omega) (.slice A1 n1 c1) n1 (x.st.flatMap encS) (by rfl) (HR.out.alloc _) ⟨wa.heap.size, 0, none⟩ 1 1 [.string z] (by rfl) (by rfl) (World.news_of_block (cs := #[.string z]) (t := 9) (fr := (0, 0)) (heap_alloc_new wa _)) (by simp [Value.oneCell']) (by omega) (by simp only [maxLen]; omega) (by omega) (by simp; omega) (wa.heap.size + 1) (by simp) ?_
            intro gg cap w5 ho3 hg3 hat3 hlt3
            have hgg := (gr_alloc (o := .cells #[.string z] 9) (World.grownBy.refl wa (Value.slice A1 n1 c1).ownBlock)).trans hg3
            have k0 := hgg.cell ga (fun e => q9 e.symm)
            have f3 := (hgg.frozen_far ⟨gx, 0, none⟩ la (fun e => q9 e.symm)).trans fa
            refine hK.out _ _ ?_ (fun hH2 => ?_)
            · (try dsimp only); (exact k0)
            clear hK K hHeld; have hHeld := hH2; clear hH2
            refine wpAnyH_take (i := 7) (oi := ⟨some 21, Go.Op.fieldAddr 25 (Go.Operand.tmp 3) 0, 0, "l21_language.go:391", #[⟨0, Go.Ground.phase⟩, ⟨1, Go.Ground.phase⟩, ⟨2, Go.Ground.phase⟩, ⟨3, Go.Ground.phase⟩, ⟨4, Go.Ground.phase⟩, ⟨5, Go.Ground.phase⟩, ⟨6, Go.Ground.phase⟩], none⟩) (v := ?_) rfl (by kernel_rfl) (by kernel_rfl) (by kernel_rfl) (fun _ _ _ h => h) (Or.inl ⟨by rfl, ?_⟩) (by assumption) ?_
            rotate_left
            · intro w hSw; (try dsimp only at hSw); go_split_ands; go_simp; first | done | with_reducible rfl
            (try simp only [Act.put, List.setIfInBounds_toArray])
            refine wpAnyH_done (by kernel_rfl) ?_ _
            refine last_step rfl rfl (fun K hK => ?_)
            go_simp
            refine hK.out _ _ ?_
            clear hK K
            have X6 := TC.out.xa.put1 (z := z) (H := wa.heap.size + 1) hgg (by omega) hat3 (by simpa [encS] using ho3)
            have T6 := TC.out.put hgg (fun b hb => (HR.out.lt b hb).1) X6
            obtain ⟨W6, hW6⟩ : ∃ W6, W6 = w5.setCell ⟨gx, 0, none⟩ (.slice (some ⟨gg, 0, none⟩) (n1 + 1) cap) := ⟨_, rfl⟩
            rw [← hW6] at T6
            rw [← hW6]
            clear X6 hW6 ho3 hgg hg3 HR TC NN hHeld d0 ga k0 f3
            have FIN := hid ((T6).up (show _ ≤ k + 120 by omega)).fin
            have m0 := (T6).xa.k0
            have m1 := (T6).xa.k1
            have m2 := (T6).xa.k2
            have p0 := (T6).res.c0
            have p1 := (T6).res.c1
            have p2 := (T6).res.c2
            have y0 := (T6).res.f0
            have y1 := (T6).res.f1
            have y2 := (T6).res.f2
            have TT0 := hid (set3_0 p0 (.slice (some ⟨gg, 0, none⟩) (n1 + 1) cap) (.slice A2 n2 c2) (.slice A3 n3 c3))
            have TT1 := hid (set3_1 p1 (.slice (some ⟨gg, 0, none⟩) (n1 + 1) cap) (.slice A2 n2 c2) (.slice A3 n3 c3))
            have TT2 := hid (set3_2 p2 (.slice (some ⟨gg, 0, none⟩) (n1 + 1) cap) (.slice A2 n2 c2) (.slice A3 n3 c3))
            simp only at m0 m1 m2
            have FEW : Hid (FewX 62 _) := (FewX.st (TP.out) zz).up (by omega)
            go_wp2_with fail
            have t0 := TT0.out
            have t1 := TT1.out
            have t2 := TT2.out
            refine bodyPost_ret (v := .agg #[.slice (some ⟨gg, 0, none⟩) (n1 + 1) cap, .slice A2 n2 c2, .slice A3 n3 c3]) (by simp [results, Tryz.results40, go_sem, t0, t1, t2]) rfl ⟨⟨(some ⟨gg, 0, none⟩), (n1 + 1), cap, A2, n2, c2, A3, n3, c3⟩, _, rfl, FIN.out.1, FEW.out, FIN.out.2.1, FIN.out.2.2⟩
          exact AllReadyH.nil
        exact AllReadyH.nil
      exact AllReadyH.nil
    exact AllReadyH.nil
  by_cases h1 : q = 1
  · subst h1
    have T := TH.out
    have g0 := T.xa.k1
    have fz := T.xa.f1
    have q9 := T.xa.o2
    have lg := T.lt
    simp only at g0 q9
    have hl := T.xa.len.2.1
    have hb := px8.out.1
    simp only at hl
    have hn : n2 ≤ 8 := by have := hb.2.1; omega
    have e1 : (some gx : Option Nat) ≠ some gs := by have := T.h1; have := T.h2; have := T.h3; have := T.h4; simp; omega
    have d0 : w3.drew.cell? ⟨gx, 1, none⟩ = some (.slice A2 n2 c2) := g0
    have gsr : gs < w3.heap.size := T.src.lt
    have lo3 : lo ≤ w3.heap.size := by have := T.h4; omega
    have TC := hid T.drew
    have TP := hid px8.out.1
    clear T hl hb TH px8
    go_wp2_with fail
    refine wp_region_last (n := 8) (S := (fun W => W.cell? ⟨gx, 1, none⟩ = some (.slice A2 n2 c2))) (by kernel_rfl) (by kernel_rfl) ?_ (fun hHeld => ?_)
    · (try dsimp only); (first | exact d0 | go_keep)
    refine wpAnyH_take (i := 0) (oi := ⟨some 24, Go.Op.fieldAddr 25 (Go.Operand.tmp 3) 1, 0, "l21_language.go:393", #[], none⟩) (v := ?_) rfl (by kernel_rfl) (by kernel_rfl) (by kernel_rfl) (fun _ _ _ h => h) (Or.inl ⟨by rfl, ?_⟩) (by assumption) ?_
    rotate_left
    · intro w hSw; (try dsimp only at hSw); go_split_ands; go_simp; first | done | with_reducible rfl
    (try simp only [Act.put, List.setIfInBounds_toArray, List.set_cons_zero, List.set_cons_succ])
    refine wpAnyH_take (i := 1) (oi := ⟨some 25, Go.Op.load 22 (Go.Operand.tmp 24), 22, "l21_language.go:393", #[⟨0, Go.Ground.data⟩], none⟩) (v := ?_) rfl (by kernel_rfl) (by kernel_rfl) (by kernel_rfl) (fun _ _ _ h => h) (Or.inl ⟨by rfl, ?_⟩) (by assumption) ?_
    rotate_left
    · intro w hSw; (try dsimp only at hSw); go_split_ands; go_simp; first | done | with_reducible rfl
    (try simp only [Act.put, List.setIfInBounds_toArray, List.set_cons_zero, List.set_cons_succ])
    refine wpAnyH_take (i := 2) (oi := ⟨some 26, Go.Op.move (Go.Operand.tmp 0), 58, "l21_language.go:393", #[], none⟩) (v := ?_) rfl (by kernel_rfl) (by kernel_rfl) (by kernel_rfl) (fun _ _ _ h => h) (Or.inl ⟨by rfl, ?_⟩) (by assumption) ?_
    rotate_left
    · intro w hSw; (try dsimp only at hSw); go_split_ands; go_simp; first | done | with_reducible rfl
    (try simp only [Act.put, List.setIfInBounds_toArray, List.set_cons_zero, List.set_cons_succ])
    refine wpAnyH_ready (rs := [3]) (by kernel_rfl) (by simp) ?_
    refine AllReadyH.cons rfl (fun K hK => ?_) ?_
    · skip
      go_simp
      have NN : Hid ((w3.drew.alloc (.cells #[.string ⟨#[]⟩, .string ⟨#[110, 111, 110, 101]⟩, .string ⟨#[98, 97, 110, 107]⟩] 9)).ownsRow w3.heap.size 9 1 (.slice (some ⟨w3.heap.size, 0, none⟩) 3 3) 3 (([⟨#[]⟩, ⟨#[110, 111, 110, 101]⟩, ⟨#[98, 97, 110, 107]⟩] : List ByteArray).flatMap encS)) := by
        have := World.ownsRow_lit (base := w3.heap.size) (e := 9) (size := 1) (w3.drew) #[.string ⟨#[]⟩, .string ⟨#[110, 111, 110, 101]⟩, .string ⟨#[98, 97, 110, 107]⟩] 3 (Nat.le_refl _) (by simp [maxLen]) (by simp)
        simpa [Hid, encS] using this
      replace TC := hid (TC.out.alloc (.cells #[.string ⟨#[]⟩, .string ⟨#[110, 111, 110, 101]⟩, .string ⟨#[98, 97, 110, 107]⟩] 9))
      refine hK.out _ _ ?_ (fun hH2 => ?_)
      · (try dsimp only); (exact below_cell hHeld ((Below.refl _ _).alloc (Nat.le_refl _) _))
      clear hK K hHeld; have hHeld := hH2; clear hH2
      refine wpAnyH_ready (rs := [4]) (by kernel_rfl) (by simp) ?_
      refine AllReadyH.cons rfl (fun K hK => ?_) ?_
      · skip
        go_simp
        go_wp2_with (go_at_call 67; refine (text_any gs (k + 102) (some ⟨w3.heap.size, 0, none⟩) 3 3 [⟨#[]⟩, ⟨#[110, 111, 110, 101]⟩, ⟨#[98, 97, 110, 107]⟩] _ TC.out.src (by omega) (by omega) (by omega) (own_sl encS_len (by omega) NN.out) (fun b off s e => by injection e with e; injection e with e; omega)).mono ?_; rintro r wa ⟨z, rfl, hz, hsa, hga⟩)
        have zz : z.size ≤ 12 := by
          simp only [List.mem_cons, List.not_mem_nil, or_false] at hz
          rcases hz with rfl | rfl | rfl <;> decide
        replace TC := hid (TC.out.pick hsa hga)
        have hza := hga.size
        have HR := hid TC.out.xa.own.rm
        have ga := hga.cell (below_cell d0 ((Below.refl _ _).alloc (Nat.le_refl _) _)) e1
        have fa := TC.out.xa.f1
        have la := TC.out.lt
        have loa : lo ≤ wa.heap.size := by have := TC.out.h4; omega
        refine hK.out _ _ ?_ (fun hH2 => ?_)
        · (try dsimp only); (exact ga)
        clear hK K hHeld; have hHeld := hH2; clear hH2
        refine wpAnyH_ready (rs := [5]) (by kernel_rfl) (by simp) ?_
        refine AllReadyH.cons rfl (fun K hK => ?_) ?_
        · skip
          go_simp
          refine hK.out _ _ ?_ (fun hH2 => ?_)
          · (try dsimp only); (exact below_cell hHeld ((Below.refl _ _).alloc (Nat.le_refl _) _))
          clear hK K hHeld; have hHeld := hH2; clear hH2
          refine wpAnyH_ready (rs := [6]) (by kernel_rfl) (by simp) ?_
          refine AllReadyH.cons rfl (fun K hK => ?_) ?_
          · skip
            refine step_append_lies _ (by rfl) _ _ _ (by rfl) lo 9 i0 _ 1 16 Tryz.underlying22 hi hz0 hz1 hz2 rfl (by omega) (.slice A2 n2 c2) n2 (x.rm.flatMap encS) (by rfl) (HR.out.alloc _) ⟨wa.heap.size, 0, none⟩ 1 1 [.string z] (by rfl) (by rfl) (World.news_of_block (cs := #[.string z]) (t := 9) (fr := (0, 0)) (heap_alloc_new wa _)) (by simp [Value.oneCell']) (by omega) (by simp only [maxLen]; omega) (by omega) (by simp; omega) (wa.heap.size + 1) (by simp) ?_
            intro gg cap w5 ho3 hg3 hat3 hlt3
            have hgg := (gr_alloc (o := .cells #[.string z] 9) (World.grownBy.refl wa (Value.slice A2 n2 c2).ownBlock)).trans hg3
            have k0 := hgg.cell ga (fun e => q9 e.symm)
            have f3 := (hgg.frozen_far ⟨gx, 1, none⟩ la (fun e => q9 e.symm)).trans fa
            refine hK.out _ _ ?_ (fun hH2 => ?_)
            · (try dsimp only); (exact k0)
            clear hK K hHeld; have hHeld := hH2; clear hH2
            refine wpAnyH_take (i := 7) (oi := ⟨some 31, Go.Op.fieldAddr 25 (Go.Operand.tmp 3) 1, 0, "l21_language.go:393", #[⟨0, Go.Ground.phase⟩, ⟨1, Go.Ground.phase⟩, ⟨2, Go.Ground.phase⟩, ⟨3, Go.Ground.phase⟩, ⟨4, Go.Ground.phase⟩, ⟨5, Go.Ground.phase⟩, ⟨6, Go.Ground.phase⟩], none⟩) (v := ?_) rfl (by kernel_rfl) (by kernel_rfl) (by kernel_rfl) (fun _ _ _ h => h) (Or.inl ⟨by rfl, ?_⟩) (by assumption) ?_
            rotate_left
            · intro w hSw; (try dsimp only at hSw); go_split_ands; go_simp; first | done | with_reducible rfl
            (try simp only [Act.put, List.setIfInBounds_toArray])
            refine wpAnyH_done (by kernel_rfl) ?_ _
            refine last_step rfl rfl (fun K hK => ?_)
            go_simp
            refine hK.out _ _ ?_
            clear hK K
            have X6 := TC.out.xa.put2 (z := z) (H := wa.heap.size + 1) hgg (by omega) hat3 (by simpa [encS] using ho3)
            have T6 := TC.out.put hgg (fun b hb => (HR.out.lt b hb).1) X6
            obtain ⟨W6, hW6⟩ : ∃ W6, W6 = w5.setCell ⟨gx, 1, none⟩ (.slice (some ⟨gg, 0, none⟩) (n2 + 1) cap) := ⟨_, rfl⟩
            rw [← hW6] at T6
            rw [← hW6]
            clear X6 hW6 ho3 hgg hg3 HR TC NN hHeld d0 ga k0 f3
            have FIN := hid ((T6).up (show _ ≤ k + 120 by omega)).fin
            have m0 := (T6).xa.k0
            have m1 := (T6).xa.k1
            have m2 := (T6).xa.k2
            have p0 := (T6).res.c0
            have p1 := (T6).res.c1
            have p2 := (T6).res.c2
            have y0 := (T6).res.f0
            have y1 := (T6).res.f1
            have y2 := (T6).res.f2
            have TT0 := hid (set3_0 p0 (.slice A1 n1 c1) (.slice (some ⟨gg, 0, none⟩) (n2 + 1) cap) (.slice A3 n3 c3))
            have TT1 := hid (set3_1 p1 (.slice A1 n1 c1) (.slice (some ⟨gg, 0, none⟩) (n2 + 1) cap) (.slice A3 n3 c3))
            have TT2 := hid (set3_2 p2 (.slice A1 n1 c1) (.slice (some ⟨gg, 0, none⟩) (n2 + 1) cap) (.slice A3 n3 c3))
            simp only at m0 m1 m2
            have FEW : Hid (FewX 62 _) := (FewX.rm (TP.out) zz).up (by omega)
            go_wp2_with fail
            have t0 := TT0.out
            have t1 := TT1.out
            have t2 := TT2.out
            refine bodyPost_ret (v := .agg #[.slice A1 n1 c1, .slice (some ⟨gg, 0, none⟩) (n2 + 1) cap, .slice A3 n3 c3]) (by simp [results, Tryz.results40, go_sem, t0, t1, t2]) rfl ⟨⟨A1, n1, c1, (some ⟨gg, 0, none⟩), (n2 + 1), cap, A3, n3, c3⟩, _, rfl, FIN.out.1, FEW.out, FIN.out.2.1, FIN.out.2.2⟩
          exact AllReadyH.nil
        exact AllReadyH.nil
      exact AllReadyH.nil
    exact AllReadyH.nil
  by_cases h2 : q = 2
  · subst h2
    have T := TH.out
    have g0 := T.xa.k2
    have q9 := T.xa.o3
    simp only at g0 q9
    have hl := T.xa.len.2.2
    have hb := px8.out.1
    simp only at hl
    have hn : n3 ≤ 8 := by have := hb.2.2.1; omega
    have e1 : (some gx : Option Nat) ≠ some gs := by have := T.h1; have := T.h2; have := T.h3; have := T.h4; simp; omega
    have d0 : w3.drew.cell? ⟨gx, 2, none⟩ = some (.slice A3 n3 c3) := g0
    have gsr : gs < w3.heap.size := T.src.lt
    have lo3 : lo ≤ w3.heap.size := by have := T.h4; have := T.lt; omega
    have TC := hid T.drew
    have TP := hid px8.out.1
    clear T hl hb TH px8
    go_wp2_with fail
    refine wp_region_last (n := 15) (S := (fun W => W.cell? ⟨gx, 2, none⟩ = some (.slice A3 n3 c3))) (by kernel_rfl) (by kernel_rfl) ?_ (fun hHeld => ?_)
    · (try dsimp only); (exact d0)
    refine wpAnyH_take (i := 0) (oi := ⟨some 34, Go.Op.fieldAddr 25 (Go.Operand.tmp 3) 2, 0, "l21_language.go:395", #[], none⟩) (v := ?_) rfl (by kernel_rfl) (by kernel_rfl) (by kernel_rfl) (fun _ _ _ h => h) (Or.inl ⟨by rfl, ?_⟩) (by assumption) ?_
    rotate_left
    · intro w hSw; (try dsimp only at hSw); go_split_ands; go_simp; first | done | with_reducible rfl
    (try simp only [Act.put, List.setIfInBounds_toArray, List.set_cons_zero, List.set_cons_succ])
    refine wpAnyH_take (i := 1) (oi := ⟨some 35, Go.Op.load 23 (Go.Operand.tmp 34), 23, "l21_language.go:395", #[⟨0, Go.Ground.data⟩], none⟩) (v := ?_) rfl (by kernel_rfl) (by kernel_rfl) (by kernel_rfl) (fun _ _ _ h => h) (Or.inl ⟨by rfl, ?_⟩) (by assumption) ?_
    rotate_left
    · intro w hSw; (try dsimp only at hSw); go_split_ands; go_simp; first | done | with_reducible rfl
    (try simp only [Act.put, List.setIfInBounds_toArray, List.set_cons_zero, List.set_cons_succ])
    refine wpAnyH_take (i := 2) (oi := ⟨some 36, Go.Op.move (Go.Operand.tmp 0), 58, "l21_language.go:395", #[], none⟩) (v := ?_) rfl (by kernel_rfl) (by kernel_rfl) (by kernel_rfl) (fun _ _ _ h => h) (Or.inl ⟨by rfl, ?_⟩) (by assumption) ?_
    rotate_left
    · intro w hSw; (try dsimp only at hSw); go_split_ands; go_simp; first | done | with_reducible rfl
    (try simp only [Act.put, List.setIfInBounds_toArray, List.set_cons_zero, List.set_cons_succ])
    refine wpAnyH_take (i := 5) (oi := ⟨some 39, Go.Op.move (Go.Operand.tmp 0), 58, "l21_language.go:395", #[], none⟩) (v := ?_) rfl (by kernel_rfl) (by kernel_rfl) (by kernel_rfl) (fun _ _ _ h => h) (Or.inl ⟨by rfl, ?_⟩) (by assumption) ?_
    rotate_left
    · intro w hSw; (try dsimp only at hSw); go_split_ands; go_simp; first | done | with_reducible rfl
    (try simp only [Act.put, List.setIfInBounds_toArray, List.set_cons_zero, List.set_cons_succ])
    refine wpAnyH_take (i := 8) (oi := ⟨some 42, Go.Op.move (Go.Operand.tmp 0), 58, "l21_language.go:395", #[], none⟩) (v := ?_) rfl (by kernel_rfl) (by kernel_rfl) (by kernel_rfl) (fun _ _ _ h => h) (Or.inl ⟨by rfl, ?_⟩) (by assumption) ?_
    rotate_left
    · intro w hSw; (try dsimp only at hSw); go_split_ands; go_simp; first | done | with_reducible rfl
    (try simp only [Act.put, List.setIfInBounds_toArray, List.set_cons_zero, List.set_cons_succ])
    refine wpAnyH_ready (rs := [3, 6, 9]) (by kernel_rfl) (by simp) ?_
    refine AllReadyH.cons rfl (fun K hK => ?_) ?_
    · skip
      go_simp
      have N3 : Hid ((w3.drew.alloc (.cells #[.string ⟨#[98, 97, 110, 107]⟩, .string ⟨#[110, 111, 110, 101]⟩] 9)).ownsRow (w3.heap.size) 9 1 (.slice (some ⟨w3.heap.size, 0, none⟩) 2 2) 2 (([⟨#[98, 97, 110, 107]⟩, ⟨#[110, 111, 110, 101]⟩] : List ByteArray).flatMap encS)) := by
        have := World.ownsRow_lit (base := w3.drew.heap.size) (e := 9) (size := 1) (w3.drew) #[.string ⟨#[98, 97, 110, 107]⟩, .string ⟨#[110, 111, 110, 101]⟩] 2 (Nat.le_refl _) (by simp [maxLen]) (by simp)
        simpa [Hid, encS] using this
      replace TC := hid (TC.out.alloc (.cells #[.string ⟨#[98, 97, 110, 107]⟩, .string ⟨#[110, 111, 110, 101]⟩] 9))
      refine hK.out _ _ ?_ (fun hH2 => ?_)
      · (try dsimp only); (exact below_cell hHeld ((Below.refl _ _).alloc (Nat.le_refl _) _))
      clear hK K hHeld; have hHeld := hH2; clear hH2
      refine wpAnyH_ready (rs := [4, 6, 9]) (by kernel_rfl) (by simp) ?_
      refine AllReadyH.cons rfl (fun K hK => ?_) ?_
      · skip
        go_simp
        go_wp2_with (go_at_call 67; refine (text_any gs (k + 102) (some ⟨w3.heap.size, 0, none⟩) 2 2 [⟨#[98, 97, 110, 107]⟩, ⟨#[110, 111, 110, 101]⟩] _ TC.out.src (by omega) (by omega) (by omega) (own_sl encS_len (by omega) N3.out) (fun b off s e => by injection e with e; injection e with e; omega)).mono ?_; rintro r wa ⟨f, rfl, hza, hsa, hga⟩)
        have zza : f.size ≤ 12 := by
          simp only [List.mem_cons, List.not_mem_nil, or_false] at hza
          rcases hza with rfl | rfl <;> decide
        clear hza
        replace TC := hid (TC.out.pick hsa hga)
        have hya : w3.heap.size ≤ wa.heap.size := by have h := hga.size; (try simp at h); omega
        refine hK.out _ _ ?_ (fun hH2 => ?_)
        · (try dsimp only); (exact hga.cell hHeld e1)
        clear hK K hHeld; have hHeld := hH2; clear hH2
        refine wpAnyH_ready (rs := [6, 9]) (by kernel_rfl) (by simp) ?_
        refine AllReadyH.cons rfl (fun K hK => ?_) ?_
        · skip
          go_simp
          have N6 : Hid ((wa.alloc (.cells #[.string ⟨#[98, 97, 110, 107]⟩, .string ⟨#[112, 111, 115, 116]⟩] 9)).ownsRow (wa.heap.size) 9 1 (.slice (some ⟨wa.heap.size, 0, none⟩) 2 2) 2 (([⟨#[98, 97, 110, 107]⟩, ⟨#[112, 111, 115, 116]⟩] : List ByteArray).flatMap encS)) := by
            have := World.ownsRow_lit (base := wa.heap.size) (e := 9) (size := 1) (wa) #[.string ⟨#[98, 97, 110, 107]⟩, .string ⟨#[112, 111, 115, 116]⟩] 2 (Nat.le_refl _) (by simp [maxLen]) (by simp)
            simpa [Hid, encS] using this
          replace TC := hid (TC.out.alloc (.cells #[.string ⟨#[98, 97, 110, 107]⟩, .string ⟨#[112, 111, 115, 116]⟩] 9))
          refine hK.out _ _ ?_ (fun hH2 => ?_)
          · (try dsimp only); (exact below_cell hHeld ((Below.refl _ _).alloc (Nat.le_refl _) _))
          clear hK K hHeld; have hHeld := hH2; clear hH2
          refine wpAnyH_ready (rs := [7, 9]) (by kernel_rfl) (by simp) ?_
          refine AllReadyH.cons rfl (fun K hK => ?_) ?_
          · skip
            go_simp
            go_wp2_with (go_at_call 67; refine (text_any gs (k + 102 + 2) (some ⟨wa.heap.size, 0, none⟩) 2 2 [⟨#[98, 97, 110, 107]⟩, ⟨#[112, 111, 115, 116]⟩] _ TC.out.src (by omega) (by omega) (by omega) (own_sl encS_len (by omega) N6.out) (fun b off s e => by injection e with e; injection e with e; omega)).mono ?_; rintro r wb ⟨g, rfl, hzb, hsb, hgb⟩)
            have zzb : g.size ≤ 12 := by
              simp only [List.mem_cons, List.not_mem_nil, or_false] at hzb
              rcases hzb with rfl | rfl <;> decide
            clear hzb
            replace TC := hid (TC.out.pick hsb hgb)
            have hyb : w3.heap.size ≤ wb.heap.size := by have h := hgb.size; (try simp at h); omega
            refine hK.out _ _ ?_ (fun hH2 => ?_)
            · (try dsimp only); (exact hgb.cell hHeld e1)
            clear hK K hHeld; have hHeld := hH2; clear hH2
            refine wpAnyH_ready (rs := [9]) (by kernel_rfl) (by simp) ?_
            refine AllReadyH.cons rfl (fun K hK => ?_) ?_
            · skip
              go_simp
              have N9 : Hid ((wb.alloc (.cells #[.int .i64 (-1), .int .i64 0, .int .i64 1, .int .i64 2000, .int .i64 2001] 2)).ownsRow (wb.heap.size) 2 1 (.slice (some ⟨wb.heap.size, 0, none⟩) 5 5) 5 (([(-1), 0, 1, 2000, 2001] : List Int).flatMap encI)) := by
                have := World.ownsRow_lit (base := wb.heap.size) (e := 2) (size := 1) (wb) #[.int .i64 (-1), .int .i64 0, .int .i64 1, .int .i64 2000, .int .i64 2001] 5 (Nat.le_refl _) (by simp [maxLen]) (by simp)
                simpa [Hid, encI] using this
              replace TC := hid (TC.out.alloc (.cells #[.int .i64 (-1), .int .i64 0, .int .i64 1, .int .i64 2000, .int .i64 2001] 2))
              refine hK.out _ _ ?_ (fun hH2 => ?_)
              · (try dsimp only); (exact below_cell hHeld ((Below.refl _ _).alloc (Nat.le_refl _) _))
              clear hK K hHeld; have hHeld := hH2; clear hH2
              refine wpAnyH_ready (rs := [10]) (by kernel_rfl) (by simp) ?_
              refine AllReadyH.cons rfl (fun K hK => ?_) ?_
              · skip
                go_simp
                go_wp2_with (go_at_call 45; refine (among_any gs (k + 102 + 2 + 2) (some ⟨wb.heap.size, 0, none⟩) 5 5 [(-1), 0, 1, 2000, 2001] _ TC.out.src (by omega) (by omega) (by omega) (own_sl encI_len (by omega) N9.out) (fun b off s e => by injection e with e; injection e with e; omega)).mono ?_; rintro r wc ⟨mm, rfl, hzc, hsc, hgc⟩)
                replace TC := hid (TC.out.pick hsc hgc)
                have hyc : w3.heap.size ≤ wc.heap.size := by have h := hgc.size; (try simp at h); omega
                have HR := hid TC.out.xa.own.wy
                have ga := hgc.cell hHeld e1
                have fa := TC.out.xa.f2
                have la := TC.out.lt
                have loa : lo ≤ wc.heap.size := by have := TC.out.h4; omega
                refine hK.out _ _ ?_ (fun hH2 => ?_)
                · (try dsimp only); (exact ga)
                clear hK K hHeld; have hHeld := hH2; clear hH2
                refine wpAnyH_take (i := 11) (oi := ⟨some 45, Go.Op.build 62 #[(0, Go.Operand.tmp 38), (1, Go.Operand.tmp 41), (2, Go.Operand.tmp 44)], 62, "l21_language.go:395", #[⟨4, Go.Ground.data⟩, ⟨7, Go.Ground.data⟩, ⟨10, Go.Ground.data⟩], none⟩) (v := ?_) rfl (by kernel_rfl) (by kernel_rfl) (by kernel_rfl) (fun _ _ _ h => h) (Or.inl ⟨by rfl, ?_⟩) (by assumption) ?_
                rotate_left
                · intro w hSw; (try dsimp only at hSw); go_split_ands; go_simp; first | done | with_reducible rfl
                (try simp only [Act.put, List.setIfInBounds_toArray, List.set_cons_zero, List.set_cons_succ])
                refine wpAnyH_ready (rs := [12]) (by kernel_rfl) (by simp) ?_
                refine AllReadyH.cons rfl (fun K hK => ?_) ?_
                · skip
                  go_simp
                  refine hK.out _ _ ?_ (fun hH2 => ?_)
                  · (try dsimp only); (exact below_cell hHeld ((Below.refl _ _).alloc (Nat.le_refl _) _))
                  clear hK K hHeld; have hHeld := hH2; clear hH2
                  refine wpAnyH_ready (rs := [13]) (by kernel_rfl) (by simp) ?_
                  refine AllReadyH.cons rfl (fun K hK => ?_) ?_
                  · skip
                    refine step_append_lies _ (by rfl) _ _ _ (by rfl) lo 62 j0 _ 3 40 Tryz.underlying23 hj hy0 hy1 hy2 rfl (by omega) (.slice A3 n3 c3) n3 (x.wy.flatMap encWay) (by rfl) (HR.out.alloc _) ⟨wc.heap.size, 0, none⟩ 1 1 [.string f, .string g, .int .i64 mm] (by rfl) (by rfl) (World.news_of_block (cs := #[.string f, .string g, .int .i64 mm]) (t := 62) (fr := (0, 0)) (heap_alloc_new wc _)) (by simp [Value.oneCell']) (by omega) (by simp only [maxLen]; omega) (by omega) (by simp; omega) (wc.heap.size + 1) (by simp) ?_
                    intro gg cap w5 ho3 hg3 hat3 hlt3
                    have hgg := (gr_alloc (o := .cells #[.string f, .string g, .int .i64 mm] 62) (World.grownBy.refl wc (Value.slice A3 n3 c3).ownBlock)).trans hg3
                    have k0 := hgg.cell ga (fun e => q9 e.symm)
                    have f3 := (hgg.frozen_far ⟨gx, 2, none⟩ la (fun e => q9 e.symm)).trans fa
                    refine hK.out _ _ ?_ (fun hH2 => ?_)
                    · (try dsimp only); (exact k0)
                    clear hK K hHeld; have hHeld := hH2; clear hH2
                    refine wpAnyH_take (i := 14) (oi := ⟨some 48, Go.Op.fieldAddr 25 (Go.Operand.tmp 3) 2, 0, "l21_language.go:395", #[⟨0, Go.Ground.phase⟩, ⟨1, Go.Ground.phase⟩, ⟨2, Go.Ground.phase⟩, ⟨3, Go.Ground.phase⟩, ⟨4, Go.Ground.phase⟩, ⟨5, Go.Ground.phase⟩, ⟨6, Go.Ground.phase⟩, ⟨7, Go.Ground.phase⟩, ⟨8, Go.Ground.phase⟩, ⟨9, Go.Ground.phase⟩, ⟨10, Go.Ground.phase⟩, ⟨11, Go.Ground.phase⟩, ⟨12, Go.Ground.phase⟩, ⟨13, Go.Ground.phase⟩], none⟩) (v := ?_) rfl (by kernel_rfl) (by kernel_rfl) (by kernel_rfl) (fun _ _ _ h => h) (Or.inl ⟨by rfl, ?_⟩) (by assumption) ?_
                    rotate_left
                    · intro w hSw; (try dsimp only at hSw); go_split_ands; go_simp; first | done | with_reducible rfl
                    (try simp only [Act.put, List.setIfInBounds_toArray])
                    refine wpAnyH_done (by kernel_rfl) ?_ _
                    refine last_step rfl rfl (fun K hK => ?_)
                    go_simp
                    refine hK.out _ _ ?_
                    clear hK K
                    have X6 := TC.out.xa.put3 (z := ⟨f, g, mm⟩) (H := wc.heap.size + 1) hgg (by omega) hat3 (by simpa [encWay] using ho3)
                    have T6 := TC.out.put hgg (fun b hb => (HR.out.lt b hb).1) X6
                    obtain ⟨W6, hW6⟩ : ∃ W6, W6 = w5.setCell ⟨gx, 2, none⟩ (.slice (some ⟨gg, 0, none⟩) (n3 + 1) cap) := ⟨_, rfl⟩
                    rw [← hW6] at T6
                    rw [← hW6]
                    clear X6 hW6 ho3 hgg hg3 HR TC hHeld d0 ga k0 f3
                    have FIN := hid ((T6).up (show _ ≤ k + 120 by omega)).fin
                    have m0 := (T6).xa.k0
                    have m1 := (T6).xa.k1
                    have m2 := (T6).xa.k2
                    have p0 := (T6).res.c0
                    have p1 := (T6).res.c1
                    have p2 := (T6).res.c2
                    have y0 := (T6).res.f0
                    have y1 := (T6).res.f1
                    have y2 := (T6).res.f2
                    have TT0 := hid (set3_0 p0 (.slice A1 n1 c1) (.slice A2 n2 c2) (.slice (some ⟨gg, 0, none⟩) (n3 + 1) cap))
                    have TT1 := hid (set3_1 p1 (.slice A1 n1 c1) (.slice A2 n2 c2) (.slice (some ⟨gg, 0, none⟩) (n3 + 1) cap))
                    have TT2 := hid (set3_2 p2 (.slice A1 n1 c1) (.slice A2 n2 c2) (.slice (some ⟨gg, 0, none⟩) (n3 + 1) cap))
                    simp only at m0 m1 m2
                    have FEW : Hid (FewX 62 _) := (FewX.wy (z := ⟨f, g, mm⟩) (TP.out) ⟨zza, zzb⟩).up (by omega)
                    go_wp2_with fail
                    have t0 := TT0.out
                    have t1 := TT1.out
                    have t2 := TT2.out
                    refine bodyPost_ret (v := .agg #[.slice A1 n1 c1, .slice A2 n2 c2, .slice (some ⟨gg, 0, none⟩) (n3 + 1) cap]) (by simp [results, Tryz.results40, go_sem, t0, t1, t2]) rfl ⟨⟨A1, n1, c1, A2, n2, c2, (some ⟨gg, 0, none⟩), (n3 + 1), cap⟩, _, rfl, FIN.out.1, FEW.out, FIN.out.2.1, FIN.out.2.2⟩
                  exact AllReadyH.nil
                exact AllReadyH.nil
              exact AllReadyH.nil
            exact AllReadyH.nil
          refine AllReadyH.cons rfl (fun K hK => ?_) ?_
          · skip
            go_simp
            have N9 : Hid (((wa.alloc (.cells #[.string ⟨#[98, 97, 110, 107]⟩, .string ⟨#[112, 111, 115, 116]⟩] 9)).alloc (.cells #[.int .i64 (-1), .int .i64 0, .int .i64 1, .int .i64 2000, .int .i64 2001] 2)).ownsRow (wa.heap.size + 1) 2 1 (.slice (some ⟨wa.heap.size + 1, 0, none⟩) 5 5) 5 (([(-1), 0, 1, 2000, 2001] : List Int).flatMap encI)) := by
              have := World.ownsRow_lit (base := (wa.alloc (.cells #[.string ⟨#[98, 97, 110, 107]⟩, .string ⟨#[112, 111, 115, 116]⟩] 9)).heap.size) (e := 2) (size := 1) ((wa.alloc (.cells #[.string ⟨#[98, 97, 110, 107]⟩, .string ⟨#[112, 111, 115, 116]⟩] 9))) #[.int .i64 (-1), .int .i64 0, .int .i64 1, .int .i64 2000, .int .i64 2001] 5 (Nat.le_refl _) (by simp [maxLen]) (by simp)
              simpa [Hid, encI] using this
            replace N6 := hid (ow_alloc (o := (.cells #[.int .i64 (-1), .int .i64 0, .int .i64 1, .int .i64 2000, .int .i64 2001] 2)) N6.out)
            replace TC := hid (TC.out.alloc (.cells #[.int .i64 (-1), .int .i64 0, .int .i64 1, .int .i64 2000, .int .i64 2001] 2))
            refine hK.out _ _ ?_ (fun hH2 => ?_)
            · (try dsimp only); (exact below_cell hHeld ((Below.refl _ _).alloc (Nat.le_refl _) _))
            clear hK K hHeld; have hHeld := hH2; clear hH2
            refine wpAnyH_ready (rs := [7]) (by kernel_rfl) (by simp) ?_
            refine AllReadyH.cons rfl (fun K hK => ?_) ?_
            · skip
              go_simp
              go_wp2_with (go_at_call 67; refine (text_any gs (k + 102 + 2) (some ⟨wa.heap.size, 0, none⟩) 2 2 [⟨#[98, 97, 110, 107]⟩, ⟨#[112, 111, 115, 116]⟩] _ TC.out.src (by omega) (by omega) (by omega) (own_sl encS_len (by omega) N6.out) (fun b off s e => by injection e with e; injection e with e; omega)).mono ?_; rintro r wb ⟨g, rfl, hzb, hsb, hgb⟩)
              have zzb : g.size ≤ 12 := by
                simp only [List.mem_cons, List.not_mem_nil, or_false] at hzb
                rcases hzb with rfl | rfl <;> decide
              clear hzb
              replace TC := hid (TC.out.pick hsb hgb)
              have hyb : w3.heap.size ≤ wb.heap.size := by have h := hgb.size; (try simp at h); omega
              replace N9 := hid (own_apartS N9.out hgb (fun b hb e => by injection hb with hb; subst hb; simp [Value.ownBlock] at e; omega))
              refine hK.out _ _ ?_ (fun hH2 => ?_)
              · (try dsimp only); (exact hgb.cell hHeld e1)
              clear hK K hHeld; have hHeld := hH2; clear hH2
              refine wpAnyH_ready (rs := [10]) (by kernel_rfl) (by simp) ?_
              refine AllReadyH.cons rfl (fun K hK => ?_) ?_
              · skip
                go_simp
                go_wp2_with (go_at_call 45; refine (among_any gs (k + 102 + 2 + 2) (some ⟨wa.heap.size + 1, 0, none⟩) 5 5 [(-1), 0, 1, 2000, 2001] _ TC.out.src (by omega) (by omega) (by omega) (own_sl encI_len (by omega) N9.out) (fun b off s e => by injection e with e; injection e with e; omega)).mono ?_; rintro r wc ⟨mm, rfl, hzc, hsc, hgc⟩)
                replace TC := hid (TC.out.pick hsc hgc)
                have hyc : w3.heap.size ≤ wc.heap.size := by have h := hgc.size; (try simp at h); omega
                have HR := hid TC.out.xa.own.wy
                have ga := hgc.cell hHeld e1
                have fa := TC.out.xa.f2
                have la := TC.out.lt
                have loa : lo ≤ wc.heap.size := by have := TC.out.h4; omega
                refine hK.out _ _ ?_ (fun hH2 => ?_)
                · (try dsimp only); (exact ga)
                clear hK K hHeld; have hHeld := hH2; clear hH2
                refine wpAnyH_take (i := 11) (oi := ⟨some 45, Go.Op.build 62 #[(0, Go.Operand.tmp 38), (1, Go.Operand.tmp 41), (2, Go.Operand.tmp 44)], 62, "l21_language.go:395", #[⟨4, Go.Ground.data⟩, ⟨7, Go.Ground.data⟩, ⟨10, Go.Ground.data⟩], none⟩) (v := ?_) rfl (by kernel_rfl) (by kernel_rfl) (by kernel_rfl) (fun _ _ _ h => h) (Or.inl ⟨by rfl, ?_⟩) (by assumption) ?_
                rotate_left
                · intro w hSw; (try dsimp only at hSw); go_split_ands; go_simp; first | done | with_reducible rfl
                (try simp only [Act.put, List.setIfInBounds_toArray, List.set_cons_zero, List.set_cons_succ])
                refine wpAnyH_ready (rs := [12]) (by kernel_rfl) (by simp) ?_
                refine AllReadyH.cons rfl (fun K hK => ?_) ?_
                · skip
                  go_simp
                  refine hK.out _ _ ?_ (fun hH2 => ?_)
                  · (try dsimp only); (exact below_cell hHeld ((Below.refl _ _).alloc (Nat.le_refl _) _))
                  clear hK K hHeld; have hHeld := hH2; clear hH2
                  refine wpAnyH_ready (rs := [13]) (by kernel_rfl) (by simp) ?_
                  refine AllReadyH.cons rfl (fun K hK => ?_) ?_
                  · skip
                    refine step_append_lies _ (by rfl) _ _ _ (by rfl) lo 62 j0 _ 3 40 Tryz.underlying23 hj hy0 hy1 hy2 rfl (by omega) (.slice A3 n3 c3) n3 (x.wy.flatMap encWay) (by rfl) (HR.out.alloc _) ⟨wc.heap.size, 0, none⟩ 1 1 [.string f, .string g, .int .i64 mm] (by rfl) (by rfl) (World.news_of_block (cs := #[.string f, .string g, .int .i64 mm]) (t := 62) (fr := (0, 0)) (heap_alloc_new wc _)) (by simp [Value.oneCell']) (by omega) (by simp only [maxLen]; omega) (by omega) (by simp; omega) (wc.heap.size + 1) (by simp) ?_
                    intro gg cap w5 ho3 hg3 hat3 hlt3
                    have hgg := (gr_alloc (o := .cells #[.string f, .string g, .int .i64 mm] 62) (World.grownBy.refl wc (Value.slice A3 n3 c3).ownBlock)).trans hg3
                    have k0 := hgg.cell ga (fun e => q9 e.symm)
                    have f3 := (hgg.frozen_far ⟨gx, 2, none⟩ la (fun e => q9 e.symm)).trans fa
                    refine hK.out _ _ ?_ (fun hH2 => ?_)
                    · (try dsimp only); (exact k0)
                    clear hK K hHeld; have hHeld := hH2; clear hH2
                    refine wpAnyH_take (i := 14) (oi := ⟨some 48, Go.Op.fieldAddr 25 (Go.Operand.tmp 3) 2, 0, "l21_language.go:395", #[⟨0, Go.Ground.phase⟩, ⟨1, Go.Ground.phase⟩, ⟨2, Go.Ground.phase⟩, ⟨3, Go.Ground.phase⟩, ⟨4, Go.Ground.phase⟩, ⟨5, Go.Ground.phase⟩, ⟨6, Go.Ground.phase⟩, ⟨7, Go.Ground.phase⟩, ⟨8, Go.Ground.phase⟩, ⟨9, Go.Ground.phase⟩, ⟨10, Go.Ground.phase⟩, ⟨11, Go.Ground.phase⟩, ⟨12, Go.Ground.phase⟩, ⟨13, Go.Ground.phase⟩], none⟩) (v := ?_) rfl (by kernel_rfl) (by kernel_rfl) (by kernel_rfl) (fun _ _ _ h => h) (Or.inl ⟨by rfl, ?_⟩) (by assumption) ?_
                    rotate_left
                    · intro w hSw; (try dsimp only at hSw); go_split_ands; go_simp; first | done | with_reducible rfl
                    (try simp only [Act.put, List.setIfInBounds_toArray])
                    refine wpAnyH_done (by kernel_rfl) ?_ _
                    refine last_step rfl rfl (fun K hK => ?_)
                    go_simp
                    refine hK.out _ _ ?_
                    clear hK K
                    have X6 := TC.out.xa.put3 (z := ⟨f, g, mm⟩) (H := wc.heap.size + 1) hgg (by omega) hat3 (by simpa [encWay] using ho3)
                    have T6 := TC.out.put hgg (fun b hb => (HR.out.lt b hb).1) X6
                    obtain ⟨W6, hW6⟩ : ∃ W6, W6 = w5.setCell ⟨gx, 2, none⟩ (.slice (some ⟨gg, 0, none⟩) (n3 + 1) cap) := ⟨_, rfl⟩
                    rw [← hW6] at T6
                    rw [← hW6]
                    clear X6 hW6 ho3 hgg hg3 HR TC hHeld d0 ga k0 f3
                    have FIN := hid ((T6).up (show _ ≤ k + 120 by omega)).fin
                    have m0 := (T6).xa.k0
                    have m1 := (T6).xa.k1
                    have m2 := (T6).xa.k2
                    have p0 := (T6).res.c0
                    have p1 := (T6).res.c1
                    have p2 := (T6).res.c2
                    have y0 := (T6).res.f0
                    have y1 := (T6).res.f1
                    have y2 := (T6).res.f2
                    have TT0 := hid (set3_0 p0 (.slice A1 n1 c1) (.slice A2 n2 c2) (.slice (some ⟨gg, 0, none⟩) (n3 + 1) cap))
                    have TT1 := hid (set3_1 p1 (.slice A1 n1 c1) (.slice A2 n2 c2) (.slice (some ⟨gg, 0, none⟩) (n3 + 1) cap))
                    have TT2 := hid (set3_2 p2 (.slice A1 n1 c1) (.slice A2 n2 c2) (.slice (some ⟨gg, 0, none⟩) (n3 + 1) cap))
                    simp only at m0 m1 m2
                    have FEW : Hid (FewX 62 _) := (FewX.wy (z := ⟨f, g, mm⟩) (TP.out) ⟨zza, zzb⟩).up (by omega)
                    go_wp2_with fail
                    have t0 := TT0.out
                    have t1 := TT1.out
                    have t2 := TT2.out
                    refine bodyPost_ret (v := .agg #[.slice A1 n1 c1, .slice A2 n2 c2, .slice (some ⟨gg, 0, none⟩) (n3 + 1) cap]) (by simp [results, Tryz.results40, go_sem, t0, t1, t2]) rfl ⟨⟨A1, n1, c1, A2, n2, c2, (some ⟨gg, 0, none⟩), (n3 + 1), cap⟩, _, rfl, FIN.out.1, FEW.out, FIN.out.2.1, FIN.out.2.2⟩
                  exact AllReadyH.nil
                exact AllReadyH.nil
              exact AllReadyH.nil
            exact AllReadyH.nil
          exact AllReadyH.nil
        refine AllReadyH.cons rfl (fun K hK => ?_) ?_
        · skip
          go_simp
          have N9 : Hid ((wa.alloc (.cells #[.int .i64 (-1), .int .i64 0, .int .i64 1, .int .i64 2000, .int .i64 2001] 2)).ownsRow (wa.heap.size) 2 1 (.slice (some ⟨wa.heap.size, 0, none⟩) 5 5) 5 (([(-1), 0, 1, 2000, 2001] : List Int).flatMap encI)) := by
            have := World.ownsRow_lit (base := wa.heap.size) (e := 2) (size := 1) (wa) #[.int .i64 (-1), .int .i64 0, .int .i64 1, .int .i64 2000, .int .i64 2001] 5 (Nat.le_refl _) (by simp [maxLen]) (by simp)
            simpa [Hid, encI] using this
          replace TC := hid (TC.out.alloc (.cells #[.int .i64 (-1), .int .i64 0, .int .i64 1, .int .i64 2000, .int .i64 2001] 2))
          refine hK.out _ _ ?_ (fun hH2 => ?_)
          · (try dsimp only); (exact below_cell hHeld ((Below.refl _ _).alloc (Nat.le_refl _) _))
          clear hK K hHeld; have hHeld := hH2; clear hH2
          refine wpAnyH_ready (rs := [6]) (by kernel_rfl) (by simp) ?_
          refine AllReadyH.cons rfl (fun K hK => ?_) ?_
          · skip
            go_simp
            have N6 : Hid (((wa.alloc (.cells #[.int .i64 (-1), .int .i64 0, .int .i64 1, .int .i64 2000, .int .i64 2001] 2)).alloc (.cells #[.string ⟨#[98, 97, 110, 107]⟩, .string ⟨#[112, 111, 115, 116]⟩] 9)).ownsRow (wa.heap.size + 1) 9 1 (.slice (some ⟨wa.heap.size + 1, 0, none⟩) 2 2) 2 (([⟨#[98, 97, 110, 107]⟩, ⟨#[112, 111, 115, 116]⟩] : List ByteArray).flatMap encS)) := by
              have := World.ownsRow_lit (base := (wa.alloc (.cells #[.int .i64 (-1), .int .i64 0, .int .i64 1, .int .i64 2000, .int .i64 2001] 2)).heap.size) (e := 9) (size := 1) ((wa.alloc (.cells #[.int .i64 (-1), .int .i64 0, .int .i64 1, .int .i64 2000, .int .i64 2001] 2))) #[.string ⟨#[98, 97, 110, 107]⟩, .string ⟨#[112, 111, 115, 116]⟩] 2 (Nat.le_refl _) (by simp [maxLen]) (by simp)
              simpa [Hid, encS] using this
            replace N9 := hid (ow_alloc (o := (.cells #[.string ⟨#[98, 97, 110, 107]⟩, .string ⟨#[112, 111, 115, 116]⟩] 9)) N9.out)
            replace TC := hid (TC.out.alloc (.cells #[.string ⟨#[98, 97, 110, 107]⟩, .string ⟨#[112, 111, 115, 116]⟩] 9))
            refine hK.out _ _ ?_ (fun hH2 => ?_)
            · (try dsimp only); (exact below_cell hHeld ((Below.refl _ _).alloc (Nat.le_refl _) _))
            clear hK K hHeld; have hHeld := hH2; clear hH2
            refine wpAnyH_ready (rs := [7]) (by kernel_rfl) (by simp) ?_
            refine AllReadyH.cons rfl (fun K hK => ?_) ?_
            · skip
              go_simp
              go_wp2_with (go_at_call 67; refine (text_any gs (k + 102 + 2) (some ⟨wa.heap.size + 1, 0, none⟩) 2 2 [⟨#[98, 97, 110, 107]⟩, ⟨#[112, 111, 115, 116]⟩] _ TC.out.src (by omega) (by omega) (by omega) (own_sl encS_len (by omega) N6.out) (fun b off s e => by injection e with e; injection e with e; omega)).mono ?_; rintro r wb ⟨g, rfl, hzb, hsb, hgb⟩)
              have zzb : g.size ≤ 12 := by
                simp only [List.mem_cons, List.not_mem_nil, or_false] at hzb
                rcases hzb with rfl | rfl <;> decide
              clear hzb
              replace TC := hid (TC.out.pick hsb hgb)
              have hyb : w3.heap.size ≤ wb.heap.size := by have h := hgb.size; (try simp at h); omega
              replace N9 := hid (own_apartS N9.out hgb (fun b hb e => by injection hb with hb; subst hb; simp [Value.ownBlock] at e; omega))
              refine hK.out _ _ ?_ (fun hH2 => ?_)
              · (try dsimp only); (exact hgb.cell hHeld e1)
              clear hK K hHeld; have hHeld := hH2; clear hH2
              refine wpAnyH_ready (rs := [10]) (by kernel_rfl) (by simp) ?_
              refine AllReadyH.cons rfl (fun K hK => ?_) ?_
              · skip
                go_simp
                go_wp2_with (go_at_call 45; refine (among_any gs (k + 102 + 2 + 2) (some ⟨wa.heap.size, 0, none⟩) 5 5 [(-1), 0, 1, 2000, 2001] _ TC.out.src (by omega) (by omega) (by omega) (own_sl encI_len (by omega) N9.out) (fun b off s e => by injection e with e; injection e with e; omega)).mono ?_; rintro r wc ⟨mm, rfl, hzc, hsc, hgc⟩)
                replace TC := hid (TC.out.pick hsc hgc)
                have hyc : w3.heap.size ≤ wc.heap.size := by have h := hgc.size; (try simp at h); omega
                have HR := hid TC.out.xa.own.wy
                have ga := hgc.cell hHeld e1
                have fa := TC.out.xa.f2
                have la := TC.out.lt
                have loa : lo ≤ wc.heap.size := by have := TC.out.h4; omega
                refine hK.out _ _ ?_ (fun hH2 => ?_)
                · (try dsimp only); (exact ga)
                clear hK K hHeld; have hHeld := hH2; clear hH2
                refine wpAnyH_take (i := 11) (oi := ⟨some 45, Go.Op.build 62 #[(0, Go.Operand.tmp 38), (1, Go.Operand.tmp 41), (2, Go.Operand.tmp 44)], 62, "l21_language.go:395", #[⟨4, Go.Ground.data⟩, ⟨7, Go.Ground.data⟩, ⟨10, Go.Ground.data⟩], none⟩) (v := ?_) rfl (by kernel_rfl) (by kernel_rfl) (by kernel_rfl) (fun _ _ _ h => h) (Or.inl ⟨by rfl, ?_⟩) (by assumption) ?_
                rotate_left
                · intro w hSw; (try dsimp only at hSw); go_split_ands; go_simp; first | done | with_reducible rfl
                (try simp only [Act.put, List.setIfInBounds_toArray, List.set_cons_zero, List.set_cons_succ])
                refine wpAnyH_ready (rs := [12]) (by kernel_rfl) (by simp) ?_
                refine AllReadyH.cons rfl (fun K hK => ?_) ?_
                · skip
                  go_simp
                  refine hK.out _ _ ?_ (fun hH2 => ?_)
                  · (try dsimp only); (exact below_cell hHeld ((Below.refl _ _).alloc (Nat.le_refl _) _))
                  clear hK K hHeld; have hHeld := hH2; clear hH2
                  refine wpAnyH_ready (rs := [13]) (by kernel_rfl) (by simp) ?_
                  refine AllReadyH.cons rfl (fun K hK => ?_) ?_
                  · skip
                    refine step_append_lies _ (by rfl) _ _ _ (by rfl) lo 62 j0 _ 3 40 Tryz.underlying23 hj hy0 hy1 hy2 rfl (by omega) (.slice A3 n3 c3) n3 (x.wy.flatMap encWay) (by rfl) (HR.out.alloc _) ⟨wc.heap.size, 0, none⟩ 1 1 [.string f, .string g, .int .i64 mm] (by rfl) (by rfl) (World.news_of_block (cs := #[.string f, .string g, .int .i64 mm]) (t := 62) (fr := (0, 0)) (heap_alloc_new wc _)) (by simp [Value.oneCell']) (by omega) (by simp only [maxLen]; omega) (by omega) (by simp; omega) (wc.heap.size + 1) (by simp) ?_
                    intro gg cap w5 ho3 hg3 hat3 hlt3
                    have hgg := (gr_alloc (o := .cells #[.string f, .string g, .int .i64 mm] 62) (World.grownBy.refl wc (Value.slice A3 n3 c3).ownBlock)).trans hg3
                    have k0 := hgg.cell ga (fun e => q9 e.symm)
                    have f3 := (hgg.frozen_far ⟨gx, 2, none⟩ la (fun e => q9 e.symm)).trans fa
                    refine hK.out _ _ ?_ (fun hH2 => ?_)
                    · (try dsimp only); (exact k0)
                    clear hK K hHeld; have hHeld := hH2; clear hH2
                    refine wpAnyH_take (i := 14) (oi := ⟨some 48, Go.Op.fieldAddr 25 (Go.Operand.tmp 3) 2, 0, "l21_language.go:395", #[⟨0, Go.Ground.phase⟩, ⟨1, Go.Ground.phase⟩, ⟨2, Go.Ground.phase⟩, ⟨3, Go.Ground.phase⟩, ⟨4, Go.Ground.phase⟩, ⟨5, Go.Ground.phase⟩, ⟨6, Go.Ground.phase⟩, ⟨7, Go.Ground.phase⟩, ⟨8, Go.Ground.phase⟩, ⟨9, Go.Ground.phase⟩, ⟨10, Go.Ground.phase⟩, ⟨11, Go.Ground.phase⟩, ⟨12, Go.Ground.phase⟩, ⟨13, Go.Ground.phase⟩], none⟩) (v := ?_) rfl (by kernel_rfl) (by kernel_rfl) (by kernel_rfl) (fun _ _ _ h => h) (Or.inl ⟨by rfl, ?_⟩) (by assumption) ?_
                    rotate_left
                    · intro w hSw; (try dsimp only at hSw); go_split_ands; go_simp; first | done | with_reducible rfl
                    (try simp only [Act.put, List.setIfInBounds_toArray])
                    refine wpAnyH_done (by kernel_rfl) ?_ _
                    refine last_step rfl rfl (fun K hK => ?_)
                    go_simp
                    refine hK.out _ _ ?_
                    clear hK K
                    have X6 := TC.out.xa.put3 (z := ⟨f, g, mm⟩) (H := wc.heap.size + 1) hgg (by omega) hat3 (by simpa [encWay] using ho3)
                    have T6 := TC.out.put hgg (fun b hb => (HR.out.lt b hb).1) X6
                    obtain ⟨W6, hW6⟩ : ∃ W6, W6 = w5.setCell ⟨gx, 2, none⟩ (.slice (some ⟨gg, 0, none⟩) (n3 + 1) cap) := ⟨_, rfl⟩
                    rw [← hW6] at T6
                    rw [← hW6]
                    clear X6 hW6 ho3 hgg hg3 HR TC hHeld d0 ga k0 f3
                    have FIN := hid ((T6).up (show _ ≤ k + 120 by omega)).fin
                    have m0 := (T6).xa.k0
                    have m1 := (T6).xa.k1
                    have m2 := (T6).xa.k2
                    have p0 := (T6).res.c0
                    have p1 := (T6).res.c1
                    have p2 := (T6).res.c2
                    have y0 := (T6).res.f0
                    have y1 := (T6).res.f1
                    have y2 := (T6).res.f2
                    have TT0 := hid (set3_0 p0 (.slice A1 n1 c1) (.slice A2 n2 c2) (.slice (some ⟨gg, 0, none⟩) (n3 + 1) cap))
                    have TT1 := hid (set3_1 p1 (.slice A1 n1 c1) (.slice A2 n2 c2) (.slice (some ⟨gg, 0, none⟩) (n3 + 1) cap))
                    have TT2 := hid (set3_2 p2 (.slice A1 n1 c1) (.slice A2 n2 c2) (.slice (some ⟨gg, 0, none⟩) (n3 + 1) cap))
                    simp only at m0 m1 m2
                    have FEW : Hid (FewX 62 _) := (FewX.wy (z := ⟨f, g, mm⟩) (TP.out) ⟨zza, zzb⟩).up (by omega)
                    go_wp2_with fail
                    have t0 := TT0.out
                    have t1 := TT1.out
                    have t2 := TT2.out
                    refine bodyPost_ret (v := .agg #[.slice A1 n1 c1, .slice A2 n2 c2, .slice (some ⟨gg, 0, none⟩) (n3 + 1) cap]) (by simp [results, Tryz.results40, go_sem, t0, t1, t2]) rfl ⟨⟨A1, n1, c1, A2, n2, c2, (some ⟨gg, 0, none⟩), (n3 + 1), cap⟩, _, rfl, FIN.out.1, FEW.out, FIN.out.2.1, FIN.out.2.2⟩
                  exact AllReadyH.nil
                exact AllReadyH.nil
              exact AllReadyH.nil
            exact AllReadyH.nil
          exact AllReadyH.nil
        exact AllReadyH.nil
      refine AllReadyH.cons rfl (fun K hK => ?_) ?_
      · skip
        go_simp
        have N6 : Hid (((w3.drew.alloc (.cells #[.string ⟨#[98, 97, 110, 107]⟩, .string ⟨#[110, 111, 110, 101]⟩] 9)).alloc (.cells #[.string ⟨#[98, 97, 110, 107]⟩, .string ⟨#[112, 111, 115, 116]⟩] 9)).ownsRow (w3.heap.size + 1) 9 1 (.slice (some ⟨w3.heap.size + 1, 0, none⟩) 2 2) 2 (([⟨#[98, 97, 110, 107]⟩, ⟨#[112, 111, 115, 116]⟩] : List ByteArray).flatMap encS)) := by
          have := World.ownsRow_lit (base := (w3.drew.alloc (.cells #[.string ⟨#[98, 97, 110, 107]⟩, .string ⟨#[110, 111, 110, 101]⟩] 9)).heap.size) (e := 9) (size := 1) ((w3.drew.alloc (.cells #[.string ⟨#[98, 97, 110, 107]⟩, .string ⟨#[110, 111, 110, 101]⟩] 9))) #[.string ⟨#[98, 97, 110, 107]⟩, .string ⟨#[112, 111, 115, 116]⟩] 2 (Nat.le_refl _) (by simp [maxLen]) (by simp)
          simpa [Hid, encS] using this
        replace N3 := hid (ow_alloc (o := (.cells #[.string ⟨#[98, 97, 110, 107]⟩, .string ⟨#[112, 111, 115, 116]⟩] 9)) N3.out)
        replace TC := hid (TC.out.alloc (.cells #[.string ⟨#[98, 97, 110, 107]⟩, .string ⟨#[112, 111, 115, 116]⟩] 9))
        refine hK.out _ _ ?_ (fun hH2 => ?_)
        · (try dsimp only); (exact below_cell hHeld ((Below.refl _ _).alloc (Nat.le_refl _) _))
        clear hK K hHeld; have hHeld := hH2; clear hH2
        refine wpAnyH_ready (rs := [4, 9]) (by kernel_rfl) (by simp) ?_
        refine AllReadyH.cons rfl (fun K hK => ?_) ?_
        · skip
          go_simp
          go_wp2_with (go_at_call 67; refine (text_any gs (k + 102) (some ⟨w3.heap.size, 0, none⟩) 2 2 [⟨#[98, 97, 110, 107]⟩, ⟨#[110, 111, 110, 101]⟩] _ TC.out.src (by omega) (by omega) (by omega) (own_sl encS_len (by omega) N3.out) (fun b off s e => by injection e with e; injection e with e; omega)).mono ?_; rintro r wa ⟨f, rfl, hza, hsa, hga⟩)
          have zza : f.size ≤ 12 := by
            simp only [List.mem_cons, List.not_mem_nil, or_false] at hza
            rcases hza with rfl | rfl <;> decide
          clear hza
          replace TC := hid (TC.out.pick hsa hga)
          have hya : w3.heap.size ≤ wa.heap.size := by have h := hga.size; (try simp at h); omega
          replace N6 := hid (own_apartS N6.out hga (fun b hb e => by injection hb with hb; subst hb; simp [Value.ownBlock] at e; omega))
          refine hK.out _ _ ?_ (fun hH2 => ?_)
          · (try dsimp only); (exact hga.cell hHeld e1)
          clear hK K hHeld; have hHeld := hH2; clear hH2
          refine wpAnyH_ready (rs := [7, 9]) (by kernel_rfl) (by simp) ?_
          refine AllReadyH.cons rfl (fun K hK => ?_) ?_
          · skip
            go_simp
            go_wp2_with (go_at_call 67; refine (text_any gs (k + 102 + 2) (some ⟨w3.heap.size + 1, 0, none⟩) 2 2 [⟨#[98, 97, 110, 107]⟩, ⟨#[112, 111, 115, 116]⟩] _ TC.out.src (by omega) (by omega) (by omega) (own_sl encS_len (by omega) N6.out) (fun b off s e => by injection e with e; injection e with e; omega)).mono ?_; rintro r wb ⟨g, rfl, hzb, hsb, hgb⟩)
            have zzb : g.size ≤ 12 := by
              simp only [List.mem_cons, List.not_mem_nil, or_false] at hzb
              rcases hzb with rfl | rfl <;> decide
            clear hzb
            replace TC := hid (TC.out.pick hsb hgb)
            have hyb : w3.heap.size ≤ wb.heap.size := by have h := hgb.size; (try simp at h); omega
            refine hK.out _ _ ?_ (fun hH2 => ?_)
            · (try dsimp only); (exact hgb.cell hHeld e1)
            clear hK K hHeld; have hHeld := hH2; clear hH2
            refine wpAnyH_ready (rs := [9]) (by kernel_rfl) (by simp) ?_
            refine AllReadyH.cons rfl (fun K hK => ?_) ?_
            · skip
              go_simp
              have N9 : Hid ((wb.alloc (.cells #[.int .i64 (-1), .int .i64 0, .int .i64 1, .int .i64 2000, .int .i64 2001] 2)).ownsRow (wb.heap.size) 2 1 (.slice (some ⟨wb.heap.size, 0, none⟩) 5 5) 5 (([(-1), 0, 1, 2000, 2001] : List Int).flatMap encI)) := by
                have := World.ownsRow_lit (base := wb.heap.size) (e := 2) (size := 1) (wb) #[.int .i64 (-1), .int .i64 0, .int .i64 1, .int .i64 2000, .int .i64 2001] 5 (Nat.le_refl _) (by simp [maxLen]) (by simp)
                simpa [Hid, encI] using this
              replace TC := hid (TC.out.alloc (.cells #[.int .i64 (-1), .int .i64 0, .int .i64 1, .int .i64 2000, .int .i64 2001] 2))
              refine hK.out _ _ ?_ (fun hH2 => ?_)
              · (try dsimp only); (exact below_cell hHeld ((Below.refl _ _).alloc (Nat.le_refl _) _))
              clear hK K hHeld; have hHeld := hH2; clear hH2
              refine wpAnyH_ready (rs := [10]) (by kernel_rfl) (by simp) ?_
              refine AllReadyH.cons rfl (fun K hK => ?_) ?_
              · skip
                go_simp
                go_wp2_with (go_at_call 45; refine (among_any gs (k + 102 + 2 + 2) (some ⟨wb.heap.size, 0, none⟩) 5 5 [(-1), 0, 1, 2000, 2001] _ TC.out.src (by omega) (by omega) (by omega) (own_sl encI_len (by omega) N9.out) (fun b off s e => by injection e with e; injection e with e; omega)).mono ?_; rintro r wc ⟨mm, rfl, hzc, hsc, hgc⟩)
                replace TC := hid (TC.out.pick hsc hgc)
                have hyc : w3.heap.size ≤ wc.heap.size := by have h := hgc.size; (try simp at h); omega
                have HR := hid TC.out.xa.own.wy
                have ga := hgc.cell hHeld e1
                have fa := TC.out.xa.f2
                have la := TC.out.lt
                have loa : lo ≤ wc.heap.size := by have := TC.out.h4; omega
                refine hK.out _ _ ?_ (fun hH2 => ?_)
                · (try dsimp only); (exact ga)
                clear hK K hHeld; have hHeld := hH2; clear hH2
                refine wpAnyH_take (i := 11) (oi := ⟨some 45, Go.Op.build 62 #[(0, Go.Operand.tmp 38), (1, Go.Operand.tmp 41), (2, Go.Operand.tmp 44)], 62, "l21_language.go:395", #[⟨4, Go.Ground.data⟩, ⟨7, Go.Ground.data⟩, ⟨10, Go.Ground.data⟩], none⟩) (v := ?_) rfl (by kernel_rfl) (by kernel_rfl) (by kernel_rfl) (fun _ _ _ h => h) (Or.inl ⟨by rfl, ?_⟩) (by assumption) ?_
                rotate_left
                · intro w hSw; (try dsimp only at hSw); go_split_ands; go_simp; first | done | with_reducible rfl
                (try simp only [Act.put, List.setIfInBounds_toArray, List.set_cons_zero, List.set_cons_succ])
                refine wpAnyH_ready (rs := [12]) (by kernel_rfl) (by simp) ?_
                refine AllReadyH.cons rfl (fun K hK => ?_) ?_
                · skip
                  go_simp
                  refine hK.out _ _ ?_ (fun hH2 => ?_)
                  · (try dsimp only); (exact below_cell hHeld ((Below.refl _ _).alloc (Nat.le_refl _) _))
                  clear hK K hHeld; have hHeld := hH2; clear hH2
                  refine wpAnyH_ready (rs := [13]) (by kernel_rfl) (by simp) ?_
                  refine AllReadyH.cons rfl (fun K hK => ?_) ?_
                  · skip
                    refine step_append_lies _ (by rfl) _ _ _ (by rfl) lo 62 j0 _ 3 40 Tryz.underlying23 hj hy0 hy1 hy2 rfl (by omega) (.slice A3 n3 c3) n3 (x.wy.flatMap encWay) (by rfl) (HR.out.alloc _) ⟨wc.heap.size, 0, none⟩ 1 1 [.string f, .string g, .int .i64 mm] (by rfl) (by rfl) (World.news_of_block (cs := #[.string f, .string g, .int .i64 mm]) (t := 62) (fr := (0, 0)) (heap_alloc_new wc _)) (by simp [Value.oneCell']) (by omega) (by simp only [maxLen]; omega) (by omega) (by simp; omega) (wc.heap.size + 1) (by simp) ?_
                    intro gg cap w5 ho3 hg3 hat3 hlt3
                    have hgg := (gr_alloc (o := .cells #[.string f, .string g, .int .i64 mm] 62) (World.grownBy.refl wc (Value.slice A3 n3 c3).ownBlock)).trans hg3
                    have k0 := hgg.cell ga (fun e => q9 e.symm)
                    have f3 := (hgg.frozen_far ⟨gx, 2, none⟩ la (fun e => q9 e.symm)).trans fa
                    refine hK.out _ _ ?_ (fun hH2 => ?_)
                    · (try dsimp only); (exact k0)
                    clear hK K hHeld; have hHeld := hH2; clear hH2
                    refine wpAnyH_take (i := 14) (oi := ⟨some 48, Go.Op.fieldAddr 25 (Go.Operand.tmp 3) 2, 0, "l21_language.go:395", #[⟨0, Go.Ground.phase⟩, ⟨1, Go.Ground.phase⟩, ⟨2, Go.Ground.phase⟩, ⟨3, Go.Ground.phase⟩, ⟨4, Go.Ground.phase⟩, ⟨5, Go.Ground.phase⟩, ⟨6, Go.Ground.phase⟩, ⟨7, Go.Ground.phase⟩, ⟨8, Go.Ground.phase⟩, ⟨9, Go.Ground.phase⟩, ⟨10, Go.Ground.phase⟩, ⟨11, Go.Ground.phase⟩, ⟨12, Go.Ground.phase⟩, ⟨13, Go.Ground.phase⟩], none⟩) (v := ?_) rfl (by kernel_rfl) (by kernel_rfl) (by kernel_rfl) (fun _ _ _ h => h) (Or.inl ⟨by rfl, ?_⟩) (by assumption) ?_
                    rotate_left
                    · intro w hSw; (try dsimp only at hSw); go_split_ands; go_simp; first | done | with_reducible rfl
                    (try simp only [Act.put, List.setIfInBounds_toArray])
                    refine wpAnyH_done (by kernel_rfl) ?_ _
                    refine last_step rfl rfl (fun K hK => ?_)
                    go_simp
                    refine hK.out _ _ ?_
                    clear hK K
                    have X6 := TC.out.xa.put3 (z := ⟨f, g, mm⟩) (H := wc.heap.size + 1) hgg (by omega) hat3 (by simpa [encWay] using ho3)
                    have T6 := TC.out.put hgg (fun b hb => (HR.out.lt b hb).1) X6
                    obtain ⟨W6, hW6⟩ : ∃ W6, W6 = w5.setCell ⟨gx, 2, none⟩ (.slice (some ⟨gg, 0, none⟩) (n3 + 1) cap) := ⟨_, rfl⟩
                    rw [← hW6] at T6
                    rw [← hW6]
                    clear X6 hW6 ho3 hgg hg3 HR TC hHeld d0 ga k0 f3
                    have FIN := hid ((T6).up (show _ ≤ k + 120 by omega)).fin
                    have m0 := (T6).xa.k0
                    have m1 := (T6).xa.k1
                    have m2 := (T6).xa.k2
                    have p0 := (T6).res.c0
                    have p1 := (T6).res.c1
                    have p2 := (T6).res.c2
                    have y0 := (T6).res.f0
                    have y1 := (T6).res.f1
                    have y2 := (T6).res.f2
                    have TT0 := hid (set3_0 p0 (.slice A1 n1 c1) (.slice A2 n2 c2) (.slice (some ⟨gg, 0, none⟩) (n3 + 1) cap))
                    have TT1 := hid (set3_1 p1 (.slice A1 n1 c1) (.slice A2 n2 c2) (.slice (some ⟨gg, 0, none⟩) (n3 + 1) cap))
                    have TT2 := hid (set3_2 p2 (.slice A1 n1 c1) (.slice A2 n2 c2) (.slice (some ⟨gg, 0, none⟩) (n3 + 1) cap))
                    simp only at m0 m1 m2
                    have FEW : Hid (FewX 62 _) := (FewX.wy (z := ⟨f, g, mm⟩) (TP.out) ⟨zza, zzb⟩).up (by omega)
                    go_wp2_with fail
                    have t0 := TT0.out
                    have t1 := TT1.out
                    have t2 := TT2.out
                    refine bodyPost_ret (v := .agg #[.slice A1 n1 c1, .slice A2 n2 c2, .slice (some ⟨gg, 0, none⟩) (n3 + 1) cap]) (by simp [results, Tryz.results40, go_sem, t0, t1, t2]) rfl ⟨⟨A1, n1, c1, A2, n2, c2, (some ⟨gg, 0, none⟩), (n3 + 1), cap⟩, _, rfl, FIN.out.1, FEW.out, FIN.out.2.1, FIN.out.2.2⟩
                  exact AllReadyH.nil
                exact AllReadyH.nil
              exact AllReadyH.nil
            exact AllReadyH.nil
          refine AllReadyH.cons rfl (fun K hK => ?_) ?_
          · skip
            go_simp
            have N9 : Hid ((wa.alloc (.cells #[.int .i64 (-1), .int .i64 0, .int .i64 1, .int .i64 2000, .int .i64 2001] 2)).ownsRow (wa.heap.size) 2 1 (.slice (some ⟨wa.heap.size, 0, none⟩) 5 5) 5 (([(-1), 0, 1, 2000, 2001] : List Int).flatMap encI)) := by
              have := World.ownsRow_lit (base := wa.heap.size) (e := 2) (size := 1) (wa) #[.int .i64 (-1), .int .i64 0, .int .i64 1, .int .i64 2000, .int .i64 2001] 5 (Nat.le_refl _) (by simp [maxLen]) (by simp)
              simpa [Hid, encI] using this
            replace N6 := hid (ow_alloc (o := (.cells #[.int .i64 (-1), .int .i64 0, .int .i64 1, .int .i64 2000, .int .i64 2001] 2)) N6.out)
            replace TC := hid (TC.out.alloc (.cells #[.int .i64 (-1), .int .i64 0, .int .i64 1, .int .i64 2000, .int .i64 2001] 2))
            refine hK.out _ _ ?_ (fun hH2 => ?_)
            · (try dsimp only); (exact below_cell hHeld ((Below.refl _ _).alloc (Nat.le_refl _) _))
            clear hK K hHeld; have hHeld := hH2; clear hH2
            refine wpAnyH_ready (rs := [7]) (by kernel_rfl) (by simp) ?_
            refine AllReadyH.cons rfl (fun K hK => ?_) ?_
            · skip
              go_simp
              go_wp2_with (go_at_call 67; refine (text_any gs (k + 102 + 2) (some ⟨w3.heap.size + 1, 0, none⟩) 2 2 [⟨#[98, 97, 110, 107]⟩, ⟨#[112, 111, 115, 116]⟩] _ TC.out.src (by omega) (by omega) (by omega) (own_sl encS_len (by omega) N6.out) (fun b off s e => by injection e with e; injection e with e; omega)).mono ?_; rintro r wb ⟨g, rfl, hzb, hsb, hgb⟩)
              have zzb : g.size ≤ 12 := by
                simp only [List.mem_cons, List.not_mem_nil, or_false] at hzb
                rcases hzb with rfl | rfl <;> decide
              clear hzb
              replace TC := hid (TC.out.pick hsb hgb)
              have hyb : w3.heap.size ≤ wb.heap.size := by have h := hgb.size; (try simp at h); omega
              replace N9 := hid (own_apartS N9.out hgb (fun b hb e => by injection hb with hb; subst hb; simp [Value.ownBlock] at e; omega))
              refine hK.out _ _ ?_ (fun hH2 => ?_)
              · (try dsimp only); (exact hgb.cell hHeld e1)
              clear hK K hHeld; have hHeld := hH2; clear hH2
              refine wpAnyH_ready (rs := [10]) (by kernel_rfl) (by simp) ?_
              refine AllReadyH.cons rfl (fun K hK => ?_) ?_
              · skip
                go_simp
                go_wp2_with (go_at_call 45; refine (among_any gs (k + 102 + 2 + 2) (some ⟨wa.heap.size, 0, none⟩) 5 5 [(-1), 0, 1, 2000, 2001] _ TC.out.src (by omega) (by omega) (by omega) (own_sl encI_len (by omega) N9.out) (fun b off s e => by injection e with e; injection e with e; omega)).mono ?_; rintro r wc ⟨mm, rfl, hzc, hsc, hgc⟩)
                replace TC := hid (TC.out.pick hsc hgc)
                have hyc : w3.heap.size ≤ wc.heap.size := by have h := hgc.size; (try simp at h); omega
                have HR := hid TC.out.xa.own.wy
                have ga := hgc.cell hHeld e1
                have fa := TC.out.xa.f2
                have la := TC.out.lt
                have loa : lo ≤ wc.heap.size := by have := TC.out.h4; omega
                refine hK.out _ _ ?_ (fun hH2 => ?_)
                · (try dsimp only); (exact ga)
                clear hK K hHeld; have hHeld := hH2; clear hH2
                refine wpAnyH_take (i := 11) (oi := ⟨some 45, Go.Op.build 62 #[(0, Go.Operand.tmp 38), (1, Go.Operand.tmp 41), (2, Go.Operand.tmp 44)], 62, "l21_language.go:395", #[⟨4, Go.Ground.data⟩, ⟨7, Go.Ground.data⟩, ⟨10, Go.Ground.data⟩], none⟩) (v := ?_) rfl (by kernel_rfl) (by kernel_rfl) (by kernel_rfl) (fun _ _ _ h => h) (Or.inl ⟨by rfl, ?_⟩) (by assumption) ?_
                rotate_left
                · intro w hSw; (try dsimp only at hSw); go_split_ands; go_simp; first | done | with_reducible rfl
                (try simp only [Act.put, List.setIfInBounds_toArray, List.set_cons_zero, List.set_cons_succ])
                refine wpAnyH_ready (rs := [12]) (by kernel_rfl) (by simp) ?_
                refine AllReadyH.cons rfl (fun K hK => ?_) ?_
                · skip
                  go_simp
                  refine hK.out _ _ ?_ (fun hH2 => ?_)
                  · (try dsimp only); (exact below_cell hHeld ((Below.refl _ _).alloc (Nat.le_refl _) _))
                  clear hK K hHeld; have hHeld := hH2; clear hH2
                  refine wpAnyH_ready (rs := [13]) (by kernel_rfl) (by simp) ?_
                  refine AllReadyH.cons rfl (fun K hK => ?_) ?_
                  · skip
                    refine step_append_lies _ (by rfl) _ _ _ (by rfl) lo 62 j0 _ 3 40 Tryz.underlying23 hj hy0 hy1 hy2 rfl (by omega) (.slice A3 n3 c3) n3 (x.wy.flatMap encWay) (by rfl) (HR.out.alloc _) ⟨wc.heap.size, 0, none⟩ 1 1 [.string f, .string g, .int .i64 mm] (by rfl) (by rfl) (World.news_of_block (cs := #[.string f, .string g, .int .i64 mm]) (t := 62) (fr := (0, 0)) (heap_alloc_new wc _)) (by simp [Value.oneCell']) (by omega) (by simp only [maxLen]; omega) (by omega) (by simp; omega) (wc.heap.size + 1) (by simp) ?_
                    intro gg cap w5 ho3 hg3 hat3 hlt3
                    have hgg := (gr_alloc (o := .cells #[.string f, .string g, .int .i64 mm] 62) (World.grownBy.refl wc (Value.slice A3 n3 c3).ownBlock)).trans hg3
                    have k0 := hgg.cell ga (fun e => q9 e.symm)
                    have f3 := (hgg.frozen_far ⟨gx, 2, none⟩ la (fun e => q9 e.symm)).trans fa
                    refine hK.out _ _ ?_ (fun hH2 => ?_)
                    · (try dsimp only); (exact k0)
                    clear hK K hHeld; have hHeld := hH2; clear hH2
                    refine wpAnyH_take (i := 14) (oi := ⟨some 48, Go.Op.fieldAddr 25 (Go.Operand.tmp 3) 2, 0, "l21_language.go:395", #[⟨0, Go.Ground.phase⟩, ⟨1, Go.Ground.phase⟩, ⟨2, Go.Ground.phase⟩, ⟨3, Go.Ground.phase⟩, ⟨4, Go.Ground.phase⟩, ⟨5, Go.Ground.phase⟩, ⟨6, Go.Ground.phase⟩, ⟨7, Go.Ground.phase⟩, ⟨8, Go.Ground.phase⟩, ⟨9, Go.Ground.phase⟩, ⟨10, Go.Ground.phase⟩, ⟨11, Go.Ground.phase⟩, ⟨12, Go.Ground.phase⟩, ⟨13, Go.Ground.phase⟩], none⟩) (v := ?_) rfl (by kernel_rfl) (by kernel_rfl) (by kernel_rfl) (fun _ _ _ h => h) (Or.inl ⟨by rfl, ?_⟩) (by assumption) ?_
                    rotate_left
                    · intro w hSw; (try dsimp only at hSw); go_split_ands; go_simp; first | done | with_reducible rfl
                    (try simp only [Act.put, List.setIfInBounds_toArray])
                    refine wpAnyH_done (by kernel_rfl) ?_ _
                    refine last_step rfl rfl (fun K hK => ?_)
                    go_simp
                    refine hK.out _ _ ?_
                    clear hK K
                    have X6 := TC.out.xa.put3 (z := ⟨f, g, mm⟩) (H := wc.heap.size + 1) hgg (by omega) hat3 (by simpa [encWay] using ho3)
                    have T6 := TC.out.put hgg (fun b hb => (HR.out.lt b hb).1) X6
                    obtain ⟨W6, hW6⟩ : ∃ W6, W6 = w5.setCell ⟨gx, 2, none⟩ (.slice (some ⟨gg, 0, none⟩) (n3 + 1) cap) := ⟨_, rfl⟩
                    rw [← hW6] at T6
                    rw [← hW6]
                    clear X6 hW6 ho3 hgg hg3 HR TC hHeld d0 ga k0 f3
                    have FIN := hid ((T6).up (show _ ≤ k + 120 by omega)).fin
                    have m0 := (T6).xa.k0
                    have m1 := (T6).xa.k1
                    have m2 := (T6).xa.k2
                    have p0 := (T6).res.c0
                    have p1 := (T6).res.c1
                    have p2 := (T6).res.c2
                    have y0 := (T6).res.f0
                    have y1 := (T6).res.f1
                    have y2 := (T6).res.f2
                    have TT0 := hid (set3_0 p0 (.slice A1 n1 c1) (.slice A2 n2 c2) (.slice (some ⟨gg, 0, none⟩) (n3 + 1) cap))
                    have TT1 := hid (set3_1 p1 (.slice A1 n1 c1) (.slice A2 n2 c2) (.slice (some ⟨gg, 0, none⟩) (n3 + 1) cap))
                    have TT2 := hid (set3_2 p2 (.slice A1 n1 c1) (.slice A2 n2 c2) (.slice (some ⟨gg, 0, none⟩) (n3 + 1) cap))
                    simp only at m0 m1 m2
                    have FEW : Hid (FewX 62 _) := (FewX.wy (z := ⟨f, g, mm⟩) (TP.out) ⟨zza, zzb⟩).up (by omega)
                    go_wp2_with fail
                    have t0 := TT0.out
                    have t1 := TT1.out
                    have t2 := TT2.out
                    refine bodyPost_ret (v := .agg #[.slice A1 n1 c1, .slice A2 n2 c2, .slice (some ⟨gg, 0, none⟩) (n3 + 1) cap]) (by simp [results, Tryz.results40, go_sem, t0, t1, t2]) rfl ⟨⟨A1, n1, c1, A2, n2, c2, (some ⟨gg, 0, none⟩), (n3 + 1), cap⟩, _, rfl, FIN.out.1, FEW.out, FIN.out.2.1, FIN.out.2.2⟩
                  exact AllReadyH.nil
                exact AllReadyH.nil
              exact AllReadyH.nil
            exact AllReadyH.nil
          exact AllReadyH.nil
        refine AllReadyH.cons rfl (fun K hK => ?_) ?_
        · skip
          go_simp
          have N9 : Hid ((((w3.drew.alloc (.cells #[.string ⟨#[98, 97, 110, 107]⟩, .string ⟨#[110, 111, 110, 101]⟩] 9)).alloc (.cells #[.string ⟨#[98, 97, 110, 107]⟩, .string ⟨#[112, 111, 115, 116]⟩] 9)).alloc (.cells #[.int .i64 (-1), .int .i64 0, .int .i64 1, .int .i64 2000, .int .i64 2001] 2)).ownsRow (w3.heap.size + 1 + 1) 2 1 (.slice (some ⟨w3.heap.size + 1 + 1, 0, none⟩) 5 5) 5 (([(-1), 0, 1, 2000, 2001] : List Int).flatMap encI)) := by
            have := World.ownsRow_lit (base := ((w3.drew.alloc (.cells #[.string ⟨#[98, 97, 110, 107]⟩, .string ⟨#[110, 111, 110, 101]⟩] 9)).alloc (.cells #[.string ⟨#[98, 97, 110, 107]⟩, .string ⟨#[112, 111, 115, 116]⟩] 9)).heap.size) (e := 2) (size := 1) (((w3.drew.alloc (.cells #[.string ⟨#[98, 97, 110, 107]⟩, .string ⟨#[110, 111, 110, 101]⟩] 9)).alloc (.cells #[.string ⟨#[98, 97, 110, 107]⟩, .string ⟨#[112, 111, 115, 116]⟩] 9))) #[.int .i64 (-1), .int .i64 0, .int .i64 1, .int .i64 2000, .int .i64 2001] 5 (Nat.le_refl _) (by simp [maxLen]) (by simp)
            simpa [Hid, encI] using this
          replace N3 := hid (ow_alloc (o := (.cells #[.int .i64 (-1), .int .i64 0, .int .i64 1, .int .i64 2000, .int .i64 2001] 2)) N3.out)
          replace N6 := hid (ow_alloc (o := (.cells #[.int .i64 (-1), .int .i64 0, .int .i64 1, .int .i64 2000, .int .i64 2001] 2)) N6.out)
          replace TC := hid (TC.out.alloc (.cells #[.int .i64 (-1), .int .i64 0, .int .i64 1, .int .i64 2000, .int .i64 2001] 2))
          refine hK.out _ _ ?_ (fun hH2 => ?_)
          · (try dsimp only); (exact below_cell hHeld ((Below.refl _ _).alloc (Nat.le_refl _) _))
          clear hK K hHeld; have hHeld := hH2; clear hH2
          refine wpAnyH_ready (rs := [4]) (by kernel_rfl) (by simp) ?_
          refine AllReadyH.cons rfl (fun K hK => ?_) ?_
          · skip
            go_simp
            go_wp2_with (go_at_call 67; refine (text_any gs (k + 102) (some ⟨w3.heap.size, 0, none⟩) 2 2 [⟨#[98, 97, 110, 107]⟩, ⟨#[110, 111, 110, 101]⟩] _ TC.out.src (by omega) (by omega) (by omega) (own_sl encS_len (by omega) N3.out) (fun b off s e => by injection e with e; injection e with e; omega)).mono ?_; rintro r wa ⟨f, rfl, hza, hsa, hga⟩)
            have zza : f.size ≤ 12 := by
              simp only [List.mem_cons, List.not_mem_nil, or_false] at hza
              rcases hza with rfl | rfl <;> decide
            clear hza
            replace TC := hid (TC.out.pick hsa hga)
            have hya : w3.heap.size ≤ wa.heap.size := by have h := hga.size; (try simp at h); omega
            replace N6 := hid (own_apartS N6.out hga (fun b hb e => by injection hb with hb; subst hb; simp [Value.ownBlock] at e; omega))
            replace N9 := hid (own_apartS N9.out hga (fun b hb e => by injection hb with hb; subst hb; simp [Value.ownBlock] at e; omega))
            refine hK.out _ _ ?_ (fun hH2 => ?_)
            · (try dsimp only); (exact hga.cell hHeld e1)
            clear hK K hHeld; have hHeld := hH2; clear hH2
            refine wpAnyH_ready (rs := [7]) (by kernel_rfl) (by simp) ?_
            refine AllReadyH.cons rfl (fun K hK => ?_) ?_
            · skip
              go_simp
              go_wp2_with (go_at_call 67; refine (text_any gs (k + 102 + 2) (some ⟨w3.heap.size + 1, 0, none⟩) 2 2 [⟨#[98, 97, 110, 107]⟩, ⟨#[112, 111, 115, 116]⟩] _ TC.out.src (by omega) (by omega) (by omega) (own_sl encS_len (by omega) N6.out) (fun b off s e => by injection e with e; injection e with e; omega)).mono ?_; rintro r wb ⟨g, rfl, hzb, hsb, hgb⟩)
              have zzb : g.size ≤ 12 := by
                simp only [List.mem_cons, List.not_mem_nil, or_false] at hzb
                rcases hzb with rfl | rfl <;> decide
              clear hzb
              replace TC := hid (TC.out.pick hsb hgb)
              have hyb : w3.heap.size ≤ wb.heap.size := by have h := hgb.size; (try simp at h); omega
              replace N9 := hid (own_apartS N9.out hgb (fun b hb e => by injection hb with hb; subst hb; simp [Value.ownBlock] at e; omega))
              refine hK.out _ _ ?_ (fun hH2 => ?_)
              · (try dsimp only); (exact hgb.cell hHeld e1)
              clear hK K hHeld; have hHeld := hH2; clear hH2
              refine wpAnyH_ready (rs := [10]) (by kernel_rfl) (by simp) ?_
              refine AllReadyH.cons rfl (fun K hK => ?_) ?_
              · skip
                go_simp
                go_wp2_with (go_at_call 45; refine (among_any gs (k + 102 + 2 + 2) (some ⟨w3.heap.size + 1 + 1, 0, none⟩) 5 5 [(-1), 0, 1, 2000, 2001] _ TC.out.src (by omega) (by omega) (by omega) (own_sl encI_len (by omega) N9.out) (fun b off s e => by injection e with e; injection e with e; omega)).mono ?_; rintro r wc ⟨mm, rfl, hzc, hsc, hgc⟩)
                replace TC := hid (TC.out.pick hsc hgc)
                have hyc : w3.heap.size ≤ wc.heap.size := by have h := hgc.size; (try simp at h); omega
                have HR := hid TC.out.xa.own.wy
                have ga := hgc.cell hHeld e1
                have fa := TC.out.xa.f2
                have la := TC.out.lt
                have loa : lo ≤ wc.heap.size := by have := TC.out.h4; omega
                refine hK.out _ _ ?_ (fun hH2 => ?_)
                · (try dsimp only); (exact ga)
                clear hK K hHeld; have hHeld := hH2; clear hH2
                refine wpAnyH_take (i := 11) (oi := ⟨some 45, Go.Op.build 62 #[(0, Go.Operand.tmp 38), (1, Go.Operand.tmp 41), (2, Go.Operand.tmp 44)], 62, "l21_language.go:395", #[⟨4, Go.Ground.data⟩, ⟨7, Go.Ground.data⟩, ⟨10, Go.Ground.data⟩], none⟩) (v := ?_) rfl (by kernel_rfl) (by kernel_rfl) (by kernel_rfl) (fun _ _ _ h => h) (Or.inl ⟨by rfl, ?_⟩) (by assumption) ?_
                rotate_left
                · intro w hSw; (try dsimp only at hSw); go_split_ands; go_simp; first | done | with_reducible rfl
                (try simp only [Act.put, List.setIfInBounds_toArray, List.set_cons_zero, List.set_cons_succ])
                refine wpAnyH_ready (rs := [12]) (by kernel_rfl) (by simp) ?_
                refine AllReadyH.cons rfl (fun K hK => ?_) ?_
                · skip
                  go_simp
                  refine hK.out _ _ ?_ (fun hH2 => ?_)
                  · (try dsimp only); (exact below_cell hHeld ((Below.refl _ _).alloc (Nat.le_refl _) _))
                  clear hK K hHeld; have hHeld := hH2; clear hH2
                  refine wpAnyH_ready (rs := [13]) (by kernel_rfl) (by simp) ?_
                  refine AllReadyH.cons rfl (fun K hK => ?_) ?_
                  · skip
                    refine step_append_lies _ (by rfl) _ _ _ (by rfl) lo 62 j0 _ 3 40 Tryz.underlying23 hj hy0 hy1 hy2 rfl (by omega) (.slice A3 n3 c3) n3 (x.wy.flatMap encWay) (by rfl) (HR.out.alloc _) ⟨wc.heap.size, 0, none⟩ 1 1 [.string f, .string g, .int .i64 mm] (by rfl) (by rfl) (World.news_of_block (cs := #[.string f, .string g, .int .i64 mm]) (t := 62) (fr := (0, 0)) (heap_alloc_new wc _)) (by simp [Value.oneCell']) (by omega) (by simp only [maxLen]; omega) (by omega) (by simp; omega) (wc.heap.size + 1) (by simp) ?_
                    intro gg cap w5 ho3 hg3 hat3 hlt3
                    have hgg := (gr_alloc (o := .cells #[.string f, .string g, .int .i64 mm] 62) (World.grownBy.refl wc (Value.slice A3 n3 c3).ownBlock)).trans hg3
                    have k0 := hgg.cell ga (fun e => q9 e.symm)
                    have f3 := (hgg.frozen_far ⟨gx, 2, none⟩ la (fun e => q9 e.symm)).trans fa
                    refine hK.out _ _ ?_ (fun hH2 => ?_)
                    · (try dsimp only); (exact k0)
                    clear hK K hHeld; have hHeld := hH2; clear hH2
                    refine wpAnyH_take (i := 14) (oi := ⟨some 48, Go.Op.fieldAddr 25 (Go.Operand.tmp 3) 2, 0, "l21_language.go:395", #[⟨0, Go.Ground.phase⟩, ⟨1, Go.Ground.phase⟩, ⟨2, Go.Ground.phase⟩, ⟨3, Go.Ground.phase⟩, ⟨4, Go.Ground.phase⟩, ⟨5, Go.Ground.phase⟩, ⟨6, Go.Ground.phase⟩, ⟨7, Go.Ground.phase⟩, ⟨8, Go.Ground.phase⟩, ⟨9, Go.Ground.phase⟩, ⟨10, Go.Ground.phase⟩, ⟨11, Go.Ground.phase⟩, ⟨12, Go.Ground.phase⟩, ⟨13, Go.Ground.phase⟩], none⟩) (v := ?_) rfl (by kernel_rfl) (by kernel_rfl) (by kernel_rfl) (fun _ _ _ h => h) (Or.inl ⟨by rfl, ?_⟩) (by assumption) ?_
                    rotate_left
                    · intro w hSw; (try dsimp only at hSw); go_split_ands; go_simp; first | done | with_reducible rfl
                    (try simp only [Act.put, List.setIfInBounds_toArray])
                    refine wpAnyH_done (by kernel_rfl) ?_ _
                    refine last_step rfl rfl (fun K hK => ?_)
                    go_simp
                    refine hK.out _ _ ?_
                    clear hK K
                    have X6 := TC.out.xa.put3 (z := ⟨f, g, mm⟩) (H := wc.heap.size + 1) hgg (by omega) hat3 (by simpa [encWay] using ho3)
                    have T6 := TC.out.put hgg (fun b hb => (HR.out.lt b hb).1) X6
                    obtain ⟨W6, hW6⟩ : ∃ W6, W6 = w5.setCell ⟨gx, 2, none⟩ (.slice (some ⟨gg, 0, none⟩) (n3 + 1) cap) := ⟨_, rfl⟩
                    rw [← hW6] at T6
                    rw [← hW6]
                    clear X6 hW6 ho3 hgg hg3 HR TC hHeld d0 ga k0 f3
                    have FIN := hid ((T6).up (show _ ≤ k + 120 by omega)).fin
                    have m0 := (T6).xa.k0
                    have m1 := (T6).xa.k1
                    have m2 := (T6).xa.k2
                    have p0 := (T6).res.c0
                    have p1 := (T6).res.c1
                    have p2 := (T6).res.c2
                    have y0 := (T6).res.f0
                    have y1 := (T6).res.f1
                    have y2 := (T6).res.f2
                    have TT0 := hid (set3_0 p0 (.slice A1 n1 c1) (.slice A2 n2 c2) (.slice (some ⟨gg, 0, none⟩) (n3 + 1) cap))
                    have TT1 := hid (set3_1 p1 (.slice A1 n1 c1) (.slice A2 n2 c2) (.slice (some ⟨gg, 0, none⟩) (n3 + 1) cap))
                    have TT2 := hid (set3_2 p2 (.slice A1 n1 c1) (.slice A2 n2 c2) (.slice (some ⟨gg, 0, none⟩) (n3 + 1) cap))
                    simp only at m0 m1 m2
                    have FEW : Hid (FewX 62 _) := (FewX.wy (z := ⟨f, g, mm⟩) (TP.out) ⟨zza, zzb⟩).up (by omega)
                    go_wp2_with fail
                    have t0 := TT0.out
                    have t1 := TT1.out
                    have t2 := TT2.out
                    refine bodyPost_ret (v := .agg #[.slice A1 n1 c1, .slice A2 n2 c2, .slice (some ⟨gg, 0, none⟩) (n3 + 1) cap]) (by simp [results, Tryz.results40, go_sem, t0, t1, t2]) rfl ⟨⟨A1, n1, c1, A2, n2, c2, (some ⟨gg, 0, none⟩), (n3 + 1), cap⟩, _, rfl, FIN.out.1, FEW.out, FIN.out.2.1, FIN.out.2.2⟩
                  exact AllReadyH.nil
                exact AllReadyH.nil
              exact AllReadyH.nil
            exact AllReadyH.nil
          exact AllReadyH.nil
        exact AllReadyH.nil
      refine AllReadyH.cons rfl (fun K hK => ?_) ?_
      · skip
        go_simp
        have N9 : Hid (((w3.drew.alloc (.cells #[.string ⟨#[98, 97, 110, 107]⟩, .string ⟨#[110, 111, 110, 101]⟩] 9)).alloc (.cells #[.int .i64 (-1), .int .i64 0, .int .i64 1, .int .i64 2000, .int .i64 2001] 2)).ownsRow (w3.heap.size + 1) 2 1 (.slice (some ⟨w3.heap.size + 1, 0, none⟩) 5 5) 5 (([(-1), 0, 1, 2000, 2001] : List Int).flatMap encI)) := by
          have := World.ownsRow_lit (base := (w3.drew.alloc (.cells #[.string ⟨#[98, 97, 110, 107]⟩, .string ⟨#[110, 111, 110, 101]⟩] 9)).heap.size) (e := 2) (size := 1) ((w3.drew.alloc (.cells #[.string ⟨#[98, 97, 110, 107]⟩, .string ⟨#[110, 111, 110, 101]⟩] 9))) #[.int .i64 (-1), .int .i64 0, .int .i64 1, .int .i64 2000, .int .i64 2001] 5 (Nat.le_refl _) (by simp [maxLen]) (by simp)
          simpa [Hid, encI] using this
        replace N3 := hid (ow_alloc (o := (.cells #[.int .i64 (-1), .int .i64 0, .int .i64 1, .int .i64 2000, .int .i64 2001] 2)) N3.out)
        replace TC := hid (TC.out.alloc (.cells #[.int .i64 (-1), .int .i64 0, .int .i64 1, .int .i64 2000, .int .i64 2001] 2))
        refine hK.out _ _ ?_ (fun hH2 => ?_)
        · (try dsimp only); (exact below_cell hHeld ((Below.refl _ _).alloc (Nat.le_refl _) _))
        clear hK K hHeld; have hHeld := hH2; clear hH2
        refine wpAnyH_ready (rs := [4, 6]) (by kernel_rfl) (by simp) ?_
        refine AllReadyH.cons rfl (fun K hK => ?_) ?_
        · skip
          go_simp
          go_wp2_with (go_at_call 67; refine (text_any gs (k + 102) (some ⟨w3.heap.size, 0, none⟩) 2 2 [⟨#[98, 97, 110, 107]⟩, ⟨#[110, 111, 110, 101]⟩] _ TC.out.src (by omega) (by omega) (by omega) (own_sl encS_len (by omega) N3.out) (fun b off s e => by injection e with e; injection e with e; omega)).mono ?_; rintro r wa ⟨f, rfl, hza, hsa, hga⟩)
          have zza : f.size ≤ 12 := by
            simp only [List.mem_cons, List.not_mem_nil, or_false] at hza
            rcases hza with rfl | rfl <;> decide
          clear hza
          replace TC := hid (TC.out.pick hsa hga)
          have hya : w3.heap.size ≤ wa.heap.size := by have h := hga.size; (try simp at h); omega
          replace N9 := hid (own_apartS N9.out hga (fun b hb e => by injection hb with hb; subst hb; simp [Value.ownBlock] at e; omega))
          refine hK.out _ _ ?_ (fun hH2 => ?_)
          · (try dsimp only); (exact hga.cell hHeld e1)
          clear hK K hHeld; have hHeld := hH2; clear hH2
          refine wpAnyH_ready (rs := [6]) (by kernel_rfl) (by simp) ?_
          refine AllReadyH.cons rfl (fun K hK => ?_) ?_
          · skip
            go_simp
            have N6 : Hid ((wa.alloc (.cells #[.string ⟨#[98, 97, 110, 107]⟩, .string ⟨#[112, 111, 115, 116]⟩] 9)).ownsRow (wa.heap.size) 9 1 (.slice (some ⟨wa.heap.size, 0, none⟩) 2 2) 2 (([⟨#[98, 97, 110, 107]⟩, ⟨#[112, 111, 115, 116]⟩] : List ByteArray).flatMap encS)) := by
              have := World.ownsRow_lit (base := wa.heap.size) (e := 9) (size := 1) (wa) #[.string ⟨#[98, 97, 110, 107]⟩, .string ⟨#[112, 111, 115, 116]⟩] 2 (Nat.le_refl _) (by simp [maxLen]) (by simp)
              simpa [Hid, encS] using this
            replace N9 := hid (ow_alloc (o := (.cells #[.string ⟨#[98, 97, 110, 107]⟩, .string ⟨#[112, 111, 115, 116]⟩] 9)) N9.out)
            replace TC := hid (TC.out.alloc (.cells #[.string ⟨#[98, 97, 110, 107]⟩, .string ⟨#[112, 111, 115, 116]⟩] 9))
            refine hK.out _ _ ?_ (fun hH2 => ?_)
            · (try dsimp only); (exact below_cell hHeld ((Below.refl _ _).alloc (Nat.le_refl _) _))
            clear hK K hHeld; have hHeld := hH2; clear hH2
            refine wpAnyH_ready (rs := [7]) (by kernel_rfl) (by simp) ?_
            refine AllReadyH.cons rfl (fun K hK => ?_) ?_
            · skip
              go_simp
              go_wp2_with (go_at_call 67; refine (text_any gs (k + 102 + 2) (some ⟨wa.heap.size, 0, none⟩) 2 2 [⟨#[98, 97, 110, 107]⟩, ⟨#[112, 111, 115, 116]⟩] _ TC.out.src (by omega) (by omega) (by omega) (own_sl encS_len (by omega) N6.out) (fun b off s e => by injection e with e; injection e with e; omega)).mono ?_; rintro r wb ⟨g, rfl, hzb, hsb, hgb⟩)
              have zzb : g.size ≤ 12 := by
                simp only [List.mem_cons, List.not_mem_nil, or_false] at hzb
                rcases hzb with rfl | rfl <;> decide
              clear hzb
              replace TC := hid (TC.out.pick hsb hgb)
              have hyb : w3.heap.size ≤ wb.heap.size := by have h := hgb.size; (try simp at h); omega
              replace N9 := hid (own_apartS N9.out hgb (fun b hb e => by injection hb with hb; subst hb; simp [Value.ownBlock] at e; omega))
              refine hK.out _ _ ?_ (fun hH2 => ?_)
              · (try dsimp only); (exact hgb.cell hHeld e1)
              clear hK K hHeld; have hHeld := hH2; clear hH2
              refine wpAnyH_ready (rs := [10]) (by kernel_rfl) (by simp) ?_
              refine AllReadyH.cons rfl (fun K hK => ?_) ?_
              · skip
                go_simp
                go_wp2_with (go_at_call 45; refine (among_any gs (k + 102 + 2 + 2) (some ⟨w3.heap.size + 1, 0, none⟩) 5 5 [(-1), 0, 1, 2000, 2001] _ TC.out.src (by omega) (by omega) (by omega) (own_sl encI_len (by omega) N9.out) (fun b off s e => by injection e with e; injection e with e; omega)).mono ?_; rintro r wc ⟨mm, rfl, hzc, hsc, hgc⟩)
                replace TC := hid (TC.out.pick hsc hgc)
                have hyc : w3.heap.size ≤ wc.heap.size := by have h := hgc.size; (try simp at h); omega
                have HR := hid TC.out.xa.own.wy
                have ga := hgc.cell hHeld e1
                have fa := TC.out.xa.f2
                have la := TC.out.lt
                have loa : lo ≤ wc.heap.size := by have := TC.out.h4; omega
                refine hK.out _ _ ?_ (fun hH2 => ?_)
                · (try dsimp only); (exact ga)
                clear hK K hHeld; have hHeld := hH2; clear hH2
                refine wpAnyH_take (i := 11) (oi := ⟨some 45, Go.Op.build 62 #[(0, Go.Operand.tmp 38), (1, Go.Operand.tmp 41), (2, Go.Operand.tmp 44)], 62, "l21_language.go:395", #[⟨4, Go.Ground.data⟩, ⟨7, Go.Ground.data⟩, ⟨10, Go.Ground.data⟩], none⟩) (v := ?_) rfl (by kernel_rfl) (by kernel_rfl) (by kernel_rfl) (fun _ _ _ h => h) (Or.inl ⟨by rfl, ?_⟩) (by assumption) ?_
                rotate_left
                · intro w hSw; (try dsimp only at hSw); go_split_ands; go_simp; first | done | with_reducible rfl
                (try simp only [Act.put, List.setIfInBounds_toArray, List.set_cons_zero, List.set_cons_succ])
                refine wpAnyH_ready (rs := [12]) (by kernel_rfl) (by simp) ?_
                refine AllReadyH.cons rfl (fun K hK => ?_) ?_
                · skip
                  go_simp
                  refine hK.out _ _ ?_ (fun hH2 => ?_)
                  · (try dsimp only); (exact below_cell hHeld ((Below.refl _ _).alloc (Nat.le_refl _) _))
                  clear hK K hHeld; have hHeld := hH2; clear hH2
                  refine wpAnyH_ready (rs := [13]) (by kernel_rfl) (by simp) ?_
                  refine AllReadyH.cons rfl (fun K hK => ?_) ?_
                  · skip
                    refine step_append_lies _ (by rfl) _ _ _ (by rfl) lo 62 j0 _ 3 40 Tryz.underlying23 hj hy0 hy1 hy2 rfl (by omega) (.slice A3 n3 c3) n3 (x.wy.flatMap encWay) (by rfl) (HR.out.alloc _) ⟨wc.heap.size, 0, none⟩ 1 1 [.string f, .string g, .int .i64 mm] (by rfl) (by rfl) (World.news_of_block (cs := #[.string f, .string g, .int .i64 mm]) (t := 62) (fr := (0, 0)) (heap_alloc_new wc _)) (by simp [Value.oneCell']) (by omega) (by simp only [maxLen]; omega) (by omega) (by simp; omega) (wc.heap.size + 1) (by simp) ?_
                    intro gg cap w5 ho3 hg3 hat3 hlt3
                    have hgg := (gr_alloc (o := .cells #[.string f, .string g, .int .i64 mm] 62) (World.grownBy.refl wc (Value.slice A3 n3 c3).ownBlock)).trans hg3
                    have k0 := hgg.cell ga (fun e => q9 e.symm)
                    have f3 := (hgg.frozen_far ⟨gx, 2, none⟩ la (fun e => q9 e.symm)).trans fa
                    refine hK.out _ _ ?_ (fun hH2 => ?_)
                    · (try dsimp only); (exact k0)
                    clear hK K hHeld; have hHeld := hH2; clear hH2
                    refine wpAnyH_take (i := 14) (oi := ⟨some 48, Go.Op.fieldAddr 25 (Go.Operand.tmp 3) 2, 0, "l21_language.go:395", #[⟨0, Go.Ground.phase⟩, ⟨1, Go.Ground.phase⟩, ⟨2, Go.Ground.phase⟩, ⟨3, Go.Ground.phase⟩, ⟨4, Go.Ground.phase⟩, ⟨5, Go.Ground.phase⟩, ⟨6, Go.Ground.phase⟩, ⟨7, Go.Ground.phase⟩, ⟨8, Go.Ground.phase⟩, ⟨9, Go.Ground.phase⟩, ⟨10, Go.Ground.phase⟩, ⟨11, Go.Ground.phase⟩, ⟨12, Go.Ground.phase⟩, ⟨13, Go.Ground.phase⟩], none⟩) (v := ?_) rfl (by kernel_rfl) (by kernel_rfl) (by kernel_rfl) (fun _ _ _ h => h) (Or.inl ⟨by rfl, ?_⟩) (by assumption) ?_
                    rotate_left
                    · intro w hSw; (try dsimp only at hSw); go_split_ands; go_simp; first | done | with_reducible rfl
                    (try simp only [Act.put, List.setIfInBounds_toArray])
                    refine wpAnyH_done (by kernel_rfl) ?_ _
                    refine last_step rfl rfl (fun K hK => ?_)
                    go_simp
                    refine hK.out _ _ ?_
                    clear hK K
                    have X6 := TC.out.xa.put3 (z := ⟨f, g, mm⟩) (H := wc.heap.size + 1) hgg (by omega) hat3 (by simpa [encWay] using ho3)
                    have T6 := TC.out.put hgg (fun b hb => (HR.out.lt b hb).1) X6
                    obtain ⟨W6, hW6⟩ : ∃ W6, W6 = w5.setCell ⟨gx, 2, none⟩ (.slice (some ⟨gg, 0, none⟩) (n3 + 1) cap) := ⟨_, rfl⟩
                    rw [← hW6] at T6
                    rw [← hW6]
                    clear X6 hW6 ho3 hgg hg3 HR TC hHeld d0 ga k0 f3
                    have FIN := hid ((T6).up (show _ ≤ k + 120 by omega)).fin
                    have m0 := (T6).xa.k0
                    have m1 := (T6).xa.k1
                    have m2 := (T6).xa.k2
                    have p0 := (T6).res.c0
                    have p1 := (T6).res.c1
                    have p2 := (T6).res.c2
                    have y0 := (T6).res.f0
                    have y1 := (T6).res.f1
                    have y2 := (T6).res.f2
                    have TT0 := hid (set3_0 p0 (.slice A1 n1 c1) (.slice A2 n2 c2) (.slice (some ⟨gg, 0, none⟩) (n3 + 1) cap))
                    have TT1 := hid (set3_1 p1 (.slice A1 n1 c1) (.slice A2 n2 c2) (.slice (some ⟨gg, 0, none⟩) (n3 + 1) cap))
                    have TT2 := hid (set3_2 p2 (.slice A1 n1 c1) (.slice A2 n2 c2) (.slice (some ⟨gg, 0, none⟩) (n3 + 1) cap))
                    simp only at m0 m1 m2
                    have FEW : Hid (FewX 62 _) := (FewX.wy (z := ⟨f, g, mm⟩) (TP.out) ⟨zza, zzb⟩).up (by omega)
                    go_wp2_with fail
                    have t0 := TT0.out
                    have t1 := TT1.out
                    have t2 := TT2.out
                    refine bodyPost_ret (v := .agg #[.slice A1 n1 c1, .slice A2 n2 c2, .slice (some ⟨gg, 0, none⟩) (n3 + 1) cap]) (by simp [results, Tryz.results40, go_sem, t0, t1, t2]) rfl ⟨⟨A1, n1, c1, A2, n2, c2, (some ⟨gg, 0, none⟩), (n3 + 1), cap⟩, _, rfl, FIN.out.1, FEW.out, FIN.out.2.1, FIN.out.2.2⟩
                  exact AllReadyH.nil
                exact AllReadyH.nil
              exact AllReadyH.nil
            exact AllReadyH.nil
          exact AllReadyH.nil
        refine AllReadyH.cons rfl (fun K hK => ?_) ?_
        · skip
          go_simp
          have N6 : Hid ((((w3.drew.alloc (.cells #[.string ⟨#[98, 97, 110, 107]⟩, .string ⟨#[110, 111, 110, 101]⟩] 9)).alloc (.cells #[.int .i64 (-1), .int .i64 0, .int .i64 1, .int .i64 2000, .int .i64 2001] 2)).alloc (.cells #[.string ⟨#[98, 97, 110, 107]⟩, .string ⟨#[112, 111, 115, 116]⟩] 9)).ownsRow (w3.heap.size + 1 + 1) 9 1 (.slice (some ⟨w3.heap.size + 1 + 1, 0, none⟩) 2 2) 2 (([⟨#[98, 97, 110, 107]⟩, ⟨#[112, 111, 115, 116]⟩] : List ByteArray).flatMap encS)) := by
            have := World.ownsRow_lit (base := ((w3.drew.alloc (.cells #[.string ⟨#[98, 97, 110, 107]⟩, .string ⟨#[110, 111, 110, 101]⟩] 9)).alloc (.cells #[.int .i64 (-1), .int .i64 0, .int .i64 1, .int .i64 2000, .int .i64 2001] 2)).heap.size) (e := 9) (size := 1) (((w3.drew.alloc (.cells #[.string ⟨#[98, 97, 110, 107]⟩, .string ⟨#[110, 111, 110, 101]⟩] 9)).alloc (.cells #[.int .i64 (-1), .int .i64 0, .int .i64 1, .int .i64 2000, .int .i64 2001] 2))) #[.string ⟨#[98, 97, 110, 107]⟩, .string ⟨#[112, 111, 115, 116]⟩] 2 (Nat.le_refl _) (by simp [maxLen]) (by simp)
            simpa [Hid, encS] using this
          replace N3 := hid (ow_alloc (o := (.cells #[.string ⟨#[98, 97, 110, 107]⟩, .string ⟨#[112, 111, 115, 116]⟩] 9)) N3.out)
          replace N9 := hid (ow_alloc (o := (.cells #[.string ⟨#[98, 97, 110, 107]⟩, .string ⟨#[112, 111, 115, 116]⟩] 9)) N9.out)
          replace TC := hid (TC.out.alloc (.cells #[.string ⟨#[98, 97, 110, 107]⟩, .string ⟨#[112, 111, 115, 116]⟩] 9))
          refine hK.out _ _ ?_ (fun hH2 => ?_)
          · (try dsimp only); (exact below_cell hHeld ((Below.refl _ _).alloc (Nat.le_refl _) _))
          clear hK K hHeld; have hHeld := hH2; clear hH2
          refine wpAnyH_ready (rs := [4]) (by kernel_rfl) (by simp) ?_
          refine AllReadyH.cons rfl (fun K hK => ?_) ?_
          · skip
            go_simp
            go_wp2_with (go_at_call 67; refine (text_any gs (k + 102) (some ⟨w3.heap.size, 0, none⟩) 2 2 [⟨#[98, 97, 110, 107]⟩, ⟨#[110, 111, 110, 101]⟩] _ TC.out.src (by omega) (by omega) (by omega) (own_sl encS_len (by omega) N3.out) (fun b off s e => by injection e with e; injection e with e; omega)).mono ?_; rintro r wa ⟨f, rfl, hza, hsa, hga⟩)
            have zza : f.size ≤ 12 := by
              simp only [List.mem_cons, List.not_mem_nil, or_false] at hza
              rcases hza with rfl | rfl <;> decide
            clear hza
            replace TC := hid (TC.out.pick hsa hga)
            have hya : w3.heap.size ≤ wa.heap.size := by have h := hga.size; (try simp at h); omega
            replace N9 := hid (own_apartS N9.out hga (fun b hb e => by injection hb with hb; subst hb; simp [Value.ownBlock] at e; omega))
            replace N6 := hid (own_apartS N6.out hga (fun b hb e => by injection hb with hb; subst hb; simp [Value.ownBlock] at e; omega))
            refine hK.out _ _ ?_ (fun hH2 => ?_)
            · (try dsimp only); (exact hga.cell hHeld e1)
            clear hK K hHeld; have hHeld := hH2; clear hH2
            refine wpAnyH_ready (rs := [7]) (by kernel_rfl) (by simp) ?_
            refine AllReadyH.cons rfl (fun K hK => ?_) ?_
            · skip
              go_simp
              go_wp2_with (go_at_call 67; refine (text_any gs (k + 102 + 2) (some ⟨w3.heap.size + 1 + 1, 0, none⟩) 2 2 [⟨#[98, 97, 110, 107]⟩, ⟨#[112, 111, 115, 116]⟩] _ TC.out.src (by omega) (by omega) (by omega) (own_sl encS_len (by omega) N6.out) (fun b off s e => by injection e with e; injection e with e; omega)).mono ?_; rintro r wb ⟨g, rfl, hzb, hsb, hgb⟩)
              have zzb : g.size ≤ 12 := by
                simp only [List.mem_cons, List.not_mem_nil, or_false] at hzb
                rcases hzb with rfl | rfl <;> decide
              clear hzb
              replace TC := hid (TC.out.pick hsb hgb)
              have hyb : w3.heap.size ≤ wb.heap.size := by have h := hgb.size; (try simp at h); omega
              replace N9 := hid (own_apartS N9.out hgb (fun b hb e => by injection hb with hb; subst hb; simp [Value.ownBlock] at e; omega))
              refine hK.out _ _ ?_ (fun hH2 => ?_)
              · (try dsimp only); (exact hgb.cell hHeld e1)
              clear hK K hHeld; have hHeld := hH2; clear hH2
              refine wpAnyH_ready (rs := [10]) (by kernel_rfl) (by simp) ?_
              refine AllReadyH.cons rfl (fun K hK => ?_) ?_
              · skip
                go_simp
                go_wp2_with (go_at_call 45; refine (among_any gs (k + 102 + 2 + 2) (some ⟨w3.heap.size + 1, 0, none⟩) 5 5 [(-1), 0, 1, 2000, 2001] _ TC.out.src (by omega) (by omega) (by omega) (own_sl encI_len (by omega) N9.out) (fun b off s e => by injection e with e; injection e with e; omega)).mono ?_; rintro r wc ⟨mm, rfl, hzc, hsc, hgc⟩)
                replace TC := hid (TC.out.pick hsc hgc)
                have hyc : w3.heap.size ≤ wc.heap.size := by have h := hgc.size; (try simp at h); omega
                have HR := hid TC.out.xa.own.wy
                have ga := hgc.cell hHeld e1
                have fa := TC.out.xa.f2
                have la := TC.out.lt
                have loa : lo ≤ wc.heap.size := by have := TC.out.h4; omega
                refine hK.out _ _ ?_ (fun hH2 => ?_)
                · (try dsimp only); (exact ga)
                clear hK K hHeld; have hHeld := hH2; clear hH2
                refine wpAnyH_take (i := 11) (oi := ⟨some 45, Go.Op.build 62 #[(0, Go.Operand.tmp 38), (1, Go.Operand.tmp 41), (2, Go.Operand.tmp 44)], 62, "l21_language.go:395", #[⟨4, Go.Ground.data⟩, ⟨7, Go.Ground.data⟩, ⟨10, Go.Ground.data⟩], none⟩) (v := ?_) rfl (by kernel_rfl) (by kernel_rfl) (by kernel_rfl) (fun _ _ _ h => h) (Or.inl ⟨by rfl, ?_⟩) (by assumption) ?_
                rotate_left
                · intro w hSw; (try dsimp only at hSw); go_split_ands; go_simp; first | done | with_reducible rfl
                (try simp only [Act.put, List.setIfInBounds_toArray, List.set_cons_zero, List.set_cons_succ])
                refine wpAnyH_ready (rs := [12]) (by kernel_rfl) (by simp) ?_
                refine AllReadyH.cons rfl (fun K hK => ?_) ?_
                · skip
                  go_simp
                  refine hK.out _ _ ?_ (fun hH2 => ?_)
                  · (try dsimp only); (exact below_cell hHeld ((Below.refl _ _).alloc (Nat.le_refl _) _))
                  clear hK K hHeld; have hHeld := hH2; clear hH2
                  refine wpAnyH_ready (rs := [13]) (by kernel_rfl) (by simp) ?_
                  refine AllReadyH.cons rfl (fun K hK => ?_) ?_
                  · skip
                    refine step_append_lies _ (by rfl) _ _ _ (by rfl) lo 62 j0 _ 3 40 Tryz.underlying23 hj hy0 hy1 hy2 rfl (by omega) (.slice A3 n3 c3) n3 (x.wy.flatMap encWay) (by rfl) (HR.out.alloc _) ⟨wc.heap.size, 0, none⟩ 1 1 [.string f, .string g, .int .i64 mm] (by rfl) (by rfl) (World.news_of_block (cs := #[.string f, .string g, .int .i64 mm]) (t := 62) (fr := (0, 0)) (heap_alloc_new wc _)) (by simp [Value.oneCell']) (by omega) (by simp only [maxLen]; omega) (by omega) (by simp; omega) (wc.heap.size + 1) (by simp) ?_
                    intro gg cap w5 ho3 hg3 hat3 hlt3
                    have hgg := (gr_alloc (o := .cells #[.string f, .string g, .int .i64 mm] 62) (World.grownBy.refl wc (Value.slice A3 n3 c3).ownBlock)).trans hg3
                    have k0 := hgg.cell ga (fun e => q9 e.symm)
                    have f3 := (hgg.frozen_far ⟨gx, 2, none⟩ la (fun e => q9 e.symm)).trans fa
                    refine hK.out _ _ ?_ (fun hH2 => ?_)
                    · (try dsimp only); (exact k0)
                    clear hK K hHeld; have hHeld := hH2; clear hH2
                    refine wpAnyH_take (i := 14) (oi := ⟨some 48, Go.Op.fieldAddr 25 (Go.Operand.tmp 3) 2, 0, "l21_language.go:395", #[⟨0, Go.Ground.phase⟩, ⟨1, Go.Ground.phase⟩, ⟨2, Go.Ground.phase⟩, ⟨3, Go.Ground.phase⟩, ⟨4, Go.Ground.phase⟩, ⟨5, Go.Ground.phase⟩, ⟨6, Go.Ground.phase⟩, ⟨7, Go.Ground.phase⟩, ⟨8, Go.Ground.phase⟩, ⟨9, Go.Ground.phase⟩, ⟨10, Go.Ground.phase⟩, ⟨11, Go.Ground.phase⟩, ⟨12, Go.Ground.phase⟩, ⟨13, Go.Ground.phase⟩], none⟩) (v := ?_) rfl (by kernel_rfl) (by kernel_rfl) (by kernel_rfl) (fun _ _ _ h => h) (Or.inl ⟨by rfl, ?_⟩) (by assumption) ?_
                    rotate_left
                    · intro w hSw; (try dsimp only at hSw); go_split_ands; go_simp; first | done | with_reducible rfl
                    (try simp only [Act.put, List.setIfInBounds_toArray])
                    refine wpAnyH_done (by kernel_rfl) ?_ _
                    refine last_step rfl rfl (fun K hK => ?_)
                    go_simp
                    refine hK.out _ _ ?_
                    clear hK K
                    have X6 := TC.out.xa.put3 (z := ⟨f, g, mm⟩) (H := wc.heap.size + 1) hgg (by omega) hat3 (by simpa [encWay] using ho3)
                    have T6 := TC.out.put hgg (fun b hb => (HR.out.lt b hb).1) X6
                    obtain ⟨W6, hW6⟩ : ∃ W6, W6 = w5.setCell ⟨gx, 2, none⟩ (.slice (some ⟨gg, 0, none⟩) (n3 + 1) cap) := ⟨_, rfl⟩
                    rw [← hW6] at T6
                    rw [← hW6]
                    clear X6 hW6 ho3 hgg hg3 HR TC hHeld d0 ga k0 f3
                    have FIN := hid ((T6).up (show _ ≤ k + 120 by omega)).fin
                    have m0 := (T6).xa.k0
                    have m1 := (T6).xa.k1
                    have m2 := (T6).xa.k2
                    have p0 := (T6).res.c0
                    have p1 := (T6).res.c1
                    have p2 := (T6).res.c2
                    have y0 := (T6).res.f0
                    have y1 := (T6).res.f1
                    have y2 := (T6).res.f2
                    have TT0 := hid (set3_0 p0 (.slice A1 n1 c1) (.slice A2 n2 c2) (.slice (some ⟨gg, 0, none⟩) (n3 + 1) cap))
                    have TT1 := hid (set3_1 p1 (.slice A1 n1 c1) (.slice A2 n2 c2) (.slice (some ⟨gg, 0, none⟩) (n3 + 1) cap))
                    have TT2 := hid (set3_2 p2 (.slice A1 n1 c1) (.slice A2 n2 c2) (.slice (some ⟨gg, 0, none⟩) (n3 + 1) cap))
                    simp only at m0 m1 m2
                    have FEW : Hid (FewX 62 _) := (FewX.wy (z := ⟨f, g, mm⟩) (TP.out) ⟨zza, zzb⟩).up (by omega)
                    go_wp2_with fail
                    have t0 := TT0.out
                    have t1 := TT1.out
                    have t2 := TT2.out
                    refine bodyPost_ret (v := .agg #[.slice A1 n1 c1, .slice A2 n2 c2, .slice (some ⟨gg, 0, none⟩) (n3 + 1) cap]) (by simp [results, Tryz.results40, go_sem, t0, t1, t2]) rfl ⟨⟨A1, n1, c1, A2, n2, c2, (some ⟨gg, 0, none⟩), (n3 + 1), cap⟩, _, rfl, FIN.out.1, FEW.out, FIN.out.2.1, FIN.out.2.2⟩
                  exact AllReadyH.nil
                exact AllReadyH.nil
              exact AllReadyH.nil
            exact AllReadyH.nil
          exact AllReadyH.nil
        exact AllReadyH.nil
      exact AllReadyH.nil
    refine AllReadyH.cons rfl (fun K hK => ?_) ?_
    · skip
      go_simp
      have N6 : Hid ((w3.drew.alloc (.cells #[.string ⟨#[98, 97, 110, 107]⟩, .string ⟨#[112, 111, 115, 116]⟩] 9)).ownsRow (w3.heap.size) 9 1 (.slice (some ⟨w3.heap.size, 0, none⟩) 2 2) 2 (([⟨#[98, 97, 110, 107]⟩, ⟨#[112, 111, 115, 116]⟩] : List ByteArray).flatMap encS)) := by
        have := World.ownsRow_lit (base := w3.drew.heap.size) (e := 9) (size := 1) (w3.drew) #[.string ⟨#[98, 97, 110, 107]⟩, .string ⟨#[112, 111, 115, 116]⟩] 2 (Nat.le_refl _) (by simp [maxLen]) (by simp)
        simpa [Hid, encS] using this
      replace TC := hid (TC.out.alloc (.cells #[.string ⟨#[98, 97, 110, 107]⟩, .string ⟨#[112, 111, 115, 116]⟩] 9))
      refine hK.out _ _ ?_ (fun hH2 => ?_)
      · (try dsimp only); (exact below_cell hHeld ((Below.refl _ _).alloc (Nat.le_refl _) _))
      clear hK K hHeld; have hHeld := hH2; clear hH2
      refine wpAnyH_ready (rs := [3, 9]) (by kernel_rfl) (by simp) ?_
      refine AllReadyH.cons rfl (fun K hK => ?_) ?_
      · skip
        go_simp
        have N3 : Hid (((w3.drew.alloc (.cells #[.string ⟨#[98, 97, 110, 107]⟩, .string ⟨#[112, 111, 115, 116]⟩] 9)).alloc (.cells #[.string ⟨#[98, 97, 110, 107]⟩, .string ⟨#[110, 111, 110, 101]⟩] 9)).ownsRow (w3.heap.size + 1) 9 1 (.slice (some ⟨w3.heap.size + 1, 0, none⟩) 2 2) 2 (([⟨#[98, 97, 110, 107]⟩, ⟨#[110, 111, 110, 101]⟩] : List ByteArray).flatMap encS)) := by
          have := World.ownsRow_lit (base := (w3.drew.alloc (.cells #[.string ⟨#[98, 97, 110, 107]⟩, .string ⟨#[112, 111, 115, 116]⟩] 9)).heap.size) (e := 9) (size := 1) ((w3.drew.alloc (.cells #[.string ⟨#[98, 97, 110, 107]⟩, .string ⟨#[112, 111, 115, 116]⟩] 9))) #[.string ⟨#[98, 97, 110, 107]⟩, .string ⟨#[110, 111, 110, 101]⟩] 2 (Nat.le_refl _) (by simp [maxLen]) (by simp)
          simpa [Hid, encS] using this
        replace N6 := hid (ow_alloc (o := (.cells #[.string ⟨#[98, 97, 110, 107]⟩, .string ⟨#[110, 111, 110, 101]⟩] 9)) N6.out)
        replace TC := hid (TC.out.alloc (.cells #[.string ⟨#[98, 97, 110, 107]⟩, .string ⟨#[110, 111, 110, 101]⟩] 9))
        refine hK.out _ _ ?_ (fun hH2 => ?_)
        · (try dsimp only); (exact below_cell hHeld ((Below.refl _ _).alloc (Nat.le_refl _) _))
        clear hK K hHeld; have hHeld := hH2; clear hH2
        refine wpAnyH_ready (rs := [4, 9]) (by kernel_rfl) (by simp) ?_
        refine AllReadyH.cons rfl (fun K hK => ?_) ?_
        · skip
          go_simp
          go_wp2_with (go_at_call 67; refine (text_any gs (k + 102) (some ⟨w3.heap.size + 1, 0, none⟩) 2 2 [⟨#[98, 97, 110, 107]⟩, ⟨#[110, 111, 110, 101]⟩] _ TC.out.src (by omega) (by omega) (by omega) (own_sl encS_len (by omega) N3.out) (fun b off s e => by injection e with e; injection e with e; omega)).mono ?_; rintro r wa ⟨f, rfl, hza, hsa, hga⟩)
          have zza : f.size ≤ 12 := by
            simp only [List.mem_cons, List.not_mem_nil, or_false] at hza
            rcases hza with rfl | rfl <;> decide
          clear hza
          replace TC := hid (TC.out.pick hsa hga)
          have hya : w3.heap.size ≤ wa.heap.size := by have h := hga.size; (try simp at h); omega
          replace N6 := hid (own_apartS N6.out hga (fun b hb e => by injection hb with hb; subst hb; simp [Value.ownBlock] at e; omega))
          refine hK.out _ _ ?_ (fun hH2 => ?_)
          · (try dsimp only); (exact hga.cell hHeld e1)
          clear hK K hHeld; have hHeld := hH2; clear hH2
          refine wpAnyH_ready (rs := [7, 9]) (by kernel_rfl) (by simp) ?_
          refine AllReadyH.cons rfl (fun K hK => ?_) ?_
          · skip
            go_simp
            go_wp2_with (go_at_call 67; refine (text_any gs (k + 102 + 2) (some ⟨w3.heap.size, 0, none⟩) 2 2 [⟨#[98, 97, 110, 107]⟩, ⟨#[112, 111, 115, 116]⟩] _ TC.out.src (by omega) (by omega) (by omega) (own_sl encS_len (by omega) N6.out) (fun b off s e => by injection e with e; injection e with e; omega)).mono ?_; rintro r wb ⟨g, rfl, hzb, hsb, hgb⟩)
            have zzb : g.size ≤ 12 := by
              simp only [List.mem_cons, List.not_mem_nil, or_false] at hzb
              rcases hzb with rfl | rfl <;> decide
            clear hzb
            replace TC := hid (TC.out.pick hsb hgb)
            have hyb : w3.heap.size ≤ wb.heap.size := by have h := hgb.size; (try simp at h); omega
            refine hK.out _ _ ?_ (fun hH2 => ?_)
            · (try dsimp only); (exact hgb.cell hHeld e1)
            clear hK K hHeld; have hHeld := hH2; clear hH2
            refine wpAnyH_ready (rs := [9]) (by kernel_rfl) (by simp) ?_
            refine AllReadyH.cons rfl (fun K hK => ?_) ?_
            · skip
              go_simp
              have N9 : Hid ((wb.alloc (.cells #[.int .i64 (-1), .int .i64 0, .int .i64 1, .int .i64 2000, .int .i64 2001] 2)).ownsRow (wb.heap.size) 2 1 (.slice (some ⟨wb.heap.size, 0, none⟩) 5 5) 5 (([(-1), 0, 1, 2000, 2001] : List Int).flatMap encI)) := by
                have := World.ownsRow_lit (base := wb.heap.size) (e := 2) (size := 1) (wb) #[.int .i64 (-1), .int .i64 0, .int .i64 1, .int .i64 2000, .int .i64 2001] 5 (Nat.le_refl _) (by simp [maxLen]) (by simp)
                simpa [Hid, encI] using this
              replace TC := hid (TC.out.alloc (.cells #[.int .i64 (-1), .int .i64 0, .int .i64 1, .int .i64 2000, .int .i64 2001] 2))
              refine hK.out _ _ ?_ (fun hH2 => ?_)
              · (try dsimp only); (exact below_cell hHeld ((Below.refl _ _).alloc (Nat.le_refl _) _))
              clear hK K hHeld; have hHeld := hH2; clear hH2
              refine wpAnyH_ready (rs := [10]) (by kernel_rfl) (by simp) ?_
              refine AllReadyH.cons rfl (fun K hK => ?_) ?_
              · skip
                go_simp
                go_wp2_with (go_at_call 45; refine (among_any gs (k + 102 + 2 + 2) (some ⟨wb.heap.size, 0, none⟩) 5 5 [(-1), 0, 1, 2000, 2001] _ TC.out.src (by omega) (by omega) (by omega) (own_sl encI_len (by omega) N9.out) (fun b off s e => by injection e with e; injection e with e; omega)).mono ?_; rintro r wc ⟨mm, rfl, hzc, hsc, hgc⟩)
                replace TC := hid (TC.out.pick hsc hgc)
                have hyc : w3.heap.size ≤ wc.heap.size := by have h := hgc.size; (try simp at h); omega
                have HR := hid TC.out.xa.own.wy
                have ga := hgc.cell hHeld e1
                have fa := TC.out.xa.f2
                have la := TC.out.lt
                have loa : lo ≤ wc.heap.size := by have := TC.out.h4; omega
                refine hK.out _ _ ?_ (fun hH2 => ?_)
                · (try dsimp only); (exact ga)
                clear hK K hHeld; have hHeld := hH2; clear hH2
                refine wpAnyH_take (i := 11) (oi := ⟨some 45, Go.Op.build 62 #[(0, Go.Operand.tmp 38), (1, Go.Operand.tmp 41), (2, Go.Operand.tmp 44)], 62, "l21_language.go:395", #[⟨4, Go.Ground.data⟩, ⟨7, Go.Ground.data⟩, ⟨10, Go.Ground.data⟩], none⟩) (v := ?_) rfl (by kernel_rfl) (by kernel_rfl) (by kernel_rfl) (fun _ _ _ h => h) (Or.inl ⟨by rfl, ?_⟩) (by assumption) ?_
                rotate_left
                · intro w hSw; (try dsimp only at hSw); go_split_ands; go_simp; first | done | with_reducible rfl
                (try simp only [Act.put, List.setIfInBounds_toArray, List.set_cons_zero, List.set_cons_succ])
                refine wpAnyH_ready (rs := [12]) (by kernel_rfl) (by simp) ?_
                refine AllReadyH.cons rfl (fun K hK => ?_) ?_
                · skip
                  go_simp
                  refine hK.out _ _ ?_ (fun hH2 => ?_)
                  · (try dsimp only); (exact below_cell hHeld ((Below.refl _ _).alloc (Nat.le_refl _) _))
                  clear hK K hHeld; have hHeld := hH2; clear hH2
                  refine wpAnyH_ready (rs := [13]) (by kernel_rfl) (by simp) ?_
                  refine AllReadyH.cons rfl (fun K hK => ?_) ?_
                  · skip
                    refine step_append_lies _ (by rfl) _ _ _ (by rfl) lo 62 j0 _ 3 40 Tryz.underlying23 hj hy0 hy1 hy2 rfl (by omega) (.slice A3 n3 c3) n3 (x.wy.flatMap encWay) (by rfl) (HR.out.alloc _) ⟨wc.heap.size, 0, none⟩ 1 1 [.string f, .string g, .int .i64 mm] (by rfl) (by rfl) (World.news_of_block (cs := #[.string f, .string g, .int .i64 mm]) (t := 62) (fr := (0, 0)) (heap_alloc_new wc _)) (by simp [Value.oneCell']) (by omega) (by simp only [maxLen]; omega) (by omega) (by simp; omega) (wc.heap.size + 1) (by simp) ?_
                    intro gg cap w5 ho3 hg3 hat3 hlt3
                    have hgg := (gr_alloc (o := .cells #[.string f, .string g, .int .i64 mm] 62) (World.grownBy.refl wc (Value.slice A3 n3 c3).ownBlock)).trans hg3
                    have k0 := hgg.cell ga (fun e => q9 e.symm)
                    have f3 := (hgg.frozen_far ⟨gx, 2, none⟩ la (fun e => q9 e.symm)).trans fa
                    refine hK.out _ _ ?_ (fun hH2 => ?_)
                    · (try dsimp only); (exact k0)
                    clear hK K hHeld; have hHeld := hH2; clear hH2
                    refine wpAnyH_take (i := 14) (oi := ⟨some 48, Go.Op.fieldAddr 25 (Go.Operand.tmp 3) 2, 0, "l21_language.go:395", #[⟨0, Go.Ground.phase⟩, ⟨1, Go.Ground.phase⟩, ⟨2, Go.Ground.phase⟩, ⟨3, Go.Ground.phase⟩, ⟨4, Go.Ground.phase⟩, ⟨5, Go.Ground.phase⟩, ⟨6, Go.Ground.phase⟩, ⟨7, Go.Ground.phase⟩, ⟨8, Go.Ground.phase⟩, ⟨9, Go.Ground.phase⟩, ⟨10, Go.Ground.phase⟩, ⟨11, Go.Ground.phase⟩, ⟨12, Go.Ground.phase⟩, ⟨13, Go.Ground.phase⟩], none⟩) (v := ?_) rfl (by kernel_rfl) (by kernel_rfl) (by kernel_rfl) (fun _ _ _ h => h) (Or.inl ⟨by rfl, ?_⟩) (by assumption) ?_
                    rotate_left
                    · intro w hSw; (try dsimp only at hSw); go_split_ands; go_simp; first | done | with_reducible rfl
                    (try simp only [Act.put, List.setIfInBounds_toArray])
                    refine wpAnyH_done (by kernel_rfl) ?_ _
                    refine last_step rfl rfl (fun K hK => ?_)
                    go_simp
                    refine hK.out _ _ ?_
                    clear hK K
                    have X6 := TC.out.xa.put3 (z := ⟨f, g, mm⟩) (H := wc.heap.size + 1) hgg (by omega) hat3 (by simpa [encWay] using ho3)
                    have T6 := TC.out.put hgg (fun b hb => (HR.out.lt b hb).1) X6
                    obtain ⟨W6, hW6⟩ : ∃ W6, W6 = w5.setCell ⟨gx, 2, none⟩ (.slice (some ⟨gg, 0, none⟩) (n3 + 1) cap) := ⟨_, rfl⟩
                    rw [← hW6] at T6
                    rw [← hW6]
                    clear X6 hW6 ho3 hgg hg3 HR TC hHeld d0 ga k0 f3
                    have FIN := hid ((T6).up (show _ ≤ k + 120 by omega)).fin
                    have m0 := (T6).xa.k0
                    have m1 := (T6).xa.k1
                    have m2 := (T6).xa.k2
                    have p0 := (T6).res.c0
                    have p1 := (T6).res.c1
                    have p2 := (T6).res.c2
                    have y0 := (T6).res.f0
                    have y1 := (T6).res.f1
                    have y2 := (T6).res.f2
                    have TT0 := hid (set3_0 p0 (.slice A1 n1 c1) (.slice A2 n2 c2) (.slice (some ⟨gg, 0, none⟩) (n3 + 1) cap))
                    have TT1 := hid (set3_1 p1 (.slice A1 n1 c1) (.slice A2 n2 c2) (.slice (some ⟨gg, 0, none⟩) (n3 + 1) cap))
                    have TT2 := hid (set3_2 p2 (.slice A1 n1 c1) (.slice A2 n2 c2) (.slice (some ⟨gg, 0, none⟩) (n3 + 1) cap))
                    simp only at m0 m1 m2
                    have FEW : Hid (FewX 62 _) := (FewX.wy (z := ⟨f, g, mm⟩) (TP.out) ⟨zza, zzb⟩).up (by omega)
                    go_wp2_with fail
                    have t0 := TT0.out
                    have t1 := TT1.out
                    have t2 := TT2.out
                    refine bodyPost_ret (v := .agg #[.slice A1 n1 c1, .slice A2 n2 c2, .slice (some ⟨gg, 0, none⟩) (n3 + 1) cap]) (by simp [results, Tryz.results40, go_sem, t0, t1, t2]) rfl ⟨⟨A1, n1, c1, A2, n2, c2, (some ⟨gg, 0, none⟩), (n3 + 1), cap⟩, _, rfl, FIN.out.1, FEW.out, FIN.out.2.1, FIN.out.2.2⟩
                  exact AllReadyH.nil
                exact AllReadyH.nil
              exact AllReadyH.nil
            exact AllReadyH.nil
          refine AllReadyH.cons rfl (fun K hK => ?_) ?_
          · skip
            go_simp
            have N9 : Hid ((wa.alloc (.cells #[.int .i64 (-1), .int .i64 0, .int .i64 1, .int .i64 2000, .int .i64 2001] 2)).ownsRow (wa.heap.size) 2 1 (.slice (some ⟨wa.heap.size, 0, none⟩) 5 5) 5 (([(-1), 0, 1, 2000, 2001] : List Int).flatMap encI)) := by
              have := World.ownsRow_lit (base := wa.heap.size) (e := 2) (size := 1) (wa) #[.int .i64 (-1), .int .i64 0, .int .i64 1, .int .i64 2000, .int .i64 2001] 5 (Nat.le_refl _) (by simp [maxLen]) (by simp)
              simpa [Hid, encI] using this
            replace N6 := hid (ow_alloc (o := (.cells #[.int .i64 (-1), .int .i64 0, .int .i64 1, .int .i64 2000, .int .i64 2001] 2)) N6.out)
            replace TC := hid (TC.out.alloc (.cells #[.int .i64 (-1), .int .i64 0, .int .i64 1, .int .i64 2000, .int .i64 2001] 2))
            refine hK.out _ _ ?_ (fun hH2 => ?_)
            · (try dsimp only); (exact below_cell hHeld ((Below.refl _ _).alloc (Nat.le_refl _) _))
            clear hK K hHeld; have hHeld := hH2; clear hH2
            refine wpAnyH_ready (rs := [7]) (by kernel_rfl) (by simp) ?_
            refine AllReadyH.cons rfl (fun K hK => ?_) ?_
            · skip
              go_simp
              go_wp2_with (go_at_call 67; refine (text_any gs (k + 102 + 2) (some ⟨w3.heap.size, 0, none⟩) 2 2 [⟨#[98, 97, 110, 107]⟩, ⟨#[112, 111, 115, 116]⟩] _ TC.out.src (by omega) (by omega) (by omega) (own_sl encS_len (by omega) N6.out) (fun b off s e => by injection e with e; injection e with e; omega)).mono ?_; rintro r wb ⟨g, rfl, hzb, hsb, hgb⟩)
              have zzb : g.size ≤ 12 := by
                simp only [List.mem_cons, List.not_mem_nil, or_false] at hzb
                rcases hzb with rfl | rfl <;> decide
              clear hzb
              replace TC := hid (TC.out.pick hsb hgb)
              have hyb : w3.heap.size ≤ wb.heap.size := by have h := hgb.size; (try simp at h); omega
              replace N9 := hid (own_apartS N9.out hgb (fun b hb e => by injection hb with hb; subst hb; simp [Value.ownBlock] at e; omega))
              refine hK.out _ _ ?_ (fun hH2 => ?_)
              · (try dsimp only); (exact hgb.cell hHeld e1)
              clear hK K hHeld; have hHeld := hH2; clear hH2
              refine wpAnyH_ready (rs := [10]) (by kernel_rfl) (by simp) ?_
              refine AllReadyH.cons rfl (fun K hK => ?_) ?_
              · skip
                go_simp
                go_wp2_with (go_at_call 45; refine (among_any gs (k + 102 + 2 + 2) (some ⟨wa.heap.size, 0, none⟩) 5 5 [(-1), 0, 1, 2000, 2001] _ TC.out.src (by omega) (by omega) (by omega) (own_sl encI_len (by omega) N9.out) (fun b off s e => by injection e with e; injection e with e; omega)).mono ?_; rintro r wc ⟨mm, rfl, hzc, hsc, hgc⟩)
                replace TC := hid (TC.out.pick hsc hgc)
                have hyc : w3.heap.size ≤ wc.heap.size := by have h := hgc.size; (try simp at h); omega
                have HR := hid TC.out.xa.own.wy
                have ga := hgc.cell hHeld e1
                have fa := TC.out.xa.f2
                have la := TC.out.lt
                have loa : lo ≤ wc.heap.size := by have := TC.out.h4; omega
                refine hK.out _ _ ?_ (fun hH2 => ?_)
                · (try dsimp only); (exact ga)
                clear hK K hHeld; have hHeld := hH2; clear hH2
                refine wpAnyH_take (i := 11) (oi := ⟨some 45, Go.Op.build 62 #[(0, Go.Operand.tmp 38), (1, Go.Operand.tmp 41), (2, Go.Operand.tmp 44)], 62, "l21_language.go:395", #[⟨4, Go.Ground.data⟩, ⟨7, Go.Ground.data⟩, ⟨10, Go.Ground.data⟩], none⟩) (v := ?_) rfl (by kernel_rfl) (by kernel_rfl) (by kernel_rfl) (fun _ _ _ h => h) (Or.inl ⟨by rfl, ?_⟩) (by assumption) ?_
                rotate_left
                · intro w hSw; (try dsimp only at hSw); go_split_ands; go_simp; first | done | with_reducible rfl
                (try simp only [Act.put, List.setIfInBounds_toArray, List.set_cons_zero, List.set_cons_succ])
                refine wpAnyH_ready (rs := [12]) (by kernel_rfl) (by simp) ?_
                refine AllReadyH.cons rfl (fun K hK => ?_) ?_
                · skip
                  go_simp
                  refine hK.out _ _ ?_ (fun hH2 => ?_)
                  · (try dsimp only); (exact below_cell hHeld ((Below.refl _ _).alloc (Nat.le_refl _) _))
                  clear hK K hHeld; have hHeld := hH2; clear hH2
                  refine wpAnyH_ready (rs := [13]) (by kernel_rfl) (by simp) ?_
                  refine AllReadyH.cons rfl (fun K hK => ?_) ?_
                  · skip
                    refine step_append_lies _ (by rfl) _ _ _ (by rfl) lo 62 j0 _ 3 40 Tryz.underlying23 hj hy0 hy1 hy2 rfl (by omega) (.slice A3 n3 c3) n3 (x.wy.flatMap encWay) (by rfl) (HR.out.alloc _) ⟨wc.heap.size, 0, none⟩ 1 1 [.string f, .string g, .int .i64 mm] (by rfl) (by rfl) (World.news_of_block (cs := #[.string f, .string g, .int .i64 mm]) (t := 62) (fr := (0, 0)) (heap_alloc_new wc _)) (by simp [Value.oneCell']) (by omega) (by simp only [maxLen]; omega) (by omega) (by simp; omega) (wc.heap.size + 1) (by simp) ?_
                    intro gg cap w5 ho3 hg3 hat3 hlt3
                    have hgg := (gr_alloc (o := .cells #[.string f, .string g, .int .i64 mm] 62) (World.grownBy.refl wc (Value.slice A3 n3 c3).ownBlock)).trans hg3
                    have k0 := hgg.cell ga (fun e => q9 e.symm)
                    have f3 := (hgg.frozen_far ⟨gx, 2, none⟩ la (fun e => q9 e.symm)).trans fa
                    refine hK.out _ _ ?_ (fun hH2 => ?_)
                    · (try dsimp only); (exact k0)
                    clear hK K hHeld; have hHeld := hH2; clear hH2
                    refine wpAnyH_take (i := 14) (oi := ⟨some 48, Go.Op.fieldAddr 25 (Go.Operand.tmp 3) 2, 0, "l21_language.go:395", #[⟨0, Go.Ground.phase⟩, ⟨1, Go.Ground.phase⟩, ⟨2, Go.Ground.phase⟩, ⟨3, Go.Ground.phase⟩, ⟨4, Go.Ground.phase⟩, ⟨5, Go.Ground.phase⟩, ⟨6, Go.Ground.phase⟩, ⟨7, Go.Ground.phase⟩, ⟨8, Go.Ground.phase⟩, ⟨9, Go.Ground.phase⟩, ⟨10, Go.Ground.phase⟩, ⟨11, Go.Ground.phase⟩, ⟨12, Go.Ground.phase⟩, ⟨13, Go.Ground.phase⟩], none⟩) (v := ?_) rfl (by kernel_rfl) (by kernel_rfl) (by kernel_rfl) (fun _ _ _ h => h) (Or.inl ⟨by rfl, ?_⟩) (by assumption) ?_
                    rotate_left
                    · intro w hSw; (try dsimp only at hSw); go_split_ands; go_simp; first | done | with_reducible rfl
                    (try simp only [Act.put, List.setIfInBounds_toArray])
                    refine wpAnyH_done (by kernel_rfl) ?_ _
                    refine last_step rfl rfl (fun K hK => ?_)
                    go_simp
                    refine hK.out _ _ ?_
                    clear hK K
                    have X6 := TC.out.xa.put3 (z := ⟨f, g, mm⟩) (H := wc.heap.size + 1) hgg (by omega) hat3 (by simpa [encWay] using ho3)
                    have T6 := TC.out.put hgg (fun b hb => (HR.out.lt b hb).1) X6
                    obtain ⟨W6, hW6⟩ : ∃ W6, W6 = w5.setCell ⟨gx, 2, none⟩ (.slice (some ⟨gg, 0, none⟩) (n3 + 1) cap) := ⟨_, rfl⟩
                    rw [← hW6] at T6
                    rw [← hW6]
                    clear X6 hW6 ho3 hgg hg3 HR TC hHeld d0 ga k0 f3
                    have FIN := hid ((T6).up (show _ ≤ k + 120 by omega)).fin
                    have m0 := (T6).xa.k0
                    have m1 := (T6).xa.k1
                    have m2 := (T6).xa.k2
                    have p0 := (T6).res.c0
                    have p1 := (T6).res.c1
                    have p2 := (T6).res.c2
                    have y0 := (T6).res.f0
                    have y1 := (T6).res.f1
                    have y2 := (T6).res.f2
                    have TT0 := hid (set3_0 p0 (.slice A1 n1 c1) (.slice A2 n2 c2) (.slice (some ⟨gg, 0, none⟩) (n3 + 1) cap))
                    have TT1 := hid (set3_1 p1 (.slice A1 n1 c1) (.slice A2 n2 c2) (.slice (some ⟨gg, 0, none⟩) (n3 + 1) cap))
                    have TT2 := hid (set3_2 p2 (.slice A1 n1 c1) (.slice A2 n2 c2) (.slice (some ⟨gg, 0, none⟩) (n3 + 1) cap))
                    simp only at m0 m1 m2
                    have FEW : Hid (FewX 62 _) := (FewX.wy (z := ⟨f, g, mm⟩) (TP.out) ⟨zza, zzb⟩).up (by omega)
                    go_wp2_with fail
                    have t0 := TT0.out
                    have t1 := TT1.out
                    have t2 := TT2.out
                    refine bodyPost_ret (v := .agg #[.slice A1 n1 c1, .slice A2 n2 c2, .slice (some ⟨gg, 0, none⟩) (n3 + 1) cap]) (by simp [results, Tryz.results40, go_sem, t0, t1, t2]) rfl ⟨⟨A1, n1, c1, A2, n2, c2, (some ⟨gg, 0, none⟩), (n3 + 1), cap⟩, _, rfl, FIN.out.1, FEW.out, FIN.out.2.1, FIN.out.2.2⟩
                  exact AllReadyH.nil
                exact AllReadyH.nil
              exact AllReadyH.nil
            exact AllReadyH.nil
          exact AllReadyH.nil
        refine AllReadyH.cons rfl (fun K hK => ?_) ?_
        · skip
          go_simp
          have N9 : Hid ((((w3.drew.alloc (.cells #[.string ⟨#[98, 97, 110, 107]⟩, .string ⟨#[112, 111, 115, 116]⟩] 9)).alloc (.cells #[.string ⟨#[98, 97, 110, 107]⟩, .string ⟨#[110, 111, 110, 101]⟩] 9)).alloc (.cells #[.int .i64 (-1), .int .i64 0, .int .i64 1, .int .i64 2000, .int .i64 2001] 2)).ownsRow (w3.heap.size + 1 + 1) 2 1 (.slice (some ⟨w3.heap.size + 1 + 1, 0, none⟩) 5 5) 5 (([(-1), 0, 1, 2000, 2001] : List Int).flatMap encI)) := by
            have := World.ownsRow_lit (base := ((w3.drew.alloc (.cells #[.string ⟨#[98, 97, 110, 107]⟩, .string ⟨#[112, 111, 115, 116]⟩] 9)).alloc (.cells #[.string ⟨#[98, 97, 110, 107]⟩, .string ⟨#[110, 111, 110, 101]⟩] 9)).heap.size) (e := 2) (size := 1) (((w3.drew.alloc (.cells #[.string ⟨#[98, 97, 110, 107]⟩, .string ⟨#[112, 111, 115, 116]⟩] 9)).alloc (.cells #[.string ⟨#[98, 97, 110, 107]⟩, .string ⟨#[110, 111, 110, 101]⟩] 9))) #[.int .i64 (-1), .int .i64 0, .int .i64 1, .int .i64 2000, .int .i64 2001] 5 (Nat.le_refl _) (by simp [maxLen]) (by simp)
            simpa [Hid, encI] using this
          replace N6 := hid (ow_alloc (o := (.cells #[.int .i64 (-1), .int .i64 0, .int .i64 1, .int .i64 2000, .int .i64 2001] 2)) N6.out)
          replace N3 := hid (ow_alloc (o := (.cells #[.int .i64 (-1), .int .i64 0, .int .i64 1, .int .i64 2000, .int .i64 2001] 2)) N3.out)
          replace TC := hid (TC.out.alloc (.cells #[.int .i64 (-1), .int .i64 0, .int .i64 1, .int .i64 2000, .int .i64 2001] 2))
          refine hK.out _ _ ?_ (fun hH2 => ?_)
          · (try dsimp only); (exact below_cell hHeld ((Below.refl _ _).alloc (Nat.le_refl _) _))
          clear hK K hHeld; have hHeld := hH2; clear hH2
          refine wpAnyH_ready (rs := [4]) (by kernel_rfl) (by simp) ?_
          refine AllReadyH.cons rfl (fun K hK => ?_) ?_
          · skip
            go_simp
            go_wp2_with (go_at_call 67; refine (text_any gs (k + 102) (some ⟨w3.heap.size + 1, 0, none⟩) 2 2 [⟨#[98, 97, 110, 107]⟩, ⟨#[110, 111, 110, 101]⟩] _ TC.out.src (by omega) (by omega) (by omega) (own_sl encS_len (by omega) N3.out) (fun b off s e => by injection e with e; injection e with e; omega)).mono ?_; rintro r wa ⟨f, rfl, hza, hsa, hga⟩)
            have zza : f.size ≤ 12 := by
              simp only [List.mem_cons, List.not_mem_nil, or_false] at hza
              rcases hza with rfl | rfl <;> decide
            clear hza
            replace TC := hid (TC.out.pick hsa hga)
            have hya : w3.heap.size ≤ wa.heap.size := by have h := hga.size; (try simp at h); omega
            replace N6 := hid (own_apartS N6.out hga (fun b hb e => by injection hb with hb; subst hb; simp [Value.ownBlock] at e; omega))
            replace N9 := hid (own_apartS N9.out hga (fun b hb e => by injection hb with hb; subst hb; simp [Value.ownBlock] at e; omega))
            refine hK.out _ _ ?_ (fun hH2 => ?_)
            · (try dsimp only); (exact hga.cell hHeld e1)
            clear hK K hHeld; have hHeld := hH2; clear hH2
            refine wpAnyH_ready (rs := [7]) (by kernel_rfl) (by simp) ?_
            refine AllReadyH.cons rfl (fun K hK => ?_) ?_
            · skip
              go_simp
              go_wp2_with (go_at_call 67; refine (text_any gs (k + 102 + 2) (some ⟨w3.heap.size, 0, none⟩) 2 2 [⟨#[98, 97, 110, 107]⟩, ⟨#[112, 111, 115, 116]⟩] _ TC.out.src (by omega) (by omega) (by omega) (own_sl encS_len (by omega) N6.out) (fun b off s e => by injection e with e; injection e with e; omega)).mono ?_; rintro r wb ⟨g, rfl, hzb, hsb, hgb⟩)
              have zzb : g.size ≤ 12 := by
                simp only [List.mem_cons, List.not_mem_nil, or_false] at hzb
                rcases hzb with rfl | rfl <;> decide
              clear hzb
              replace TC := hid (TC.out.pick hsb hgb)
              have hyb : w3.heap.size ≤ wb.heap.size := by have h := hgb.size; (try simp at h); omega
              replace N9 := hid (own_apartS N9.out hgb (fun b hb e => by injection hb with hb; subst hb; simp [Value.ownBlock] at e; omega))
              refine hK.out _ _ ?_ (fun hH2 => ?_)
              · (try dsimp only); (exact hgb.cell hHeld e1)
              clear hK K hHeld; have hHeld := hH2; clear hH2
              refine wpAnyH_ready (rs := [10]) (by kernel_rfl) (by simp) ?_
              refine AllReadyH.cons rfl (fun K hK => ?_) ?_
              · skip
                go_simp
                go_wp2_with (go_at_call 45; refine (among_any gs (k + 102 + 2 + 2) (some ⟨w3.heap.size + 1 + 1, 0, none⟩) 5 5 [(-1), 0, 1, 2000, 2001] _ TC.out.src (by omega) (by omega) (by omega) (own_sl encI_len (by omega) N9.out) (fun b off s e => by injection e with e; injection e with e; omega)).mono ?_; rintro r wc ⟨mm, rfl, hzc, hsc, hgc⟩)
                replace TC := hid (TC.out.pick hsc hgc)
                have hyc : w3.heap.size ≤ wc.heap.size := by have h := hgc.size; (try simp at h); omega
                have HR := hid TC.out.xa.own.wy
                have ga := hgc.cell hHeld e1
                have fa := TC.out.xa.f2
                have la := TC.out.lt
                have loa : lo ≤ wc.heap.size := by have := TC.out.h4; omega
                refine hK.out _ _ ?_ (fun hH2 => ?_)
                · (try dsimp only); (exact ga)
                clear hK K hHeld; have hHeld := hH2; clear hH2
                refine wpAnyH_take (i := 11) (oi := ⟨some 45, Go.Op.build 62 #[(0, Go.Operand.tmp 38), (1, Go.Operand.tmp 41), (2, Go.Operand.tmp 44)], 62, "l21_language.go:395", #[⟨4, Go.Ground.data⟩, ⟨7, Go.Ground.data⟩, ⟨10, Go.Ground.data⟩], none⟩) (v := ?_) rfl (by kernel_rfl) (by kernel_rfl) (by kernel_rfl) (fun _ _ _ h => h) (Or.inl ⟨by rfl, ?_⟩) (by assumption) ?_
                rotate_left
                · intro w hSw; (try dsimp only at hSw); go_split_ands; go_simp; first | done | with_reducible rfl
                (try simp only [Act.put, List.setIfInBounds_toArray, List.set_cons_zero, List.set_cons_succ])
                refine wpAnyH_ready (rs := [12]) (by kernel_rfl) (by simp) ?_
                refine AllReadyH.cons rfl (fun K hK => ?_) ?_
                · skip
                  go_simp
                  refine hK.out _ _ ?_ (fun hH2 => ?_)
                  · (try dsimp only); (exact below_cell hHeld ((Below.refl _ _).alloc (Nat.le_refl _) _))
                  clear hK K hHeld; have hHeld := hH2; clear hH2
                  refine wpAnyH_ready (rs := [13]) (by kernel_rfl) (by simp) ?_
                  refine AllReadyH.cons rfl (fun K hK => ?_) ?_
                  · skip
                    refine step_append_lies _ (by rfl) _ _ _ (by rfl) lo 62 j0 _ 3 40 Tryz.underlying23 hj hy0 hy1 hy2 rfl (by omega) (.slice A3 n3 c3) n3 (x.wy.flatMap encWay) (by rfl) (HR.out.alloc _) ⟨wc.heap.size, 0, none⟩ 1 1 [.string f, .string g, .int .i64 mm] (by rfl) (by rfl) (World.news_of_block (cs := #[.string f, .string g, .int .i64 mm]) (t := 62) (fr := (0, 0)) (heap_alloc_new wc _)) (by simp [Value.oneCell']) (by omega) (by simp only [maxLen]; omega) (by omega) (by simp; omega) (wc.heap.size + 1) (by simp) ?_
                    intro gg cap w5 ho3 hg3 hat3 hlt3
                    have hgg := (gr_alloc (o := .cells #[.string f, .string g, .int .i64 mm] 62) (World.grownBy.refl wc (Value.slice A3 n3 c3).ownBlock)).trans hg3
                    have k0 := hgg.cell ga (fun e => q9 e.symm)
                    have f3 := (hgg.frozen_far ⟨gx, 2, none⟩ la (fun e => q9 e.symm)).trans fa
                    refine hK.out _ _ ?_ (fun hH2 => ?_)
                    · (try dsimp only); (exact k0)
                    clear hK K hHeld; have hHeld := hH2; clear hH2
                    refine wpAnyH_take (i := 14) (oi := ⟨some 48, Go.Op.fieldAddr 25 (Go.Operand.tmp 3) 2, 0, "l21_language.go:395", #[⟨0, Go.Ground.phase⟩, ⟨1, Go.Ground.phase⟩, ⟨2, Go.Ground.phase⟩, ⟨3, Go.Ground.phase⟩, ⟨4, Go.Ground.phase⟩, ⟨5, Go.Ground.phase⟩, ⟨6, Go.Ground.phase⟩, ⟨7, Go.Ground.phase⟩, ⟨8, Go.Ground.phase⟩, ⟨9, Go.Ground.phase⟩, ⟨10, Go.Ground.phase⟩, ⟨11, Go.Ground.phase⟩, ⟨12, Go.Ground.phase⟩, ⟨13, Go.Ground.phase⟩], none⟩) (v := ?_) rfl (by kernel_rfl) (by kernel_rfl) (by kernel_rfl) (fun _ _ _ h => h) (Or.inl ⟨by rfl, ?_⟩) (by assumption) ?_
                    rotate_left
                    · intro w hSw; (try dsimp only at hSw); go_split_ands; go_simp; first | done | with_reducible rfl
                    (try simp only [Act.put, List.setIfInBounds_toArray])
                    refine wpAnyH_done (by kernel_rfl) ?_ _
                    refine last_step rfl rfl (fun K hK => ?_)
                    go_simp
                    refine hK.out _ _ ?_
                    clear hK K
                    have X6 := TC.out.xa.put3 (z := ⟨f, g, mm⟩) (H := wc.heap.size + 1) hgg (by omega) hat3 (by simpa [encWay] using ho3)
                    have T6 := TC.out.put hgg (fun b hb => (HR.out.lt b hb).1) X6
                    obtain ⟨W6, hW6⟩ : ∃ W6, W6 = w5.setCell ⟨gx, 2, none⟩ (.slice (some ⟨gg, 0, none⟩) (n3 + 1) cap) := ⟨_, rfl⟩
                    rw [← hW6] at T6
                    rw [← hW6]
                    clear X6 hW6 ho3 hgg hg3 HR TC hHeld d0 ga k0 f3
                    have FIN := hid ((T6).up (show _ ≤ k + 120 by omega)).fin
                    have m0 := (T6).xa.k0
                    have m1 := (T6).xa.k1
                    have m2 := (T6).xa.k2
                    have p0 := (T6).res.c0
                    have p1 := (T6).res.c1
                    have p2 := (T6).res.c2
                    have y0 := (T6).res.f0
                    have y1 := (T6).res.f1
                    have y2 := (T6).res.f2
                    have TT0 := hid (set3_0 p0 (.slice A1 n1 c1) (.slice A2 n2 c2) (.slice (some ⟨gg, 0, none⟩) (n3 + 1) cap))
                    have TT1 := hid (set3_1 p1 (.slice A1 n1 c1) (.slice A2 n2 c2) (.slice (some ⟨gg, 0, none⟩) (n3 + 1) cap))
                    have TT2 := hid (set3_2 p2 (.slice A1 n1 c1) (.slice A2 n2 c2) (.slice (some ⟨gg, 0, none⟩) (n3 + 1) cap))
                    simp only at m0 m1 m2
                    have FEW : Hid (FewX 62 _) := (FewX.wy (z := ⟨f, g, mm⟩) (TP.out) ⟨zza, zzb⟩).up (by omega)
                    go_wp2_with fail
                    have t0 := TT0.out
                    have t1 := TT1.out
                    have t2 := TT2.out
                    refine bodyPost_ret (v := .agg #[.slice A1 n1 c1, .slice A2 n2 c2, .slice (some ⟨gg, 0, none⟩) (n3 + 1) cap]) (by simp [results, Tryz.results40, go_sem, t0, t1, t2]) rfl ⟨⟨A1, n1, c1, A2, n2, c2, (some ⟨gg, 0, none⟩), (n3 + 1), cap⟩, _, rfl, FIN.out.1, FEW.out, FIN.out.2.1, FIN.out.2.2⟩
                  exact AllReadyH.nil
                exact AllReadyH.nil
              exact AllReadyH.nil
            exact AllReadyH.nil
          exact AllReadyH.nil
        exact AllReadyH.nil
      refine AllReadyH.cons rfl (fun K hK => ?_) ?_
      · skip
        go_simp
        have N9 : Hid (((w3.drew.alloc (.cells #[.string ⟨#[98, 97, 110, 107]⟩, .string ⟨#[112, 111, 115, 116]⟩] 9)).alloc (.cells #[.int .i64 (-1), .int .i64 0, .int .i64 1, .int .i64 2000, .int .i64 2001] 2)).ownsRow (w3.heap.size + 1) 2 1 (.slice (some ⟨w3.heap.size + 1, 0, none⟩) 5 5) 5 (([(-1), 0, 1, 2000, 2001] : List Int).flatMap encI)) := by
          have := World.ownsRow_lit (base := (w3.drew.alloc (.cells #[.string ⟨#[98, 97, 110, 107]⟩, .string ⟨#[112, 111, 115, 116]⟩] 9)).heap.size) (e := 2) (size := 1) ((w3.drew.alloc (.cells #[.string ⟨#[98, 97, 110, 107]⟩, .string ⟨#[112, 111, 115, 116]⟩] 9))) #[.int .i64 (-1), .int .i64 0, .int .i64 1, .int .i64 2000, .int .i64 2001] 5 (Nat.le_refl _) (by simp [maxLen]) (by simp)
          simpa [Hid, encI] using this
        replace N6 := hid (ow_alloc (o := (.cells #[.int .i64 (-1), .int .i64 0, .int .i64 1, .int .i64 2000, .int .i64 2001] 2)) N6.out)
        replace TC := hid (TC.out.alloc (.cells #[.int .i64 (-1), .int .i64 0, .int .i64 1, .int .i64 2000, .int .i64 2001] 2))
        refine hK.out _ _ ?_ (fun hH2 => ?_)
        · (try dsimp only); (exact below_cell hHeld ((Below.refl _ _).alloc (Nat.le_refl _) _))
        clear hK K hHeld; have hHeld := hH2; clear hH2
        refine wpAnyH_ready (rs := [3]) (by kernel_rfl) (by simp) ?_
        refine AllReadyH.cons rfl (fun K hK => ?_) ?_
        · skip
          go_simp
          have N3 : Hid ((((w3.drew.alloc (.cells #[.string ⟨#[98, 97, 110, 107]⟩, .string ⟨#[112, 111, 115, 116]⟩] 9)).alloc (.cells #[.int .i64 (-1), .int .i64 0, .int .i64 1, .int .i64 2000, .int .i64 2001] 2)).alloc (.cells #[.string ⟨#[98, 97, 110, 107]⟩, .string ⟨#[110, 111, 110, 101]⟩] 9)).ownsRow (w3.heap.size + 1 + 1) 9 1 (.slice (some ⟨w3.heap.size + 1 + 1, 0, none⟩) 2 2) 2 (([⟨#[98, 97, 110, 107]⟩, ⟨#[110, 111, 110, 101]⟩] : List ByteArray).flatMap encS)) := by
            have := World.ownsRow_lit (base := ((w3.drew.alloc (.cells #[.string ⟨#[98, 97, 110, 107]⟩, .string ⟨#[112, 111, 115, 116]⟩] 9)).alloc (.cells #[.int .i64 (-1), .int .i64 0, .int .i64 1, .int .i64 2000, .int .i64 2001] 2)).heap.size) (e := 9) (size := 1) (((w3.drew.alloc (.cells #[.string ⟨#[98, 97, 110, 107]⟩, .string ⟨#[112, 111, 115, 116]⟩] 9)).alloc (.cells #[.int .i64 (-1), .int .i64 0, .int .i64 1, .int .i64 2000, .int .i64 2001] 2))) #[.string ⟨#[98, 97, 110, 107]⟩, .string ⟨#[110, 111, 110, 101]⟩] 2 (Nat.le_refl _) (by simp [maxLen]) (by simp)
            simpa [Hid, encS] using this
          replace N6 := hid (ow_alloc (o := (.cells #[.string ⟨#[98, 97, 110, 107]⟩, .string ⟨#[110, 111, 110, 101]⟩] 9)) N6.out)
          replace N9 := hid (ow_alloc (o := (.cells #[.string ⟨#[98, 97, 110, 107]⟩, .string ⟨#[110, 111, 110, 101]⟩] 9)) N9.out)
          replace TC := hid (TC.out.alloc (.cells #[.string ⟨#[98, 97, 110, 107]⟩, .string ⟨#[110, 111, 110, 101]⟩] 9))
          refine hK.out _ _ ?_ (fun hH2 => ?_)
          · (try dsimp only); (exact below_cell hHeld ((Below.refl _ _).alloc (Nat.le_refl _) _))
          clear hK K hHeld; have hHeld := hH2; clear hH2
          refine wpAnyH_ready (rs := [4]) (by kernel_rfl) (by simp) ?_
          refine AllReadyH.cons rfl (fun K hK => ?_) ?_
          · skip
            go_simp
            go_wp2_with (go_at_call 67; refine (text_any gs (k + 102) (some ⟨w3.heap.size + 1 + 1, 0, none⟩) 2 2 [⟨#[98, 97, 110, 107]⟩, ⟨#[110, 111, 110, 101]⟩] _ TC.out.src (by omega) (by omega) (by omega) (own_sl encS_len (by omega) N3.out) (fun b off s e => by injection e with e; injection e with e; omega)).mono ?_; rintro r wa ⟨f, rfl, hza, hsa, hga⟩)
            have zza : f.size ≤ 12 := by
              simp only [List.mem_cons, List.not_mem_nil, or_false] at hza
              rcases hza with rfl | rfl <;> decide
            clear hza
            replace TC := hid (TC.out.pick hsa hga)
            have hya : w3.heap.size ≤ wa.heap.size := by have h := hga.size; (try simp at h); omega
            replace N6 := hid (own_apartS N6.out hga (fun b hb e => by injection hb with hb; subst hb; simp [Value.ownBlock] at e; omega))
            replace N9 := hid (own_apartS N9.out hga (fun b hb e => by injection hb with hb; subst hb; simp [Value.ownBlock] at e; omega))
            refine hK.out _ _ ?_ (fun hH2 => ?_)
            · (try dsimp only); (exact hga.cell hHeld e1)
            clear hK K hHeld; have hHeld := hH2; clear hH2
            refine wpAnyH_ready (rs := [7]) (by kernel_rfl) (by simp) ?_
            refine AllReadyH.cons rfl (fun K hK => ?_) ?_
            · skip
              go_simp
              go_wp2_with (go_at_call 67; refine (text_any gs (k + 102 + 2) (some ⟨w3.heap.size, 0, none⟩) 2 2 [⟨#[98, 97, 110, 107]⟩, ⟨#[112, 111, 115, 116]⟩] _ TC.out.src (by omega) (by omega) (by omega) (own_sl encS_len (by omega) N6.out) (fun b off s e => by injection e with e; injection e with e; omega)).mono ?_; rintro r wb ⟨g, rfl, hzb, hsb, hgb⟩)
              have zzb : g.size ≤ 12 := by
                simp only [List.mem_cons, List.not_mem_nil, or_false] at hzb
                rcases hzb with rfl | rfl <;> decide
              clear hzb
              replace TC := hid (TC.out.pick hsb hgb)
              have hyb : w3.heap.size ≤ wb.heap.size := by have h := hgb.size; (try simp at h); omega
              replace N9 := hid (own_apartS N9.out hgb (fun b hb e => by injection hb with hb; subst hb; simp [Value.ownBlock] at e; omega))
              refine hK.out _ _ ?_ (fun hH2 => ?_)
              · (try dsimp only); (exact hgb.cell hHeld e1)
              clear hK K hHeld; have hHeld := hH2; clear hH2
              refine wpAnyH_ready (rs := [10]) (by kernel_rfl) (by simp) ?_
              refine AllReadyH.cons rfl (fun K hK => ?_) ?_
              · skip
                go_simp
                go_wp2_with (go_at_call 45; refine (among_any gs (k + 102 + 2 + 2) (some ⟨w3.heap.size + 1, 0, none⟩) 5 5 [(-1), 0, 1, 2000, 2001] _ TC.out.src (by omega) (by omega) (by omega) (own_sl encI_len (by omega) N9.out) (fun b off s e => by injection e with e; injection e with e; omega)).mono ?_; rintro r wc ⟨mm, rfl, hzc, hsc, hgc⟩)
                replace TC := hid (TC.out.pick hsc hgc)
                have hyc : w3.heap.size ≤ wc.heap.size := by have h := hgc.size; (try simp at h); omega
                have HR := hid TC.out.xa.own.wy
                have ga := hgc.cell hHeld e1
                have fa := TC.out.xa.f2
                have la := TC.out.lt
                have loa : lo ≤ wc.heap.size := by have := TC.out.h4; omega
                refine hK.out _ _ ?_ (fun hH2 => ?_)
                · (try dsimp only); (exact ga)
                clear hK K hHeld; have hHeld := hH2; clear hH2
                refine wpAnyH_take (i := 11) (oi := ⟨some 45, Go.Op.build 62 #[(0, Go.Operand.tmp 38), (1, Go.Operand.tmp 41), (2, Go.Operand.tmp 44)], 62, "l21_language.go:395", #[⟨4, Go.Ground.data⟩, ⟨7, Go.Ground.data⟩, ⟨10, Go.Ground.data⟩], none⟩) (v := ?_) rfl (by kernel_rfl) (by kernel_rfl) (by kernel_rfl) (fun _ _ _ h => h) (Or.inl ⟨by rfl, ?_⟩) (by assumption) ?_
                rotate_left
                · intro w hSw; (try dsimp only at hSw); go_split_ands; go_simp; first | done | with_reducible rfl
                (try simp only [Act.put, List.setIfInBounds_toArray, List.set_cons_zero, List.set_cons_succ])
                refine wpAnyH_ready (rs := [12]) (by kernel_rfl) (by simp) ?_
                refine AllReadyH.cons rfl (fun K hK => ?_) ?_
                · skip
                  go_simp
                  refine hK.out _ _ ?_ (fun hH2 => ?_)
                  · (try dsimp only); (exact below_cell hHeld ((Below.refl _ _).alloc (Nat.le_refl _) _))
                  clear hK K hHeld; have hHeld := hH2; clear hH2
                  refine wpAnyH_ready (rs := [13]) (by kernel_rfl) (by simp) ?_
                  refine AllReadyH.cons rfl (fun K hK => ?_) ?_
                  · skip
                    refine step_append_lies _ (by rfl) _ _ _ (by rfl) lo 62 j0 _ 3 40 Tryz.underlying23 hj hy0 hy1 hy2 rfl (by omega) (.slice A3 n3 c3) n3 (x.wy.flatMap encWay) (by rfl) (HR.out.alloc _) ⟨wc.heap.size, 0, none⟩ 1 1 [.string f, .string g, .int .i64 mm] (by rfl) (by rfl) (World.news_of_block (cs := #[.string f, .string g, .int .i64 mm]) (t := 62) (fr := (0, 0)) (heap_alloc_new wc _)) (by simp [Value.oneCell']) (by omega) (by simp only [maxLen]; omega) (by omega) (by simp; omega) (wc.heap.size + 1) (by simp) ?_
                    intro gg cap w5 ho3 hg3 hat3 hlt3
                    have hgg := (gr_alloc (o := .cells #[.string f, .string g, .int .i64 mm] 62) (World.grownBy.refl wc (Value.slice A3 n3 c3).ownBlock)).trans hg3
                    have k0 := hgg.cell ga (fun e => q9 e.symm)
                    have f3 := (hgg.frozen_far ⟨gx, 2, none⟩ la (fun e => q9 e.symm)).trans fa
                    refine hK.out _ _ ?_ (fun hH2 => ?_)
                    · (try dsimp only); (exact k0)
                    clear hK K hHeld; have hHeld := hH2; clear hH2
                    refine wpAnyH_take (i := 14) (oi := ⟨some 48, Go.Op.fieldAddr 25 (Go.Operand.tmp 3) 2, 0, "l21_language.go:395", #[⟨0, Go.Ground.phase⟩, ⟨1, Go.Ground.phase⟩, ⟨2, Go.Ground.phase⟩, ⟨3, Go.Ground.phase⟩, ⟨4, Go.Ground.phase⟩, ⟨5, Go.Ground.phase⟩, ⟨6, Go.Ground.phase⟩, ⟨7, Go.Ground.phase⟩, ⟨8, Go.Ground.phase⟩, ⟨9, Go.Ground.phase⟩, ⟨10, Go.Ground.phase⟩, ⟨11, Go.Ground.phase⟩, ⟨12, Go.Ground.phase⟩, ⟨13, Go.Ground.phase⟩], none⟩) (v := ?_) rfl (by kernel_rfl) (by kernel_rfl) (by kernel_rfl) (fun _ _ _ h => h) (Or.inl ⟨by rfl, ?_⟩) (by assumption) ?_
                    rotate_left
                    · intro w hSw; (try dsimp only at hSw); go_split_ands; go_simp; first | done | with_reducible rfl
                    (try simp only [Act.put, List.setIfInBounds_toArray])
                    refine wpAnyH_done (by kernel_rfl) ?_ _
                    refine last_step rfl rfl (fun K hK => ?_)
                    go_simp
                    refine hK.out _ _ ?_
                    clear hK K
                    have X6 := TC.out.xa.put3 (z := ⟨f, g, mm⟩) (H := wc.heap.size + 1) hgg (by omega) hat3 (by simpa [encWay] using ho3)
                    have T6 := TC.out.put hgg (fun b hb => (HR.out.lt b hb).1) X6
                    obtain ⟨W6, hW6⟩ : ∃ W6, W6 = w5.setCell ⟨gx, 2, none⟩ (.slice (some ⟨gg, 0, none⟩) (n3 + 1) cap) := ⟨_, rfl⟩
                    rw [← hW6] at T6
                    rw [← hW6]
                    clear X6 hW6 ho3 hgg hg3 HR TC hHeld d0 ga k0 f3
                    have FIN := hid ((T6).up (show _ ≤ k + 120 by omega)).fin
                    have m0 := (T6).xa.k0
                    have m1 := (T6).xa.k1
                    have m2 := (T6).xa.k2
                    have p0 := (T6).res.c0
                    have p1 := (T6).res.c1
                    have p2 := (T6).res.c2
                    have y0 := (T6).res.f0
                    have y1 := (T6).res.f1
                    have y2 := (T6).res.f2
                    have TT0 := hid (set3_0 p0 (.slice A1 n1 c1) (.slice A2 n2 c2) (.slice (some ⟨gg, 0, none⟩) (n3 + 1) cap))
                    have TT1 := hid (set3_1 p1 (.slice A1 n1 c1) (.slice A2 n2 c2) (.slice (some ⟨gg, 0, none⟩) (n3 + 1) cap))
                    have TT2 := hid (set3_2 p2 (.slice A1 n1 c1) (.slice A2 n2 c2) (.slice (some ⟨gg, 0, none⟩) (n3 + 1) cap))
                    simp only at m0 m1 m2
                    have FEW : Hid (FewX 62 _) := (FewX.wy (z := ⟨f, g, mm⟩) (TP.out) ⟨zza, zzb⟩).up (by omega)
                    go_wp2_with fail
                    have t0 := TT0.out
                    have t1 := TT1.out
                    have t2 := TT2.out
                    refine bodyPost_ret (v := .agg #[.slice A1 n1 c1, .slice A2 n2 c2, .slice (some ⟨gg, 0, none⟩) (n3 + 1) cap]) (by simp [results, Tryz.results40, go_sem, t0, t1, t2]) rfl ⟨⟨A1, n1, c1, A2, n2, c2, (some ⟨gg, 0, none⟩), (n3 + 1), cap⟩, _, rfl, FIN.out.1, FEW.out, FIN.out.2.1, FIN.out.2.2⟩
                  exact AllReadyH.nil
                exact AllReadyH.nil
              exact AllReadyH.nil
            exact AllReadyH.nil
          exact AllReadyH.nil
        exact AllReadyH.nil
      exact AllReadyH.nil
    refine AllReadyH.cons rfl (fun K hK => ?_) ?_
    · skip
      go_simp
      have N9 : Hid ((w3.drew.alloc (.cells #[.int .i64 (-1), .int .i64 0, .int .i64 1, .int .i64 2000, .int .i64 2001] 2)).ownsRow (w3.heap.size) 2 1 (.slice (some ⟨w3.heap.size, 0, none⟩) 5 5) 5 (([(-1), 0, 1, 2000, 2001] : List Int).flatMap encI)) := by
        have := World.ownsRow_lit (base := w3.drew.heap.size) (e := 2) (size := 1) (w3.drew) #[.int .i64 (-1), .int .i64 0, .int .i64 1, .int .i64 2000, .int .i64 2001] 5 (Nat.le_refl _) (by simp [maxLen]) (by simp)
        simpa [Hid, encI] using this
      replace TC := hid (TC.out.alloc (.cells #[.int .i64 (-1), .int .i64 0, .int .i64 1, .int .i64 2000, .int .i64 2001] 2))
      refine hK.out _ _ ?_ (fun hH2 => ?_)
      · (try dsimp only); (exact below_cell hHeld ((Below.refl _ _).alloc (Nat.le_refl _) _))
      clear hK K hHeld; have hHeld := hH2; clear hH2
      refine wpAnyH_ready (rs := [3, 6]) (by kernel_rfl) (by simp) ?_
      refine AllReadyH.cons rfl (fun K hK => ?_) ?_
      · skip
        go_simp
        have N3 : Hid (((w3.drew.alloc (.cells #[.int .i64 (-1), .int .i64 0, .int .i64 1, .int .i64 2000, .int .i64 2001] 2)).alloc (.cells #[.string ⟨#[98, 97, 110, 107]⟩, .string ⟨#[110, 111, 110, 101]⟩] 9)).ownsRow (w3.heap.size + 1) 9 1 (.slice (some ⟨w3.heap.size + 1, 0, none⟩) 2 2) 2 (([⟨#[98, 97, 110, 107]⟩, ⟨#[110, 111, 110, 101]⟩] : List ByteArray).flatMap encS)) := by
          have := World.ownsRow_lit (base := (w3.drew.alloc (.cells #[.int .i64 (-1), .int .i64 0, .int .i64 1, .int .i64 2000, .int .i64 2001] 2)).heap.size) (e := 9) (size := 1) ((w3.drew.alloc (.cells #[.int .i64 (-1), .int .i64 0, .int .i64 1, .int .i64 2000, .int .i64 2001] 2))) #[.string ⟨#[98, 97, 110, 107]⟩, .string ⟨#[110, 111, 110, 101]⟩] 2 (Nat.le_refl _) (by simp [maxLen]) (by simp)
          simpa [Hid, encS] using this
        replace N9 := hid (ow_alloc (o := (.cells #[.string ⟨#[98, 97, 110, 107]⟩, .string ⟨#[110, 111, 110, 101]⟩] 9)) N9.out)
        replace TC := hid (TC.out.alloc (.cells #[.string ⟨#[98, 97, 110, 107]⟩, .string ⟨#[110, 111, 110, 101]⟩] 9))
        refine hK.out _ _ ?_ (fun hH2 => ?_)
        · (try dsimp only); (exact below_cell hHeld ((Below.refl _ _).alloc (Nat.le_refl _) _))
        clear hK K hHeld; have hHeld := hH2; clear hH2
        refine wpAnyH_ready (rs := [4, 6]) (by kernel_rfl) (by simp) ?_
        refine AllReadyH.cons rfl (fun K hK => ?_) ?_
        · skip
          go_simp
          go_wp2_with (go_at_call 67; refine (text_any gs (k + 102) (some ⟨w3.heap.size + 1, 0, none⟩) 2 2 [⟨#[98, 97, 110, 107]⟩, ⟨#[110, 111, 110, 101]⟩] _ TC.out.src (by omega) (by omega) (by omega) (own_sl encS_len (by omega) N3.out) (fun b off s e => by injection e with e; injection e with e; omega)).mono ?_; rintro r wa ⟨f, rfl, hza, hsa, hga⟩)
          have zza : f.size ≤ 12 := by
            simp only [List.mem_cons, List.not_mem_nil, or_false] at hza
            rcases hza with rfl | rfl <;> decide
          clear hza
          replace TC := hid (TC.out.pick hsa hga)
          have hya : w3.heap.size ≤ wa.heap.size := by have h := hga.size; (try simp at h); omega
          replace N9 := hid (own_apartS N9.out hga (fun b hb e => by injection hb with hb; subst hb; simp [Value.ownBlock] at e; omega))
          refine hK.out _ _ ?_ (fun hH2 => ?_)
          · (try dsimp only); (exact hga.cell hHeld e1)
          clear hK K hHeld; have hHeld := hH2; clear hH2
          refine wpAnyH_ready (rs := [6]) (by kernel_rfl) (by simp) ?_
          refine AllReadyH.cons rfl (fun K hK => ?_) ?_
          · skip
            go_simp
            have N6 : Hid ((wa.alloc (.cells #[.string ⟨#[98, 97, 110, 107]⟩, .string ⟨#[112, 111, 115, 116]⟩] 9)).ownsRow (wa.heap.size) 9 1 (.slice (some ⟨wa.heap.size, 0, none⟩) 2 2) 2 (([⟨#[98, 97, 110, 107]⟩, ⟨#[112, 111, 115, 116]⟩] : List ByteArray).flatMap encS)) := by
              have := World.ownsRow_lit (base := wa.heap.size) (e := 9) (size := 1) (wa) #[.string ⟨#[98, 97, 110, 107]⟩, .string ⟨#[112, 111, 115, 116]⟩] 2 (Nat.le_refl _) (by simp [maxLen]) (by simp)
              simpa [Hid, encS] using this
            replace N9 := hid (ow_alloc (o := (.cells #[.string ⟨#[98, 97, 110, 107]⟩, .string ⟨#[112, 111, 115, 116]⟩] 9)) N9.out)
            replace TC := hid (TC.out.alloc (.cells #[.string ⟨#[98, 97, 110, 107]⟩, .string ⟨#[112, 111, 115, 116]⟩] 9))
            refine hK.out _ _ ?_ (fun hH2 => ?_)
            · (try dsimp only); (exact below_cell hHeld ((Below.refl _ _).alloc (Nat.le_refl _) _))
            clear hK K hHeld; have hHeld := hH2; clear hH2
            refine wpAnyH_ready (rs := [7]) (by kernel_rfl) (by simp) ?_
            refine AllReadyH.cons rfl (fun K hK => ?_) ?_
            · skip
              go_simp
              go_wp2_with (go_at_call 67; refine (text_any gs (k + 102 + 2) (some ⟨wa.heap.size, 0, none⟩) 2 2 [⟨#[98, 97, 110, 107]⟩, ⟨#[112, 111, 115, 116]⟩] _ TC.out.src (by omega) (by omega) (by omega) (own_sl encS_len (by omega) N6.out) (fun b off s e => by injection e with e; injection e with e; omega)).mono ?_; rintro r wb ⟨g, rfl, hzb, hsb, hgb⟩)
              have zzb : g.size ≤ 12 := by
                simp only [List.mem_cons, List.not_mem_nil, or_false] at hzb
                rcases hzb with rfl | rfl <;> decide
              clear hzb
              replace TC := hid (TC.out.pick hsb hgb)
              have hyb : w3.heap.size ≤ wb.heap.size := by have h := hgb.size; (try simp at h); omega
              replace N9 := hid (own_apartS N9.out hgb (fun b hb e => by injection hb with hb; subst hb; simp [Value.ownBlock] at e; omega))
              refine hK.out _ _ ?_ (fun hH2 => ?_)
              · (try dsimp only); (exact hgb.cell hHeld e1)
              clear hK K hHeld; have hHeld := hH2; clear hH2
              refine wpAnyH_ready (rs := [10]) (by kernel_rfl) (by simp) ?_
              refine AllReadyH.cons rfl (fun K hK => ?_) ?_
              · skip
                go_simp
                go_wp2_with (go_at_call 45; refine (among_any gs (k + 102 + 2 + 2) (some ⟨w3.heap.size, 0, none⟩) 5 5 [(-1), 0, 1, 2000, 2001] _ TC.out.src (by omega) (by omega) (by omega) (own_sl encI_len (by omega) N9.out) (fun b off s e => by injection e with e; injection e with e; omega)).mono ?_; rintro r wc ⟨mm, rfl, hzc, hsc, hgc⟩)
                replace TC := hid (TC.out.pick hsc hgc)
                have hyc : w3.heap.size ≤ wc.heap.size := by have h := hgc.size; (try simp at h); omega
                have HR := hid TC.out.xa.own.wy
                have ga := hgc.cell hHeld e1
                have fa := TC.out.xa.f2
                have la := TC.out.lt
                have loa : lo ≤ wc.heap.size := by have := TC.out.h4; omega
                refine hK.out _ _ ?_ (fun hH2 => ?_)
                · (try dsimp only); (exact ga)
                clear hK K hHeld; have hHeld := hH2; clear hH2
                refine wpAnyH_take (i := 11) (oi := ⟨some 45, Go.Op.build 62 #[(0, Go.Operand.tmp 38), (1, Go.Operand.tmp 41), (2, Go.Operand.tmp 44)], 62, "l21_language.go:395", #[⟨4, Go.Ground.data⟩, ⟨7, Go.Ground.data⟩, ⟨10, Go.Ground.data⟩], none⟩) (v := ?_) rfl (by kernel_rfl) (by kernel_rfl) (by kernel_rfl) (fun _ _ _ h => h) (Or.inl ⟨by rfl, ?_⟩) (by assumption) ?_
                rotate_left
                · intro w hSw; (try dsimp only at hSw); go_split_ands; go_simp; first | done | with_reducible rfl
                (try simp only [Act.put, List.setIfInBounds_toArray, List.set_cons_zero, List.set_cons_succ])
                refine wpAnyH_ready (rs := [12]) (by kernel_rfl) (by simp) ?_
                refine AllReadyH.cons rfl (fun K hK => ?_) ?_
                · skip
                  go_simp
                  refine hK.out _ _ ?_ (fun hH2 => ?_)
                  · (try dsimp only); (exact below_cell hHeld ((Below.refl _ _).alloc (Nat.le_refl _) _))
                  clear hK K hHeld; have hHeld := hH2; clear hH2
                  refine wpAnyH_ready (rs := [13]) (by kernel_rfl) (by simp) ?_
                  refine AllReadyH.cons rfl (fun K hK => ?_) ?_
                  · skip
                    refine step_append_lies _ (by rfl) _ _ _ (by rfl) lo 62 j0 _ 3 40 Tryz.underlying23 hj hy0 hy1 hy2 rfl (by omega) (.slice A3 n3 c3) n3 (x.wy.flatMap encWay) (by rfl) (HR.out.alloc _) ⟨wc.heap.size, 0, none⟩ 1 1 [.string f, .string g, .int .i64 mm] (by rfl) (by rfl) (World.news_of_block (cs := #[.string f, .string g, .int .i64 mm]) (t := 62) (fr := (0, 0)) (heap_alloc_new wc _)) (by simp [Value.oneCell']) (by omega) (by simp only [maxLen]; omega) (by omega) (by simp; omega) (wc.heap.size + 1) (by simp) ?_
                    intro gg cap w5 ho3 hg3 hat3 hlt3
                    have hgg := (gr_alloc (o := .cells #[.string f, .string g, .int .i64 mm] 62) (World.grownBy.refl wc (Value.slice A3 n3 c3).ownBlock)).trans hg3
                    have k0 := hgg.cell ga (fun e => q9 e.symm)
                    have f3 := (hgg.frozen_far ⟨gx, 2, none⟩ la (fun e => q9 e.symm)).trans fa
                    refine hK.out _ _ ?_ (fun hH2 => ?_)
                    · (try dsimp only); (exact k0)
                    clear hK K hHeld; have hHeld := hH2; clear hH2
                    refine wpAnyH_take (i := 14) (oi := ⟨some 48, Go.Op.fieldAddr 25 (Go.Operand.tmp 3) 2, 0, "l21_language.go:395", #[⟨0, Go.Ground.phase⟩, ⟨1, Go.Ground.phase⟩, ⟨2, Go.Ground.phase⟩, ⟨3, Go.Ground.phase⟩, ⟨4, Go.Ground.phase⟩, ⟨5, Go.Ground.phase⟩, ⟨6, Go.Ground.phase⟩, ⟨7, Go.Ground.phase⟩, ⟨8, Go.Ground.phase⟩, ⟨9, Go.Ground.phase⟩, ⟨10, Go.Ground.phase⟩, ⟨11, Go.Ground.phase⟩, ⟨12, Go.Ground.phase⟩, ⟨13, Go.Ground.phase⟩], none⟩) (v := ?_) rfl (by kernel_rfl) (by kernel_rfl) (by kernel_rfl) (fun _ _ _ h => h) (Or.inl ⟨by rfl, ?_⟩) (by assumption) ?_
                    rotate_left
                    · intro w hSw; (try dsimp only at hSw); go_split_ands; go_simp; first | done | with_reducible rfl
                    (try simp only [Act.put, List.setIfInBounds_toArray])
                    refine wpAnyH_done (by kernel_rfl) ?_ _
                    refine last_step rfl rfl (fun K hK => ?_)
                    go_simp
                    refine hK.out _ _ ?_
                    clear hK K
                    have X6 := TC.out.xa.put3 (z := ⟨f, g, mm⟩) (H := wc.heap.size + 1) hgg (by omega) hat3 (by simpa [encWay] using ho3)
                    have T6 := TC.out.put hgg (fun b hb => (HR.out.lt b hb).1) X6
                    obtain ⟨W6, hW6⟩ : ∃ W6, W6 = w5.setCell ⟨gx, 2, none⟩ (.slice (some ⟨gg, 0, none⟩) (n3 + 1) cap) := ⟨_, rfl⟩
                    rw [← hW6] at T6
                    rw [← hW6]
                    clear X6 hW6 ho3 hgg hg3 HR TC hHeld d0 ga k0 f3
                    have FIN := hid ((T6).up (show _ ≤ k + 120 by omega)).fin
                    have m0 := (T6).xa.k0
                    have m1 := (T6).xa.k1
                    have m2 := (T6).xa.k2
                    have p0 := (T6).res.c0
                    have p1 := (T6).res.c1
                    have p2 := (T6).res.c2
                    have y0 := (T6).res.f0
                    have y1 := (T6).res.f1
                    have y2 := (T6).res.f2
                    have TT0 := hid (set3_0 p0 (.slice A1 n1 c1) (.slice A2 n2 c2) (.slice (some ⟨gg, 0, none⟩) (n3 + 1) cap))
                    have TT1 := hid (set3_1 p1 (.slice A1 n1 c1) (.slice A2 n2 c2) (.slice (some ⟨gg, 0, none⟩) (n3 + 1) cap))
                    have TT2 := hid (set3_2 p2 (.slice A1 n1 c1) (.slice A2 n2 c2) (.slice (some ⟨gg, 0, none⟩) (n3 + 1) cap))
                    simp only at m0 m1 m2
                    have FEW : Hid (FewX 62 _) := (FewX.wy (z := ⟨f, g, mm⟩) (TP.out) ⟨zza, zzb⟩).up (by omega)
                    go_wp2_with fail
                    have t0 := TT0.out
                    have t1 := TT1.out
                    have t2 := TT2.out
                    refine bodyPost_ret (v := .agg #[.slice A1 n1 c1, .slice A2 n2 c2, .slice (some ⟨gg, 0, none⟩) (n3 + 1) cap]) (by simp [results, Tryz.results40, go_sem, t0, t1, t2]) rfl ⟨⟨A1, n1, c1, A2, n2, c2, (some ⟨gg, 0, none⟩), (n3 + 1), cap⟩, _, rfl, FIN.out.1, FEW.out, FIN.out.2.1, FIN.out.2.2⟩
                  exact AllReadyH.nil
                exact AllReadyH.nil
              exact AllReadyH.nil
            exact AllReadyH.nil
          exact AllReadyH.nil
        refine AllReadyH.cons rfl (fun K hK => ?_) ?_
        · skip
          go_simp
          have N6 : Hid ((((w3.drew.alloc (.cells #[.int .i64 (-1), .int .i64 0, .int .i64 1, .int .i64 2000, .int .i64 2001] 2)).alloc (.cells #[.string ⟨#[98, 97, 110, 107]⟩, .string ⟨#[110, 111, 110, 101]⟩] 9)).alloc (.cells #[.string ⟨#[98, 97, 110, 107]⟩, .string ⟨#[112, 111, 115, 116]⟩] 9)).ownsRow (w3.heap.size + 1 + 1) 9 1 (.slice (some ⟨w3.heap.size + 1 + 1, 0, none⟩) 2 2) 2 (([⟨#[98, 97, 110, 107]⟩, ⟨#[112, 111, 115, 116]⟩] : List ByteArray).flatMap encS)) := by
            have := World.ownsRow_lit (base := ((w3.drew.alloc (.cells #[.int .i64 (-1), .int .i64 0, .int .i64 1, .int .i64 2000, .int .i64 2001] 2)).alloc (.cells #[.string ⟨#[98, 97, 110, 107]⟩, .string ⟨#[110, 111, 110, 101]⟩] 9)).heap.size) (e := 9) (size := 1) (((w3.drew.alloc (.cells #[.int .i64 (-1), .int .i64 0, .int .i64 1, .int .i64 2000, .int .i64 2001] 2)).alloc (.cells #[.string ⟨#[98, 97, 110, 107]⟩, .string ⟨#[110, 111, 110, 101]⟩] 9))) #[.string ⟨#[98, 97, 110, 107]⟩, .string ⟨#[112, 111, 115, 116]⟩] 2 (Nat.le_refl _) (by simp [maxLen]) (by simp)
            simpa [Hid, encS] using this
          replace N9 := hid (ow_alloc (o := (.cells #[.string ⟨#[98, 97, 110, 107]⟩, .string ⟨#[112, 111, 115, 116]⟩] 9)) N9.out)
          replace N3 := hid (ow_alloc (o := (.cells #[.string ⟨#[98, 97, 110, 107]⟩, .string ⟨#[112, 111, 115, 116]⟩] 9)) N3.out)
          replace TC := hid (TC.out.alloc (.cells #[.string ⟨#[98, 97, 110, 107]⟩, .string ⟨#[112, 111, 115, 116]⟩] 9))
          refine hK.out _ _ ?_ (fun hH2 => ?_)
          · (try dsimp only); (exact below_cell hHeld ((Below.refl _ _).alloc (Nat.le_refl _) _))
          clear hK K hHeld; have hHeld := hH2; clear hH2
          refine wpAnyH_ready (rs := [4]) (by kernel_rfl) (by simp) ?_
          refine AllReadyH.cons rfl (fun K hK => ?_) ?_
          · skip
            go_simp
            go_wp2_with (go_at_call 67; refine (text_any gs (k + 102) (some ⟨w3.heap.size + 1, 0, none⟩) 2 2 [⟨#[98, 97, 110, 107]⟩, ⟨#[110, 111, 110, 101]⟩] _ TC.out.src (by omega) (by omega) (by omega) (own_sl encS_len (by omega) N3.out) (fun b off s e => by injection e with e; injection e with e; omega)).mono ?_; rintro r wa ⟨f, rfl, hza, hsa, hga⟩)
            have zza : f.size ≤ 12 := by
              simp only [List.mem_cons, List.not_mem_nil, or_false] at hza
              rcases hza with rfl | rfl <;> decide
            clear hza
            replace TC := hid (TC.out.pick hsa hga)
            have hya : w3.heap.size ≤ wa.heap.size := by have h := hga.size; (try simp at h); omega
            replace N9 := hid (own_apartS N9.out hga (fun b hb e => by injection hb with hb; subst hb; simp [Value.ownBlock] at e; omega))
            replace N6 := hid (own_apartS N6.out hga (fun b hb e => by injection hb with hb; subst hb; simp [Value.ownBlock] at e; omega))
            refine hK.out _ _ ?_ (fun hH2 => ?_)
            · (try dsimp only); (exact hga.cell hHeld e1)
            clear hK K hHeld; have hHeld := hH2; clear hH2
            refine wpAnyH_ready (rs := [7]) (by kernel_rfl) (by simp) ?_
            refine AllReadyH.cons rfl (fun K hK => ?_) ?_
            · skip
              go_simp
              go_wp2_with (go_at_call 67; refine (text_any gs (k + 102 + 2) (some ⟨w3.heap.size + 1 + 1, 0, none⟩) 2 2 [⟨#[98, 97, 110, 107]⟩, ⟨#[112, 111, 115, 116]⟩] _ TC.out.src (by omega) (by omega) (by omega) (own_sl encS_len (by omega) N6.out) (fun b off s e => by injection e with e; injection e with e; omega)).mono ?_; rintro r wb ⟨g, rfl, hzb, hsb, hgb⟩)
              have zzb : g.size ≤ 12 := by
                simp only [List.mem_cons, List.not_mem_nil, or_false] at hzb
                rcases hzb with rfl | rfl <;> decide
              clear hzb
              replace TC := hid (TC.out.pick hsb hgb)
              have hyb : w3.heap.size ≤ wb.heap.size := by have h := hgb.size; (try simp at h); omega
              replace N9 := hid (own_apartS N9.out hgb (fun b hb e => by injection hb with hb; subst hb; simp [Value.ownBlock] at e; omega))
              refine hK.out _ _ ?_ (fun hH2 => ?_)
              · (try dsimp only); (exact hgb.cell hHeld e1)
              clear hK K hHeld; have hHeld := hH2; clear hH2
              refine wpAnyH_ready (rs := [10]) (by kernel_rfl) (by simp) ?_
              refine AllReadyH.cons rfl (fun K hK => ?_) ?_
              · skip
                go_simp
                go_wp2_with (go_at_call 45; refine (among_any gs (k + 102 + 2 + 2) (some ⟨w3.heap.size, 0, none⟩) 5 5 [(-1), 0, 1, 2000, 2001] _ TC.out.src (by omega) (by omega) (by omega) (own_sl encI_len (by omega) N9.out) (fun b off s e => by injection e with e; injection e with e; omega)).mono ?_; rintro r wc ⟨mm, rfl, hzc, hsc, hgc⟩)
                replace TC := hid (TC.out.pick hsc hgc)
                have hyc : w3.heap.size ≤ wc.heap.size := by have h := hgc.size; (try simp at h); omega
                have HR := hid TC.out.xa.own.wy
                have ga := hgc.cell hHeld e1
                have fa := TC.out.xa.f2
                have la := TC.out.lt
                have loa : lo ≤ wc.heap.size := by have := TC.out.h4; omega
                refine hK.out _ _ ?_ (fun hH2 => ?_)
                · (try dsimp only); (exact ga)
                clear hK K hHeld; have hHeld := hH2; clear hH2
                refine wpAnyH_take (i := 11) (oi := ⟨some 45, Go.Op.build 62 #[(0, Go.Operand.tmp 38), (1, Go.Operand.tmp 41), (2, Go.Operand.tmp 44)], 62, "l21_language.go:395", #[⟨4, Go.Ground.data⟩, ⟨7, Go.Ground.data⟩, ⟨10, Go.Ground.data⟩], none⟩) (v := ?_) rfl (by kernel_rfl) (by kernel_rfl) (by kernel_rfl) (fun _ _ _ h => h) (Or.inl ⟨by rfl, ?_⟩) (by assumption) ?_
                rotate_left
                · intro w hSw; (try dsimp only at hSw); go_split_ands; go_simp; first | done | with_reducible rfl
                (try simp only [Act.put, List.setIfInBounds_toArray, List.set_cons_zero, List.set_cons_succ])
                refine wpAnyH_ready (rs := [12]) (by kernel_rfl) (by simp) ?_
                refine AllReadyH.cons rfl (fun K hK => ?_) ?_
                · skip
                  go_simp
                  refine hK.out _ _ ?_ (fun hH2 => ?_)
                  · (try dsimp only); (exact below_cell hHeld ((Below.refl _ _).alloc (Nat.le_refl _) _))
                  clear hK K hHeld; have hHeld := hH2; clear hH2
                  refine wpAnyH_ready (rs := [13]) (by kernel_rfl) (by simp) ?_
                  refine AllReadyH.cons rfl (fun K hK => ?_) ?_
                  · skip
                    refine step_append_lies _ (by rfl) _ _ _ (by rfl) lo 62 j0 _ 3 40 Tryz.underlying23 hj hy0 hy1 hy2 rfl (by omega) (.slice A3 n3 c3) n3 (x.wy.flatMap encWay) (by rfl) (HR.out.alloc _) ⟨wc.heap.size, 0, none⟩ 1 1 [.string f, .string g, .int .i64 mm] (by rfl) (by rfl) (World.news_of_block (cs := #[.string f, .string g, .int .i64 mm]) (t := 62) (fr := (0, 0)) (heap_alloc_new wc _)) (by simp [Value.oneCell']) (by omega) (by simp only [maxLen]; omega) (by omega) (by simp; omega) (wc.heap.size + 1) (by simp) ?_
                    intro gg cap w5 ho3 hg3 hat3 hlt3
                    have hgg := (gr_alloc (o := .cells #[.string f, .string g, .int .i64 mm] 62) (World.grownBy.refl wc (Value.slice A3 n3 c3).ownBlock)).trans hg3
                    have k0 := hgg.cell ga (fun e => q9 e.symm)
                    have f3 := (hgg.frozen_far ⟨gx, 2, none⟩ la (fun e => q9 e.symm)).trans fa
                    refine hK.out _ _ ?_ (fun hH2 => ?_)
                    · (try dsimp only); (exact k0)
                    clear hK K hHeld; have hHeld := hH2; clear hH2
                    refine wpAnyH_take (i := 14) (oi := ⟨some 48, Go.Op.fieldAddr 25 (Go.Operand.tmp 3) 2, 0, "l21_language.go:395", #[⟨0, Go.Ground.phase⟩, ⟨1, Go.Ground.phase⟩, ⟨2, Go.Ground.phase⟩, ⟨3, Go.Ground.phase⟩, ⟨4, Go.Ground.phase⟩, ⟨5, Go.Ground.phase⟩, ⟨6, Go.Ground.phase⟩, ⟨7, Go.Ground.phase⟩, ⟨8, Go.Ground.phase⟩, ⟨9, Go.Ground.phase⟩, ⟨10, Go.Ground.phase⟩, ⟨11, Go.Ground.phase⟩, ⟨12, Go.Ground.phase⟩, ⟨13, Go.Ground.phase⟩], none⟩) (v := ?_) rfl (by kernel_rfl) (by kernel_rfl) (by kernel_rfl) (fun _ _ _ h => h) (Or.inl ⟨by rfl, ?_⟩) (by assumption) ?_
                    rotate_left
                    · intro w hSw; (try dsimp only at hSw); go_split_ands; go_simp; first | done | with_reducible rfl
                    (try simp only [Act.put, List.setIfInBounds_toArray])
                    refine wpAnyH_done (by kernel_rfl) ?_ _
                    refine last_step rfl rfl (fun K hK => ?_)
                    go_simp
                    refine hK.out _ _ ?_
                    clear hK K
                    have X6 := TC.out.xa.put3 (z := ⟨f, g, mm⟩) (H := wc.heap.size + 1) hgg (by omega) hat3 (by simpa [encWay] using ho3)
                    have T6 := TC.out.put hgg (fun b hb => (HR.out.lt b hb).1) X6
                    obtain ⟨W6, hW6⟩ : ∃ W6, W6 = w5.setCell ⟨gx, 2, none⟩ (.slice (some ⟨gg, 0, none⟩) (n3 + 1) cap) := ⟨_, rfl⟩
                    rw [← hW6] at T6
                    rw [← hW6]
                    clear X6 hW6 ho3 hgg hg3 HR TC hHeld d0 ga k0 f3
                    have FIN := hid ((T6).up (show _ ≤ k + 120 by omega)).fin
                    have m0 := (T6).xa.k0
                    have m1 := (T6).xa.k1
                    have m2 := (T6).xa.k2
                    have p0 := (T6).res.c0
                    have p1 := (T6).res.c1
                    have p2 := (T6).res.c2
                    have y0 := (T6).res.f0
                    have y1 := (T6).res.f1
                    have y2 := (T6).res.f2
                    have TT0 := hid (set3_0 p0 (.slice A1 n1 c1) (.slice A2 n2 c2) (.slice (some ⟨gg, 0, none⟩) (n3 + 1) cap))
                    have TT1 := hid (set3_1 p1 (.slice A1 n1 c1) (.slice A2 n2 c2) (.slice (some ⟨gg, 0, none⟩) (n3 + 1) cap))
                    have TT2 := hid (set3_2 p2 (.slice A1 n1 c1) (.slice A2 n2 c2) (.slice (some ⟨gg, 0, none⟩) (n3 + 1) cap))
                    simp only at m0 m1 m2
                    have FEW : Hid (FewX 62 _) := (FewX.wy (z := ⟨f, g, mm⟩) (TP.out) ⟨zza, zzb⟩).up (by omega)
                    go_wp2_with fail
                    have t0 := TT0.out
                    have t1 := TT1.out
                    have t2 := TT2.out
                    refine bodyPost_ret (v := .agg #[.slice A1 n1 c1, .slice A2 n2 c2, .slice (some ⟨gg, 0, none⟩) (n3 + 1) cap]) (by simp [results, Tryz.results40, go_sem, t0, t1, t2]) rfl ⟨⟨A1, n1, c1, A2, n2, c2, (some ⟨gg, 0, none⟩), (n3 + 1), cap⟩, _, rfl, FIN.out.1, FEW.out, FIN.out.2.1, FIN.out.2.2⟩
                  exact AllReadyH.nil
                exact AllReadyH.nil
              exact AllReadyH.nil
            exact AllReadyH.nil
          exact AllReadyH.nil
        exact AllReadyH.nil
      refine AllReadyH.cons rfl (fun K hK => ?_) ?_
      · skip
        go_simp
        have N6 : Hid (((w3.drew.alloc (.cells #[.int .i64 (-1), .int .i64 0, .int .i64 1, .int .i64 2000, .int .i64 2001] 2)).alloc (.cells #[.string ⟨#[98, 97, 110, 107]⟩, .string ⟨#[112, 111, 115, 116]⟩] 9)).ownsRow (w3.heap.size + 1) 9 1 (.slice (some ⟨w3.heap.size + 1, 0, none⟩) 2 2) 2 (([⟨#[98, 97, 110, 107]⟩, ⟨#[112, 111, 115, 116]⟩] : List ByteArray).flatMap encS)) := by
          have := World.ownsRow_lit (base := (w3.drew.alloc (.cells #[.int .i64 (-1), .int .i64 0, .int .i64 1, .int .i64 2000, .int .i64 2001] 2)).heap.size) (e := 9) (size := 1) ((w3.drew.alloc (.cells #[.int .i64 (-1), .int .i64 0, .int .i64 1, .int .i64 2000, .int .i64 2001] 2))) #[.string ⟨#[98, 97, 110, 107]⟩, .string ⟨#[112, 111, 115, 116]⟩] 2 (Nat.le_refl _) (by simp [maxLen]) (by simp)
          simpa [Hid, encS] using this
        replace N9 := hid (ow_alloc (o := (.cells #[.string ⟨#[98, 97, 110, 107]⟩, .string ⟨#[112, 111, 115, 116]⟩] 9)) N9.out)
        replace TC := hid (TC.out.alloc (.cells #[.string ⟨#[98, 97, 110, 107]⟩, .string ⟨#[112, 111, 115, 116]⟩] 9))
        refine hK.out _ _ ?_ (fun hH2 => ?_)
        · (try dsimp only); (exact below_cell hHeld ((Below.refl _ _).alloc (Nat.le_refl _) _))
        clear hK K hHeld; have hHeld := hH2; clear hH2
        refine wpAnyH_ready (rs := [3]) (by kernel_rfl) (by simp) ?_
        refine AllReadyH.cons rfl (fun K hK => ?_) ?_
        · skip
          go_simp
          have N3 : Hid ((((w3.drew.alloc (.cells #[.int .i64 (-1), .int .i64 0, .int .i64 1, .int .i64 2000, .int .i64 2001] 2)).alloc (.cells #[.string ⟨#[98, 97, 110, 107]⟩, .string ⟨#[112, 111, 115, 116]⟩] 9)).alloc (.cells #[.string ⟨#[98, 97, 110, 107]⟩, .string ⟨#[110, 111, 110, 101]⟩] 9)).ownsRow (w3.heap.size + 1 + 1) 9 1 (.slice (some ⟨w3.heap.size + 1 + 1, 0, none⟩) 2 2) 2 (([⟨#[98, 97, 110, 107]⟩, ⟨#[110, 111, 110, 101]⟩] : List ByteArray).flatMap encS)) := by
            have := World.ownsRow_lit (base := ((w3.drew.alloc (.cells #[.int .i64 (-1), .int .i64 0, .int .i64 1, .int .i64 2000, .int .i64 2001] 2)).alloc (.cells #[.string ⟨#[98, 97, 110, 107]⟩, .string ⟨#[112, 111, 115, 116]⟩] 9)).heap.size) (e := 9) (size := 1) (((w3.drew.alloc (.cells #[.int .i64 (-1), .int .i64 0, .int .i64 1, .int .i64 2000, .int .i64 2001] 2)).alloc (.cells #[.string ⟨#[98, 97, 110, 107]⟩, .string ⟨#[112, 111, 115, 116]⟩] 9))) #[.string ⟨#[98, 97, 110, 107]⟩, .string ⟨#[110, 111, 110, 101]⟩] 2 (Nat.le_refl _) (by simp [maxLen]) (by simp)
            simpa [Hid, encS] using this
          replace N9 := hid (ow_alloc (o := (.cells #[.string ⟨#[98, 97, 110, 107]⟩, .string ⟨#[110, 111, 110, 101]⟩] 9)) N9.out)
          replace N6 := hid (ow_alloc (o := (.cells #[.string ⟨#[98, 97, 110, 107]⟩, .string ⟨#[110, 111, 110, 101]⟩] 9)) N6.out)
          replace TC := hid (TC.out.alloc (.cells #[.string ⟨#[98, 97, 110, 107]⟩, .string ⟨#[110, 111, 110, 101]⟩] 9))
          refine hK.out _ _ ?_ (fun hH2 => ?_)
          · (try dsimp only); (exact below_cell hHeld ((Below.refl _ _).alloc (Nat.le_refl _) _))
          clear hK K hHeld; have hHeld := hH2; clear hH2
          refine wpAnyH_ready (rs := [4]) (by kernel_rfl) (by simp) ?_
          refine AllReadyH.cons rfl (fun K hK => ?_) ?_
          · skip
            go_simp
            go_wp2_with (go_at_call 67; refine (text_any gs (k + 102) (some ⟨w3.heap.size + 1 + 1, 0, none⟩) 2 2 [⟨#[98, 97, 110, 107]⟩, ⟨#[110, 111, 110, 101]⟩] _ TC.out.src (by omega) (by omega) (by omega) (own_sl encS_len (by omega) N3.out) (fun b off s e => by injection e with e; injection e with e; omega)).mono ?_; rintro r wa ⟨f, rfl, hza, hsa, hga⟩)
            have zza : f.size ≤ 12 := by
              simp only [List.mem_cons, List.not_mem_nil, or_false] at hza
              rcases hza with rfl | rfl <;> decide
            clear hza
            replace TC := hid (TC.out.pick hsa hga)
            have hya : w3.heap.size ≤ wa.heap.size := by have h := hga.size; (try simp at h); omega
            replace N9 := hid (own_apartS N9.out hga (fun b hb e => by injection hb with hb; subst hb; simp [Value.ownBlock] at e; omega))
            replace N6 := hid (own_apartS N6.out hga (fun b hb e => by injection hb with hb; subst hb; simp [Value.ownBlock] at e; omega))
            refine hK.out _ _ ?_ (fun hH2 => ?_)
            · (try dsimp only); (exact hga.cell hHeld e1)
            clear hK K hHeld; have hHeld := hH2; clear hH2
            refine wpAnyH_ready (rs := [7]) (by kernel_rfl) (by simp) ?_
            refine AllReadyH.cons rfl (fun K hK => ?_) ?_
            · skip
              go_simp
              go_wp2_with (go_at_call 67; refine (text_any gs (k + 102 + 2) (some ⟨w3.heap.size + 1, 0, none⟩) 2 2 [⟨#[98, 97, 110, 107]⟩, ⟨#[112, 111, 115, 116]⟩] _ TC.out.src (by omega) (by omega) (by omega) (own_sl encS_len (by omega) N6.out) (fun b off s e => by injection e with e; injection e with e; omega)).mono ?_; rintro r wb ⟨g, rfl, hzb, hsb, hgb⟩)
              have zzb : g.size ≤ 12 := by
                simp only [List.mem_cons, List.not_mem_nil, or_false] at hzb
                rcases hzb with rfl | rfl <;> decide
              clear hzb
              replace TC := hid (TC.out.pick hsb hgb)
              have hyb : w3.heap.size ≤ wb.heap.size := by have h := hgb.size; (try simp at h); omega
              replace N9 := hid (own_apartS N9.out hgb (fun b hb e => by injection hb with hb; subst hb; simp [Value.ownBlock] at e; omega))
              refine hK.out _ _ ?_ (fun hH2 => ?_)
              · (try dsimp only); (exact hgb.cell hHeld e1)
              clear hK K hHeld; have hHeld := hH2; clear hH2
              refine wpAnyH_ready (rs := [10]) (by kernel_rfl) (by simp) ?_
              refine AllReadyH.cons rfl (fun K hK => ?_) ?_
              · skip
                go_simp
                go_wp2_with (go_at_call 45; refine (among_any gs (k + 102 + 2 + 2) (some ⟨w3.heap.size, 0, none⟩) 5 5 [(-1), 0, 1, 2000, 2001] _ TC.out.src (by omega) (by omega) (by omega) (own_sl encI_len (by omega) N9.out) (fun b off s e => by injection e with e; injection e with e; omega)).mono ?_; rintro r wc ⟨mm, rfl, hzc, hsc, hgc⟩)
                replace TC := hid (TC.out.pick hsc hgc)
                have hyc : w3.heap.size ≤ wc.heap.size := by have h := hgc.size; (try simp at h); omega
                have HR := hid TC.out.xa.own.wy
                have ga := hgc.cell hHeld e1
                have fa := TC.out.xa.f2
                have la := TC.out.lt
                have loa : lo ≤ wc.heap.size := by have := TC.out.h4; omega
                refine hK.out _ _ ?_ (fun hH2 => ?_)
                · (try dsimp only); (exact ga)
                clear hK K hHeld; have hHeld := hH2; clear hH2
                refine wpAnyH_take (i := 11) (oi := ⟨some 45, Go.Op.build 62 #[(0, Go.Operand.tmp 38), (1, Go.Operand.tmp 41), (2, Go.Operand.tmp 44)], 62, "l21_language.go:395", #[⟨4, Go.Ground.data⟩, ⟨7, Go.Ground.data⟩, ⟨10, Go.Ground.data⟩], none⟩) (v := ?_) rfl (by kernel_rfl) (by kernel_rfl) (by kernel_rfl) (fun _ _ _ h => h) (Or.inl ⟨by rfl, ?_⟩) (by assumption) ?_
                rotate_left
                · intro w hSw; (try dsimp only at hSw); go_split_ands; go_simp; first | done | with_reducible rfl
                (try simp only [Act.put, List.setIfInBounds_toArray, List.set_cons_zero, List.set_cons_succ])
                refine wpAnyH_ready (rs := [12]) (by kernel_rfl) (by simp) ?_
                refine AllReadyH.cons rfl (fun K hK => ?_) ?_
                · skip
                  go_simp
                  refine hK.out _ _ ?_ (fun hH2 => ?_)
                  · (try dsimp only); (exact below_cell hHeld ((Below.refl _ _).alloc (Nat.le_refl _) _))
                  clear hK K hHeld; have hHeld := hH2; clear hH2
                  refine wpAnyH_ready (rs := [13]) (by kernel_rfl) (by simp) ?_
                  refine AllReadyH.cons rfl (fun K hK => ?_) ?_
                  · skip
                    refine step_append_lies _ (by rfl) _ _ _ (by rfl) lo 62 j0 _ 3 40 Tryz.underlying23 hj hy0 hy1 hy2 rfl (by omega) (.slice A3 n3 c3) n3 (x.wy.flatMap encWay) (by rfl) (HR.out.alloc _) ⟨wc.heap.size, 0, none⟩ 1 1 [.string f, .string g, .int .i64 mm] (by rfl) (by rfl) (World.news_of_block (cs := #[.string f, .string g, .int .i64 mm]) (t := 62) (fr := (0, 0)) (heap_alloc_new wc _)) (by simp [Value.oneCell']) (by omega) (by simp only [maxLen]; omega) (by omega) (by simp; omega) (wc.heap.size + 1) (by simp) ?_
                    intro gg cap w5 ho3 hg3 hat3 hlt3
                    have hgg := (gr_alloc (o := .cells #[.string f, .string g, .int .i64 mm] 62) (World.grownBy.refl wc (Value.slice A3 n3 c3).ownBlock)).trans hg3
                    have k0 := hgg.cell ga (fun e => q9 e.symm)
                    have f3 := (hgg.frozen_far ⟨gx, 2, none⟩ la (fun e => q9 e.symm)).trans fa
                    refine hK.out _ _ ?_ (fun hH2 => ?_)
                    · (try dsimp only); (exact k0)
                    clear hK K hHeld; have hHeld := hH2; clear hH2
                    refine wpAnyH_take (i := 14) (oi := ⟨some 48, Go.Op.fieldAddr 25 (Go.Operand.tmp 3) 2, 0, "l21_language.go:395", #[⟨0, Go.Ground.phase⟩, ⟨1, Go.Ground.phase⟩, ⟨2, Go.Ground.phase⟩, ⟨3, Go.Ground.phase⟩, ⟨4, Go.Ground.phase⟩, ⟨5, Go.Ground.phase⟩, ⟨6, Go.Ground.phase⟩, ⟨7, Go.Ground.phase⟩, ⟨8, Go.Ground.phase⟩, ⟨9, Go.Ground.phase⟩, ⟨10, Go.Ground.phase⟩, ⟨11, Go.Ground.phase⟩, ⟨12, Go.Ground.phase⟩, ⟨13, Go.Ground.phase⟩], none⟩) (v := ?_) rfl (by kernel_rfl) (by kernel_rfl) (by kernel_rfl) (fun _ _ _ h => h) (Or.inl ⟨by rfl, ?_⟩) (by assumption) ?_
                    rotate_left
                    · intro w hSw; (try dsimp only at hSw); go_split_ands; go_simp; first | done | with_reducible rfl
                    (try simp only [Act.put, List.setIfInBounds_toArray])
                    refine wpAnyH_done (by kernel_rfl) ?_ _
                    refine last_step rfl rfl (fun K hK => ?_)
                    go_simp
                    refine hK.out _ _ ?_
                    clear hK K
                    have X6 := TC.out.xa.put3 (z := ⟨f, g, mm⟩) (H := wc.heap.size + 1) hgg (by omega) hat3 (by simpa [encWay] using ho3)
                    have T6 := TC.out.put hgg (fun b hb => (HR.out.lt b hb).1) X6
                    obtain ⟨W6, hW6⟩ : ∃ W6, W6 = w5.setCell ⟨gx, 2, none⟩ (.slice (some ⟨gg, 0, none⟩) (n3 + 1) cap) := ⟨_, rfl⟩
                    rw [← hW6] at T6
                    rw [← hW6]
                    clear X6 hW6 ho3 hgg hg3 HR TC hHeld d0 ga k0 f3
                    have FIN := hid ((T6).up (show _ ≤ k + 120 by omega)).fin
                    have m0 := (T6).xa.k0
                    have m1 := (T6).xa.k1
                    have m2 := (T6).xa.k2
                    have p0 := (T6).res.c0
                    have p1 := (T6).res.c1
                    have p2 := (T6).res.c2
                    have y0 := (T6).res.f0
                    have y1 := (T6).res.f1
                    have y2 := (T6).res.f2
                    have TT0 := hid (set3_0 p0 (.slice A1 n1 c1) (.slice A2 n2 c2) (.slice (some ⟨gg, 0, none⟩) (n3 + 1) cap))
                    have TT1 := hid (set3_1 p1 (.slice A1 n1 c1) (.slice A2 n2 c2) (.slice (some ⟨gg, 0, none⟩) (n3 + 1) cap))
                    have TT2 := hid (set3_2 p2 (.slice A1 n1 c1) (.slice A2 n2 c2) (.slice (some ⟨gg, 0, none⟩) (n3 + 1) cap))
                    simp only at m0 m1 m2
                    have FEW : Hid (FewX 62 _) := (FewX.wy (z := ⟨f, g, mm⟩) (TP.out) ⟨zza, zzb⟩).up (by omega)
                    go_wp2_with fail
                    have t0 := TT0.out
                    have t1 := TT1.out
                    have t2 := TT2.out
                    refine bodyPost_ret (v := .agg #[.slice A1 n1 c1, .slice A2 n2 c2, .slice (some ⟨gg, 0, none⟩) (n3 + 1) cap]) (by simp [results, Tryz.results40, go_sem, t0, t1, t2]) rfl ⟨⟨A1, n1, c1, A2, n2, c2, (some ⟨gg, 0, none⟩), (n3 + 1), cap⟩, _, rfl, FIN.out.1, FEW.out, FIN.out.2.1, FIN.out.2.2⟩
                  exact AllReadyH.nil
                exact AllReadyH.nil
              exact AllReadyH.nil
            exact AllReadyH.nil
          exact AllReadyH.nil
        exact AllReadyH.nil
      exact AllReadyH.nil
    exact AllReadyH.nil
  by_cases h3 : q = 3
  · subst h3
    have T := TH.out
    have hE : Calls Tryz.prog 26 #[] w3 fun r w' => ∃ g1 g2 g3, r = .returned (.agg #[.slice (some ⟨g1, 0, none⟩) 0 0, .slice (some ⟨g2, 0, none⟩) 0 0, .slice (some ⟨g3, 0, none⟩) 0 0]) ∧ OwnX w' w3.heap.size ⟨some ⟨g1, 0, none⟩, 0, 0, some ⟨g2, 0, none⟩, 0, 0, some ⟨g3, 0, none⟩, 0, 0⟩ ⟨[], [], []⟩ ∧ Below w3.heap.size w3 w' := (l21Empty_any w3).mono fun r w' h => ⟨_, _, _, h⟩
    clear px8
    go_wp2_with fail
    refine hE.mono ?_
    rintro r w4 ⟨g1, g2, g3, rfl, o4, b4⟩
    clear hE
    have tb := (T.below b4).xa
    have T5 := T.reset o4 b4
    have m0 := tb.k0
    have m1 := tb.k1
    have m2 := tb.k2
    have y0 := tb.f0
    have y1 := tb.f1
    have y2 := tb.f2
    simp only at T5
    obtain ⟨W5, hW5⟩ : ∃ W5, W5 = ((w4.setCell ⟨gx, 0, none⟩ (.slice (some ⟨g1, 0, none⟩) 0 0)).setCell ⟨gx, 1, none⟩ (.slice (some ⟨g2, 0, none⟩) 0 0)).setCell ⟨gx, 2, none⟩ (.slice (some ⟨g3, 0, none⟩) 0 0) := ⟨_, rfl⟩
    rw [← hW5] at T5
    have T5h : Hid (∃ s : SV, StX w W5 gs w.heap.size gx lo (k + 102) s ⟨[], [], []⟩) := ⟨_, T5⟩
    have hs5 := hid T5.src
    have HW5 := hid hW5
    clear T tb T5 TH o4 b4 hW5
    go_wp2_with fail
    rw [← HW5.out]
    clear HW5
    refine (pick_any gs (k + 102) 2 W5 hs5.out (by omega) (by omega)).mono ?_
    rintro r w6 ⟨q, rfl, q0, q1, hs6, hg6⟩
    obtain ⟨q, rfl⟩ : ∃ q' : Nat, q = q' := ⟨q.toNat, by omega⟩
    have q2 : q ≤ 1 := by omega
    have T6 : Hid (∃ s : SV, StX w w6 gs w.heap.size gx lo (k + 104) s ⟨[], [], []⟩) := by
      obtain ⟨s, T⟩ := T5h.out
      exact ⟨s, T.pick hs6 hg6⟩
    clear T5h hs5 hs6 hg6 q0 q1
    go_wp2_with fail
    go_loopw [4] (fun vk wl => ∃ (q : Nat) (st : List ByteArray), vk = .int .i64 q ∧ q + st.length ≤ 21 ∧ Hid (∃ s : SV, StX w wl gs w.heap.size gx lo (k + 104) s ⟨st, [], []⟩) ∧ Hid (∀ z ∈ st, z.size ≤ 12)) (fun v _ => (intOf v).toNat)
    case atStart => exact ⟨20 + q, [], by go_num, by simp only [List.length_nil]; omega, T6, fun y hy => absurd hy List.not_mem_nil⟩
    case round =>
      clear T6
      obtain ⟨q, st, rfl, hqj, HT, HZ⟩ := hrel
      obtain ⟨s, T⟩ := HT.out
      by_cases hq : 0 < q
      · skip
        obtain ⟨A1, n1, c1, A2, n2, c2, A3, n3, c3⟩ := s
        have hl1 := T.xa.len.1
        simp only at hl1
        have g0 := T.xa.k0
        have fz := T.xa.f0
        have q9 := T.xa.o1
        have hr := T.xa.own.st
        simp only at g0 q9 hr
        have hn20 : n1 ≤ 20 := by omega
        obtain ⟨b0, hb0⟩ : ∃ b0, b0 = UInt8.ofNat (97 + n1) := ⟨_, rfl⟩
        have hv : (97 + (n1 : Int)) = (b0.toNat : Int) := by
          rw [hb0, UInt8.toNat_ofNat', show (97 + n1) % 2 ^ 8 = 97 + n1 from Nat.mod_eq_of_lt (by omega)]
          omega
        have hcv := run_convert_bytes_back (P := Tryz.prog) (wr.alloc (.cells #[.int .u8 (97 + (n1 : Int))] 5)) 34 9 5 ⟨wr.heap.size, 0, none⟩ 1 [b0] Tryz.underlying34 Tryz.underlying5 Tryz.underlying9 (fun j hj => by
          have : j = 0 := by simp at hj; omega
          subst this
          exact (World.cell?_alloc_at _ _ _ _ rfl).trans (by simp [hv]))
        obtain ⟨bs, hbs⟩ : ∃ bs : ByteArray, bs = ⟨[b0].toArray⟩ := ⟨_, rfl⟩
        have hbz : bs.size = 1 := by rw [hbs]; rfl
        rw [← hbs] at hcv
        simp only [List.length_cons, List.length_nil, Nat.zero_add] at hcv
        have hbb : bs.size ≤ 1 := by omega
        have hs1 : (9223372036854775807 < 1 + bs.size) = False := by simp; omega
        have zst : ((⟨#[115]⟩ : ByteArray) ++ bs).size ≤ 12 := by
          have : (⟨#[115]⟩ : ByteArray).size = 1 := rfl
          rw [ByteArray.size_append]; omega
        have nw0 : gx < wr.heap.size := T.lt
        have hlo : lo ≤ wr.heap.size := by have := T.h4; omega
        have HT2 := hid T
        have hlr := hid hr.lt
        have HL1 := hid hl1
        have u97a : 0 ≤ 97 + (n1 : Int) := by omega
        have u97b : 97 + (n1 : Int) ≤ 255 := by omega
        clear HT T hl1 hb0 hbs hbz hv
        go_wp2_with (at_builtin; refine wpList_append_lies _ rfl _ _ 22 rfl lo 9 i0 _ 1 16 Tryz.underlying22 hi hz0 hz1 hz2 rfl (by omega) (.slice A1 n1 c1) n1 (st.flatMap encS) rfl ((hr.alloc (.cells #[.int .u8 (97 + (n1 : Int))] 5)).alloc (.cells #[.string (⟨#[115]⟩ ++ bs)] 9)) ⟨wr.heap.size + 1, 0, none⟩ 1 1 [.string (⟨#[115]⟩ ++ bs)] rfl rfl (World.news_of_block (cs := #[.string (⟨#[115]⟩ ++ bs)]) (t := 9) (fr := (0, 0)) (heap_at (by simp))) (by simp [Value.oneCell']) (by omega) (by simp only [maxLen]; omega) (by omega) (by simp; omega) (wr.heap.size + 1 + 1) (by simp) ?_; intro gg cap w5 ho3 hg3 hat3 hlt3; have hgg := (gr_alloc (o := .cells #[.string (⟨#[115]⟩ ++ bs)] 9) (gr_alloc (o := .cells #[.int .u8 (97 + (n1 : Int))] 5) (World.grownBy.refl wr (Value.slice A1 n1 c1).ownBlock))).trans hg3; have k0 := hgg.cell g0 (fun e => q9 e.symm); have f3 := (hgg.frozen_far ⟨gx, 0, none⟩ nw0 (fun e => q9 e.symm)).trans fz)
        have X6 := HT2.out.xa.put1 (z := ⟨#[115]⟩ ++ bs) (H := wr.heap.size + 1 + 1) hgg (by omega) hat3 (by simpa [encS] using ho3)
        have T6 := HT2.out.put hgg (fun b hb => (hlr.out b hb).1) X6
        have T7 : Hid (∃ s : SV, StX w (w5.setCell ⟨gx, 0, none⟩ (.slice (some ⟨gg, 0, none⟩) (n1 + 1) cap)) gs w.heap.size gx lo (k + 104) s ⟨st ++ [⟨#[115]⟩ ++ bs], [], []⟩) := ⟨_, T6.up (by omega)⟩
        have Z7 : Hid (∀ z ∈ st ++ [⟨#[115]⟩ ++ bs], z.size ≤ 12) := fun y hy => by
          rcases List.mem_append.1 hy with h1 | h1
          · exact HZ.out y h1
          · obtain rfl : y = ⟨#[115]⟩ ++ bs := by simpa using h1
            exact zst
        have L7 : (st ++ [(⟨#[115]⟩ ++ bs : ByteArray)]).length = n1 + 1 := by rw [List.length_append, ← HL1.out]; rfl
        have L7h := hid L7
        clear X6 T6 ho3 hgg hg3 HT2 hlr hr HZ hcv L7
        go_wp2_with fail
        go_roundw
        all_goals first | exact ⟨q - 1, _, by first | go_num | (congr 1; omega), by have := L7h.out; have := HL1.out; omega, T7, Z7⟩ | exact ⟨⟨q - 1, _, by first | go_num | (congr 1; omega), by have := L7h.out; have := HL1.out; omega, T7, Z7⟩, by first | (simp [intOf]; done) | (simp [intOf]; omega)⟩ | (simp [intOf]; done) | (simp [intOf]; omega)
      · obtain rfl : q = 0 := by omega
        obtain ⟨A1, n1, c1, A2, n2, c2, A3, n3, c3⟩ := s
        have hst : st.length ≤ 21 := by omega
        clear HT
        have FIN := hid ((T).up (show _ ≤ k + 120 by omega)).fin
        have m0 := (T).xa.k0
        have m1 := (T).xa.k1
        have m2 := (T).xa.k2
        have p0 := (T).res.c0
        have p1 := (T).res.c1
        have p2 := (T).res.c2
        have y0 := (T).res.f0
        have y1 := (T).res.f1
        have y2 := (T).res.f2
        have TT0 := hid (set3_0 p0 (.slice A1 n1 c1) (.slice A2 n2 c2) (.slice A3 n3 c3))
        have TT1 := hid (set3_1 p1 (.slice A1 n1 c1) (.slice A2 n2 c2) (.slice A3 n3 c3))
        have TT2 := hid (set3_2 p2 (.slice A1 n1 c1) (.slice A2 n2 c2) (.slice A3 n3 c3))
        simp only at m0 m1 m2
        have FEW : Hid (FewX 62 ⟨st, [], []⟩) := ⟨by simp only; omega, by simp, by simp, HZ.out, by simp, by simp⟩
        go_wp2_with fail
        have t0 := TT0.out
        have t1 := TT1.out
        have t2 := TT2.out
        refine bodyPost_ret (v := .agg #[.slice A1 n1 c1, .slice A2 n2 c2, .slice A3 n3 c3]) (by simp [results, Tryz.results40, go_sem, t0, t1, t2]) rfl ⟨⟨A1, n1, c1, A2, n2, c2, A3, n3, c3⟩, _, rfl, FIN.out.1, FEW.out, FIN.out.2.1, FIN.out.2.2⟩
  by_cases h4 : q = 4
  · subst h4
    have T := TH.out
    have hE : Calls Tryz.prog 26 #[] w3 fun r w' => ∃ g1 g2 g3, r = .returned (.agg #[.slice (some ⟨g1, 0, none⟩) 0 0, .slice (some ⟨g2, 0, none⟩) 0 0, .slice (some ⟨g3, 0, none⟩) 0 0]) ∧ OwnX w' w3.heap.size ⟨some ⟨g1, 0, none⟩, 0, 0, some ⟨g2, 0, none⟩, 0, 0, some ⟨g3, 0, none⟩, 0, 0⟩ ⟨[], [], []⟩ ∧ Below w3.heap.size w3 w' := (l21Empty_any w3).mono fun r w' h => ⟨_, _, _, h⟩
    clear px8
    go_wp2_with fail
    refine hE.mono ?_
    rintro r w4 ⟨g1, g2, g3, rfl, o4, b4⟩
    clear hE
    have tb := (T.below b4).xa
    have T5 := T.reset o4 b4
    have m0 := tb.k0
    have m1 := tb.k1
    have m2 := tb.k2
    have y0 := tb.f0
    have y1 := tb.f1
    have y2 := tb.f2
    simp only at T5
    obtain ⟨W5, hW5⟩ : ∃ W5, W5 = ((w4.setCell ⟨gx, 0, none⟩ (.slice (some ⟨g1, 0, none⟩) 0 0)).setCell ⟨gx, 1, none⟩ (.slice (some ⟨g2, 0, none⟩) 0 0)).setCell ⟨gx, 2, none⟩ (.slice (some ⟨g3, 0, none⟩) 0 0) := ⟨_, rfl⟩
    rw [← hW5] at T5
    have T5h : Hid (∃ s : SV, StX w W5 gs w.heap.size gx lo (k + 102) s ⟨[], [], []⟩) := ⟨_, T5⟩
    have hs5 := hid T5.src
    have HW5 := hid hW5
    clear T tb T5 TH o4 b4 hW5
    go_wp2_with fail
    rw [← HW5.out]
    clear HW5
    go_loopw [5] (fun vk wl => ∃ (st : List ByteArray), vk = .int .i64 (st.length : Nat) ∧ st.length ≤ 9 ∧ Hid (∃ s : SV, StX w wl gs w.heap.size gx lo (k + 104) s ⟨st, [], []⟩) ∧ Hid (∀ z ∈ st, z.size ≤ 12)) (fun v _ => 9 - (intOf v).toNat)
    case atStart => exact ⟨[], rfl, by simp, (by obtain ⟨s, T⟩ := T5h.out; exact ⟨s, T.up (by omega)⟩), fun y hy => absurd hy List.not_mem_nil⟩
    case round =>
      clear T5h hs5
      obtain ⟨st, rfl, hqj, HT, HZ⟩ := hrel
      obtain ⟨s, T⟩ := HT.out
      by_cases hq : st.length < 9
      · skip
        obtain ⟨A1, n1, c1, A2, n2, c2, A3, n3, c3⟩ := s
        have hl1 := T.xa.len.1
        simp only at hl1
        have g0 := T.xa.k0
        have fz := T.xa.f0
        have q9 := T.xa.o1
        have hr := T.xa.own.st
        simp only at g0 q9 hr
        rw [← hl1]
        rw [← hl1] at hq hqj
        have hn20 : n1 ≤ 20 := by omega
        obtain ⟨b0, hb0⟩ : ∃ b0, b0 = UInt8.ofNat (97 + n1) := ⟨_, rfl⟩
        have hv : (97 + (n1 : Int)) = (b0.toNat : Int) := by
          rw [hb0, UInt8.toNat_ofNat', show (97 + n1) % 2 ^ 8 = 97 + n1 from Nat.mod_eq_of_lt (by omega)]
          omega
        have hcv := run_convert_bytes_back (P := Tryz.prog) (wr.alloc (.cells #[.int .u8 (97 + (n1 : Int))] 5)) 34 9 5 ⟨wr.heap.size, 0, none⟩ 1 [b0] Tryz.underlying34 Tryz.underlying5 Tryz.underlying9 (fun j hj => by
          have : j = 0 := by simp at hj; omega
          subst this
          exact (World.cell?_alloc_at _ _ _ _ rfl).trans (by simp [hv]))
        obtain ⟨bs, hbs⟩ : ∃ bs : ByteArray, bs = ⟨[b0].toArray⟩ := ⟨_, rfl⟩
        have hbz : bs.size = 1 := by rw [hbs]; rfl
        rw [← hbs] at hcv
        simp only [List.length_cons, List.length_nil, Nat.zero_add] at hcv
        have hbb : bs.size ≤ 1 := by omega
        have hs1 : (9223372036854775807 < 1 + bs.size) = False := by simp; omega
        have zst : ((⟨#[115]⟩ : ByteArray) ++ bs).size ≤ 12 := by
          have : (⟨#[115]⟩ : ByteArray).size = 1 := rfl
          rw [ByteArray.size_append]; omega
        have nw0 : gx < wr.heap.size := T.lt
        have hlo : lo ≤ wr.heap.size := by have := T.h4; omega
        have HT2 := hid T
        have hlr := hid hr.lt
        have HL1 := hid hl1
        have u97a : 0 ≤ 97 + (n1 : Int) := by omega
        have u97b : 97 + (n1 : Int) ≤ 255 := by omega
        clear HT T hl1 hb0 hbs hbz hv
        go_wp2_with (at_builtin; refine wpList_append_lies _ rfl _ _ 22 rfl lo 9 i0 _ 1 16 Tryz.underlying22 hi hz0 hz1 hz2 rfl (by omega) (.slice A1 n1 c1) n1 (st.flatMap encS) rfl ((hr.alloc (.cells #[.int .u8 (97 + (n1 : Int))] 5)).alloc (.cells #[.string (⟨#[115]⟩ ++ bs)] 9)) ⟨wr.heap.size + 1, 0, none⟩ 1 1 [.string (⟨#[115]⟩ ++ bs)] rfl rfl (World.news_of_block (cs := #[.string (⟨#[115]⟩ ++ bs)]) (t := 9) (fr := (0, 0)) (heap_at (by simp))) (by simp [Value.oneCell']) (by omega) (by simp only [maxLen]; omega) (by omega) (by simp; omega) (wr.heap.size + 1 + 1) (by simp) ?_; intro gg cap w5 ho3 hg3 hat3 hlt3; have hgg := (gr_alloc (o := .cells #[.string (⟨#[115]⟩ ++ bs)] 9) (gr_alloc (o := .cells #[.int .u8 (97 + (n1 : Int))] 5) (World.grownBy.refl wr (Value.slice A1 n1 c1).ownBlock))).trans hg3; have k0 := hgg.cell g0 (fun e => q9 e.symm); have f3 := (hgg.frozen_far ⟨gx, 0, none⟩ nw0 (fun e => q9 e.symm)).trans fz)
        have X6 := HT2.out.xa.put1 (z := ⟨#[115]⟩ ++ bs) (H := wr.heap.size + 1 + 1) hgg (by omega) hat3 (by simpa [encS] using ho3)
        have T6 := HT2.out.put hgg (fun b hb => (hlr.out b hb).1) X6
        have T7 : Hid (∃ s : SV, StX w (w5.setCell ⟨gx, 0, none⟩ (.slice (some ⟨gg, 0, none⟩) (n1 + 1) cap)) gs w.heap.size gx lo (k + 104) s ⟨st ++ [⟨#[115]⟩ ++ bs], [], []⟩) := ⟨_, T6.up (by omega)⟩
        have Z7 : Hid (∀ z ∈ st ++ [⟨#[115]⟩ ++ bs], z.size ≤ 12) := fun y hy => by
          rcases List.mem_append.1 hy with h1 | h1
          · exact HZ.out y h1
          · obtain rfl : y = ⟨#[115]⟩ ++ bs := by simpa using h1
            exact zst
        have L7 : (st ++ [(⟨#[115]⟩ ++ bs : ByteArray)]).length = n1 + 1 := by rw [List.length_append, ← HL1.out]; rfl
        have L7h := hid L7
        clear X6 T6 ho3 hgg hg3 HT2 hlr hr HZ hcv L7
        go_wp2_with fail
        go_roundw
        all_goals first | exact ⟨_, by rw [L7h.out]; go_num, by rw [L7h.out]; omega, T7, Z7⟩ | exact ⟨⟨_, by rw [L7h.out]; go_num, by rw [L7h.out]; omega, T7, Z7⟩, by first | (simp [intOf]; done) | (simp [intOf]; omega)⟩ | (simp [intOf]; done) | (simp [intOf]; omega)
      · have h9 : st.length = 9 := by omega
        have hs6 := hid T.src
        have T6 := HT
        rw [h9]
        have H9 := hid h9
        clear T HT h9 hq hqj
        go_wp2_with fail
        refine (pick_any gs (k + 104) 2 wr hs6.out (by omega) (by omega)).mono ?_
        rintro r w7 ⟨q, rfl, q0, q1, hs7, hg7⟩
        obtain ⟨q, rfl⟩ : ∃ q' : Nat, q = q' := ⟨q.toNat, by omega⟩
        have q2 : q ≤ 1 := by omega
        have T7 : Hid (∃ s : SV, StX w w7 gs w.heap.size gx lo (k + 106) s ⟨st, [], []⟩) := by
          obtain ⟨s, T⟩ := T6.out
          exact ⟨s, T.pick hs7 hg7⟩
        clear T6 hs6 hs7 hg7 q0 q1
        go_wp2_with fail
        go_loopw [7] (fun _ wl => ∃ (ws : List Way), ws.length ≤ 61 ∧ Hid (∃ s : SV, StX w wl gs w.heap.size gx lo (k + 106) s ⟨st, [], ws⟩) ∧ Hid (∀ y ∈ ws, y.fr.size ≤ 12 ∧ y.«to».size ≤ 12)) (fun _ wl => 61 - lenC wl gx)
        case atStart => exact ⟨[], by simp, T7, fun y hy => absurd hy List.not_mem_nil⟩
        case round =>
          clear T7
          obtain ⟨ws, hwl, HT, HW⟩ := hrel
          obtain ⟨s, T⟩ := HT.out
          by_cases hq : ws.length < 60 + q
          · obtain ⟨b, hA, hlb, hbx, hbw, hcs⟩ := T.xa.stCell (by have := H9.out; simp only; omega)
            have hn1 : s.n1 = 9 := T.xa.len.1.trans H9.out
            have hn3 : s.n3 = ws.length := T.xa.len.2.2
            obtain ⟨A1, n1, c1, A2, n2, c2, A3, n3, c3⟩ := s
            simp only at hA hn1 hn3 hcs
            subst hA hn1
            have g0 := T.xa.k0
            have g2 := T.xa.k2
            have fz := T.xa.f2
            have q9 := T.xa.o3
            have hr := T.xa.own.wy
            have hab : (Value.slice A3 n3 c3).ownBlock ≠ some b := fun e => T.xa.own.ap13 b rfl e
            simp only at g0 g2 q9 hr
            rw [H9.out] at hcs
            rw [← hn3] at hq hwl
            have HN3 := hid hn3
            obtain ⟨ia, hia⟩ : ∃ ia, ia = n3 / 8 := ⟨_, rfl⟩
            obtain ⟨im, him⟩ : ∃ im, im = n3 % 8 := ⟨_, rfl⟩
            obtain ⟨ic, hic⟩ : ∃ ic, ic = (ia + 1 + im) % 9 := ⟨_, rfl⟩
            have ia9 : ia < 9 := by omega
            have ic9 : ic < 9 := by omega
            have im8 : im < 8 := by omega
            have ja0 : (0 : Int) ≤ (ia : Int) := by omega
            have ja9 : (ia : Int) < 9 := by omega
            have jc0 : (0 : Int) ≤ (ic : Int) := by omega
            have jc9 : (ic : Int) < 9 := by omega
            have n3a : (0 : Int) ≤ (n3 : Int) := by omega
            have n3b : (n3 : Int) ≤ 61 := by omega
            have E1 : (n3 : Int).tdiv 8 = (ia : Int) := by rw [Int.tdiv_eq_ediv_of_nonneg n3a]; omega
            have E2 : (n3 : Int).tmod 8 = (im : Int) := by rw [Int.tmod_eq_emod_of_nonneg n3a]; omega
            have E3 : ((ia : Int) + 1 + (im : Int)).tmod 9 = (ic : Int) := by rw [Int.tmod_eq_emod_of_nonneg (by omega)]; omega
            have W1 : IntKind.i64.wrap ((ia : Int) + 1) = (ia : Int) + 1 := IntWalk.i64_in _ (by omega)
            have W2 : IntKind.i64.wrap ((ia : Int) + 1 + (im : Int)) = (ia : Int) + 1 + (im : Int) := IntWalk.i64_in _ (by omega)
            have W3 : IntKind.i64.wrap (ia : Int) = (ia : Int) := IntWalk.i64_in _ (by omega)
            have W4 : IntKind.i64.wrap (im : Int) = (im : Int) := IntWalk.i64_in _ (by omega)
            have W5 : IntKind.i64.wrap (ic : Int) = (ic : Int) := IntWalk.i64_in _ (by omega)
            have F1 : (n3 : Int) / 8 = (ia : Int) := by omega
            have F2 : (n3 : Int) % 8 = (im : Int) := by omega
            have F3 : ((ia : Int) + 1 + (im : Int)) % 9 = (ic : Int) := by omega
            have hst : ∀ i, i < 9 → (stAt st i).size ≤ 12 := fun i hi => HZ.out _ (stAt_mem (by have := H9.out; omega))
            have Hst := hid hst
            obtain ⟨stF, hstF⟩ : ∃ f, f = stAt st := ⟨_, rfl⟩
            rw [← hstF] at Hst hcs
            have HCS : Hid (∀ i, i < 9 → wr.drew.cell? ⟨b, i, none⟩ = some (.string (stF i))) := hcs
            have d0 : wr.drew.cell? ⟨gx, 0, none⟩ = some (.slice (some ⟨b, 0, none⟩) 9 c1) := g0
            have d2 : wr.drew.cell? ⟨gx, 2, none⟩ = some (.slice A3 n3 c3) := g2
            have nw0 : gx < wr.heap.size := T.lt
            have hlo : lo ≤ wr.heap.size := by have := T.h4; omega
            have HT2 := hid T
            have hlr := hid hr.lt
            have L0 : Hid (lenC wr gx = n3) := lenC_of g2
            clear HT T hn3 hst hstF hcs hia him hic
            go_wp2_with fail
            refine wp_region_last (n := 23) (S := (fun W => W.cell? ⟨gx, 2, none⟩ = some (.slice A3 n3 c3) ∧ W.cell? ⟨gx, 0, none⟩ = some (.slice (some ⟨b, 0, none⟩) 9 c1) ∧ ∀ i, i < 9 → W.cell? ⟨b, i, none⟩ = some (.string (stF i)))) (by kernel_rfl) (by kernel_rfl) ?_ (fun hHeld => ?_)
            · (try dsimp only); (exact ⟨d2, d0, HCS.out⟩)
            refine wpAnyH_take (i := 0) (oi := ⟨some 101, Go.Op.fieldAddr 25 (Go.Operand.tmp 3) 2, 0, "l21_language.go:408", #[], none⟩) (v := ?_) rfl (by kernel_rfl) (by kernel_rfl) (by kernel_rfl) (fun _ _ _ h => h) (Or.inl ⟨by rfl, ?_⟩) (by assumption) ?_
            rotate_left
            · intro w hSw; (try dsimp only at hSw); go_split_ands; go_simp; first | done | with_reducible rfl
            (try simp only [Act.put, List.setIfInBounds_toArray, List.set_cons_zero, List.set_cons_succ])
            refine wpAnyH_take (i := 1) (oi := ⟨some 102, Go.Op.load 23 (Go.Operand.tmp 101), 23, "l21_language.go:408", #[⟨0, Go.Ground.data⟩], none⟩) (v := ?_) rfl (by kernel_rfl) (by kernel_rfl) (by kernel_rfl) (fun _ _ _ h => h) (Or.inl ⟨by rfl, ?_⟩) (by assumption) ?_
            rotate_left
            · intro w hSw; (try dsimp only at hSw); go_split_ands; go_simp; first | done | with_reducible rfl
            (try simp only [Act.put, List.setIfInBounds_toArray, List.set_cons_zero, List.set_cons_succ])
            refine wpAnyH_take (i := 2) (oi := ⟨some 103, Go.Op.fieldAddr 25 (Go.Operand.tmp 3) 0, 0, "l21_language.go:408", #[], none⟩) (v := ?_) rfl (by kernel_rfl) (by kernel_rfl) (by kernel_rfl) (fun _ _ _ h => h) (Or.inl ⟨by rfl, ?_⟩) (by assumption) ?_
            rotate_left
            · intro w hSw; (try dsimp only at hSw); go_split_ands; go_simp; first | done | with_reducible rfl
            (try simp only [Act.put, List.setIfInBounds_toArray, List.set_cons_zero, List.set_cons_succ])
            refine wpAnyH_take (i := 3) (oi := ⟨some 104, Go.Op.load 22 (Go.Operand.tmp 103), 22, "l21_language.go:408", #[⟨2, Go.Ground.data⟩], none⟩) (v := ?_) rfl (by kernel_rfl) (by kernel_rfl) (by kernel_rfl) (fun _ _ _ h => h) (Or.inl ⟨by rfl, ?_⟩) (by assumption) ?_
            rotate_left
            · intro w hSw; (try dsimp only at hSw); go_split_ands; go_simp; first | done | with_reducible rfl
            (try simp only [Act.put, List.setIfInBounds_toArray, List.set_cons_zero, List.set_cons_succ])
            refine wpAnyH_take (i := 4) (oi := ⟨some 105, Go.Op.move (Go.Operand.tmp 7), 3, "l21_language.go:408", #[], none⟩) (v := ?_) rfl (by kernel_rfl) (by kernel_rfl) (by kernel_rfl) (fun _ _ _ h => h) (Or.inl ⟨by rfl, ?_⟩) (by assumption) ?_
            rotate_left
            · intro w hSw; (try dsimp only at hSw); go_split_ands; go_simp; first | done | with_reducible rfl
            (try simp only [Act.put, List.setIfInBounds_toArray, List.set_cons_zero, List.set_cons_succ])
            refine wpAnyH_take (i := 5) (oi := ⟨some 106, Go.Op.binOp Go.BinOp.quo 3 (Go.Operand.tmp 105) (Go.Operand.const (Go.Value.int Go.IntKind.i64 8)) 3, 3, "l21_language.go:408", #[⟨4, Go.Ground.data⟩], none⟩) (v := ?_) rfl (by kernel_rfl) (by kernel_rfl) (by kernel_rfl) (fun _ _ _ h => h) (Or.inl ⟨by rfl, ?_⟩) (by assumption) ?_
            rotate_left
            · intro w hSw; (try dsimp only at hSw); go_split_ands; go_simp; first | done | with_reducible rfl
            (try simp only [Act.put, List.setIfInBounds_toArray, List.set_cons_zero, List.set_cons_succ])
            refine wpAnyH_take (i := 6) (oi := ⟨some 107, Go.Op.indexAddr 22 (Go.Operand.tmp 104) (Go.Operand.tmp 106), 0, "l21_language.go:408", #[⟨3, Go.Ground.data⟩, ⟨5, Go.Ground.data⟩], none⟩) (v := ?_) rfl (by kernel_rfl) (by kernel_rfl) (by kernel_rfl) (fun _ _ _ h => h) (Or.inl ⟨by rfl, ?_⟩) (by assumption) ?_
            rotate_left
            · intro w hSw; (try dsimp only at hSw); go_split_ands; go_simp; first | done | with_reducible rfl
            (try simp only [Act.put, List.setIfInBounds_toArray, List.set_cons_zero, List.set_cons_succ])
            refine wpAnyH_take (i := 7) (oi := ⟨some 108, Go.Op.load 9 (Go.Operand.tmp 107), 9, "l21_language.go:408", #[⟨6, Go.Ground.data⟩], none⟩) (v := ?_) rfl (by kernel_rfl) (by kernel_rfl) (by kernel_rfl) (fun _ _ _ h => h) (Or.inl ⟨by rfl, ?_⟩) (by assumption) ?_
            rotate_left
            · intro w hSw; (try dsimp only at hSw); go_split_ands; go_simp; first | done | with_reducible rfl
            (try simp only [Act.put, List.setIfInBounds_toArray, List.set_cons_zero, List.set_cons_succ])
            refine wpAnyH_take (i := 8) (oi := ⟨some 109, Go.Op.fieldAddr 25 (Go.Operand.tmp 3) 0, 0, "l21_language.go:408", #[], none⟩) (v := ?_) rfl (by kernel_rfl) (by kernel_rfl) (by kernel_rfl) (fun _ _ _ h => h) (Or.inl ⟨by rfl, ?_⟩) (by assumption) ?_
            rotate_left
            · intro w hSw; (try dsimp only at hSw); go_split_ands; go_simp; first | done | with_reducible rfl
            (try simp only [Act.put, List.setIfInBounds_toArray, List.set_cons_zero, List.set_cons_succ])
            refine wpAnyH_take (i := 9) (oi := ⟨some 110, Go.Op.load 22 (Go.Operand.tmp 109), 22, "l21_language.go:408", #[⟨8, Go.Ground.data⟩], none⟩) (v := ?_) rfl (by kernel_rfl) (by kernel_rfl) (by kernel_rfl) (fun _ _ _ h => h) (Or.inl ⟨by rfl, ?_⟩) (by assumption) ?_
            rotate_left
            · intro w hSw; (try dsimp only at hSw); go_split_ands; go_simp; first | done | with_reducible rfl
            (try simp only [Act.put, List.setIfInBounds_toArray, List.set_cons_zero, List.set_cons_succ])
            refine wpAnyH_take (i := 10) (oi := ⟨some 111, Go.Op.move (Go.Operand.tmp 7), 3, "l21_language.go:408", #[], none⟩) (v := ?_) rfl (by kernel_rfl) (by kernel_rfl) (by kernel_rfl) (fun _ _ _ h => h) (Or.inl ⟨by rfl, ?_⟩) (by assumption) ?_
            rotate_left
            · intro w hSw; (try dsimp only at hSw); go_split_ands; go_simp; first | done | with_reducible rfl
            (try simp only [Act.put, List.setIfInBounds_toArray, List.set_cons_zero, List.set_cons_succ])
            refine wpAnyH_take (i := 11) (oi := ⟨some 112, Go.Op.binOp Go.BinOp.quo 3 (Go.Operand.tmp 111) (Go.Operand.const (Go.Value.int Go.IntKind.i64 8)) 3, 3, "l21_language.go:408", #[⟨10, Go.Ground.data⟩], none⟩) (v := ?_) rfl (by kernel_rfl) (by kernel_rfl) (by kernel_rfl) (fun _ _ _ h => h) (Or.inl ⟨by rfl, ?_⟩) (by assumption) ?_
            rotate_left
            · intro w hSw; (try dsimp only at hSw); go_split_ands; go_simp; first | done | with_reducible rfl
            (try simp only [Act.put, List.setIfInBounds_toArray, List.set_cons_zero, List.set_cons_succ])
            refine wpAnyH_take (i := 12) (oi := ⟨some 113, Go.Op.binOp Go.BinOp.add 3 (Go.Operand.tmp 112) (Go.Operand.const (Go.Value.int Go.IntKind.i64 1)) 3, 3, "l21_language.go:408", #[⟨11, Go.Ground.data⟩], none⟩) (v := ?_) rfl (by kernel_rfl) (by kernel_rfl) (by kernel_rfl) (fun _ _ _ h => h) (Or.inl ⟨by rfl, ?_⟩) (by assumption) ?_
            rotate_left
            · intro w hSw; (try dsimp only at hSw); go_split_ands; go_simp; first | done | with_reducible rfl
            (try simp only [Act.put, List.setIfInBounds_toArray, List.set_cons_zero, List.set_cons_succ])
            refine wpAnyH_take (i := 13) (oi := ⟨some 114, Go.Op.move (Go.Operand.tmp 7), 3, "l21_language.go:408", #[], none⟩) (v := ?_) rfl (by kernel_rfl) (by kernel_rfl) (by kernel_rfl) (fun _ _ _ h => h) (Or.inl ⟨by rfl, ?_⟩) (by assumption) ?_
            rotate_left
            · intro w hSw; (try dsimp only at hSw); go_split_ands; go_simp; first | done | with_reducible rfl
            (try simp only [Act.put, List.setIfInBounds_toArray, List.set_cons_zero, List.set_cons_succ])
            refine wpAnyH_take (i := 14) (oi := ⟨some 115, Go.Op.binOp Go.BinOp.rem 3 (Go.Operand.tmp 114) (Go.Operand.const (Go.Value.int Go.IntKind.i64 8)) 3, 3, "l21_language.go:408", #[⟨13, Go.Ground.data⟩], none⟩) (v := ?_) rfl (by kernel_rfl) (by kernel_rfl) (by kernel_rfl) (fun _ _ _ h => h) (Or.inl ⟨by rfl, ?_⟩) (by assumption) ?_
            rotate_left
            · intro w hSw; (try dsimp only at hSw); go_split_ands; go_simp; first | done | with_reducible rfl
            (try simp only [Act.put, List.setIfInBounds_toArray, List.set_cons_zero, List.set_cons_succ])
            refine wpAnyH_take (i := 15) (oi := ⟨some 116, Go.Op.binOp Go.BinOp.add 3 (Go.Operand.tmp 113) (Go.Operand.tmp 115) 3, 3, "l21_language.go:408", #[⟨12, Go.Ground.data⟩, ⟨14, Go.Ground.data⟩], none⟩) (v := ?_) rfl (by kernel_rfl) (by kernel_rfl) (by kernel_rfl) (fun _ _ _ h => h) (Or.inl ⟨by rfl, ?_⟩) (by assumption) ?_
            rotate_left
            · intro w hSw; (try dsimp only at hSw); go_split_ands; go_simp; first | done | with_reducible rfl
            (try simp only [Act.put, List.setIfInBounds_toArray, List.set_cons_zero, List.set_cons_succ])
            refine wpAnyH_take (i := 16) (oi := ⟨some 117, Go.Op.binOp Go.BinOp.rem 3 (Go.Operand.tmp 116) (Go.Operand.const (Go.Value.int Go.IntKind.i64 9)) 3, 3, "l21_language.go:408", #[⟨15, Go.Ground.data⟩], none⟩) (v := ?_) rfl (by kernel_rfl) (by kernel_rfl) (by kernel_rfl) (fun _ _ _ h => h) (Or.inl ⟨by rfl, ?_⟩) (by assumption) ?_
            rotate_left
            · intro w hSw; (try dsimp only at hSw); go_split_ands; go_simp; first | done | with_reducible rfl
            (try simp only [Act.put, List.setIfInBounds_toArray, List.set_cons_zero, List.set_cons_succ])
            refine wpAnyH_take (i := 17) (oi := ⟨some 118, Go.Op.indexAddr 22 (Go.Operand.tmp 110) (Go.Operand.tmp 117), 0, "l21_language.go:408", #[⟨9, Go.Ground.data⟩, ⟨16, Go.Ground.data⟩], none⟩) (v := ?_) rfl (by kernel_rfl) (by kernel_rfl) (by kernel_rfl) (fun _ _ _ h => h) (Or.inl ⟨by rfl, ?_⟩) (by assumption) ?_
            rotate_left
            · intro w hSw; (try dsimp only at hSw); go_split_ands; go_simp; first | done | with_reducible rfl
            (try simp only [Act.put, List.setIfInBounds_toArray, List.set_cons_zero, List.set_cons_succ])
            refine wpAnyH_take (i := 18) (oi := ⟨some 119, Go.Op.load 9 (Go.Operand.tmp 118), 9, "l21_language.go:408", #[⟨17, Go.Ground.data⟩], none⟩) (v := ?_) rfl (by kernel_rfl) (by kernel_rfl) (by kernel_rfl) (fun _ _ _ h => h) (Or.inl ⟨by rfl, ?_⟩) (by assumption) ?_
            rotate_left
            · intro w hSw; (try dsimp only at hSw); go_split_ands; go_simp; first | done | with_reducible rfl
            (try simp only [Act.put, List.setIfInBounds_toArray, List.set_cons_zero, List.set_cons_succ])
            refine wpAnyH_take (i := 19) (oi := ⟨some 120, Go.Op.build 62 #[(0, Go.Operand.tmp 108), (1, Go.Operand.tmp 119), (2, Go.Operand.const (Go.Value.int Go.IntKind.i64 5))], 62, "l21_language.go:408", #[⟨7, Go.Ground.data⟩, ⟨18, Go.Ground.data⟩], none⟩) (v := ?_) rfl (by kernel_rfl) (by kernel_rfl) (by kernel_rfl) (fun _ _ _ h => h) (Or.inl ⟨by rfl, ?_⟩) (by assumption) ?_
            rotate_left
            · intro w hSw; (try dsimp only at hSw); go_split_ands; go_simp; first | done | with_reducible rfl
            (try simp only [Act.put, List.setIfInBounds_toArray, List.set_cons_zero, List.set_cons_succ])
            refine wpAnyH_ready (rs := [20]) (by kernel_rfl) (by simp) ?_
            refine AllReadyH.cons rfl (fun K hK => ?_) ?_
            · skip
              go_simp
              refine hK.out _ _ ?_ (fun hH2 => ?_)
              · (try dsimp only); (exact ⟨below_cell hHeld.1 ((Below.refl _ _).alloc (Nat.le_refl _) _), below_cell hHeld.2.1 ((Below.refl _ _).alloc (Nat.le_refl _) _), fun i hi => below_cell (hHeld.2.2 i hi) ((Below.refl _ _).alloc (Nat.le_refl _) _)⟩)
              clear hK K hHeld; have hHeld := hH2; clear hH2
              refine wpAnyH_ready (rs := [21]) (by kernel_rfl) (by simp) ?_
              refine AllReadyH.cons rfl (fun K hK => ?_) ?_
              · skip
                refine step_append_lies _ (by rfl) _ _ _ (by rfl) lo 62 j0 _ 3 40 Tryz.underlying23 hj hy0 hy1 hy2 rfl (by omega) (.slice A3 n3 c3) n3 (ws.flatMap encWay) (by rfl) ((ow_drew hr).alloc _) ⟨wr.heap.size, 0, none⟩ 1 1 [.string (stF ia), .string (stF ic), .int .i64 5] (by rfl) (by rfl) (World.news_of_block (cs := #[.string (stF ia), .string (stF ic), .int .i64 5]) (t := 62) (fr := (0, 0)) (heap_alloc_new wr.drew _)) (by simp [Value.oneCell']) (by omega) (by simp only [maxLen]; omega) (by omega) (by simp; omega) (wr.heap.size + 1) (by simp) ?_
                intro gg cap w5 ho3 hg3 hat3 hlt3
                have hgg := (gr_alloc (o := .cells #[.string (stF ia), .string (stF ic), .int .i64 5] 62) (gr_drew (World.grownBy.refl wr (Value.slice A3 n3 c3).ownBlock))).trans hg3
                have k0 := hgg.cell g2 (fun e => q9 e.symm)
                have f3 := (hgg.frozen_far ⟨gx, 2, none⟩ nw0 (fun e => q9 e.symm)).trans fz
                refine hK.out _ _ ?_ (fun hH2 => ?_)
                · (try dsimp only); (exact ⟨k0, hgg.cell g0 (fun e => q9 e.symm), fun i hi => hgg.cell (HCS.out i hi) (fun e => hab e.symm)⟩)
                clear hK K hHeld; have hHeld := hH2; clear hH2
                refine wpAnyH_take (i := 22) (oi := ⟨some 123, Go.Op.fieldAddr 25 (Go.Operand.tmp 3) 2, 0, "l21_language.go:408", #[⟨0, Go.Ground.phase⟩, ⟨1, Go.Ground.phase⟩, ⟨2, Go.Ground.phase⟩, ⟨3, Go.Ground.phase⟩, ⟨4, Go.Ground.phase⟩, ⟨5, Go.Ground.phase⟩, ⟨6, Go.Ground.phase⟩, ⟨7, Go.Ground.phase⟩, ⟨8, Go.Ground.phase⟩, ⟨9, Go.Ground.phase⟩, ⟨10, Go.Ground.phase⟩, ⟨11, Go.Ground.phase⟩, ⟨12, Go.Ground.phase⟩, ⟨13, Go.Ground.phase⟩, ⟨14, Go.Ground.phase⟩, ⟨15, Go.Ground.phase⟩, ⟨16, Go.Ground.phase⟩, ⟨17, Go.Ground.phase⟩, ⟨18, Go.Ground.phase⟩, ⟨19, Go.Ground.phase⟩, ⟨20, Go.Ground.phase⟩, ⟨21, Go.Ground.phase⟩], none⟩) (v := ?_) rfl (by kernel_rfl) (by kernel_rfl) (by kernel_rfl) (fun _ _ _ h => h) (Or.inl ⟨by rfl, ?_⟩) (by assumption) ?_
                rotate_left
                · intro w hSw; (try dsimp only at hSw); go_split_ands; go_simp; first | done | with_reducible rfl
                (try simp only [Act.put, List.setIfInBounds_toArray])
                refine wpAnyH_done (by kernel_rfl) ?_ _
                refine last_step rfl rfl (fun K hK => ?_)
                go_simp
                refine hK.out _ _ ?_
                clear hK K
                have zza := Hst.out ia ia9
                have zzc := Hst.out ic ic9
                generalize stF ia = f at *
                generalize stF ic = g at *
                have X6 := HT2.out.xa.put3 (z := ⟨f, g, 5⟩) (H := wr.heap.size + 1) hgg (by omega) hat3 (by simpa [encWay] using ho3)
                have T6 := HT2.out.put hgg (fun b hb => (hlr.out b hb).1) X6
                have T7 : Hid (∃ s : SV, StX w (w5.setCell ⟨gx, 2, none⟩ (.slice (some ⟨gg, 0, none⟩) (n3 + 1) cap)) gs w.heap.size gx lo (k + 106) s ⟨st, [], ws ++ [⟨f, g, 5⟩]⟩) := ⟨_, T6⟩
                have Z7 : Hid (∀ y ∈ ws ++ [(⟨f, g, 5⟩ : Way)], y.fr.size ≤ 12 ∧ y.«to».size ≤ 12) := fun y hy => by
                  rcases List.mem_append.1 hy with h1 | h1
                  · exact HW.out y h1
                  · obtain rfl : y = ⟨f, g, 5⟩ := by simpa using h1
                    exact ⟨zza, zzc⟩
                have L7 : (ws ++ [(⟨f, g, 5⟩ : Way)]).length ≤ 61 := by have := HN3.out; simp only [List.length_append, List.length_cons, List.length_nil]; omega
                have L1 : lenC (w5.setCell ⟨gx, 2, none⟩ (.slice (some ⟨gg, 0, none⟩) (n3 + 1) cap)) gx = n3 + 1 := lenC_of (World.cell?_setCell_same _ _ _ k0)
                have ME : Hid (61 - lenC (w5.setCell ⟨gx, 2, none⟩ (.slice (some ⟨gg, 0, none⟩) (n3 + 1) cap)) gx < 61 - lenC wr gx) := by rw [Hid, L1, L0.out]; omega
                clear X6 T6 L1 L0 ho3 hgg hg3 HT2 hlr hr HW hHeld d0 d2 HCS k0 f3 Hst
                go_wp2_with fail
                go_roundw
                all_goals first | exact ⟨_, L7, T7, Z7⟩ | exact ⟨⟨_, L7, T7, Z7⟩, ME.out⟩ | exact ME.out
              exact AllReadyH.nil
            exact AllReadyH.nil
          · skip
            have hn3 : s.n3 = ws.length := T.xa.len.2.2
            obtain ⟨A1, n1, c1, A2, n2, c2, A3, n3, c3⟩ := s
            simp only at hn3
            rw [← hn3] at hq hwl
            have HN3 := hid hn3
            clear HT hn3
            have FIN := hid ((T).up (show _ ≤ k + 120 by omega)).fin
            have m0 := (T).xa.k0
            have m1 := (T).xa.k1
            have m2 := (T).xa.k2
            have p0 := (T).res.c0
            have p1 := (T).res.c1
            have p2 := (T).res.c2
            have y0 := (T).res.f0
            have y1 := (T).res.f1
            have y2 := (T).res.f2
            have TT0 := hid (set3_0 p0 (.slice A1 n1 c1) (.slice A2 n2 c2) (.slice A3 n3 c3))
            have TT1 := hid (set3_1 p1 (.slice A1 n1 c1) (.slice A2 n2 c2) (.slice A3 n3 c3))
            have TT2 := hid (set3_2 p2 (.slice A1 n1 c1) (.slice A2 n2 c2) (.slice A3 n3 c3))
            simp only at m0 m1 m2
            have FEW : Hid (FewX 62 ⟨st, [], ws⟩) := ⟨by have := H9.out; simp only; omega, by simp, by have := HN3.out; simp only; omega, HZ.out, by simp, HW.out⟩
            go_wp2_with fail
            have t0 := TT0.out
            have t1 := TT1.out
            have t2 := TT2.out
            refine bodyPost_ret (v := .agg #[.slice A1 n1 c1, .slice A2 n2 c2, .slice A3 n3 c3]) (by simp [results, Tryz.results40, go_sem, t0, t1, t2]) rfl ⟨⟨A1, n1, c1, A2, n2, c2, A3, n3, c3⟩, _, rfl, FIN.out.1, FEW.out, FIN.out.2.1, FIN.out.2.2⟩
  have hq0 : (q == 0) = false := by simpa using h0
  have hq1 : (q == 1) = false := by simpa using h1
  have hq2 : (q == 2) = false := by simpa using h2
  have hq3 : (q == 3) = false := by simpa using h3
  have hq4 : (q == 4) = false := by simpa using h4
  have T := TH.out
  clear TH
  have FIN := hid ((T).up (show _ ≤ k + 120 by omega)).fin
  have m0 := (T).xa.k0
  have m1 := (T).xa.k1
  have m2 := (T).xa.k2
  have p0 := (T).res.c0
  have p1 := (T).res.c1
  have p2 := (T).res.c2
  have y0 := (T).res.f0
  have y1 := (T).res.f1
  have y2 := (T).res.f2
  have TT0 := hid (set3_0 p0 (.slice A1 n1 c1) (.slice A2 n2 c2) (.slice A3 n3 c3))
  have TT1 := hid (set3_1 p1 (.slice A1 n1 c1) (.slice A2 n2 c2) (.slice A3 n3 c3))
  have TT2 := hid (set3_2 p2 (.slice A1 n1 c1) (.slice A2 n2 c2) (.slice A3 n3 c3))
  simp only at m0 m1 m2
  have FEW : Hid (FewX 62 _) := px8.out.1.up (by omega)
  go_wp2_with fail
  have t0 := TT0.out
  have t1 := TT1.out
  have t2 := TT2.out
  refine bodyPost_ret (v := .agg #[.slice A1 n1 c1, .slice A2 n2 c2, .slice A3 n3 c3]) (by simp [results, Tryz.results40, go_sem, t0, t1, t2]) rfl ⟨⟨A1, n1, c1, A2, n2, c2, A3, n3, c3⟩, _, rfl, FIN.out.1, FEW.out, FIN.out.2.1, FIN.out.2.2⟩
end Go.Proofs.YtcgkcfmiabninaaGreatDoor
