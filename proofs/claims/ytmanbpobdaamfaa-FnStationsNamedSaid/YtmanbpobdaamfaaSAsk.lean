/-
  Drawn schemes beside a name. No condition.
-/
import Derived.Test.YtmanbpobdaamfaaSBent
namespace Go.Proofs.Ytmanbpobdaamfaa
open Go.RowKit
set_option maxHeartbeats 400000

/-- a scheme and a name -/
def AskX (w : World) (r : Ending) (w' : World) : Prop :=
  ∃ A1 n1 c1 A2 n2 c2 A3 n3 c3 x z, r = .returned (.tuple #[.agg #[.slice A1 n1 c1, .slice A2 n2 c2, .slice A3 n3 c3], .string z]) ∧ OwnX w' w.heap.size ⟨A1, n1, c1, A2, n2, c2, A3, n3, c3⟩ x ∧ FewX 62 x ∧ z.size ≤ 13 ∧ Below w.heap.size w w'
theorem OwnX.src {w w' : World} {gs lo : Nat} {s : SV} {x : Sch} (h : OwnX w lo s x) (hg : w.grownBy w' (some gs)) (hlo : gs < lo) : OwnX w' lo s x :=
  ⟨own_src h.st hg hlo, own_src h.rm hg hlo, own_src h.wy hg hlo, h.ap12, h.ap13, h.ap23⟩
theorem OwnX.set3 {w : World} {gr lo : Nat} {s : SV} {x : Sch} {a b c : Value} (h : OwnX w lo s x) (hr : gr < lo) : OwnX (((w.setCell ⟨gr, 0, none⟩ a).setCell ⟨gr, 1, none⟩ b).setCell ⟨gr, 2, none⟩ c) lo s x :=
  ⟨ow_set3 (fun e => by have := (h.st.lt _ e).1; omega) h.st, ow_set3 (fun e => by have := (h.rm.lt _ e).1; omega) h.rm, ow_set3 (fun e => by have := (h.wy.lt _ e).1; omega) h.wy, h.ap12, h.ap13, h.ap23⟩
theorem OwnX.stCell {w : World} {lo : Nat} {A1 : Option Addr} {n1 c1 : Nat} {A2 : Option Addr} {n2 c2 : Nat} {A3 : Option Addr} {n3 c3 : Nat} {x : Sch} (h : OwnX w lo ⟨A1, n1, c1, A2, n2, c2, A3, n3, c3⟩ x) (hp : 0 < n1) :
    ∃ b, A1 = some ⟨b, 0, none⟩ ∧ lo ≤ b ∧ b < w.heap.size ∧ n1 = x.st.length ∧ ∀ i, i < n1 → w.cell? ⟨b, i, none⟩ = some (.string (stAt x.st i)) := by
  have h1 := h.st
  simp only at h1
  have h2 := own_len encS_len (by omega) h1
  rcases h1.2 with ⟨_, h0⟩ | ⟨g, cap, cur, hA, _⟩
  · exfalso; omega
  · simp only [Value.slice.injEq] at hA
    obtain ⟨rfl, _, rfl⟩ := hA
    have hl := h1.lt g rfl
    refine ⟨g, rfl, hl.1, hl.2, h2, fun i hi => ?_⟩
    have := h1.cells (g := g) rfl i (.string (stAt x.st i)) (by
      rw [flat_str, List.getElem?_map, stAt_at (by omega)]
      rfl)
    rw [Addr.add_lit, Nat.zero_add] at this
    exact this
theorem SrcAt.drew {w : World} {gs k : Nat} (h : SrcAt w gs k) : SrcAt w.drew gs k := h.below (Below.refl _ _).drew
/-- below: where only blocks of one's own and a source of one's own were written -/
theorem bl_src {a w w' : World} {gs B : Nat} (h : Below B a w) (hg : w.grownBy w' (some gs)) (hB : B ≤ gs) (hw : B ≤ w.heap.size) : Below B a w' := below_src h hg hB hw
set_option maxHeartbeats 16000000 in
set_option maxRecDepth 100000 in
theorem l21Ask_any (v : Value) (w : World) (hv : Bytes w w.heap.size 5000 v) : Calls Try.prog 51 #[v] w (AskX w) := by
  obtain ⟨W0, hW0⟩ : ∃ W0, W0 = w.alloc (.cells #[.slice none 0 0, .slice none 0 0, .slice none 0 0] 29) := ⟨_, rfl⟩
  have r0 : Blk3 W0 w.heap.size (.slice none 0 0) (.slice none 0 0) (.slice none 0 0) := by rw [hW0]; exact ⟨by go_simp, by go_simp, by go_simp, by go_simp, by go_simp, by go_simp⟩
  have b0 : Below w.heap.size w W0 := by rw [hW0]; exact (Below.refl _ _).alloc (Nat.le_refl _) _
  have z0 : w.heap.size < W0.heap.size := r0.lt
  have hF := l00From_any v W0 ((hv.below b0).more (by omega))
  have HW0 := hid hW0
  clear hW0 hv
  go_enter Try.func51, Try.ntmps51
  go_wp2_with fail
  rw [← HW0.out]
  refine hF.mono ?_
  rintro r w1 ⟨rfl, hs1, b1, z1⟩
  clear hF
  obtain ⟨gs, hgs⟩ : ∃ gs, gs = W0.heap.size := ⟨_, rfl⟩
  rw [← hgs] at hs1 z1
  have r1 := r0.at_ b1 z0
  have hD : Calls Try.prog 77 #[.pointer (some ⟨gs, 0, none⟩)] w1 fun r w' => ∃ A1 n1 c1 A2 n2 c2 A3 n3 c3 x, r = .returned (.agg #[.slice A1 n1 c1, .slice A2 n2 c2, .slice A3 n3 c3]) ∧ OwnX w' w1.heap.size ⟨A1, n1, c1, A2, n2, c2, A3, n3, c3⟩ x ∧ FewX 62 x ∧ SrcAt w' gs (0 + 120) ∧ w1.grownBy w' (some gs) :=
    (l21Bent_any gs 0 w1 hs1 (by omega)).mono fun r w' ⟨⟨A1, n1, c1, A2, n2, c2, A3, n3, c3⟩, x, h⟩ => ⟨A1, n1, c1, A2, n2, c2, A3, n3, c3, x, h⟩
  have c1 := b0.trans (b1.mono b0.size)
  have hgw : w.heap.size < gs := by omega
  go_wp2_with fail
  rw [← hgs]
  refine hD.mono ?_
  rintro r w2 ⟨A1, n1, k1, A2, n2, k2, A3, n3, k3, x, rfl, o2, px, hs2, hg2⟩
  clear hD
  have z2 := hg2.size
  have c2 := below_src c1 hg2 (by omega) c1.size
  have r2 := r1.grow hg2 (by simp; omega)
  obtain ⟨W3, hW3⟩ : ∃ W3, W3 = w2.alloc (.cells #[.slice A1 n1 k1, .slice A2 n2 k2, .slice A3 n3 k3] 29) := ⟨_, rfl⟩
  have b3 : Below w2.heap.size w2 W3 := by rw [hW3]; exact (Below.refl _ _).alloc (Nat.le_refl _) _
  have o3 := o2.below b3
  have s3 : SrcAt W3 gs 120 := hs2.below (b3.mono (by have := hs2.lt; omega))
  have r3 := r2.at_ b3 r2.lt
  have c3 := c2.trans (b3.mono c2.size)
  have m0 : W3.cell? ⟨w2.heap.size, 0, none⟩ = some (.slice A1 n1 k1) := by rw [hW3]; exact (World.cell?_alloc_at _ _ _ _ rfl).trans rfl
  have m1 : W3.cell? ⟨w2.heap.size, 1, none⟩ = some (.slice A2 n2 k2) := by rw [hW3]; exact (World.cell?_alloc_at _ _ _ _ rfl).trans rfl
  have m2 : W3.cell? ⟨w2.heap.size, 2, none⟩ = some (.slice A3 n3 k3) := by rw [hW3]; exact (World.cell?_alloc_at _ _ _ _ rfl).trans rfl
  obtain ⟨gx, hgx, hgsx⟩ : ∃ gx, gx = w2.heap.size ∧ gs < gx := ⟨_, rfl, by have := hs2.lt; omega⟩
  rw [← hgx] at m0 m1 m2
  have lx3 : gx < W3.heap.size := World.block_lt_of_cell? _ _ m0
  have HW3 := hid hW3
  have O3 := hid o3
  have S3 := hid s3
  have R3 := hid r3
  have hlo : gs < w1.heap.size := z1
  clear hW3 o2 o3 r0 r1 r2 r3 hs1 hs2 s3 b0 b1 b3 c1 c2 hg2 HW0 z2
  obtain ⟨lo, hlo2⟩ : ∃ lo, lo = w1.heap.size := ⟨_, rfl⟩
  rw [← hlo2] at hlo O3
  clear hlo2 z1
  have e1 : (some gx : Option Nat) ≠ some gs := by simp; omega
  have e0 : (some gs : Option Nat) ≠ some w.heap.size := by simp; omega
  have px2 := hid px
  clear px hgs
  have gs3 : gs < W3.heap.size := S3.out.lt
  by_cases hn0 : n1 = 0
  · have hp0 : ¬ (0 : Int) < (n1 : Int) := by omega
    clear hn0
    have C3 := c3
    have SS := S3
    go_wp2_with fail
    rw [← hgx]
    rw [← HW3.out]
    clear hgx HW3
    have d0 : W3.drew.cell? ⟨gx, 0, none⟩ = some (.slice A1 n1 k1) := m0
    have d1 : W3.drew.cell? ⟨gx, 1, none⟩ = some (.slice A2 n2 k2) := m1
    have d2 : W3.drew.cell? ⟨gx, 2, none⟩ = some (.slice A3 n3 k3) := m2
    go_wp2_with fail
    refine wp_region_held_drew (S := (fun W => W.cell? ⟨gx, 0, none⟩ = some (.slice A1 n1 k1) ∧ W.cell? ⟨gx, 1, none⟩ = some (.slice A2 n2 k2) ∧ W.cell? ⟨gx, 2, none⟩ = some (.slice A3 n3 k3))) (by kernel_rfl) ?_ (fun hHeld => ?_)
    · (try dsimp only); (first | exact ⟨d0, d1, d2⟩ | go_keep)
    refine wpAnyH_take (i := 0) (oi := ⟨some 29, Go.Op.load 29 (Go.Operand.tmp 5), 29, "l21_language.go:445", #[], none⟩) (v := ?_) rfl (by kernel_rfl) (by kernel_rfl) (by kernel_rfl) (fun _ _ _ h => h) (Or.inl ⟨by rfl, ?_⟩) (by assumption) ?_
    rotate_left
    · intro w hSw; (try dsimp only at hSw); go_split_ands; go_simp; first | done | with_reducible rfl
    (try simp only [Act.put, List.setIfInBounds_toArray, List.set_cons_zero, List.set_cons_succ])
    refine wpAnyH_take (i := 1) (oi := ⟨some 30, Go.Op.move (Go.Operand.tmp 4), 69, "l21_language.go:445", #[], none⟩) (v := ?_) rfl (by kernel_rfl) (by kernel_rfl) (by kernel_rfl) (fun _ _ _ h => h) (Or.inl ⟨by rfl, ?_⟩) (by assumption) ?_
    rotate_left
    · intro w hSw; (try dsimp only at hSw); go_split_ands; go_simp; first | done | with_reducible rfl
    (try simp only [Act.put, List.setIfInBounds_toArray, List.set_cons_zero, List.set_cons_succ])
    refine wpAnyH_ready (rs := [2]) (by kernel_rfl) (by simp) ?_
    refine AllReadyH.cons rfl (fun K hK => ?_) ?_
    · skip
      go_simp
      have NN : Hid ((W3.drew.alloc (.cells #[.string ⟨#[98, 97, 110, 107]⟩, .string ⟨#[]⟩, .string ⟨#[110, 111, 110, 101]⟩, .string ⟨#[66, 97, 110, 107]⟩] 9)).ownsRow W3.heap.size 9 1 (.slice (some ⟨W3.heap.size, 0, none⟩) 4 4) 4 (([⟨#[98, 97, 110, 107]⟩, ⟨#[]⟩, ⟨#[110, 111, 110, 101]⟩, ⟨#[66, 97, 110, 107]⟩] : List ByteArray).flatMap encS)) := by
        have := World.ownsRow_lit (base := W3.heap.size) (e := 9) (size := 1) (W3.drew) #[.string ⟨#[98, 97, 110, 107]⟩, .string ⟨#[]⟩, .string ⟨#[110, 111, 110, 101]⟩, .string ⟨#[66, 97, 110, 107]⟩] 4 (Nat.le_refl _) (by simp [maxLen]) (by simp)
        simpa [Hid, encS] using this
      refine hK.out _ _ ?_ (fun hH2 => ?_)
      · (try dsimp only); (exact ⟨below_cell hHeld.1 ((Below.refl _ _).alloc (Nat.le_refl _) _), below_cell hHeld.2.1 ((Below.refl _ _).alloc (Nat.le_refl _) _), below_cell hHeld.2.2 ((Below.refl _ _).alloc (Nat.le_refl _) _)⟩)
      clear hK K hHeld; have hHeld := hH2; clear hH2
      refine wpAnyH_ready (rs := [3]) (by kernel_rfl) (by simp) ?_
      refine AllReadyH.cons rfl (fun K hK => ?_) ?_
      · skip
        go_simp
        go_wp2_with (go_at_call 53; refine (text_any gs (120) (some ⟨W3.heap.size, 0, none⟩) 4 4 [⟨#[98, 97, 110, 107]⟩, ⟨#[]⟩, ⟨#[110, 111, 110, 101]⟩, ⟨#[66, 97, 110, 107]⟩] _ (SS.out.drew.alloc (.cells #[.string ⟨#[98, 97, 110, 107]⟩, .string ⟨#[]⟩, .string ⟨#[110, 111, 110, 101]⟩, .string ⟨#[66, 97, 110, 107]⟩] 9)) (by omega) (by omega) (by omega) (own_sl encS_len (by omega) NN.out) (fun b off s e => by injection e with e; injection e with e; omega)).mono ?_; rintro r wa ⟨z, rfl, hz, hsa, hga⟩)
        have zz : z.size ≤ 13 := by
          simp only [List.mem_cons, List.not_mem_nil, or_false] at hz
          rcases hz with rfl | rfl | rfl | rfl <;> decide
        have hga2 : W3.grownBy wa (some gs) := (gr_alloc (o := .cells #[.string ⟨#[98, 97, 110, 107]⟩, .string ⟨#[]⟩, .string ⟨#[110, 111, 110, 101]⟩, .string ⟨#[66, 97, 110, 107]⟩] 9) (gr_drew (World.grownBy.refl W3 (some gs)))).trans hga
        refine hK.out _ _ ?_ (fun hH2 => ?_)
        · (try dsimp only); (exact ⟨hga2.cell m0 e1, hga2.cell m1 e1, hga2.cell m2 e1⟩)
        clear hK K hHeld; have hHeld := hH2; clear hH2
        refine wpAnyH_ready (rs := [4]) (by kernel_rfl) (by simp) ?_
        refine AllReadyH.cons rfl (fun K hK => ?_) ?_
        · skip
          have RR := hid (R3.out.grow hga2 e0)
          have p0 := RR.out.c0
          have p1 := RR.out.c1
          have p2 := RR.out.c2
          have y0 := RR.out.f0
          have y1 := RR.out.f1
          have y2 := RR.out.f2
          go_simp
          refine hK.out _ _ ?_ (fun hH2 => ?_)
          · (try dsimp only); (exact ⟨(far3 (by simp only; omega)).trans hHeld.1, (far3 (by simp only; omega)).trans hHeld.2.1, (far3 (by simp only; omega)).trans hHeld.2.2⟩)
          clear hK K hHeld; have hHeld := hH2; clear hH2
          refine wpAnyH_take (i := 5) (oi := ⟨some 3, Go.Op.assign (Go.Operand.tmp 32), 9, "l21_language.go:445", #[⟨3, Go.Ground.data⟩, ⟨4, Go.Ground.chain⟩, ⟨0, Go.Ground.phase⟩, ⟨1, Go.Ground.phase⟩, ⟨2, Go.Ground.phase⟩, ⟨3, Go.Ground.phase⟩, ⟨4, Go.Ground.phase⟩], none⟩) (v := ?_) rfl (by kernel_rfl) (by kernel_rfl) (by kernel_rfl) (fun _ _ _ h => h) (Or.inl ⟨by rfl, ?_⟩) (by assumption) ?_
          rotate_left
          · intro w hSw; (try dsimp only at hSw); go_split_ands; go_simp; first | done | with_reducible rfl
          (try simp only [Act.put, List.setIfInBounds_toArray, List.set_cons_zero, List.set_cons_succ])
          refine wpAnyH_done (by kernel_rfl) ?_ _
          have CC := bl_set3 (g := w.heap.size) (u := .slice A1 n1 k1) (v := .slice A2 n2 k2) (x := .slice A3 n3 k3) (Nat.le_refl _) (below_src C3 hga2 (by omega) C3.size)
          have OO := ((O3.out.src hga2 hlo).set3 (gr := w.heap.size) (a := .slice A1 n1 k1) (b := .slice A2 n2 k2) (c := .slice A3 n3 k3) (by omega)).mono (lo' := w.heap.size) (by omega)
          have TT0 := hid (set3_0 p0 (.slice A1 n1 k1) (.slice A2 n2 k2) (.slice A3 n3 k3))
          have TT1 := hid (set3_1 p1 (.slice A1 n1 k1) (.slice A2 n2 k2) (.slice A3 n3 k3))
          have TT2 := hid (set3_2 p2 (.slice A1 n1 k1) (.slice A2 n2 k2) (.slice A3 n3 k3))
          go_wp2_with fail
          have t0 := TT0.out
          have t1 := TT1.out
          have t2 := TT2.out
          refine bodyPost_ret (v := .tuple #[.agg #[.slice A1 n1 k1, .slice A2 n2 k2, .slice A3 n3 k3], .string z]) (by simp [results, Try.results51, go_sem, t0, t1, t2]) rfl ⟨A1, n1, k1, A2, n2, k2, A3, n3, k3, x, z, rfl, OO, px2.out, zz, CC⟩
        exact AllReadyH.nil
      exact AllReadyH.nil
    exact AllReadyH.nil
  · have hp : 0 < n1 := by omega
    have hp2 : (0 : Int) < (n1 : Int) := by omega
    obtain ⟨b, rfl, hlb, hbw, hnl, hcs⟩ := O3.out.stCell hp
    have hHN := hid hnl
    have hCS := hid hcs
    clear hcs hnl hn0
    go_wp2_with fail
    rw [← hgx]
    rw [← HW3.out]
    refine (one_any gs 120 6 W3 S3.out (by omega) (by omega)).mono ?_
    rintro r w4 ⟨bb, rfl, hs4, hg4⟩
    replace m0 := hg4.cell m0 e1
    replace m1 := hg4.cell m1 e1
    replace m2 := hg4.cell m2 e1
    have C3 := below_src c3 hg4 (by omega) c3.size
    have hCS4 : Hid (∀ i, i < n1 → w4.cell? ⟨b, i, none⟩ = some (.string (stAt x.st i))) := fun i hi => hg4.cell (hCS.out i hi) (by simp; omega)
    replace O3 := hid (O3.out.src hg4 hlo)
    replace R3 := hid (R3.out.grow hg4 e0)
    have SS := hid hs4
    have gs4 : gs < w4.heap.size := hs4.lt
    have lx4 : gx < w4.heap.size := World.block_lt_of_cell? _ _ m0
    clear hCS S3 hs4 hg4 c3 hgx HW3
    cases bb with
    | true =>
      have d0 : w4.drew.cell? ⟨gx, 0, none⟩ = some (.slice (some ⟨b, 0, none⟩) n1 k1) := m0
      have d1 : w4.drew.cell? ⟨gx, 1, none⟩ = some (.slice A2 n2 k2) := m1
      have d2 : w4.drew.cell? ⟨gx, 2, none⟩ = some (.slice A3 n3 k3) := m2
      go_wp2_with fail
      refine wp_region_held_drew (S := (fun W => W.cell? ⟨gx, 0, none⟩ = some (.slice (some ⟨b, 0, none⟩) n1 k1) ∧ W.cell? ⟨gx, 1, none⟩ = some (.slice A2 n2 k2) ∧ W.cell? ⟨gx, 2, none⟩ = some (.slice A3 n3 k3))) (by kernel_rfl) ?_ (fun hHeld => ?_)
      · (try dsimp only); (first | exact ⟨d0, d1, d2⟩ | go_keep)
      refine wpAnyH_take (i := 0) (oi := ⟨some 29, Go.Op.load 29 (Go.Operand.tmp 5), 29, "l21_language.go:445", #[], none⟩) (v := ?_) rfl (by kernel_rfl) (by kernel_rfl) (by kernel_rfl) (fun _ _ _ h => h) (Or.inl ⟨by rfl, ?_⟩) (by assumption) ?_
      rotate_left
      · intro w hSw; (try dsimp only at hSw); go_split_ands; go_simp; first | done | with_reducible rfl
      (try simp only [Act.put, List.setIfInBounds_toArray, List.set_cons_zero, List.set_cons_succ])
      refine wpAnyH_take (i := 1) (oi := ⟨some 30, Go.Op.move (Go.Operand.tmp 4), 69, "l21_language.go:445", #[], none⟩) (v := ?_) rfl (by kernel_rfl) (by kernel_rfl) (by kernel_rfl) (fun _ _ _ h => h) (Or.inl ⟨by rfl, ?_⟩) (by assumption) ?_
      rotate_left
      · intro w hSw; (try dsimp only at hSw); go_split_ands; go_simp; first | done | with_reducible rfl
      (try simp only [Act.put, List.setIfInBounds_toArray, List.set_cons_zero, List.set_cons_succ])
      refine wpAnyH_ready (rs := [2]) (by kernel_rfl) (by simp) ?_
      refine AllReadyH.cons rfl (fun K hK => ?_) ?_
      · skip
        go_simp
        have NN : Hid ((w4.drew.alloc (.cells #[.string ⟨#[98, 97, 110, 107]⟩, .string ⟨#[]⟩, .string ⟨#[110, 111, 110, 101]⟩, .string ⟨#[66, 97, 110, 107]⟩] 9)).ownsRow w4.heap.size 9 1 (.slice (some ⟨w4.heap.size, 0, none⟩) 4 4) 4 (([⟨#[98, 97, 110, 107]⟩, ⟨#[]⟩, ⟨#[110, 111, 110, 101]⟩, ⟨#[66, 97, 110, 107]⟩] : List ByteArray).flatMap encS)) := by
          have := World.ownsRow_lit (base := w4.heap.size) (e := 9) (size := 1) (w4.drew) #[.string ⟨#[98, 97, 110, 107]⟩, .string ⟨#[]⟩, .string ⟨#[110, 111, 110, 101]⟩, .string ⟨#[66, 97, 110, 107]⟩] 4 (Nat.le_refl _) (by simp [maxLen]) (by simp)
          simpa [Hid, encS] using this
        refine hK.out _ _ ?_ (fun hH2 => ?_)
        · (try dsimp only); (exact ⟨below_cell hHeld.1 ((Below.refl _ _).alloc (Nat.le_refl _) _), below_cell hHeld.2.1 ((Below.refl _ _).alloc (Nat.le_refl _) _), below_cell hHeld.2.2 ((Below.refl _ _).alloc (Nat.le_refl _) _)⟩)
        clear hK K hHeld; have hHeld := hH2; clear hH2
        refine wpAnyH_ready (rs := [3]) (by kernel_rfl) (by simp) ?_
        refine AllReadyH.cons rfl (fun K hK => ?_) ?_
        · skip
          go_simp
          go_wp2_with (go_at_call 53; refine (text_any gs (122) (some ⟨w4.heap.size, 0, none⟩) 4 4 [⟨#[98, 97, 110, 107]⟩, ⟨#[]⟩, ⟨#[110, 111, 110, 101]⟩, ⟨#[66, 97, 110, 107]⟩] _ (SS.out.drew.alloc (.cells #[.string ⟨#[98, 97, 110, 107]⟩, .string ⟨#[]⟩, .string ⟨#[110, 111, 110, 101]⟩, .string ⟨#[66, 97, 110, 107]⟩] 9)) (by omega) (by omega) (by omega) (own_sl encS_len (by omega) NN.out) (fun b off s e => by injection e with e; injection e with e; omega)).mono ?_; rintro r wa ⟨z, rfl, hz, hsa, hga⟩)
          have zz : z.size ≤ 13 := by
            simp only [List.mem_cons, List.not_mem_nil, or_false] at hz
            rcases hz with rfl | rfl | rfl | rfl <;> decide
          have hga2 : w4.grownBy wa (some gs) := (gr_alloc (o := .cells #[.string ⟨#[98, 97, 110, 107]⟩, .string ⟨#[]⟩, .string ⟨#[110, 111, 110, 101]⟩, .string ⟨#[66, 97, 110, 107]⟩] 9) (gr_drew (World.grownBy.refl w4 (some gs)))).trans hga
          refine hK.out _ _ ?_ (fun hH2 => ?_)
          · (try dsimp only); (exact ⟨hga2.cell m0 e1, hga2.cell m1 e1, hga2.cell m2 e1⟩)
          clear hK K hHeld; have hHeld := hH2; clear hH2
          refine wpAnyH_ready (rs := [4]) (by kernel_rfl) (by simp) ?_
          refine AllReadyH.cons rfl (fun K hK => ?_) ?_
          · skip
            have RR := hid (R3.out.grow hga2 e0)
            have p0 := RR.out.c0
            have p1 := RR.out.c1
            have p2 := RR.out.c2
            have y0 := RR.out.f0
            have y1 := RR.out.f1
            have y2 := RR.out.f2
            go_simp
            refine hK.out _ _ ?_ (fun hH2 => ?_)
            · (try dsimp only); (exact ⟨(far3 (by simp only; omega)).trans hHeld.1, (far3 (by simp only; omega)).trans hHeld.2.1, (far3 (by simp only; omega)).trans hHeld.2.2⟩)
            clear hK K hHeld; have hHeld := hH2; clear hH2
            refine wpAnyH_take (i := 5) (oi := ⟨some 3, Go.Op.assign (Go.Operand.tmp 32), 9, "l21_language.go:445", #[⟨3, Go.Ground.data⟩, ⟨4, Go.Ground.chain⟩, ⟨0, Go.Ground.phase⟩, ⟨1, Go.Ground.phase⟩, ⟨2, Go.Ground.phase⟩, ⟨3, Go.Ground.phase⟩, ⟨4, Go.Ground.phase⟩], none⟩) (v := ?_) rfl (by kernel_rfl) (by kernel_rfl) (by kernel_rfl) (fun _ _ _ h => h) (Or.inl ⟨by rfl, ?_⟩) (by assumption) ?_
            rotate_left
            · intro w hSw; (try dsimp only at hSw); go_split_ands; go_simp; first | done | with_reducible rfl
            (try simp only [Act.put, List.setIfInBounds_toArray, List.set_cons_zero, List.set_cons_succ])
            refine wpAnyH_done (by kernel_rfl) ?_ _
            have CC := bl_set3 (g := w.heap.size) (u := .slice (some ⟨b, 0, none⟩) n1 k1) (v := .slice A2 n2 k2) (x := .slice A3 n3 k3) (Nat.le_refl _) (below_src C3 hga2 (by omega) C3.size)
            have OO := ((O3.out.src hga2 hlo).set3 (gr := w.heap.size) (a := .slice (some ⟨b, 0, none⟩) n1 k1) (b := .slice A2 n2 k2) (c := .slice A3 n3 k3) (by omega)).mono (lo' := w.heap.size) (by omega)
            have TT0 := hid (set3_0 p0 (.slice (some ⟨b, 0, none⟩) n1 k1) (.slice A2 n2 k2) (.slice A3 n3 k3))
            have TT1 := hid (set3_1 p1 (.slice (some ⟨b, 0, none⟩) n1 k1) (.slice A2 n2 k2) (.slice A3 n3 k3))
            have TT2 := hid (set3_2 p2 (.slice (some ⟨b, 0, none⟩) n1 k1) (.slice A2 n2 k2) (.slice A3 n3 k3))
            go_wp2_with fail
            have t0 := TT0.out
            have t1 := TT1.out
            have t2 := TT2.out
            refine bodyPost_ret (v := .tuple #[.agg #[.slice (some ⟨b, 0, none⟩) n1 k1, .slice A2 n2 k2, .slice A3 n3 k3], .string z]) (by simp [results, Try.results51, go_sem, t0, t1, t2]) rfl ⟨(some ⟨b, 0, none⟩), n1, k1, A2, n2, k2, A3, n3, k3, x, z, rfl, OO, px2.out, zz, CC⟩
          exact AllReadyH.nil
        exact AllReadyH.nil
      exact AllReadyH.nil
    | false =>
      have hst : ∀ i, i < n1 → (stAt x.st i).size ≤ 12 := fun i hi => px2.out.2.2.2.1 _ (stAt_mem (by have := hHN.out; omega))
      have Hst := hid hst
      obtain ⟨stF, hstF⟩ : ∃ f, f = stAt x.st := ⟨_, rfl⟩
      rw [← hstF] at Hst hCS4
      have e2 : (some b : Option Nat) ≠ some gs := by simp; omega
      have d0 : w4.drew.cell? ⟨gx, 0, none⟩ = some (.slice (some ⟨b, 0, none⟩) n1 k1) := m0
      have d1 : w4.drew.cell? ⟨gx, 1, none⟩ = some (.slice A2 n2 k2) := m1
      have d2 : w4.drew.cell? ⟨gx, 2, none⟩ = some (.slice A3 n3 k3) := m2
      have hz4 : n1 ≤ 62 := by have := hHN.out; have := px2.out.1; omega
      clear hst hstF
      go_wp2_with fail
      refine wp_region_held_drew (S := (fun W => W.cell? ⟨gx, 0, none⟩ = some (.slice (some ⟨b, 0, none⟩) n1 k1) ∧ W.cell? ⟨gx, 1, none⟩ = some (.slice A2 n2 k2) ∧ W.cell? ⟨gx, 2, none⟩ = some (.slice A3 n3 k3) ∧ ∀ i, i < n1 → W.cell? ⟨b, i, none⟩ = some (.string (stF i)))) (by kernel_rfl) ?_ (fun hHeld => ?_)
      · (try dsimp only); (exact ⟨d0, d1, d2, hCS4.out⟩)
      refine wpAnyH_take (i := 0) (oi := ⟨some 19, Go.Op.load 29 (Go.Operand.tmp 5), 29, "l21_language.go:443", #[], none⟩) (v := ?_) rfl (by kernel_rfl) (by kernel_rfl) (by kernel_rfl) (fun _ _ _ h => h) (Or.inl ⟨by rfl, ?_⟩) (by assumption) ?_
      rotate_left
      · intro w hSw; (try dsimp only at hSw); go_split_ands; go_simp; first | done | with_reducible rfl
      (try simp only [Act.put, List.setIfInBounds_toArray, List.set_cons_zero, List.set_cons_succ])
      refine wpAnyH_take (i := 1) (oi := ⟨some 20, Go.Op.fieldAddr 29 (Go.Operand.tmp 5) 0, 0, "l21_language.go:443", #[⟨10, Go.Ground.gcOnly Go.Departure.lateStores⟩], none⟩) (v := ?_) rfl (by kernel_rfl) (by kernel_rfl) (by kernel_rfl) (fun _ _ _ h => h) (Or.inl ⟨by rfl, ?_⟩) (by assumption) ?_
      rotate_left
      · intro w hSw; (try dsimp only at hSw); go_split_ands; go_simp; first | done | with_reducible rfl
      (try simp only [Act.put, List.setIfInBounds_toArray, List.set_cons_zero, List.set_cons_succ])
      refine wpAnyH_take (i := 2) (oi := ⟨some 21, Go.Op.load 22 (Go.Operand.tmp 20), 22, "l21_language.go:443", #[⟨1, Go.Ground.data⟩, ⟨10, Go.Ground.gcOnly Go.Departure.lateStores⟩], none⟩) (v := ?_) rfl (by kernel_rfl) (by kernel_rfl) (by kernel_rfl) (fun _ _ _ h => h) (Or.inl ⟨by rfl, ?_⟩) (by assumption) ?_
      rotate_left
      · intro w hSw; (try dsimp only at hSw); go_split_ands; go_simp; first | done | with_reducible rfl
      (try simp only [Act.put, List.setIfInBounds_toArray, List.set_cons_zero, List.set_cons_succ])
      refine wpAnyH_take (i := 3) (oi := ⟨some 22, Go.Op.move (Go.Operand.tmp 4), 69, "l21_language.go:443", #[], none⟩) (v := ?_) rfl (by kernel_rfl) (by kernel_rfl) (by kernel_rfl) (fun _ _ _ h => h) (Or.inl ⟨by rfl, ?_⟩) (by assumption) ?_
      rotate_left
      · intro w hSw; (try dsimp only at hSw); go_split_ands; go_simp; first | done | with_reducible rfl
      (try simp only [Act.put, List.setIfInBounds_toArray, List.set_cons_zero, List.set_cons_succ])
      refine wpAnyH_take (i := 4) (oi := ⟨some 23, Go.Op.fieldAddr 29 (Go.Operand.tmp 5) 0, 0, "l21_language.go:443", #[], none⟩) (v := ?_) rfl (by kernel_rfl) (by kernel_rfl) (by kernel_rfl) (fun _ _ _ h => h) (Or.inl ⟨by rfl, ?_⟩) (by assumption) ?_
      rotate_left
      · intro w hSw; (try dsimp only at hSw); go_split_ands; go_simp; first | done | with_reducible rfl
      (try simp only [Act.put, List.setIfInBounds_toArray, List.set_cons_zero, List.set_cons_succ])
      refine wpAnyH_take (i := 5) (oi := ⟨some 24, Go.Op.load 22 (Go.Operand.tmp 23), 22, "l21_language.go:443", #[⟨4, Go.Ground.data⟩], none⟩) (v := ?_) rfl (by kernel_rfl) (by kernel_rfl) (by kernel_rfl) (fun _ _ _ h => h) (Or.inl ⟨by rfl, ?_⟩) (by assumption) ?_
      rotate_left
      · intro w hSw; (try dsimp only at hSw); go_split_ands; go_simp; first | done | with_reducible rfl
      (try simp only [Act.put, List.setIfInBounds_toArray, List.set_cons_zero, List.set_cons_succ])
      refine wpAnyH_take (i := 6) (oi := ⟨some 25, Go.Op.call { callee := Go.Callee.builtin Go.Builtin.len, args := #[Go.Operand.tmp 24], argTypes := #[22] }, 3, "l21_language.go:443", #[⟨5, Go.Ground.data⟩], none⟩) (v := ?_) rfl (by kernel_rfl) (by kernel_rfl) (by kernel_rfl) (fun _ _ _ h => h) (Or.inl ⟨by rfl, ?_⟩) (by assumption) ?_
      rotate_left
      · intro w hSw; (try dsimp only at hSw); go_split_ands; go_simp; first | done | with_reducible rfl
      (try simp only [Act.put, List.setIfInBounds_toArray, List.set_cons_zero, List.set_cons_succ])
      refine wpAnyH_ready (rs := [7]) (by kernel_rfl) (by simp) ?_
      refine AllReadyH.cons rfl (fun K hK => ?_) ?_
      · skip
        go_simp
        go_wp2_with (go_at_call 79; refine (pick_any gs 122 n1 w4.drew SS.out.drew (by omega) (by omega)).mono ?_; rintro r wa ⟨ra, rfl, ra0, ra1, hsa, hga⟩)
        obtain ⟨ia, rfl⟩ : ∃ i : Nat, ra = i := ⟨ra.toNat, by omega⟩
        have hia : ia < n1 := by omega
        have hja : (ia : Int) < (n1 : Int) := by omega
        have hka : (0 : Int) ≤ (ia : Int) := by omega
        have hga2 : w4.grownBy wa (some gs) := (gr_drew (World.grownBy.refl w4 (some gs))).trans hga
        refine hK.out _ _ ?_ (fun hH2 => ?_)
        · (try dsimp only); (exact ⟨hga2.cell m0 e1, hga2.cell m1 e1, hga2.cell m2 e1, fun i hi => hga2.cell (hCS4.out i hi) e2⟩)
        clear hK K hHeld; have hHeld := hH2; clear hH2
        refine wpAnyH_take (i := 8) (oi := ⟨some 27, Go.Op.indexAddr 22 (Go.Operand.tmp 21) (Go.Operand.tmp 26), 0, "l21_language.go:443", #[⟨2, Go.Ground.data⟩, ⟨7, Go.Ground.data⟩, ⟨10, Go.Ground.gcOnly Go.Departure.lateStores⟩], none⟩) (v := ?_) rfl (by kernel_rfl) (by kernel_rfl) (by kernel_rfl) (fun _ _ _ h => h) (Or.inl ⟨by rfl, ?_⟩) (by assumption) ?_
        rotate_left
        · intro w hSw; (try dsimp only at hSw); go_split_ands; go_simp; first | done | with_reducible rfl
        (try simp only [Act.put, List.setIfInBounds_toArray, List.set_cons_zero, List.set_cons_succ])
        refine wpAnyH_take (i := 9) (oi := ⟨some 28, Go.Op.load 9 (Go.Operand.tmp 27), 9, "l21_language.go:443", #[⟨8, Go.Ground.data⟩, ⟨10, Go.Ground.gcOnly Go.Departure.lateStores⟩], none⟩) (v := ?_) rfl (by kernel_rfl) (by kernel_rfl) (by kernel_rfl) (fun _ _ _ h => h) (Or.inl ⟨by rfl, ?_⟩) (by assumption) ?_
        rotate_left
        · intro w hSw; (try dsimp only at hSw); go_split_ands; go_simp; first | done | with_reducible rfl
        (try simp only [Act.put, List.setIfInBounds_toArray, List.set_cons_zero, List.set_cons_succ])
        refine wpAnyH_ready (rs := [10]) (by kernel_rfl) (by simp) ?_
        refine AllReadyH.cons rfl (fun K hK => ?_) ?_
        · skip
          have RR := hid (R3.out.grow hga2 e0)
          have p0 := RR.out.c0
          have p1 := RR.out.c1
          have p2 := RR.out.c2
          have y0 := RR.out.f0
          have y1 := RR.out.f1
          have y2 := RR.out.f2
          go_simp
          refine hK.out _ _ ?_ (fun hH2 => ?_)
          · (try dsimp only); (exact ⟨(far3 (by simp only; omega)).trans hHeld.1, (far3 (by simp only; omega)).trans hHeld.2.1, (far3 (by simp only; omega)).trans hHeld.2.2.1, fun i hi => (far3 (by simp only; omega)).trans (hHeld.2.2.2 i hi)⟩)
          clear hK K hHeld; have hHeld := hH2; clear hH2
          refine wpAnyH_take (i := 11) (oi := ⟨some 3, Go.Op.assign (Go.Operand.tmp 28), 9, "l21_language.go:443", #[⟨9, Go.Ground.data⟩, ⟨10, Go.Ground.chain⟩, ⟨0, Go.Ground.phase⟩, ⟨1, Go.Ground.phase⟩, ⟨2, Go.Ground.phase⟩, ⟨3, Go.Ground.phase⟩, ⟨4, Go.Ground.phase⟩, ⟨5, Go.Ground.phase⟩, ⟨6, Go.Ground.phase⟩, ⟨7, Go.Ground.phase⟩, ⟨8, Go.Ground.phase⟩, ⟨9, Go.Ground.phase⟩, ⟨10, Go.Ground.phase⟩], none⟩) (v := ?_) rfl (by kernel_rfl) (by kernel_rfl) (by kernel_rfl) (fun _ _ _ h => h) (Or.inl ⟨by rfl, ?_⟩) (by assumption) ?_
          rotate_left
          · intro w hSw; (try dsimp only at hSw); go_split_ands; go_simp; first | done | with_reducible rfl
          (try simp only [Act.put, List.setIfInBounds_toArray, List.set_cons_zero, List.set_cons_succ])
          refine wpAnyH_done (by kernel_rfl) ?_ _
          have CC := bl_set3 (g := w.heap.size) (u := .slice (some ⟨b, 0, none⟩) n1 k1) (v := .slice A2 n2 k2) (x := .slice A3 n3 k3) (Nat.le_refl _) (below_src C3 hga2 (by omega) C3.size)
          have OO := ((O3.out.src hga2 hlo).set3 (gr := w.heap.size) (a := .slice (some ⟨b, 0, none⟩) n1 k1) (b := .slice A2 n2 k2) (c := .slice A3 n3 k3) (by omega)).mono (lo' := w.heap.size) (by omega)
          have TT0 := hid (set3_0 p0 (.slice (some ⟨b, 0, none⟩) n1 k1) (.slice A2 n2 k2) (.slice A3 n3 k3))
          have TT1 := hid (set3_1 p1 (.slice (some ⟨b, 0, none⟩) n1 k1) (.slice A2 n2 k2) (.slice A3 n3 k3))
          have TT2 := hid (set3_2 p2 (.slice (some ⟨b, 0, none⟩) n1 k1) (.slice A2 n2 k2) (.slice A3 n3 k3))
          have zz := Hst.out ia hia
          go_wp2_with fail
          have t0 := TT0.out
          have t1 := TT1.out
          have t2 := TT2.out
          refine bodyPost_ret (v := .tuple #[.agg #[.slice (some ⟨b, 0, none⟩) n1 k1, .slice A2 n2 k2, .slice A3 n3 k3], .string (stF ia)]) (by simp [results, Try.results51, go_sem, t0, t1, t2]) rfl ⟨_, n1, k1, A2, n2, k2, A3, n3, k3, x, stF ia, rfl, OO, px2.out, by omega, CC⟩
        exact AllReadyH.nil
      exact AllReadyH.nil
set_option maxHeartbeats 4000000 in
theorem DrawDropStation_any (v : Value) (w : World) (hv : Bytes w w.heap.size 5000 v) : Calls Try.prog 14 #[v] w (AskX w) := by
  obtain ⟨W0, hW0⟩ : ∃ W0, W0 = w.alloc (.cells #[.slice none 0 0, .slice none 0 0, .slice none 0 0] 29) := ⟨_, rfl⟩
  have r0 : Blk3 W0 w.heap.size (.slice none 0 0) (.slice none 0 0) (.slice none 0 0) := by rw [hW0]; exact ⟨by go_simp, by go_simp, by go_simp, by go_simp, by go_simp, by go_simp⟩
  have b0 : Below w.heap.size w W0 := by rw [hW0]; exact (Below.refl _ _).alloc (Nat.le_refl _) _
  have hF := l21Ask_any v W0 ((hv.below b0).more (Nat.le_of_lt r0.lt))
  have HW0 := hid hW0
  clear hW0 hv
  go_enter Try.func14, Try.ntmps14
  go_wp2_with fail
  rw [← HW0.out]
  refine hF.mono ?_
  rintro r w1 ⟨A1, n1, c1, A2, n2, c2, A3, n3, c3, x, z, rfl, o1, px, pz, b1⟩
  clear hF
  have r1 := r0.at_ b1 r0.lt
  have p0 := r1.c0
  have p1 := r1.c1
  have p2 := r1.c2
  have y0 := r1.f0
  have y1 := r1.f1
  have y2 := r1.f2
  have c1' := b0.trans (b1.mono b0.size)
  have OO := (o1.set3 (gr := w.heap.size) (a := .slice A1 n1 c1) (b := .slice A2 n2 c2) (c := .slice A3 n3 c3) r0.lt).mono (lo' := w.heap.size) (Nat.le_of_lt r0.lt)
  have TT0 := hid (set3_0 p0 (.slice A1 n1 c1) (.slice A2 n2 c2) (.slice A3 n3 c3))
  have TT1 := hid (set3_1 p1 (.slice A1 n1 c1) (.slice A2 n2 c2) (.slice A3 n3 c3))
  have TT2 := hid (set3_2 p2 (.slice A1 n1 c1) (.slice A2 n2 c2) (.slice A3 n3 c3))
  have OH := hid OO
  have CH := hid c1'
  clear o1 OO r0 r1 b0 b1 c1' HW0
  go_wp2_with fail
  have t0 := TT0.out
  have t1 := TT1.out
  have t2 := TT2.out
  refine bodyPost_ret (v := .tuple #[.agg #[.slice A1 n1 c1, .slice A2 n2 c2, .slice A3 n3 c3], .string z]) (by simp [results, Try.results14, go_sem, t0, t1, t2]) rfl ⟨A1, n1, c1, A2, n2, c2, A3, n3, c3, x, z, rfl, OH.out, px, pz, bl_set3 (Nat.le_refl _) CH.out⟩
set_option maxHeartbeats 4000000 in
theorem DrawWaysFromName_any (v : Value) (w : World) (hv : Bytes w w.heap.size 5000 v) : Calls Try.prog 17 #[v] w (AskX w) := by
  obtain ⟨W0, hW0⟩ : ∃ W0, W0 = w.alloc (.cells #[.slice none 0 0, .slice none 0 0, .slice none 0 0] 29) := ⟨_, rfl⟩
  have r0 : Blk3 W0 w.heap.size (.slice none 0 0) (.slice none 0 0) (.slice none 0 0) := by rw [hW0]; exact ⟨by go_simp, by go_simp, by go_simp, by go_simp, by go_simp, by go_simp⟩
  have b0 : Below w.heap.size w W0 := by rw [hW0]; exact (Below.refl _ _).alloc (Nat.le_refl _) _
  have hF := l21Ask_any v W0 ((hv.below b0).more (Nat.le_of_lt r0.lt))
  have HW0 := hid hW0
  clear hW0 hv
  go_enter Try.func17, Try.ntmps17
  go_wp2_with fail
  rw [← HW0.out]
  refine hF.mono ?_
  rintro r w1 ⟨A1, n1, c1, A2, n2, c2, A3, n3, c3, x, z, rfl, o1, px, pz, b1⟩
  clear hF
  have r1 := r0.at_ b1 r0.lt
  have p0 := r1.c0
  have p1 := r1.c1
  have p2 := r1.c2
  have y0 := r1.f0
  have y1 := r1.f1
  have y2 := r1.f2
  have c1' := b0.trans (b1.mono b0.size)
  have OO := (o1.set3 (gr := w.heap.size) (a := .slice A1 n1 c1) (b := .slice A2 n2 c2) (c := .slice A3 n3 c3) r0.lt).mono (lo' := w.heap.size) (Nat.le_of_lt r0.lt)
  have TT0 := hid (set3_0 p0 (.slice A1 n1 c1) (.slice A2 n2 c2) (.slice A3 n3 c3))
  have TT1 := hid (set3_1 p1 (.slice A1 n1 c1) (.slice A2 n2 c2) (.slice A3 n3 c3))
  have TT2 := hid (set3_2 p2 (.slice A1 n1 c1) (.slice A2 n2 c2) (.slice A3 n3 c3))
  have OH := hid OO
  have CH := hid c1'
  clear o1 OO r0 r1 b0 b1 c1' HW0
  go_wp2_with fail
  have t0 := TT0.out
  have t1 := TT1.out
  have t2 := TT2.out
  refine bodyPost_ret (v := .tuple #[.agg #[.slice A1 n1 c1, .slice A2 n2 c2, .slice A3 n3 c3], .string z]) (by simp [results, Try.results17, go_sem, t0, t1, t2]) rfl ⟨A1, n1, c1, A2, n2, c2, A3, n3, c3, x, z, rfl, OH.out, px, pz, bl_set3 (Nat.le_refl _) CH.out⟩
/-- a scheme and two names -/
def AskX2 (w : World) (r : Ending) (w' : World) : Prop :=
  ∃ A1 n1 c1 A2 n2 c2 A3 n3 c3 x z t, r = .returned (.tuple #[.agg #[.slice A1 n1 c1, .slice A2 n2 c2, .slice A3 n3 c3], .string z, .string t]) ∧ OwnX w' w.heap.size ⟨A1, n1, c1, A2, n2, c2, A3, n3, c3⟩ x ∧ FewX 62 x ∧ z.size ≤ 13 ∧ t.size ≤ 13 ∧ Below w.heap.size w w'
set_option maxHeartbeats 8000000 in
set_option maxRecDepth 100000 in
theorem DrawRenameStation_any (v : Value) (w : World) (hv : Bytes w w.heap.size 5000 v) : Calls Try.prog 13 #[v] w (AskX2 w) := by
  obtain ⟨W0, hW0⟩ : ∃ W0, W0 = w.alloc (.cells #[.slice none 0 0, .slice none 0 0, .slice none 0 0] 29) := ⟨_, rfl⟩
  have r0 : Blk3 W0 w.heap.size (.slice none 0 0) (.slice none 0 0) (.slice none 0 0) := by rw [hW0]; exact ⟨by go_simp, by go_simp, by go_simp, by go_simp, by go_simp, by go_simp⟩
  have b0 : Below w.heap.size w W0 := by rw [hW0]; exact (Below.refl _ _).alloc (Nat.le_refl _) _
  have hF := l21Ask_any v W0 ((hv.below b0).more (Nat.le_of_lt r0.lt))
  have z0 := r0.lt
  have HW0 := hid hW0
  clear hW0
  go_enter Try.func13, Try.ntmps13
  go_wp2_with fail
  rw [← HW0.out]
  refine hF.mono ?_
  rintro r w1 ⟨A1, n1, k1, A2, n2, k2, A3, n3, k3, x, z, rfl, o1, px, pz, b1⟩
  clear hF
  have r1 := r0.at_ b1 r0.lt
  have z1 := b1.size
  have c1 := b0.trans (b1.mono b0.size)
  obtain ⟨W2, hW2⟩ : ∃ W2, W2 = w1.alloc (.cells #[.slice A1 n1 k1, .slice A2 n2 k2, .slice A3 n3 k3] 29) := ⟨_, rfl⟩
  have b2 : Below w1.heap.size w1 W2 := by rw [hW2]; exact (Below.refl _ _).alloc (Nat.le_refl _) _
  have o2 := o1.below b2
  have r2 := r1.at_ b2 r1.lt
  have c2 := c1.trans (b2.mono c1.size)
  have m0 : W2.cell? ⟨w1.heap.size, 0, none⟩ = some (.slice A1 n1 k1) := by rw [hW2]; exact (World.cell?_alloc_at _ _ _ _ rfl).trans rfl
  have m1 : W2.cell? ⟨w1.heap.size, 1, none⟩ = some (.slice A2 n2 k2) := by rw [hW2]; exact (World.cell?_alloc_at _ _ _ _ rfl).trans rfl
  have m2 : W2.cell? ⟨w1.heap.size, 2, none⟩ = some (.slice A3 n3 k3) := by rw [hW2]; exact (World.cell?_alloc_at _ _ _ _ rfl).trans rfl
  have hF2 := l00From_any v W2 ((hv.below c2).more c2.size)
  have HW2 := hid hW2
  clear hW2 hv o1 r0 r1 b0 b1 b2 c1 HW0
  go_wp2_with fail
  rw [← HW2.out]
  refine hF2.mono ?_
  rintro r w3 ⟨rfl, hs3, b3, z3⟩
  clear hF2
  obtain ⟨gx, hgx⟩ : ∃ gx, gx = w1.heap.size := ⟨_, rfl⟩
  obtain ⟨gs, hgs⟩ : ∃ gs, gs = W2.heap.size := ⟨_, rfl⟩
  rw [← hgs] at hs3 z3
  have lx : gx < gs := by rw [hgs, hgx]; exact World.block_lt_of_cell? _ _ m0
  replace m0 := below_cell m0 b3
  replace m1 := below_cell m1 b3
  replace m2 := below_cell m2 b3
  rw [← hgx] at m0 m1 m2
  have C3 := c2.trans (b3.mono c2.size)
  have O3 := hid (o2.below b3)
  have R3 := hid (r2.at_ b3 r2.lt)
  have SS := hid hs3
  have hgw : w.heap.size < gx := by omega
  obtain ⟨lo, hlo, hlo3⟩ : ∃ lo, lo = W0.heap.size ∧ w.heap.size < lo := ⟨_, rfl, by omega⟩
  rw [← hlo] at O3
  have e1 : (some gx : Option Nat) ≠ some gs := by simp; omega
  have e0 : (some gs : Option Nat) ≠ some w.heap.size := by simp; omega
  have px2 := hid px
  have OB : Hid (∀ q, ((Value.slice A1 n1 k1).ownBlock = some q ∨ (Value.slice A2 n2 k2).ownBlock = some q ∨ (Value.slice A3 n3 k3).ownBlock = some q) → q < gs) := fun q hq => by
    rw [hgs]
    rcases hq with hq | hq | hq
    · exact (o2.st.lt q hq).2
    · exact (o2.rm.lt q hq).2
    · exact (o2.wy.lt q hq).2
  rw [← hgx]
  rw [← hgs]
  clear o2 r2 hs3 b3 c2 HW2 px hgx hgs hlo z0 z1
  have d0 : w3.drew.cell? ⟨gx, 0, none⟩ = some (.slice A1 n1 k1) := m0
  have d1 : w3.drew.cell? ⟨gx, 1, none⟩ = some (.slice A2 n2 k2) := m1
  have d2 : w3.drew.cell? ⟨gx, 2, none⟩ = some (.slice A3 n3 k3) := m2
  have lx3 : gx < w3.heap.size := by omega
  go_wp2_with fail
  refine wp_region_held_drew (S := (fun W => W.cell? ⟨gx, 0, none⟩ = some (.slice A1 n1 k1) ∧ W.cell? ⟨gx, 1, none⟩ = some (.slice A2 n2 k2) ∧ W.cell? ⟨gx, 2, none⟩ = some (.slice A3 n3 k3))) (by kernel_rfl) ?_ (fun hHeld => ?_)
  · (try dsimp only); (first | exact ⟨d0, d1, d2⟩ | go_keep)
  refine wpAnyH_take (i := 0) (oi := ⟨some 15, Go.Op.load 29 (Go.Operand.tmp 5), 29, "l21_language.go:482", #[], none⟩) (v := ?_) rfl (by kernel_rfl) (by kernel_rfl) (by kernel_rfl) (fun _ _ _ h => h) (Or.inl ⟨by rfl, ?_⟩) (by assumption) ?_
  rotate_left
  · intro w hSw; (try dsimp only at hSw); go_split_ands; go_simp; first | done | with_reducible rfl
  (try simp only [Act.put, List.setIfInBounds_toArray, List.set_cons_zero, List.set_cons_succ])
  refine wpAnyH_take (i := 1) (oi := ⟨some 16, Go.Op.move (Go.Operand.tmp 6), 9, "l21_language.go:482", #[⟨5, Go.Ground.gcOnly Go.Departure.lateStores⟩], none⟩) (v := ?_) rfl (by kernel_rfl) (by kernel_rfl) (by kernel_rfl) (fun _ _ _ h => h) (Or.inl ⟨by rfl, ?_⟩) (by assumption) ?_
  rotate_left
  · intro w hSw; (try dsimp only at hSw); go_split_ands; go_simp; first | done | with_reducible rfl
  (try simp only [Act.put, List.setIfInBounds_toArray, List.set_cons_zero, List.set_cons_succ])
  refine wpAnyH_take (i := 2) (oi := ⟨some 17, Go.Op.move (Go.Operand.tmp 7), 69, "l21_language.go:482", #[], none⟩) (v := ?_) rfl (by kernel_rfl) (by kernel_rfl) (by kernel_rfl) (fun _ _ _ h => h) (Or.inl ⟨by rfl, ?_⟩) (by assumption) ?_
  rotate_left
  · intro w hSw; (try dsimp only at hSw); go_split_ands; go_simp; first | done | with_reducible rfl
  (try simp only [Act.put, List.setIfInBounds_toArray, List.set_cons_zero, List.set_cons_succ])
  refine wpAnyH_ready (rs := [3]) (by kernel_rfl) (by simp) ?_
  refine AllReadyH.cons rfl (fun K hK => ?_) ?_
  · skip
    go_simp
    have NN : Hid ((w3.drew.alloc (.cells #[.string ⟨#[110, 101, 119]⟩, .string ⟨#[110, 101, 119]⟩, .string ⟨#[112, 111, 115, 116]⟩, .string ⟨#[]⟩, .string ⟨#[78, 101, 119]⟩, .string ⟨#[97, 98, 99, 100, 101, 102, 103, 104, 105, 106, 107, 108, 109]⟩] 9)).ownsRow w3.heap.size 9 1 (.slice (some ⟨w3.heap.size, 0, none⟩) 6 6) 6 (([⟨#[110, 101, 119]⟩, ⟨#[110, 101, 119]⟩, ⟨#[112, 111, 115, 116]⟩, ⟨#[]⟩, ⟨#[78, 101, 119]⟩, ⟨#[97, 98, 99, 100, 101, 102, 103, 104, 105, 106, 107, 108, 109]⟩] : List ByteArray).flatMap encS)) := by
      have := World.ownsRow_lit (base := w3.heap.size) (e := 9) (size := 1) (w3.drew) #[.string ⟨#[110, 101, 119]⟩, .string ⟨#[110, 101, 119]⟩, .string ⟨#[112, 111, 115, 116]⟩, .string ⟨#[]⟩, .string ⟨#[78, 101, 119]⟩, .string ⟨#[97, 98, 99, 100, 101, 102, 103, 104, 105, 106, 107, 108, 109]⟩] 6 (Nat.le_refl _) (by simp [maxLen]) (by simp)
      simpa [Hid, encS] using this
    refine hK.out _ _ ?_ (fun hH2 => ?_)
    · (try dsimp only); (exact ⟨below_cell hHeld.1 ((Below.refl _ _).alloc (Nat.le_refl _) _), below_cell hHeld.2.1 ((Below.refl _ _).alloc (Nat.le_refl _) _), below_cell hHeld.2.2 ((Below.refl _ _).alloc (Nat.le_refl _) _)⟩)
    clear hK K hHeld; have hHeld := hH2; clear hH2
    refine wpAnyH_ready (rs := [4]) (by kernel_rfl) (by simp) ?_
    refine AllReadyH.cons rfl (fun K hK => ?_) ?_
    · skip
      go_simp
      go_wp2_with (go_at_call 53; refine (text_any gs 0 (some ⟨w3.heap.size, 0, none⟩) 6 6 [⟨#[110, 101, 119]⟩, ⟨#[110, 101, 119]⟩, ⟨#[112, 111, 115, 116]⟩, ⟨#[]⟩, ⟨#[78, 101, 119]⟩, ⟨#[97, 98, 99, 100, 101, 102, 103, 104, 105, 106, 107, 108, 109]⟩] _ (SS.out.drew.alloc (.cells #[.string ⟨#[110, 101, 119]⟩, .string ⟨#[110, 101, 119]⟩, .string ⟨#[112, 111, 115, 116]⟩, .string ⟨#[]⟩, .string ⟨#[78, 101, 119]⟩, .string ⟨#[97, 98, 99, 100, 101, 102, 103, 104, 105, 106, 107, 108, 109]⟩] 9)) (by omega) (by omega) (by omega) (own_sl encS_len (by omega) NN.out) (fun b off s e => by injection e with e; injection e with e; omega)).mono ?_; rintro r wa ⟨t, rfl, ht, hsa, hga⟩)
      have zz : t.size ≤ 13 := by
        simp only [List.mem_cons, List.not_mem_nil, or_false] at ht
        rcases ht with rfl | rfl | rfl | rfl | rfl | rfl <;> decide
      have hga2 : w3.grownBy wa (some gs) := (gr_alloc (o := .cells #[.string ⟨#[110, 101, 119]⟩, .string ⟨#[110, 101, 119]⟩, .string ⟨#[112, 111, 115, 116]⟩, .string ⟨#[]⟩, .string ⟨#[78, 101, 119]⟩, .string ⟨#[97, 98, 99, 100, 101, 102, 103, 104, 105, 106, 107, 108, 109]⟩] 9) (gr_drew (World.grownBy.refl w3 (some gs)))).trans hga
      refine hK.out _ _ ?_ (fun hH2 => ?_)
      · (try dsimp only); (exact ⟨hga2.cell m0 e1, hga2.cell m1 e1, hga2.cell m2 e1⟩)
      clear hK K hHeld; have hHeld := hH2; clear hH2
      refine wpAnyH_ready (rs := [5]) (by kernel_rfl) (by simp) ?_
      refine AllReadyH.cons rfl (fun K hK => ?_) ?_
      · skip
        have RR := hid (R3.out.grow hga2 e0)
        have p0 := RR.out.c0
        have p1 := RR.out.c1
        have p2 := RR.out.c2
        have y0 := RR.out.f0
        have y1 := RR.out.f1
        have y2 := RR.out.f2
        go_simp
        refine hK.out _ _ ?_ (fun hH2 => ?_)
        · (try dsimp only); (exact ⟨(far3 (by simp only; omega)).trans hHeld.1, (far3 (by simp only; omega)).trans hHeld.2.1, (far3 (by simp only; omega)).trans hHeld.2.2⟩)
        clear hK K hHeld; have hHeld := hH2; clear hH2
        refine wpAnyH_take (i := 6) (oi := ⟨some 3, Go.Op.assign (Go.Operand.tmp 16), 9, "l21_language.go:482", #[⟨1, Go.Ground.data⟩, ⟨5, Go.Ground.chain⟩, ⟨0, Go.Ground.phase⟩, ⟨1, Go.Ground.phase⟩, ⟨2, Go.Ground.textOnly Go.Departure.lateStores⟩, ⟨3, Go.Ground.textOnly Go.Departure.lateStores⟩, ⟨4, Go.Ground.textOnly Go.Departure.lateStoresUnsure⟩, ⟨5, Go.Ground.phase⟩], none⟩) (v := ?_) rfl (by kernel_rfl) (by kernel_rfl) (by kernel_rfl) (fun _ _ _ h => h) (Or.inl ⟨by rfl, ?_⟩) (by assumption) ?_
        rotate_left
        · intro w hSw; (try dsimp only at hSw); go_split_ands; go_simp; first | done | with_reducible rfl
        (try simp only [Act.put, List.setIfInBounds_toArray, List.set_cons_zero, List.set_cons_succ])
        refine wpAnyH_take (i := 7) (oi := ⟨some 4, Go.Op.assign (Go.Operand.tmp 19), 9, "l21_language.go:482", #[⟨4, Go.Ground.data⟩, ⟨6, Go.Ground.chain⟩, ⟨0, Go.Ground.phase⟩, ⟨1, Go.Ground.phase⟩, ⟨2, Go.Ground.phase⟩, ⟨3, Go.Ground.phase⟩, ⟨4, Go.Ground.phase⟩, ⟨5, Go.Ground.phase⟩, ⟨6, Go.Ground.phase⟩], none⟩) (v := ?_) rfl (by kernel_rfl) (by kernel_rfl) (by kernel_rfl) (fun _ _ _ h => h) (Or.inl ⟨by rfl, ?_⟩) (by assumption) ?_
        rotate_left
        · intro w hSw; (try dsimp only at hSw); go_split_ands; go_simp; first | done | with_reducible rfl
        (try simp only [Act.put, List.setIfInBounds_toArray, List.set_cons_zero, List.set_cons_succ])
        refine wpAnyH_done (by kernel_rfl) ?_ _
        have CC := bl_set3 (g := w.heap.size) (u := .slice A1 n1 k1) (v := .slice A2 n2 k2) (x := .slice A3 n3 k3) (Nat.le_refl _) (below_src C3 hga2 (by omega) C3.size)
        have OW : OwnX wa lo ⟨A1, n1, k1, A2, n2, k2, A3, n3, k3⟩ x := ⟨own_apartS O3.out.st hga2 (fun b hb e => by injection hb with hb; subst hb; exact absurd (OB.out _ (.inl e)) (Nat.lt_irrefl _)), own_apartS O3.out.rm hga2 (fun b hb e => by injection hb with hb; subst hb; exact absurd (OB.out _ (.inr (.inl e))) (Nat.lt_irrefl _)), own_apartS O3.out.wy hga2 (fun b hb e => by injection hb with hb; subst hb; exact absurd (OB.out _ (.inr (.inr e))) (Nat.lt_irrefl _)), O3.out.ap12, O3.out.ap13, O3.out.ap23⟩
        have OO := (OW.set3 (gr := w.heap.size) (a := .slice A1 n1 k1) (b := .slice A2 n2 k2) (c := .slice A3 n3 k3) hlo3).mono (lo' := w.heap.size) (by omega)
        have TT0 := hid (set3_0 p0 (.slice A1 n1 k1) (.slice A2 n2 k2) (.slice A3 n3 k3))
        have TT1 := hid (set3_1 p1 (.slice A1 n1 k1) (.slice A2 n2 k2) (.slice A3 n3 k3))
        have TT2 := hid (set3_2 p2 (.slice A1 n1 k1) (.slice A2 n2 k2) (.slice A3 n3 k3))
        go_wp2_with fail
        have t0 := TT0.out
        have t1 := TT1.out
        have t2 := TT2.out
        refine bodyPost_ret (v := .tuple #[.agg #[.slice A1 n1 k1, .slice A2 n2 k2, .slice A3 n3 k3], .string z, .string t]) (by simp [results, Try.results13, go_sem, t0, t1, t2]) rfl ⟨A1, n1, k1, A2, n2, k2, A3, n3, k3, x, z, t, rfl, OO, px2.out, pz, zz, CC⟩
      exact AllReadyH.nil
    exact AllReadyH.nil
  exact AllReadyH.nil
end Go.Proofs.Ytmanbpobdaamfaa
