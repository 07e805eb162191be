/-
  FS: texts SDraw, one behind the other. No condition but what each says.
-/
import Derived.Test.YtcgkcfmiabninaaGreatDoorFS05
import Derived.Deep.RegionLaw
/-
  Drawn schemes: the first draw. No condition.
-/
namespace Go.Proofs.YtcgkcfmiabninaaGreatDoor
open Go.RowKit
set_option maxHeartbeats 400000

def namesB : List ByteArray := [⟨#[98, 97, 110, 107]⟩, ⟨#[112, 111, 115, 116]⟩, ⟨#[119, 97, 114, 100]⟩, ⟨#[108, 97, 98, 45, 50]⟩, ⟨#[100, 101, 115, 107]⟩, ⟨#[104, 97, 108, 108]⟩]
theorem namesB_len : namesB.length = 6 := rfl
theorem namesB_size : ∀ z ∈ namesB, z.size ≤ 12 := by
  intro z hz
  simp only [namesB, List.mem_cons, List.not_mem_nil, or_false] at hz
  rcases hz with rfl | rfl | rfl | rfl | rfl | rfl <;> decide
/-- what a drawn scheme fulfils -/
def TinyX (x : Sch) : Prop := FewX 8 x ∧ MetX x
theorem take_names {j : Nat} {z : ByteArray} (h : z ∈ namesB.take j) : z.size ≤ 12 := namesB_size z (List.mem_of_mem_take h)
def stAt (l : List ByteArray) (i : Nat) : ByteArray := l[i]?.getD ByteArray.empty
theorem stAt_at {l : List ByteArray} {i : Nat} (h : i < l.length) : l[i]? = some (stAt l i) := by simp [stAt, List.getElem?_eq_getElem h]
theorem stAt_mem {l : List ByteArray} {i : Nat} (h : i < l.length) : stAt l i ∈ l := by
  exact List.mem_of_getElem? (stAt_at h)
theorem addWy_in (st : List ByteArray) (ws : List Way) (y : Way) : ∃ ws', addWy ⟨st, [], ws⟩ y = ⟨st, [], ws'⟩ ∧ ws'.length ≤ ws.length + 1 ∧ ∀ q ∈ ws', q ∈ ws ∨ q = y := by
  unfold addWy
  split
  · exact ⟨ws ++ [y], rfl, by simp, fun q hq => by simpa using hq⟩
  · exact ⟨ws, rfl, by omega, fun q hq => .inl hq⟩
theorem addRm_in (st rs : List ByteArray) (ws : List Way) (z : ByteArray) : ∃ rs', addRm ⟨st, rs, ws⟩ z = ⟨st, rs', ws⟩ ∧ rs'.length ≤ rs.length + 1 ∧ ∀ q ∈ rs', q ∈ rs ∨ q = z := by
  unfold addRm
  split
  · exact ⟨rs ++ [z], rfl, by simp, fun q hq => by simpa using hq⟩
  · exact ⟨rs, rfl, by omega, fun q hq => .inl hq⟩
theorem XAt.stCell {w : World} {gx lo : Nat} {s : SV} {x : Sch} (h : XAt w gx lo s x) (hp : 0 < x.st.length) : ∃ b, s.A1 = some ⟨b, 0, none⟩ ∧ lo ≤ b ∧ b ≠ gx ∧ b < w.heap.size ∧ ∀ i, i < x.st.length → w.cell? ⟨b, i, none⟩ = some (.string (stAt x.st i)) := by
  obtain ⟨A1, n1, c1, A2, n2, c2, A3, n3, c3⟩ := s
  have h1 := h.own.st
  have h2 := h.len.1
  have h3 := h.o1
  simp only at h1 h2 h3
  rcases h1.2 with ⟨_, h0⟩ | ⟨g, cap, cur, hA, _⟩
  · exfalso; omega
  · simp only [Value.slice.injEq] at hA
    obtain ⟨rfl, _, rfl⟩ := hA
    have hl := h1.lt g rfl
    refine ⟨g, rfl, hl.1, fun e => h3 (by rw [e]; rfl), hl.2, fun i hi => ?_⟩
    have := h1.cells (g := g) rfl i (.string (stAt x.st i)) (by
      have : x.st.flatMap encS = x.st.map Value.string := by
        generalize x.st = l
        induction l with
        | nil => rfl
        | cons a l ih => rw [List.flatMap_cons, ih]; rfl
      rw [this, List.getElem?_map, stAt_at hi]
      rfl)
    rw [Addr.add_lit, Nat.zero_add] at this
    exact this
theorem flat_str (l : List ByteArray) : l.flatMap encS = l.map Value.string := by
  induction l with
  | nil => rfl
  | cons a l ih => rw [List.flatMap_cons, ih]; rfl
set_option maxHeartbeats 8000000 in
set_option maxRecDepth 100000 in
theorem l21Draw_any (gs k : Nat) (w : World) (h : SrcAt w gs k) (hk : k ≤ 10000) :
    Calls Tryz.prog 42 #[.pointer (some ⟨gs, 0, none⟩)] w (DrawX gs (k + 100) TinyX w) := by
  have hgl := h.lt
  obtain ⟨i0, hi, hz0, hz1, hz2⟩ := info_parts str_info
  obtain ⟨W0, hW0⟩ : ∃ W0, W0 = w.alloc (.cells #[.slice none 0 0, .slice none 0 0, .slice none 0 0] 25) := ⟨_, rfl⟩
  have r0 : Blk3 W0 w.heap.size (.slice none 0 0) (.slice none 0 0) (.slice none 0 0) := by rw [hW0]; exact ⟨by go_simp, by go_simp, by go_simp, by go_simp, by go_simp, by go_simp⟩
  have g0 : w.grownBy W0 (some gs) := by rw [hW0]; exact gr_alloc (World.grownBy.refl _ _)
  have h0 : SrcAt W0 gs k := by rw [hW0]; exact h.alloc _
  have z0 : w.heap.size < W0.heap.size := by rw [hW0]; simp
  have hE : Calls Tryz.prog 26 #[] W0 fun r w' => ∃ g1 g2 g3, r = .returned (.agg #[.slice (some ⟨g1, 0, none⟩) 0 0, .slice (some ⟨g2, 0, none⟩) 0 0, .slice (some ⟨g3, 0, none⟩) 0 0]) ∧ OwnX w' W0.heap.size ⟨some ⟨g1, 0, none⟩, 0, 0, some ⟨g2, 0, none⟩, 0, 0, some ⟨g3, 0, none⟩, 0, 0⟩ ⟨[], [], []⟩ ∧ Below W0.heap.size W0 w' := (l21Empty_any W0).mono fun r w' h => ⟨_, _, _, h⟩
  have HW0 := hid hW0
  clear hW0 h
  go_enter Tryz.func42, Tryz.ntmps42
  go_wp2_with fail
  rw [← HW0.out]
  refine hE.mono ?_
  rintro r w1 ⟨g1, g2, g3, rfl, o1, b1⟩
  clear hE
  have z1 := b1.size
  obtain ⟨W2, hW2⟩ : ∃ W2, W2 = w1.alloc (.cells #[.slice (some ⟨g1, 0, none⟩) 0 0, .slice (some ⟨g2, 0, none⟩) 0 0, .slice (some ⟨g3, 0, none⟩) 0 0] 25) := ⟨_, rfl⟩
  have a2 : Below w1.heap.size w1 W2 := by rw [hW2]; exact (Below.refl _ _).alloc (Nat.le_refl _) _
  have l1 : ∀ q, ((Value.slice (some ⟨g1, 0, none⟩) 0 0).ownBlock = some q ∨ (Value.slice (some ⟨g2, 0, none⟩) 0 0).ownBlock = some q ∨ (Value.slice (some ⟨g3, 0, none⟩) 0 0).ownBlock = some q) → q < w1.heap.size := fun q hq => by
    rcases hq with hq | hq | hq
    · exact (o1.st.lt q hq).2
    · exact (o1.rm.lt q hq).2
    · exact (o1.wy.lt q hq).2
  have X2 : XAt W2 w1.heap.size W0.heap.size ⟨some ⟨g1, 0, none⟩, 0, 0, some ⟨g2, 0, none⟩, 0, 0, some ⟨g3, 0, none⟩, 0, 0⟩ ⟨[], [], []⟩ := by
    refine ⟨?_, ?_, ?_, ?_, ?_, ?_, o1.below a2, fun e => absurd (l1 _ (.inl e)) (Nat.lt_irrefl _), fun e => absurd (l1 _ (.inr (.inl e))) (Nat.lt_irrefl _), fun e => absurd (l1 _ (.inr (.inr e))) (Nat.lt_irrefl _)⟩
    all_goals rw [hW2]
    all_goals go_simp
  have zb2 : w1.heap.size < W2.heap.size := by rw [hW2]; simp
  have zb4 : Hid (W2.heap.size = w1.heap.size + 1) := by rw [Hid, hW2]; simp
  have T2 : StX w W2 gs w.heap.size w1.heap.size W0.heap.size k _ ⟨[], [], []⟩ :=
    ⟨X2, (h0.below (b1.mono (by omega))).below (a2.mono (by omega)), (r0.at_ b1 (by omega)).at_ a2 (by omega), src_below (src_below g0 b1 (by omega)) a2 (by omega), hgl, Nat.le_refl _, by omega, z1⟩
  obtain ⟨W3, hW3⟩ : ∃ W3, W3 = W2.alloc (.cells #[.string ⟨#[98, 97, 110, 107]⟩, .string ⟨#[112, 111, 115, 116]⟩, .string ⟨#[119, 97, 114, 100]⟩, .string ⟨#[108, 97, 98, 45, 50]⟩, .string ⟨#[100, 101, 115, 107]⟩, .string ⟨#[104, 97, 108, 108]⟩] 9) := ⟨_, rfl⟩
  have a3 : Below W2.heap.size W2 W3 := by rw [hW3]; exact (Below.refl _ _).alloc (Nat.le_refl _) _
  have N3 : W3.ownsRow W2.heap.size 9 1 (.slice (some ⟨W2.heap.size, 0, none⟩) 6 6) 6 (namesB.flatMap encS) := by
    rw [hW3]
    have := World.ownsRow_lit (base := W2.heap.size) (e := 9) (size := 1) W2 #[.string ⟨#[98, 97, 110, 107]⟩, .string ⟨#[112, 111, 115, 116]⟩, .string ⟨#[119, 97, 114, 100]⟩, .string ⟨#[108, 97, 98, 45, 50]⟩, .string ⟨#[100, 101, 115, 107]⟩, .string ⟨#[104, 97, 108, 108]⟩] 6 (Nat.le_refl _) (by simp [maxLen]) (by simp)
    simpa [namesB, encS] using this
  have T3 := T2.below a3
  have z3 : W2.heap.size < W3.heap.size := by rw [hW3]; simp
  obtain ⟨gx, hgx⟩ : ∃ gx, gx = w1.heap.size := ⟨_, rfl⟩
  obtain ⟨lo, hlo⟩ : ∃ lo, lo = W0.heap.size := ⟨_, rfl⟩
  obtain ⟨nb, hnb⟩ : ∃ nb, nb = w1.heap.size + 1 := ⟨_, rfl⟩
  have HW2 := hid hW2
  have HW3 := hid hW3
  go_wp2_with fail
  rw [← HW2.out]
  rw [← HW3.out]
  refine (pick_any gs k 7 W3 T3.src (by omega) (by omega)).mono ?_
  rintro r w4 ⟨q, rfl, q0, q1, hs4, hg4⟩
  obtain ⟨q, rfl⟩ : ∃ q' : Nat, q = q' := ⟨q.toNat, by omega⟩
  have q6 : q ≤ 6 := by omega
  have T4 := T3.pick hs4 hg4
  have N4 := own_apartS N3 hg4 (fun b hb => by injection hb with hb; subst hb; simp [Value.ownBlock]; omega)
  have z4 := hg4.size
  have ne1 : (Value.slice (some ⟨g1, 0, none⟩) 0 0).ownBlock ≠ some W2.heap.size := fun e => by have := l1 _ (.inl e); omega
  have hnb2 := hnb.trans zb4.out.symm
  have hnl : nb < w4.heap.size := by omega
  have hng : nb ≠ gx := by omega
  have hgn : gs < nb := by omega
  rw [← hgx, ← hlo] at T4
  rw [← hnb2] at N4 ne1
  have HT : Hid (∃ s, StX w w4 gs w.heap.size gx lo (k + 2) s ⟨namesB.take 0, [], []⟩ ∧ (Value.slice s.A1 s.n1 s.c1).ownBlock ≠ some nb) := ⟨_, T4, ne1⟩
  have HN := hid N4
  rw [← hnb]
  rw [← hgx]
  clear T4 N4 ne1 T3 T2 N3 X2 r0 g0 h0 o1 l1 a2 a3 b1 hs4 hg4 HW2 HW3 hW2 hW3 q0 q1 HW0 hgx hlo hnb hnb2 z0 z1 zb2 zb4 z3 z4
  go_wp2_with fail
  go_loopw [5] (fun vk wl => ∃ (q j : Nat), vk = .int .i64 q ∧ q + j ≤ 6 ∧ Hid (∃ s, StX w wl gs w.heap.size gx lo (k + 2) s ⟨namesB.take j, [], []⟩ ∧ (Value.slice s.A1 s.n1 s.c1).ownBlock ≠ some nb) ∧ Hid (wl.ownsRow nb 9 1 (.slice (some ⟨nb, 0, none⟩) 6 6) 6 (namesB.flatMap encS))) (fun v _ => (intOf v).toNat)
  case atStart => exact ⟨q, 0, rfl, by omega, HT, HN⟩
  case round =>
    clear HT HN
    obtain ⟨q, j, rfl, hqj, HT, HN⟩ := hrel
    obtain ⟨s, T, hne⟩ := HT.out
    obtain ⟨A1, n1, c1, A2, n2, c2, A3, n3, c3⟩ := s
    have lg := T.lt
    by_cases hq : 0 < q
    · have hj : j < 6 := by omega
      have hl1 := T.xa.len.1
      simp only at hl1
      have e1 : (namesB.take j).length = j := by rw [List.length_take, namesB_len]; omega
      rw [e1] at hl1
      obtain rfl : n1 = j := hl1
      have g0 := T.xa.k0
      have fz := T.xa.f0
      have q9 := T.xa.o1
      have hr := T.xa.own.st
      simp only at g0 q9 hr hne
      have nc : wr.cell? ⟨nb, n1, none⟩ = some (.string (stAt namesB n1)) := by
        have := HN.out.cells (g := nb) rfl n1 (.string (stAt namesB n1)) (by rw [flat_str, List.getElem?_map, stAt_at (by rw [namesB_len]; exact hj)]; rfl)
        rw [Addr.add_lit, Nat.zero_add] at this
        exact this
      have hi0 : (0 : Int) ≤ (n1 : Int) := by omega
      have hi1 : (n1 : Int) < 6 := by omega
      have SN : Hid (namesB.take (n1 + 1) = namesB.take n1 ++ [stAt namesB n1]) := take_at (stAt_at (by rw [namesB_len]; exact hj))
      have hnb2 : nb < wr.heap.size := (HN.out.lt nb rfl).2
      have HT2 := hid T
      have hlr := hid hr.lt
      generalize stAt namesB n1 = u at nc SN
      have d0 : wr.drew.cell? ⟨gx, 0, none⟩ = some (.slice A1 n1 c1) := g0
      have d1 : wr.drew.cell? ⟨nb, n1, none⟩ = some (.string u) := nc
      have nw0 := World.new_ne wr.drew _ d0
      have nw1 := World.new_ne wr.drew _ d1
      simp only at nw0 nw1
      have hlo : lo ≤ wr.drew.heap.size := by have := T.h4; have := T.lt; simp; omega
      clear HT T e1
      go_wp2_with fail
      refine wp_region_last (n := 11) (S := (fun W => W.cell? ⟨gx, 0, none⟩ = some (.slice A1 n1 c1) ∧ W.cell? ⟨nb, n1, none⟩ = some (.string u))) (by kernel_rfl) (by kernel_rfl) ?_ (fun hHeld => ?_)
      · (try dsimp only); (first | (go_split_ands; exact ⟨d0, d1⟩) | (go_split_ands; exact ⟨k0, k1⟩) | go_keep)
      refine wpAnyH_take (i := 0) (oi := ⟨some 18, Go.Op.fieldAddr 25 (Go.Operand.tmp 3) 0, 0, "l21_language.go:372", #[], none⟩) (v := ?_) rfl (by kernel_rfl) (by kernel_rfl) (by kernel_rfl) (fun _ _ _ h => h) (Or.inl ⟨by rfl, ?_⟩) (by assumption) ?_
      rotate_left
      · intro w hSw; (try dsimp only at hSw); go_split_ands; go_simp; first | done | with_reducible rfl
      (try simp only [Act.put, List.setIfInBounds_toArray, List.set_cons_zero, List.set_cons_succ])
      refine wpAnyH_take (i := 1) (oi := ⟨some 19, Go.Op.load 22 (Go.Operand.tmp 18), 22, "l21_language.go:372", #[⟨0, Go.Ground.data⟩], none⟩) (v := ?_) rfl (by kernel_rfl) (by kernel_rfl) (by kernel_rfl) (fun _ _ _ h => h) (Or.inl ⟨by rfl, ?_⟩) (by assumption) ?_
      rotate_left
      · intro w hSw; (try dsimp only at hSw); go_split_ands; go_simp; first | done | with_reducible rfl
      (try simp only [Act.put, List.setIfInBounds_toArray, List.set_cons_zero, List.set_cons_succ])
      refine wpAnyH_take (i := 2) (oi := ⟨some 20, Go.Op.move (Go.Operand.tmp 4), 22, "l21_language.go:372", #[], none⟩) (v := ?_) rfl (by kernel_rfl) (by kernel_rfl) (by kernel_rfl) (fun _ _ _ h => h) (Or.inl ⟨by rfl, ?_⟩) (by assumption) ?_
      rotate_left
      · intro w hSw; (try dsimp only at hSw); go_split_ands; go_simp; first | done | with_reducible rfl
      (try simp only [Act.put, List.setIfInBounds_toArray, List.set_cons_zero, List.set_cons_succ])
      refine wpAnyH_take (i := 3) (oi := ⟨some 21, Go.Op.fieldAddr 25 (Go.Operand.tmp 3) 0, 0, "l21_language.go:372", #[], none⟩) (v := ?_) rfl (by kernel_rfl) (by kernel_rfl) (by kernel_rfl) (fun _ _ _ h => h) (Or.inl ⟨by rfl, ?_⟩) (by assumption) ?_
      rotate_left
      · intro w hSw; (try dsimp only at hSw); go_split_ands; go_simp; first | done | with_reducible rfl
      (try simp only [Act.put, List.setIfInBounds_toArray, List.set_cons_zero, List.set_cons_succ])
      refine wpAnyH_take (i := 4) (oi := ⟨some 22, Go.Op.load 22 (Go.Operand.tmp 21), 22, "l21_language.go:372", #[⟨3, Go.Ground.data⟩], none⟩) (v := ?_) rfl (by kernel_rfl) (by kernel_rfl) (by kernel_rfl) (fun _ _ _ h => h) (Or.inl ⟨by rfl, ?_⟩) (by assumption) ?_
      rotate_left
      · intro w hSw; (try dsimp only at hSw); go_split_ands; go_simp; first | done | with_reducible rfl
      (try simp only [Act.put, List.setIfInBounds_toArray, List.set_cons_zero, List.set_cons_succ])
      refine wpAnyH_take (i := 5) (oi := ⟨some 23, Go.Op.call { callee := Go.Callee.builtin Go.Builtin.len, args := #[Go.Operand.tmp 22], argTypes := #[22] }, 3, "l21_language.go:372", #[⟨4, Go.Ground.data⟩], none⟩) (v := ?_) rfl (by kernel_rfl) (by kernel_rfl) (by kernel_rfl) (fun _ _ _ h => h) (Or.inl ⟨by rfl, ?_⟩) (by assumption) ?_
      rotate_left
      · intro w hSw; (try dsimp only at hSw); go_split_ands; go_simp; first | done | with_reducible rfl
      (try simp only [Act.put, List.setIfInBounds_toArray, List.set_cons_zero, List.set_cons_succ])
      refine wpAnyH_take (i := 6) (oi := ⟨some 24, Go.Op.indexAddr 22 (Go.Operand.tmp 20) (Go.Operand.tmp 23), 0, "l21_language.go:372", #[⟨2, Go.Ground.data⟩, ⟨5, Go.Ground.data⟩], none⟩) (v := ?_) rfl (by kernel_rfl) (by kernel_rfl) (by kernel_rfl) (fun _ _ _ h => h) (Or.inl ⟨by rfl, ?_⟩) (by assumption) ?_
      rotate_left
      · intro w hSw; (try dsimp only at hSw); go_split_ands; go_simp; first | done | with_reducible rfl
      (try simp only [Act.put, List.setIfInBounds_toArray, List.set_cons_zero, List.set_cons_succ])
      refine wpAnyH_take (i := 7) (oi := ⟨some 25, Go.Op.load 9 (Go.Operand.tmp 24), 9, "l21_language.go:372", #[⟨6, Go.Ground.data⟩], none⟩) (v := ?_) rfl (by kernel_rfl) (by kernel_rfl) (by kernel_rfl) (fun _ _ _ h => h) (Or.inl ⟨by rfl, ?_⟩) (by assumption) ?_
      rotate_left
      · intro w hSw; (try dsimp only at hSw); go_split_ands; go_simp; first | done | with_reducible rfl
      (try simp only [Act.put, List.setIfInBounds_toArray, List.set_cons_zero, List.set_cons_succ])
      refine wpAnyH_ready (rs := [8]) (by kernel_rfl) (by simp) ?_
      refine AllReadyH.cons rfl (fun K hK => ?_) ?_
      · skip
        go_simp
        refine hK.out _ _ ?_ (fun hH2 => ?_)
        · (try dsimp only); (first | (go_split_ands; exact ⟨d0, d1⟩) | (go_split_ands; exact ⟨k0, k1⟩) | go_keep)
        clear hK K hHeld; have hHeld := hH2; clear hH2
        refine wpAnyH_ready (rs := [9]) (by kernel_rfl) (by simp) ?_
        refine AllReadyH.cons rfl (fun K hK => ?_) ?_
        · skip
          refine step_append_lies _ (by rfl) _ _ _ (by rfl) lo 9 i0 _ 1 16 Tryz.underlying22 hi hz0 hz1 hz2 rfl (by omega) (.slice A1 n1 c1) n1 ((namesB.take n1).flatMap encS) (by rfl) ((ow_drew hr).alloc _) ⟨wr.heap.size, 0, none⟩ 1 1 [.string u] (by rfl) (by rfl) (World.news_of_block (cs := #[.string u]) (t := 9) (fr := (0, 0)) (heap_alloc_new wr.drew _)) (by simp [Value.oneCell']) (by omega) (by simp only [maxLen]; omega) (by omega) (by simp at hlo ⊢; omega) (wr.heap.size + 1) (by simp) ?_
          intro gg cap w5 ho3 hg3 hat3 hlt3
          have hgg := (gr_alloc (o := .cells #[.string u] 9) (gr_drew (World.grownBy.refl wr (Value.slice A1 n1 c1).ownBlock))).trans hg3
          have k0 := hgg.cell g0 (fun e => q9 e.symm)
          have k1 := hgg.cell nc (fun e => hne e.symm)
          have f3 := (hgg.frozen_far ⟨gx, 0, none⟩ lg (fun e => q9 e.symm)).trans fz
          refine hK.out _ _ ?_ (fun hH2 => ?_)
          · (try dsimp only); (first | (go_split_ands; exact ⟨d0, d1⟩) | (go_split_ands; exact ⟨k0, k1⟩) | go_keep)
          clear hK K hHeld; have hHeld := hH2; clear hH2
          refine wpAnyH_take (i := 10) (oi := ⟨some 28, Go.Op.fieldAddr 25 (Go.Operand.tmp 3) 0, 0, "l21_language.go:372", #[⟨0, Go.Ground.phase⟩, ⟨1, Go.Ground.phase⟩, ⟨2, Go.Ground.phase⟩, ⟨3, Go.Ground.phase⟩, ⟨4, Go.Ground.phase⟩, ⟨5, Go.Ground.phase⟩, ⟨6, Go.Ground.phase⟩, ⟨7, Go.Ground.phase⟩, ⟨8, Go.Ground.phase⟩, ⟨9, Go.Ground.phase⟩], none⟩) (v := ?_) rfl (by kernel_rfl) (by kernel_rfl) (by kernel_rfl) (fun _ _ _ h => h) (Or.inl ⟨by rfl, ?_⟩) (by assumption) ?_
          rotate_left
          · intro w hSw; (try dsimp only at hSw); go_split_ands; go_simp; first | done | with_reducible rfl
          (try simp only [Act.put, List.setIfInBounds_toArray])
          refine wpAnyH_done (by kernel_rfl) ?_ _
          refine last_step rfl rfl (fun K hK => ?_)
          go_simp
          refine hK.out _ _ ?_
          clear hK K
          have X6 := HT2.out.xa.put1 (z := u) (H := wr.heap.size + 1) hgg (by omega) hat3 (by simpa [encS] using ho3)
          have T6 := HT2.out.put hgg (fun b hb => (hlr.out b hb).1) X6
          have N6 := ow_set (p := ⟨gx, 0, none⟩) (u := .slice (some ⟨gg, 0, none⟩) (n1 + 1) cap) (by simp [Value.ownBlock]; omega) (own_apartS HN.out hgg (fun b hb e => hne (hb.trans e.symm)))
          have HT7 : Hid (∃ s, StX w (w5.setCell ⟨gx, 0, none⟩ (.slice (some ⟨gg, 0, none⟩) (n1 + 1) cap)) gs w.heap.size gx lo (k + 2) s ⟨namesB.take (n1 + 1), [], []⟩ ∧ (Value.slice s.A1 s.n1 s.c1).ownBlock ≠ some nb) := by
            rw [SN.out]
            refine ⟨_, T6, ?_⟩
            intro e
            have e2 : gg = nb := by simpa [Value.ownBlock] using e
            rcases hat3 with h3 | h3
            · exact hne (by rw [h3, e2])
            · omega
          have N7 := hid N6
          obtain ⟨q, rfl⟩ : ∃ q' : Nat, q = q' + 1 := ⟨q - 1, by omega⟩
          clear X6 T6 N6 ho3 hgg hg3 HT2 hlr hr HN SN
          go_wp2_with fail
          go_roundw
          all_goals first | exact ⟨q, n1 + 1, by go_num, by omega, HT7, N7⟩ | exact ⟨⟨q, n1 + 1, by go_num, by omega, HT7, N7⟩, by first | (simp [intOf]; done) | (simp [intOf]; omega)⟩ | (simp [intOf]; done) | (simp [intOf]; omega)
        exact AllReadyH.nil
      exact AllReadyH.nil
    · obtain rfl : q = 0 := by omega
      obtain ⟨st, hst⟩ : ∃ st, st = namesB.take j := ⟨_, rfl⟩
      have hsz : Hid (∀ z ∈ st, z.size ≤ 12) := by rw [Hid, hst]; exact fun z hz => take_names hz
      rw [← hst] at T
      have hl1 := T.xa.len.1
      have hl6 : st.length ≤ 6 := by rw [hst, List.length_take]; have := namesB_len; omega
      simp only at hl1
      have g0 := T.xa.k0
      simp only at g0
      have T9 : Hid (∃ s : SV, s.n1 = n1 ∧ StX w wr gs w.heap.size gx lo (k + 2) s ⟨st, [], []⟩) := ⟨_, rfl, T⟩
      have hn6 : n1 ≤ 6 := by omega
      have HL := hid hl1
      clear HT HN hne hst hnl hng hgn hl1
      go_wp2_with fail
      refine (pick_any gs (k + 2) 9 wr T.src (by omega) (by omega)).mono ?_
      rintro r w5 ⟨q, rfl, q0, q1, hs5, hg5⟩
      obtain ⟨q, rfl⟩ : ∃ q' : Nat, q = q' := ⟨q.toNat, by omega⟩
      have q8 : q ≤ 8 := by omega
      have T5 : Hid (∃ s : SV, StX w w5 gs w.heap.size gx lo (k + 4) s ⟨st, [], []⟩) := ⟨_, T.pick hs5 hg5⟩
      clear T T9 hs5 hg5 q0 q1 g0 lg
      go_wp2_with fail
      go_loopw [7] (fun vk wl => ∃ (q : Nat) (ws : List Way), vk = .int .i64 q ∧ q + ws.length ≤ 8 ∧ Hid (∃ s : SV, StX w wl gs w.heap.size gx lo (k + 4 + 6 * (8 - q)) s ⟨st, [], ws⟩) ∧ Hid (∀ y ∈ ws, (y.fr.size ≤ 12 ∧ y.«to».size ≤ 12) ∧ 0 ≤ y.metres ∧ y.metres ≤ 2000)) (fun v _ => (intOf v).toNat)
      case atStart => exact ⟨q, [], rfl, by simp only [List.length_nil]; omega, (by obtain ⟨s, T⟩ := T5.out; exact ⟨s, T.up (Nat.le_add_right _ _)⟩), fun y hy => absurd hy List.not_mem_nil⟩
      case round =>
        clear T5
        obtain ⟨q, ws, rfl, hqw, HT, HW⟩ := hrel
        obtain ⟨s, T⟩ := HT.out
        have lg := T.lt
        by_cases hgo : 0 < q ∧ 1 < n1
        · obtain ⟨hq, hN⟩ := hgo
          obtain ⟨b, hA, hlb, hbx, hbw, hcs⟩ := T.xa.stCell (by have := HL.out; simp only; omega)
          have hn1 : s.n1 = n1 := T.xa.len.1.trans HL.out.symm
          obtain ⟨A1, m1, c1, A2, n2, c2, A3, n3, c3⟩ := s
          simp only at hA hn1
          subst hA hn1
          have g0 := T.xa.k0
          simp only at g0 hcs
          have hq9 := hid T.lts
          have e1 : (some gx : Option Nat) ≠ some gs := by have := T.h1; have := T.h2; have := T.h3; have := T.h4; simp; omega
          have e2 : (some b : Option Nat) ≠ some gs := by have := T.h1; have := T.h2; have := T.h3; simp; omega
          have gsr : gs < wr.heap.size := T.src.lt
          rw [← HL.out] at hcs
          have T0 := hid T.drew
          have hdz : wr.heap.size ≤ wr.drew.heap.size := Nat.le_refl _
          have d0 : wr.drew.cell? ⟨gx, 0, none⟩ = some (.slice (some ⟨b, 0, none⟩) m1 c1) := g0
          have d1 : ∀ i, i < m1 → wr.drew.cell? ⟨b, i, none⟩ = some (.string (stAt st i)) := hcs
          have hst : ∀ i, i < m1 → (stAt st i).size ≤ 12 := fun i hi => hsz.out _ (stAt_mem (by have := HL.out; omega))
          have Hst := hid hst
          have D1 := hid d1
          obtain ⟨stF, hstF⟩ : ∃ f, f = stAt st := ⟨_, rfl⟩
          rw [← hstF] at Hst
          have D2 : Hid (∀ i, i < m1 → wr.drew.cell? ⟨b, i, none⟩ = some (.string (stF i))) := by rw [hstF]; exact d1
          clear hst HT hcs T D1 d1 hstF
          go_wp2_with fail
          have TC := T0
          refine wp_region_last (n := 16) (S := (fun W => W.cell? ⟨gx, 0, none⟩ = some (.slice (some ⟨b, 0, none⟩) m1 c1) ∧ ∀ i, i < m1 → W.cell? ⟨b, i, none⟩ = some (.string (stF i)))) (by kernel_rfl) (by kernel_rfl) ?_ (fun hHeld => ?_)
          · (try dsimp only); (exact ⟨d0, D2.out⟩)
          refine wpAnyH_take (i := 0) (oi := ⟨some 42, Go.Op.fieldAddr 25 (Go.Operand.tmp 3) 0, 0, "l21_language.go:376", #[], none⟩) (v := ?_) rfl (by kernel_rfl) (by kernel_rfl) (by kernel_rfl) (fun _ _ _ h => h) (Or.inl ⟨by rfl, ?_⟩) (by assumption) ?_
          rotate_left
          · intro w hSw; (try dsimp only at hSw); go_split_ands; go_simp; first | done | with_reducible rfl
          (try simp only [Act.put, List.setIfInBounds_toArray, List.set_cons_zero, List.set_cons_succ])
          refine wpAnyH_take (i := 1) (oi := ⟨some 43, Go.Op.load 22 (Go.Operand.tmp 42), 22, "l21_language.go:376", #[⟨0, Go.Ground.data⟩], none⟩) (v := ?_) rfl (by kernel_rfl) (by kernel_rfl) (by kernel_rfl) (fun _ _ _ h => h) (Or.inl ⟨by rfl, ?_⟩) (by assumption) ?_
          rotate_left
          · intro w hSw; (try dsimp only at hSw); go_split_ands; go_simp; first | done | with_reducible rfl
          (try simp only [Act.put, List.setIfInBounds_toArray, List.set_cons_zero, List.set_cons_succ])
          refine wpAnyH_take (i := 2) (oi := ⟨some 44, Go.Op.move (Go.Operand.tmp 0), 58, "l21_language.go:376", #[], none⟩) (v := ?_) rfl (by kernel_rfl) (by kernel_rfl) (by kernel_rfl) (fun _ _ _ h => h) (Or.inl ⟨by rfl, ?_⟩) (by assumption) ?_
          rotate_left
          · intro w hSw; (try dsimp only at hSw); go_split_ands; go_simp; first | done | with_reducible rfl
          (try simp only [Act.put, List.setIfInBounds_toArray, List.set_cons_zero, List.set_cons_succ])
          refine wpAnyH_take (i := 3) (oi := ⟨some 45, Go.Op.move (Go.Operand.tmp 6), 2, "l21_language.go:376", #[], none⟩) (v := ?_) rfl (by kernel_rfl) (by kernel_rfl) (by kernel_rfl) (fun _ _ _ h => h) (Or.inl ⟨by rfl, ?_⟩) (by assumption) ?_
          rotate_left
          · intro w hSw; (try dsimp only at hSw); go_split_ands; go_simp; first | done | with_reducible rfl
          (try simp only [Act.put, List.setIfInBounds_toArray, List.set_cons_zero, List.set_cons_succ])
          refine wpAnyH_take (i := 7) (oi := ⟨some 49, Go.Op.fieldAddr 25 (Go.Operand.tmp 3) 0, 0, "l21_language.go:376", #[], none⟩) (v := ?_) rfl (by kernel_rfl) (by kernel_rfl) (by kernel_rfl) (fun _ _ _ h => h) (Or.inl ⟨by rfl, ?_⟩) (by assumption) ?_
          rotate_left
          · intro w hSw; (try dsimp only at hSw); go_split_ands; go_simp; first | done | with_reducible rfl
          (try simp only [Act.put, List.setIfInBounds_toArray, List.set_cons_zero, List.set_cons_succ])
          refine wpAnyH_take (i := 8) (oi := ⟨some 50, Go.Op.load 22 (Go.Operand.tmp 49), 22, "l21_language.go:376", #[⟨7, Go.Ground.data⟩], none⟩) (v := ?_) rfl (by kernel_rfl) (by kernel_rfl) (by kernel_rfl) (fun _ _ _ h => h) (Or.inl ⟨by rfl, ?_⟩) (by assumption) ?_
          rotate_left
          · intro w hSw; (try dsimp only at hSw); go_split_ands; go_simp; first | done | with_reducible rfl
          (try simp only [Act.put, List.setIfInBounds_toArray, List.set_cons_zero, List.set_cons_succ])
          refine wpAnyH_take (i := 9) (oi := ⟨some 51, Go.Op.move (Go.Operand.tmp 0), 58, "l21_language.go:376", #[], none⟩) (v := ?_) rfl (by kernel_rfl) (by kernel_rfl) (by kernel_rfl) (fun _ _ _ h => h) (Or.inl ⟨by rfl, ?_⟩) (by assumption) ?_
          rotate_left
          · intro w hSw; (try dsimp only at hSw); go_split_ands; go_simp; first | done | with_reducible rfl
          (try simp only [Act.put, List.setIfInBounds_toArray, List.set_cons_zero, List.set_cons_succ])
          refine wpAnyH_take (i := 10) (oi := ⟨some 52, Go.Op.move (Go.Operand.tmp 6), 2, "l21_language.go:376", #[], none⟩) (v := ?_) rfl (by kernel_rfl) (by kernel_rfl) (by kernel_rfl) (fun _ _ _ h => h) (Or.inl ⟨by rfl, ?_⟩) (by assumption) ?_
          rotate_left
          · intro w hSw; (try dsimp only at hSw); go_split_ands; go_simp; first | done | with_reducible rfl
          (try simp only [Act.put, List.setIfInBounds_toArray, List.set_cons_zero, List.set_cons_succ])
          refine wpAnyH_ready (rs := [4, 15]) (by kernel_rfl) (by simp) ?_
          refine AllReadyH.cons rfl (fun K hK => ?_) ?_
          · skip
            go_simp
            go_wp2_with (go_at_call 44; refine (pick_any gs (k + 4 + 6 * (8 - q)) m1 _ TC.out.src (by omega) (by omega)).mono ?_; rintro r wa ⟨ra, rfl, ra0, ra1, hsa, hga⟩)
            obtain ⟨ia, rfl⟩ : ∃ i : Nat, ra = i := ⟨ra.toNat, by omega⟩
            have hia : ia < m1 := by omega
            have hja : (ia : Int) < (m1 : Int) := by omega
            have hka : (0 : Int) ≤ (ia : Int) := by omega
            replace TC := hid (TC.out.pick hsa hga)
            have hza := hga.size
            refine hK.out _ _ ?_ (fun hH2 => ?_)
            · (try dsimp only); (exact ⟨hga.cell hHeld.1 e1, fun i hi => hga.cell (hHeld.2 i hi) e2⟩)
            clear hK K hHeld; have hHeld := hH2; clear hH2
            refine wpAnyH_take (i := 5) (oi := ⟨some 47, Go.Op.indexAddr 22 (Go.Operand.tmp 43) (Go.Operand.tmp 46), 0, "l21_language.go:376", #[⟨1, Go.Ground.data⟩, ⟨4, Go.Ground.data⟩], none⟩) (v := ?_) rfl (by kernel_rfl) (by kernel_rfl) (by kernel_rfl) (fun _ _ _ h => h) (Or.inl ⟨by rfl, ?_⟩) (by assumption) ?_
            rotate_left
            · intro w hSw; (try dsimp only at hSw); go_split_ands; go_simp; first | done | with_reducible rfl
            (try simp only [Act.put, List.setIfInBounds_toArray, List.set_cons_zero, List.set_cons_succ])
            refine wpAnyH_take (i := 6) (oi := ⟨some 48, Go.Op.load 9 (Go.Operand.tmp 47), 9, "l21_language.go:376", #[⟨5, Go.Ground.data⟩], none⟩) (v := ?_) rfl (by kernel_rfl) (by kernel_rfl) (by kernel_rfl) (fun _ _ _ h => h) (Or.inl ⟨by rfl, ?_⟩) (by assumption) ?_
            rotate_left
            · intro w hSw; (try dsimp only at hSw); go_split_ands; go_simp; first | done | with_reducible rfl
            (try simp only [Act.put, List.setIfInBounds_toArray, List.set_cons_zero, List.set_cons_succ])
            refine wpAnyH_ready (rs := [11, 15]) (by kernel_rfl) (by simp) ?_
            refine AllReadyH.cons rfl (fun K hK => ?_) ?_
            · skip
              go_simp
              go_wp2_with (go_at_call 44; refine (pick_any gs (k + 4 + 6 * (8 - q) + 2) m1 _ TC.out.src (by omega) (by omega)).mono ?_; rintro r wb ⟨rb, rfl, rb0, rb1, hsb, hgb⟩)
              obtain ⟨ib, rfl⟩ : ∃ i : Nat, rb = i := ⟨rb.toNat, by omega⟩
              have hib : ib < m1 := by omega
              have hjb : (ib : Int) < (m1 : Int) := by omega
              have hkb : (0 : Int) ≤ (ib : Int) := by omega
              replace TC := hid (TC.out.pick hsb hgb)
              have hzb := hgb.size
              refine hK.out _ _ ?_ (fun hH2 => ?_)
              · (try dsimp only); (exact ⟨hgb.cell hHeld.1 e1, fun i hi => hgb.cell (hHeld.2 i hi) e2⟩)
              clear hK K hHeld; have hHeld := hH2; clear hH2
              refine wpAnyH_take (i := 12) (oi := ⟨some 54, Go.Op.indexAddr 22 (Go.Operand.tmp 50) (Go.Operand.tmp 53), 0, "l21_language.go:376", #[⟨8, Go.Ground.data⟩, ⟨11, Go.Ground.data⟩], none⟩) (v := ?_) rfl (by kernel_rfl) (by kernel_rfl) (by kernel_rfl) (fun _ _ _ h => h) (Or.inl ⟨by rfl, ?_⟩) (by assumption) ?_
              rotate_left
              · intro w hSw; (try dsimp only at hSw); go_split_ands; go_simp; first | done | with_reducible rfl
              (try simp only [Act.put, List.setIfInBounds_toArray, List.set_cons_zero, List.set_cons_succ])
              refine wpAnyH_take (i := 13) (oi := ⟨some 55, Go.Op.load 9 (Go.Operand.tmp 54), 9, "l21_language.go:376", #[⟨12, Go.Ground.data⟩], none⟩) (v := ?_) rfl (by kernel_rfl) (by kernel_rfl) (by kernel_rfl) (fun _ _ _ h => h) (Or.inl ⟨by rfl, ?_⟩) (by assumption) ?_
              rotate_left
              · intro w hSw; (try dsimp only at hSw); go_split_ands; go_simp; first | done | with_reducible rfl
              (try simp only [Act.put, List.setIfInBounds_toArray, List.set_cons_zero, List.set_cons_succ])
              refine wpAnyH_take (i := 14) (oi := ⟨some 56, Go.Op.build 62 #[(0, Go.Operand.tmp 48), (1, Go.Operand.tmp 55)], 62, "l21_language.go:376", #[⟨6, Go.Ground.data⟩, ⟨13, Go.Ground.data⟩], none⟩) (v := ?_) rfl (by kernel_rfl) (by kernel_rfl) (by kernel_rfl) (fun _ _ _ h => h) (Or.inl ⟨by rfl, ?_⟩) (by assumption) ?_
              rotate_left
              · intro w hSw; (try dsimp only at hSw); go_split_ands; go_simp; first | done | with_reducible rfl
              (try simp only [Act.put, List.setIfInBounds_toArray, List.set_cons_zero, List.set_cons_succ])
              refine wpAnyH_ready (rs := [15]) (by kernel_rfl) (by simp) ?_
              refine AllReadyH.cons rfl (fun K hK => ?_) ?_
              · skip
                go_simp
                have BB : Hid (Blk3 (wb.alloc (.cells #[.string ByteArray.empty, .string ByteArray.empty, .int .i64 0] 62)) wb.heap.size (.string ByteArray.empty) (.string ByteArray.empty) (.int .i64 0)) := ⟨(World.cell?_alloc_at _ _ _ _ rfl).trans rfl, (World.cell?_alloc_at _ _ _ _ rfl).trans rfl, (World.cell?_alloc_at _ _ _ _ rfl).trans rfl, by go_simp, by go_simp, by go_simp⟩
                have TP := TC
                replace TC := hid (TC.out.alloc (.cells #[.string ByteArray.empty, .string ByteArray.empty, .int .i64 0] 62))
                have gsz : gs < wb.heap.size := by omega
                refine hK.out _ _ ?_ (fun hH2 => ?_)
                · (try dsimp only); (exact ⟨below_cell hHeld.1 ((Below.refl _ _).alloc (Nat.le_refl _) _), fun i hi => below_cell (hHeld.2 i hi) ((Below.refl _ _).alloc (Nat.le_refl _) _)⟩)
                clear hK K hHeld; have hHeld := hH2; clear hH2
                refine wpAnyH_done (by kernel_rfl) ?_ _
                refine last_step rfl rfl (fun K hK => ?_)
                have p0 := BB.out.c0
                have p1 := BB.out.c1
                have p2 := BB.out.c2
                have y0 := BB.out.f0
                have y1 := BB.out.f1
                have y2 := BB.out.f2
                go_simp
                refine hK.out _ _ ?_
                clear hK K
                have hgw : wr.heap.size ≤ wb.heap.size := by omega
                have hgc := BB.out.lt
                obtain ⟨gw, egw, hgv, gsw⟩ : ∃ gw, gw = wb.heap.size ∧ wr.heap.size ≤ gw ∧ gs < gw := ⟨_, rfl, hgw, by omega⟩
                have B6 : Blk3 (wb.alloc (.cells #[.string (stF ia), .string (stF ib), .int .i64 0] 62)) wb.heap.size (.string (stF ia)) (.string (stF ib)) (.int .i64 0) := ⟨(World.cell?_alloc_at _ _ _ _ rfl).trans rfl, (World.cell?_alloc_at _ _ _ _ rfl).trans rfl, (World.cell?_alloc_at _ _ _ _ rfl).trans rfl, by go_simp, by go_simp, by go_simp⟩
                have T6 := TP.out.alloc (.cells #[.string (stF ia), .string (stF ib), .int .i64 0] 62)
                have zf := Hst.out ia hia
                have zt := Hst.out ib hib
                generalize stF ia = f at *
                generalize stF ib = g at *
                obtain ⟨W6, hW6⟩ : ∃ W6, W6 = wb.alloc (.cells #[.string f, .string g, .int .i64 0] 62) := ⟨_, rfl⟩
                rw [← hW6, ← egw] at B6
                rw [← hW6] at T6
                rw [← hW6, ← egw]
                clear hgw
                have hgw := hgv
                have B6h := hid B6
                have T6h := hid T6
                clear T6 B6 BB TC TP hW6 egw hHeld D2 Hst d0
                have gsl := T6h.out.src.lt
                have lgw := B6h.out.lt
                go_wp2_with fail
                refine (pick_any gs _ 30 W6 T6h.out.src (by omega) (by omega)).mono ?_
                rintro r w7 ⟨mm, rfl, mm0, mm1, hs7, hg7⟩
                have B7 := B6h.out.grow hg7 (by simp; omega)
                have T7 := T6h.out.pick hs7 hg7
                have z7 := hg7.size
                have mm2 : mm ≤ 29 := by omega
                clear B6h T6h hs7 hg7 mm1
                have p0 := B7.c0
                have p1 := B7.c1
                have p2 := B7.c2
                have y2 := B7.f2
                have T8 := T7.set (b := gw) (o := 2) (u := .int .i64 (10 * (1 + mm))) (by omega) (fun p hp => Nat.lt_of_lt_of_le (hq9.out p hp) hgw)
                have lgw7 := B7.lt
                have gsl7 := T7.src.lt
                have T8h := hid T8
                have lx7 := T7.lt
                clear T7 B7 T8
                go_wp2_with fail
                have T8 := T8h.out
                refine (l21Tube_any gx lo lo _ ⟨st, [], ws⟩ f g (10 * (1 + mm)) _ T8.h4 (Nat.le_refl _) (by have := T8.h4; have := T8.lt; omega) (by simp only; omega) (by simp only; omega) T8.xa).mono ?_
                rintro r w9 ⟨rfl, ⟨s9, X9⟩, b9⟩
                obtain ⟨ws', E, hl', hin⟩ := addWy_in st ws ⟨f, g, 10 * (1 + mm)⟩
                rw [E] at X9
                have T9 := T8.add X9 b9
                obtain ⟨q, rfl⟩ : ∃ q' : Nat, q = q' + 1 := ⟨q - 1, by omega⟩
                have T9h : Hid (∃ s : SV, StX w w9 gs w.heap.size gx lo (k + 4 + 6 * (8 - q)) s ⟨st, [], ws'⟩) := ⟨s9, T9.up (by omega)⟩
                have HW9 : Hid (∀ y ∈ ws', (y.fr.size ≤ 12 ∧ y.«to».size ≤ 12) ∧ 0 ≤ y.metres ∧ y.metres ≤ 2000) := fun y hy => by
                  rcases hin y hy with h | rfl
                  · exact HW.out y h
                  · exact ⟨⟨zf, zt⟩, by simp only; omega, by simp only; omega⟩
                clear T9 T8 X9 E hin HW T8h
                go_wp2_with fail
                go_roundw
                all_goals first | exact ⟨q, ws', by go_num, by omega, T9h, HW9⟩ | exact ⟨⟨q, ws', by go_num, by omega, T9h, HW9⟩, by first | (simp [intOf]; done) | (simp [intOf]; omega)⟩ | (simp [intOf]; done) | (simp [intOf]; omega)
              exact AllReadyH.nil
            refine AllReadyH.cons rfl (fun K hK => ?_) ?_
            · skip
              go_simp
              have BB : Hid (Blk3 (wa.alloc (.cells #[.string ByteArray.empty, .string ByteArray.empty, .int .i64 0] 62)) wa.heap.size (.string ByteArray.empty) (.string ByteArray.empty) (.int .i64 0)) := ⟨(World.cell?_alloc_at _ _ _ _ rfl).trans rfl, (World.cell?_alloc_at _ _ _ _ rfl).trans rfl, (World.cell?_alloc_at _ _ _ _ rfl).trans rfl, by go_simp, by go_simp, by go_simp⟩
              have TP := TC
              replace TC := hid (TC.out.alloc (.cells #[.string ByteArray.empty, .string ByteArray.empty, .int .i64 0] 62))
              have gsz : gs < wa.heap.size := by omega
              refine hK.out _ _ ?_ (fun hH2 => ?_)
              · (try dsimp only); (exact ⟨below_cell hHeld.1 ((Below.refl _ _).alloc (Nat.le_refl _) _), fun i hi => below_cell (hHeld.2 i hi) ((Below.refl _ _).alloc (Nat.le_refl _) _)⟩)
              clear hK K hHeld; have hHeld := hH2; clear hH2
              refine wpAnyH_ready (rs := [11]) (by kernel_rfl) (by simp) ?_
              refine AllReadyH.cons rfl (fun K hK => ?_) ?_
              · skip
                go_simp
                go_wp2_with (go_at_call 44; refine (pick_any gs (k + 4 + 6 * (8 - q) + 2) m1 _ TC.out.src (by omega) (by omega)).mono ?_; rintro r wb ⟨rb, rfl, rb0, rb1, hsb, hgb⟩)
                obtain ⟨ib, rfl⟩ : ∃ i : Nat, rb = i := ⟨rb.toNat, by omega⟩
                have hib : ib < m1 := by omega
                have hjb : (ib : Int) < (m1 : Int) := by omega
                have hkb : (0 : Int) ≤ (ib : Int) := by omega
                replace TC := hid (TC.out.pick hsb hgb)
                have hzb := hgb.size
                replace BB := hid (BB.out.grow hgb (by simp; omega))
                refine hK.out _ _ ?_ (fun hH2 => ?_)
                · (try dsimp only); (exact ⟨hgb.cell hHeld.1 e1, fun i hi => hgb.cell (hHeld.2 i hi) e2⟩)
                clear hK K hHeld; have hHeld := hH2; clear hH2
                refine wpAnyH_take (i := 12) (oi := ⟨some 54, Go.Op.indexAddr 22 (Go.Operand.tmp 50) (Go.Operand.tmp 53), 0, "l21_language.go:376", #[⟨8, Go.Ground.data⟩, ⟨11, Go.Ground.data⟩], none⟩) (v := ?_) rfl (by kernel_rfl) (by kernel_rfl) (by kernel_rfl) (fun _ _ _ h => h) (Or.inl ⟨by rfl, ?_⟩) (by assumption) ?_
                rotate_left
                · intro w hSw; (try dsimp only at hSw); go_split_ands; go_simp; first | done | with_reducible rfl
                (try simp only [Act.put, List.setIfInBounds_toArray, List.set_cons_zero, List.set_cons_succ])
                refine wpAnyH_take (i := 13) (oi := ⟨some 55, Go.Op.load 9 (Go.Operand.tmp 54), 9, "l21_language.go:376", #[⟨12, Go.Ground.data⟩], none⟩) (v := ?_) rfl (by kernel_rfl) (by kernel_rfl) (by kernel_rfl) (fun _ _ _ h => h) (Or.inl ⟨by rfl, ?_⟩) (by assumption) ?_
                rotate_left
                · intro w hSw; (try dsimp only at hSw); go_split_ands; go_simp; first | done | with_reducible rfl
                (try simp only [Act.put, List.setIfInBounds_toArray, List.set_cons_zero, List.set_cons_succ])
                refine wpAnyH_take (i := 14) (oi := ⟨some 56, Go.Op.build 62 #[(0, Go.Operand.tmp 48), (1, Go.Operand.tmp 55)], 62, "l21_language.go:376", #[⟨6, Go.Ground.data⟩, ⟨13, Go.Ground.data⟩], none⟩) (v := ?_) rfl (by kernel_rfl) (by kernel_rfl) (by kernel_rfl) (fun _ _ _ h => h) (Or.inl ⟨by rfl, ?_⟩) (by assumption) ?_
                rotate_left
                · intro w hSw; (try dsimp only at hSw); go_split_ands; go_simp; first | done | with_reducible rfl
                (try simp only [Act.put, List.setIfInBounds_toArray, List.set_cons_zero, List.set_cons_succ])
                refine wpAnyH_done (by kernel_rfl) ?_ _
                refine last_step rfl rfl (fun K hK => ?_)
                have p0 := BB.out.c0
                have p1 := BB.out.c1
                have p2 := BB.out.c2
                have y0 := BB.out.f0
                have y1 := BB.out.f1
                have y2 := BB.out.f2
                go_simp
                refine hK.out _ _ ?_
                clear hK K
                have hgw : wr.heap.size ≤ wa.heap.size := by omega
                have hgc := BB.out.lt
                obtain ⟨gw, egw, hgv, gsw⟩ : ∃ gw, gw = wa.heap.size ∧ wr.heap.size ≤ gw ∧ gs < gw := ⟨_, rfl, hgw, by omega⟩
                have B6 := BB.out.put (.string (stF ia)) (.string (stF ib)) (.int .i64 0)
                have T6 := ((TC.out.set (b := wa.heap.size) (o := 0) (u := .string (stF ia)) (by omega) (fun p hp => Nat.lt_of_lt_of_le (hq9.out p hp) hgw)).set (b := wa.heap.size) (o := 1) (u := .string (stF ib)) (by omega) (fun p hp => Nat.lt_of_lt_of_le (hq9.out p hp) hgw)).set (b := wa.heap.size) (o := 2) (u := .int .i64 0) (by omega) (fun p hp => Nat.lt_of_lt_of_le (hq9.out p hp) hgw)
                have zf := Hst.out ia hia
                have zt := Hst.out ib hib
                generalize stF ia = f at *
                generalize stF ib = g at *
                obtain ⟨W6, hW6⟩ : ∃ W6, W6 = ((wb.setCell ⟨wa.heap.size, 0, none⟩ (.string f)).setCell ⟨wa.heap.size, 1, none⟩ (.string g)).setCell ⟨wa.heap.size, 2, none⟩ (.int .i64 0) := ⟨_, rfl⟩
                rw [← hW6, ← egw] at B6
                rw [← hW6] at T6
                rw [← hW6, ← egw]
                clear hgw
                have hgw := hgv
                have B6h := hid B6
                have T6h := hid T6
                clear T6 B6 BB TC TP hW6 egw hHeld D2 Hst d0
                have gsl := T6h.out.src.lt
                have lgw := B6h.out.lt
                go_wp2_with fail
                refine (pick_any gs _ 30 W6 T6h.out.src (by omega) (by omega)).mono ?_
                rintro r w7 ⟨mm, rfl, mm0, mm1, hs7, hg7⟩
                have B7 := B6h.out.grow hg7 (by simp; omega)
                have T7 := T6h.out.pick hs7 hg7
                have z7 := hg7.size
                have mm2 : mm ≤ 29 := by omega
                clear B6h T6h hs7 hg7 mm1
                have p0 := B7.c0
                have p1 := B7.c1
                have p2 := B7.c2
                have y2 := B7.f2
                have T8 := T7.set (b := gw) (o := 2) (u := .int .i64 (10 * (1 + mm))) (by omega) (fun p hp => Nat.lt_of_lt_of_le (hq9.out p hp) hgw)
                have lgw7 := B7.lt
                have gsl7 := T7.src.lt
                have T8h := hid T8
                have lx7 := T7.lt
                clear T7 B7 T8
                go_wp2_with fail
                have T8 := T8h.out
                refine (l21Tube_any gx lo lo _ ⟨st, [], ws⟩ f g (10 * (1 + mm)) _ T8.h4 (Nat.le_refl _) (by have := T8.h4; have := T8.lt; omega) (by simp only; omega) (by simp only; omega) T8.xa).mono ?_
                rintro r w9 ⟨rfl, ⟨s9, X9⟩, b9⟩
                obtain ⟨ws', E, hl', hin⟩ := addWy_in st ws ⟨f, g, 10 * (1 + mm)⟩
                rw [E] at X9
                have T9 := T8.add X9 b9
                obtain ⟨q, rfl⟩ : ∃ q' : Nat, q = q' + 1 := ⟨q - 1, by omega⟩
                have T9h : Hid (∃ s : SV, StX w w9 gs w.heap.size gx lo (k + 4 + 6 * (8 - q)) s ⟨st, [], ws'⟩) := ⟨s9, T9.up (by omega)⟩
                have HW9 : Hid (∀ y ∈ ws', (y.fr.size ≤ 12 ∧ y.«to».size ≤ 12) ∧ 0 ≤ y.metres ∧ y.metres ≤ 2000) := fun y hy => by
                  rcases hin y hy with h | rfl
                  · exact HW.out y h
                  · exact ⟨⟨zf, zt⟩, by simp only; omega, by simp only; omega⟩
                clear T9 T8 X9 E hin HW T8h
                go_wp2_with fail
                go_roundw
                all_goals first | exact ⟨q, ws', by go_num, by omega, T9h, HW9⟩ | exact ⟨⟨q, ws', by go_num, by omega, T9h, HW9⟩, by first | (simp [intOf]; done) | (simp [intOf]; omega)⟩ | (simp [intOf]; done) | (simp [intOf]; omega)
              exact AllReadyH.nil
            exact AllReadyH.nil
          refine AllReadyH.cons rfl (fun K hK => ?_) ?_
          · skip
            go_simp
            have BB : Hid (Blk3 (wr.drew.alloc (.cells #[.string ByteArray.empty, .string ByteArray.empty, .int .i64 0] 62)) wr.heap.size (.string ByteArray.empty) (.string ByteArray.empty) (.int .i64 0)) := ⟨(World.cell?_alloc_at _ _ _ _ rfl).trans rfl, (World.cell?_alloc_at _ _ _ _ rfl).trans rfl, (World.cell?_alloc_at _ _ _ _ rfl).trans rfl, by go_simp, by go_simp, by go_simp⟩
            have TP := TC
            replace TC := hid (TC.out.alloc (.cells #[.string ByteArray.empty, .string ByteArray.empty, .int .i64 0] 62))
            have gsz : gs < wr.drew.heap.size := by omega
            refine hK.out _ _ ?_ (fun hH2 => ?_)
            · (try dsimp only); (exact ⟨below_cell hHeld.1 ((Below.refl _ _).alloc (Nat.le_refl _) _), fun i hi => below_cell (hHeld.2 i hi) ((Below.refl _ _).alloc (Nat.le_refl _) _)⟩)
            clear hK K hHeld; have hHeld := hH2; clear hH2
            refine wpAnyH_ready (rs := [4]) (by kernel_rfl) (by simp) ?_
            refine AllReadyH.cons rfl (fun K hK => ?_) ?_
            · skip
              go_simp
              go_wp2_with (go_at_call 44; refine (pick_any gs (k + 4 + 6 * (8 - q)) m1 _ TC.out.src (by omega) (by omega)).mono ?_; rintro r wa ⟨ra, rfl, ra0, ra1, hsa, hga⟩)
              obtain ⟨ia, rfl⟩ : ∃ i : Nat, ra = i := ⟨ra.toNat, by omega⟩
              have hia : ia < m1 := by omega
              have hja : (ia : Int) < (m1 : Int) := by omega
              have hka : (0 : Int) ≤ (ia : Int) := by omega
              replace TC := hid (TC.out.pick hsa hga)
              have hza := hga.size
              replace BB := hid (BB.out.grow hga (by simp; omega))
              refine hK.out _ _ ?_ (fun hH2 => ?_)
              · (try dsimp only); (exact ⟨hga.cell hHeld.1 e1, fun i hi => hga.cell (hHeld.2 i hi) e2⟩)
              clear hK K hHeld; have hHeld := hH2; clear hH2
              refine wpAnyH_take (i := 5) (oi := ⟨some 47, Go.Op.indexAddr 22 (Go.Operand.tmp 43) (Go.Operand.tmp 46), 0, "l21_language.go:376", #[⟨1, Go.Ground.data⟩, ⟨4, Go.Ground.data⟩], none⟩) (v := ?_) rfl (by kernel_rfl) (by kernel_rfl) (by kernel_rfl) (fun _ _ _ h => h) (Or.inl ⟨by rfl, ?_⟩) (by assumption) ?_
              rotate_left
              · intro w hSw; (try dsimp only at hSw); go_split_ands; go_simp; first | done | with_reducible rfl
              (try simp only [Act.put, List.setIfInBounds_toArray, List.set_cons_zero, List.set_cons_succ])
              refine wpAnyH_take (i := 6) (oi := ⟨some 48, Go.Op.load 9 (Go.Operand.tmp 47), 9, "l21_language.go:376", #[⟨5, Go.Ground.data⟩], none⟩) (v := ?_) rfl (by kernel_rfl) (by kernel_rfl) (by kernel_rfl) (fun _ _ _ h => h) (Or.inl ⟨by rfl, ?_⟩) (by assumption) ?_
              rotate_left
              · intro w hSw; (try dsimp only at hSw); go_split_ands; go_simp; first | done | with_reducible rfl
              (try simp only [Act.put, List.setIfInBounds_toArray, List.set_cons_zero, List.set_cons_succ])
              refine wpAnyH_ready (rs := [11]) (by kernel_rfl) (by simp) ?_
              refine AllReadyH.cons rfl (fun K hK => ?_) ?_
              · skip
                go_simp
                go_wp2_with (go_at_call 44; refine (pick_any gs (k + 4 + 6 * (8 - q) + 2) m1 _ TC.out.src (by omega) (by omega)).mono ?_; rintro r wb ⟨rb, rfl, rb0, rb1, hsb, hgb⟩)
                obtain ⟨ib, rfl⟩ : ∃ i : Nat, rb = i := ⟨rb.toNat, by omega⟩
                have hib : ib < m1 := by omega
                have hjb : (ib : Int) < (m1 : Int) := by omega
                have hkb : (0 : Int) ≤ (ib : Int) := by omega
                replace TC := hid (TC.out.pick hsb hgb)
                have hzb := hgb.size
                replace BB := hid (BB.out.grow hgb (by simp; omega))
                refine hK.out _ _ ?_ (fun hH2 => ?_)
                · (try dsimp only); (exact ⟨hgb.cell hHeld.1 e1, fun i hi => hgb.cell (hHeld.2 i hi) e2⟩)
                clear hK K hHeld; have hHeld := hH2; clear hH2
                refine wpAnyH_take (i := 12) (oi := ⟨some 54, Go.Op.indexAddr 22 (Go.Operand.tmp 50) (Go.Operand.tmp 53), 0, "l21_language.go:376", #[⟨8, Go.Ground.data⟩, ⟨11, Go.Ground.data⟩], none⟩) (v := ?_) rfl (by kernel_rfl) (by kernel_rfl) (by kernel_rfl) (fun _ _ _ h => h) (Or.inl ⟨by rfl, ?_⟩) (by assumption) ?_
                rotate_left
                · intro w hSw; (try dsimp only at hSw); go_split_ands; go_simp; first | done | with_reducible rfl
                (try simp only [Act.put, List.setIfInBounds_toArray, List.set_cons_zero, List.set_cons_succ])
                refine wpAnyH_take (i := 13) (oi := ⟨some 55, Go.Op.load 9 (Go.Operand.tmp 54), 9, "l21_language.go:376", #[⟨12, Go.Ground.data⟩], none⟩) (v := ?_) rfl (by kernel_rfl) (by kernel_rfl) (by kernel_rfl) (fun _ _ _ h => h) (Or.inl ⟨by rfl, ?_⟩) (by assumption) ?_
                rotate_left
                · intro w hSw; (try dsimp only at hSw); go_split_ands; go_simp; first | done | with_reducible rfl
                (try simp only [Act.put, List.setIfInBounds_toArray, List.set_cons_zero, List.set_cons_succ])
                refine wpAnyH_take (i := 14) (oi := ⟨some 56, Go.Op.build 62 #[(0, Go.Operand.tmp 48), (1, Go.Operand.tmp 55)], 62, "l21_language.go:376", #[⟨6, Go.Ground.data⟩, ⟨13, Go.Ground.data⟩], none⟩) (v := ?_) rfl (by kernel_rfl) (by kernel_rfl) (by kernel_rfl) (fun _ _ _ h => h) (Or.inl ⟨by rfl, ?_⟩) (by assumption) ?_
                rotate_left
                · intro w hSw; (try dsimp only at hSw); go_split_ands; go_simp; first | done | with_reducible rfl
                (try simp only [Act.put, List.setIfInBounds_toArray, List.set_cons_zero, List.set_cons_succ])
                refine wpAnyH_done (by kernel_rfl) ?_ _
                refine last_step rfl rfl (fun K hK => ?_)
                have p0 := BB.out.c0
                have p1 := BB.out.c1
                have p2 := BB.out.c2
                have y0 := BB.out.f0
                have y1 := BB.out.f1
                have y2 := BB.out.f2
                go_simp
                refine hK.out _ _ ?_
                clear hK K
                have hgw : wr.heap.size ≤ wr.heap.size := by omega
                have hgc := BB.out.lt
                obtain ⟨gw, egw, hgv, gsw⟩ : ∃ gw, gw = wr.heap.size ∧ wr.heap.size ≤ gw ∧ gs < gw := ⟨_, rfl, hgw, by omega⟩
                have B6 := BB.out.put (.string (stF ia)) (.string (stF ib)) (.int .i64 0)
                have T6 := ((TC.out.set (b := wr.heap.size) (o := 0) (u := .string (stF ia)) (by omega) (fun p hp => Nat.lt_of_lt_of_le (hq9.out p hp) hgw)).set (b := wr.heap.size) (o := 1) (u := .string (stF ib)) (by omega) (fun p hp => Nat.lt_of_lt_of_le (hq9.out p hp) hgw)).set (b := wr.heap.size) (o := 2) (u := .int .i64 0) (by omega) (fun p hp => Nat.lt_of_lt_of_le (hq9.out p hp) hgw)
                have zf := Hst.out ia hia
                have zt := Hst.out ib hib
                generalize stF ia = f at *
                generalize stF ib = g at *
                obtain ⟨W6, hW6⟩ : ∃ W6, W6 = ((wb.setCell ⟨wr.heap.size, 0, none⟩ (.string f)).setCell ⟨wr.heap.size, 1, none⟩ (.string g)).setCell ⟨wr.heap.size, 2, none⟩ (.int .i64 0) := ⟨_, rfl⟩
                rw [← hW6, ← egw] at B6
                rw [← hW6] at T6
                rw [← hW6, ← egw]
                clear hgw
                have hgw := hgv
                have B6h := hid B6
                have T6h := hid T6
                clear T6 B6 BB TC TP hW6 egw hHeld D2 Hst d0
                have gsl := T6h.out.src.lt
                have lgw := B6h.out.lt
                go_wp2_with fail
                refine (pick_any gs _ 30 W6 T6h.out.src (by omega) (by omega)).mono ?_
                rintro r w7 ⟨mm, rfl, mm0, mm1, hs7, hg7⟩
                have B7 := B6h.out.grow hg7 (by simp; omega)
                have T7 := T6h.out.pick hs7 hg7
                have z7 := hg7.size
                have mm2 : mm ≤ 29 := by omega
                clear B6h T6h hs7 hg7 mm1
                have p0 := B7.c0
                have p1 := B7.c1
                have p2 := B7.c2
                have y2 := B7.f2
                have T8 := T7.set (b := gw) (o := 2) (u := .int .i64 (10 * (1 + mm))) (by omega) (fun p hp => Nat.lt_of_lt_of_le (hq9.out p hp) hgw)
                have lgw7 := B7.lt
                have gsl7 := T7.src.lt
                have T8h := hid T8
                have lx7 := T7.lt
                clear T7 B7 T8
                go_wp2_with fail
                have T8 := T8h.out
                refine (l21Tube_any gx lo lo _ ⟨st, [], ws⟩ f g (10 * (1 + mm)) _ T8.h4 (Nat.le_refl _) (by have := T8.h4; have := T8.lt; omega) (by simp only; omega) (by simp only; omega) T8.xa).mono ?_
                rintro r w9 ⟨rfl, ⟨s9, X9⟩, b9⟩
                obtain ⟨ws', E, hl', hin⟩ := addWy_in st ws ⟨f, g, 10 * (1 + mm)⟩
                rw [E] at X9
                have T9 := T8.add X9 b9
                obtain ⟨q, rfl⟩ : ∃ q' : Nat, q = q' + 1 := ⟨q - 1, by omega⟩
                have T9h : Hid (∃ s : SV, StX w w9 gs w.heap.size gx lo (k + 4 + 6 * (8 - q)) s ⟨st, [], ws'⟩) := ⟨s9, T9.up (by omega)⟩
                have HW9 : Hid (∀ y ∈ ws', (y.fr.size ≤ 12 ∧ y.«to».size ≤ 12) ∧ 0 ≤ y.metres ∧ y.metres ≤ 2000) := fun y hy => by
                  rcases hin y hy with h | rfl
                  · exact HW.out y h
                  · exact ⟨⟨zf, zt⟩, by simp only; omega, by simp only; omega⟩
                clear T9 T8 X9 E hin HW T8h
                go_wp2_with fail
                go_roundw
                all_goals first | exact ⟨q, ws', by go_num, by omega, T9h, HW9⟩ | exact ⟨⟨q, ws', by go_num, by omega, T9h, HW9⟩, by first | (simp [intOf]; done) | (simp [intOf]; omega)⟩ | (simp [intOf]; done) | (simp [intOf]; omega)
              exact AllReadyH.nil
            exact AllReadyH.nil
          exact AllReadyH.nil
        · have hx : q = 0 ∨ (0 < q ∧ n1 ≤ 1) := by omega
          have T10 : Hid (∃ s : SV, StX w wr gs w.heap.size gx lo (k + 52) s ⟨st, [], ws⟩) := ⟨s, T.up (by omega)⟩
          have hsr := hid (T.src.mono (show k + 4 + 6 * (8 - q) ≤ k + 52 by omega))
          have hwl : ws.length ≤ 8 := by omega
          clear T HT lg hgo
          rcases hx with rfl | ⟨hq, hN⟩
          all_goals go_wp2_with fail
          all_goals
            refine (pick_any gs (k + 52) 3 wr hsr.out (by omega) (by omega)).mono ?_
            rintro r w5 ⟨q, rfl, q0, q1, hs5, hg5⟩
            obtain ⟨q, rfl⟩ : ∃ q' : Nat, q = q' := ⟨q.toNat, by omega⟩
            have q2 : q ≤ 2 := by omega
            have T5 : Hid (∃ s : SV, StX w w5 gs w.heap.size gx lo (k + 54) s ⟨st, [], ws⟩) := by
              obtain ⟨s, T⟩ := T10.out
              exact ⟨s, T.pick hs5 hg5⟩
            clear T10 hsr hs5 hg5 q0 q1
            go_wp2_with fail
            go_loopw [9] (fun vk wl => ∃ (q : Nat) (rs : List ByteArray), vk = .int .i64 q ∧ q + rs.length ≤ 2 ∧ Hid (∃ s : SV, StX w wl gs w.heap.size gx lo (k + 54 + 2 * (2 - q)) s ⟨st, rs, ws⟩) ∧ Hid (∀ z ∈ rs, z.size ≤ 12)) (fun v _ => (intOf v).toNat)
            case atStart => exact ⟨q, [], rfl, by simp only [List.length_nil]; omega, (by obtain ⟨s, T⟩ := T5.out; exact ⟨s, T.up (Nat.le_add_right _ _)⟩), fun y hy => absurd hy List.not_mem_nil⟩
            case round =>
              clear T5
              obtain ⟨q, rs, rfl, hqr, HT, HR⟩ := hrel
              obtain ⟨s, T⟩ := HT.out
              have lg := T.lt
              by_cases hgo : 0 < q ∧ 0 < n1
              · obtain ⟨hq, hN⟩ := hgo
                obtain ⟨b, hA, hlb, hbx, hbw, hcs⟩ := T.xa.stCell (by have := HL.out; simp only; omega)
                have hn1 : s.n1 = n1 := T.xa.len.1.trans HL.out.symm
                obtain ⟨A1, m1, c1, A2, n2, c2, A3, n3, c3⟩ := s
                simp only at hA hn1
                subst hA hn1
                have g0 := T.xa.k0
                simp only at g0 hcs
                have e1 : (some gx : Option Nat) ≠ some gs := by have := T.h1; have := T.h2; have := T.h3; have := T.h4; simp; omega
                have e2 : (some b : Option Nat) ≠ some gs := by have := T.h1; have := T.h2; have := T.h3; simp; omega
                rw [← HL.out] at hcs
                have TC := hid T.drew
                have hdz : wr.heap.size ≤ wr.drew.heap.size := Nat.le_refl _
                have d0 : wr.drew.cell? ⟨gx, 0, none⟩ = some (.slice (some ⟨b, 0, none⟩) m1 c1) := g0
                have d1 : ∀ i, i < m1 → wr.drew.cell? ⟨b, i, none⟩ = some (.string (stAt st i)) := hcs
                have hst : ∀ i, i < m1 → (stAt st i).size ≤ 12 := fun i hi => hsz.out _ (stAt_mem (by have := HL.out; omega))
                have Hst := hid hst
                obtain ⟨stF, hstF⟩ : ∃ f, f = stAt st := ⟨_, rfl⟩
                rw [← hstF] at Hst
                have D2 : Hid (∀ i, i < m1 → wr.drew.cell? ⟨b, i, none⟩ = some (.string (stF i))) := by rw [hstF]; exact d1
                clear hst HT hcs T d1 hstF
                go_wp2_with fail
                refine wp_region_held_drew (S := (fun _ => True)) (by kernel_rfl) ?_ (fun hHeld => ?_)
                · (try dsimp only); (first | done | exact True.intro)
                refine wpAnyH_take (i := 0) (oi := ⟨some 74, Go.Op.fieldAddr 25 (Go.Operand.tmp 3) 0, 0, "l21_language.go:381", #[], none⟩) (v := ?_) rfl (by kernel_rfl) (by kernel_rfl) (by kernel_rfl) (fun _ _ _ h => h) (Or.inl ⟨by rfl, ?_⟩) (by assumption) ?_
                rotate_left
                · intro w hSw; (try dsimp only at hSw); go_split_ands; go_simp; first | done | with_reducible rfl
                (try simp only [Act.put, List.setIfInBounds_toArray, List.set_cons_zero, List.set_cons_succ])
                refine wpAnyH_take (i := 2) (oi := ⟨some 76, Go.Op.move (Go.Operand.tmp 0), 58, "l21_language.go:381", #[], none⟩) (v := ?_) rfl (by kernel_rfl) (by kernel_rfl) (by kernel_rfl) (fun _ _ _ h => h) (Or.inl ⟨by rfl, ?_⟩) (by assumption) ?_
                rotate_left
                · intro w hSw; (try dsimp only at hSw); go_split_ands; go_simp; first | done | with_reducible rfl
                (try simp only [Act.put, List.setIfInBounds_toArray, List.set_cons_zero, List.set_cons_succ])
                refine wpAnyH_take (i := 3) (oi := ⟨some 77, Go.Op.move (Go.Operand.tmp 6), 2, "l21_language.go:381", #[], none⟩) (v := ?_) rfl (by kernel_rfl) (by kernel_rfl) (by kernel_rfl) (fun _ _ _ h => h) (Or.inl ⟨by rfl, ?_⟩) (by assumption) ?_
                rotate_left
                · intro w hSw; (try dsimp only at hSw); go_split_ands; go_simp; first | done | with_reducible rfl
                (try simp only [Act.put, List.setIfInBounds_toArray, List.set_cons_zero, List.set_cons_succ])
                refine wpAnyH_ready (rs := [1, 4]) (by kernel_rfl) (by simp) ?_
                refine AllReadyH.cons rfl (fun K hK => ?_) ?_
                · skip
                  go_simp
                  refine hK.out _ _ ?_ (fun hH2 => ?_)
                  · (try dsimp only); (first | done | exact True.intro)
                  clear hK K hHeld; have hHeld := hH2; clear hH2
                  refine wpAnyH_ready (rs := [4]) (by kernel_rfl) (by simp) ?_
                  refine AllReadyH.cons rfl (fun K hK => ?_) ?_
                  · skip
                    go_simp
                    go_wp2_with (go_at_call 44; refine (pick_any gs (k + 54 + 2 * (2 - q)) m1 _ TC.out.src (by omega) (by omega)).mono ?_; rintro r wa ⟨ra, rfl, ra0, ra1, hsa, hga⟩)
                    obtain ⟨ia, rfl⟩ : ∃ i : Nat, ra = i := ⟨ra.toNat, by omega⟩
                    have hia : ia < m1 := by omega
                    have hja : (ia : Int) < (m1 : Int) := by omega
                    have hka : (0 : Int) ≤ (ia : Int) := by omega
                    replace TC := hid (TC.out.pick hsa hga)
                    have hza := hga.size
                    have dc := hga.cell (D2.out ia hia) e2
                    have da := hga.cell d0 e1
                    have zf := Hst.out ia hia
                    generalize stF ia = f at dc zf
                    refine hK.out _ _ ?_ (fun hH2 => ?_)
                    · (try dsimp only); (first | done | exact True.intro)
                    clear hK K hHeld; have hHeld := hH2; clear hH2
                    refine wpAnyH_take (i := 5) (oi := ⟨some 79, Go.Op.indexAddr 22 (Go.Operand.tmp 75) (Go.Operand.tmp 78), 0, "l21_language.go:381", #[⟨1, Go.Ground.data⟩, ⟨4, Go.Ground.data⟩], none⟩) (v := ?_) rfl (by kernel_rfl) (by kernel_rfl) (by kernel_rfl) (fun _ _ _ h => h) (Or.inl ⟨by rfl, ?_⟩) (by assumption) ?_
                    rotate_left
                    · intro w hSw; (try dsimp only at hSw); go_split_ands; go_simp; first | done | with_reducible rfl
                    (try simp only [Act.put, List.setIfInBounds_toArray, List.set_cons_zero, List.set_cons_succ])
                    refine wpAnyH_ready (rs := [6]) (by kernel_rfl) (by simp) ?_
                    refine AllReadyH.cons rfl (fun K hK => ?_) ?_
                    · skip
                      go_simp
                      refine hK.out _ _ ?_ (fun hH2 => ?_)
                      · (try dsimp only); (first | done | exact True.intro)
                      clear hK K hHeld; have hHeld := hH2; clear hH2
                      refine wpAnyH_ready (rs := [7]) (by kernel_rfl) (by simp) ?_
                      refine AllReadyH.cons rfl (fun K hK => ?_) ?_
                      · skip
                        go_simp
                        go_wp2_with (go_at_call 59; refine (l21Room_any gx lo lo _ ⟨st, rs, ws⟩ f wa TC.out.h4 (Nat.le_refl _) (by have := TC.out.h4; have := TC.out.lt; omega) (by omega) (by simp only; omega) (by simp only; omega) TC.out.xa).mono ?_; rintro r w9 ⟨rfl, ⟨s9, X9⟩, b9⟩)
                        refine hK.out _ _ ?_ (fun hH2 => ?_)
                        · (try dsimp only); (first | done | exact True.intro)
                        clear hK K hHeld; have hHeld := hH2; clear hH2
                        refine wpAnyH_done (by kernel_rfl) ?_ _
                        obtain ⟨rs', E, hl', hin⟩ := addRm_in st rs ws f
                        rw [E] at X9
                        have T9 := TC.out.add X9 b9
                        obtain ⟨q, rfl⟩ : ∃ q' : Nat, q = q' + 1 := ⟨q - 1, by omega⟩
                        have T9h : Hid (∃ s : SV, StX w w9 gs w.heap.size gx lo (k + 54 + 2 * (2 - q)) s ⟨st, rs', ws⟩) := ⟨s9, T9.up (by omega)⟩
                        have HR9 : Hid (∀ z ∈ rs', z.size ≤ 12) := fun y hy => by
                          rcases hin y hy with h | rfl
                          · exact HR.out y h
                          · exact zf
                        clear T9 X9 E hin HR TC D2 Hst d0 dc da
                        go_wp2_with fail
                        go_roundw
                        all_goals first | exact ⟨q, rs', by go_num, by omega, T9h, HR9⟩ | exact ⟨⟨q, rs', by go_num, by omega, T9h, HR9⟩, by first | (simp [intOf]; done) | (simp [intOf]; omega)⟩ | (simp [intOf]; done) | (simp [intOf]; omega)
                      exact AllReadyH.nil
                    exact AllReadyH.nil
                  exact AllReadyH.nil
                refine AllReadyH.cons rfl (fun K hK => ?_) ?_
                · skip
                  go_simp
                  go_wp2_with (go_at_call 44; refine (pick_any gs (k + 54 + 2 * (2 - q)) m1 _ TC.out.src (by omega) (by omega)).mono ?_; rintro r wa ⟨ra, rfl, ra0, ra1, hsa, hga⟩)
                  obtain ⟨ia, rfl⟩ : ∃ i : Nat, ra = i := ⟨ra.toNat, by omega⟩
                  have hia : ia < m1 := by omega
                  have hja : (ia : Int) < (m1 : Int) := by omega
                  have hka : (0 : Int) ≤ (ia : Int) := by omega
                  replace TC := hid (TC.out.pick hsa hga)
                  have hza := hga.size
                  have dc := hga.cell (D2.out ia hia) e2
                  have da := hga.cell d0 e1
                  have zf := Hst.out ia hia
                  generalize stF ia = f at dc zf
                  refine hK.out _ _ ?_ (fun hH2 => ?_)
                  · (try dsimp only); (first | done | exact True.intro)
                  clear hK K hHeld; have hHeld := hH2; clear hH2
                  refine wpAnyH_ready (rs := [1]) (by kernel_rfl) (by simp) ?_
                  refine AllReadyH.cons rfl (fun K hK => ?_) ?_
                  · skip
                    go_simp
                    refine hK.out _ _ ?_ (fun hH2 => ?_)
                    · (try dsimp only); (first | done | exact True.intro)
                    clear hK K hHeld; have hHeld := hH2; clear hH2
                    refine wpAnyH_take (i := 5) (oi := ⟨some 79, Go.Op.indexAddr 22 (Go.Operand.tmp 75) (Go.Operand.tmp 78), 0, "l21_language.go:381", #[⟨1, Go.Ground.data⟩, ⟨4, Go.Ground.data⟩], none⟩) (v := ?_) rfl (by kernel_rfl) (by kernel_rfl) (by kernel_rfl) (fun _ _ _ h => h) (Or.inl ⟨by rfl, ?_⟩) (by assumption) ?_
                    rotate_left
                    · intro w hSw; (try dsimp only at hSw); go_split_ands; go_simp; first | done | with_reducible rfl
                    (try simp only [Act.put, List.setIfInBounds_toArray, List.set_cons_zero, List.set_cons_succ])
                    refine wpAnyH_ready (rs := [6]) (by kernel_rfl) (by simp) ?_
                    refine AllReadyH.cons rfl (fun K hK => ?_) ?_
                    · skip
                      go_simp
                      refine hK.out _ _ ?_ (fun hH2 => ?_)
                      · (try dsimp only); (first | done | exact True.intro)
                      clear hK K hHeld; have hHeld := hH2; clear hH2
                      refine wpAnyH_ready (rs := [7]) (by kernel_rfl) (by simp) ?_
                      refine AllReadyH.cons rfl (fun K hK => ?_) ?_
                      · skip
                        go_simp
                        go_wp2_with (go_at_call 59; refine (l21Room_any gx lo lo _ ⟨st, rs, ws⟩ f wa TC.out.h4 (Nat.le_refl _) (by have := TC.out.h4; have := TC.out.lt; omega) (by omega) (by simp only; omega) (by simp only; omega) TC.out.xa).mono ?_; rintro r w9 ⟨rfl, ⟨s9, X9⟩, b9⟩)
                        refine hK.out _ _ ?_ (fun hH2 => ?_)
                        · (try dsimp only); (first | done | exact True.intro)
                        clear hK K hHeld; have hHeld := hH2; clear hH2
                        refine wpAnyH_done (by kernel_rfl) ?_ _
                        obtain ⟨rs', E, hl', hin⟩ := addRm_in st rs ws f
                        rw [E] at X9
                        have T9 := TC.out.add X9 b9
                        obtain ⟨q, rfl⟩ : ∃ q' : Nat, q = q' + 1 := ⟨q - 1, by omega⟩
                        have T9h : Hid (∃ s : SV, StX w w9 gs w.heap.size gx lo (k + 54 + 2 * (2 - q)) s ⟨st, rs', ws⟩) := ⟨s9, T9.up (by omega)⟩
                        have HR9 : Hid (∀ z ∈ rs', z.size ≤ 12) := fun y hy => by
                          rcases hin y hy with h | rfl
                          · exact HR.out y h
                          · exact zf
                        clear T9 X9 E hin HR TC D2 Hst d0 dc da
                        go_wp2_with fail
                        go_roundw
                        all_goals first | exact ⟨q, rs', by go_num, by omega, T9h, HR9⟩ | exact ⟨⟨q, rs', by go_num, by omega, T9h, HR9⟩, by first | (simp [intOf]; done) | (simp [intOf]; omega)⟩ | (simp [intOf]; done) | (simp [intOf]; omega)
                      exact AllReadyH.nil
                    exact AllReadyH.nil
                  exact AllReadyH.nil
                exact AllReadyH.nil
              · have hx : q = 0 ∨ (0 < q ∧ n1 = 0) := by omega
                obtain ⟨A1, m1, c1, A2, n2, c2, A3, n3, c3⟩ := s
                have FIN := hid (T.up (show k + 54 + 2 * (2 - q) ≤ k + 100 by omega)).fin
                have g0 := T.xa.k0
                have g1 := T.xa.k1
                have g2 := T.xa.k2
                have p0 := T.res.c0
                have p1 := T.res.c1
                have p2 := T.res.c2
                have y0 := T.res.f0
                have y1 := T.res.f1
                have y2 := T.res.f2
                have t0 := set3_0 p0 (.slice A1 m1 c1) (.slice A2 n2 c2) (.slice A3 n3 c3)
                have t1 := set3_1 p1 (.slice A1 m1 c1) (.slice A2 n2 c2) (.slice A3 n3 c3)
                have t2 := set3_2 p2 (.slice A1 m1 c1) (.slice A2 n2 c2) (.slice A3 n3 c3)
                have TT0 := hid t0
                have TT1 := hid t1
                have TT2 := hid t2
                simp only at g0 g1 g2
                have PT : TinyX ⟨st, rs, ws⟩ := ⟨⟨by simp only; omega, by simp only; omega, by simp only; omega, hsz.out, HR.out, fun y hy => (HW.out y hy).1⟩, fun y hy => (HW.out y hy).2⟩
                have PTH := hid PT
                clear HT T HR hgo t0 t1 t2 PT
                rcases hx with rfl | ⟨hq, rfl⟩
                all_goals go_wp2_with fail
                all_goals
                  have t0 := TT0.out
                  have t1 := TT1.out
                  have t2 := TT2.out
                  refine bodyPost_ret (v := .agg #[.slice A1 m1 c1, .slice A2 n2 c2, .slice A3 n3 c3]) (by simp [results, Tryz.results42, go_sem, t0, t1, t2]) rfl ⟨⟨A1, m1, c1, A2, n2, c2, A3, n3, c3⟩, ⟨st, rs, ws⟩, rfl, FIN.out.1, PTH.out, FIN.out.2.1, FIN.out.2.2⟩
end Go.Proofs.YtcgkcfmiabninaaGreatDoor
