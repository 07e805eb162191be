/-
  Schemes: comparisons, marks; how one that comes in reads. No condition.
-/
import Derived.Test.YtmanbpobdaamfaaSchm
import Derived.Lib.SmallJoins
namespace Go.Proofs.Ytmanbpobdaamfaa
open Go.RowKit Go.ChangeShapes Go.WideShapes Go.ChangeAt Go.Deep Go.Joins
set_option maxHeartbeats 400000

def InX (s : SV) (lo hi : Nat) : Prop := ∀ b, ((Value.slice s.A1 s.n1 s.c1).ownBlock = some b ∨ (Value.slice s.A2 s.n2 s.c2).ownBlock = some b ∨ (Value.slice s.A3 s.n3 s.c3).ownBlock = some b) → lo ≤ b ∧ b < hi
theorem OwnX.inX {w : World} {lo : Nat} {s : SV} {x : Sch} (h : OwnX w lo s x) : InX s lo w.heap.size := fun b hb => by
  rcases hb with hb | hb | hb
  · exact h.st.lt b hb
  · exact h.rm.lt b hb
  · exact h.wy.lt b hb
set_option maxHeartbeats 1000000 in
theorem eqScheme_yes (s t : SV) (x : Sch) (w : World) (B : Nat) (hB : B ≤ w.heap.size) (hn1 : s.n1 ≤ 2000000) (hn2 : s.n2 ≤ 2000000) (hn3 : s.n3 ≤ 2000000) (hx : SlX w B s x) (hy : SlX w B t x) :
    Calls Try.prog 9 #[s.v, t.v] w fun e w' => e = .returned (.bool true) ∧ Below w.heap.size w w' := by
  obtain ⟨A1, n1, c1, A2, n2, c2, A3, n3, c3⟩ := s
  obtain ⟨A1', n1', c1', A2', n2', c2', A3', n3', c3'⟩ := t
  simp only [SV.v] at hn1 hn2 hn3 ⊢
  obtain ⟨W0, hW0⟩ : ∃ W0, W0 = (w.alloc (.cells #[.slice A1 n1 c1, .slice A2 n2 c2, .slice A3 n3 c3] 29)).alloc (.cells #[.slice A1' n1' c1', .slice A2' n2' c2', .slice A3' n3' c3'] 29) := ⟨_, rfl⟩
  have b0 : Below w.heap.size w W0 := by rw [hW0]; exact ((Below.refl _ _).alloc (Nat.le_refl _) _).alloc (by simp) _
  have k1 : W0.cell? ⟨w.heap.size, 1, none⟩ = some (.slice A2 n2 c2) := by rw [hW0]; go_simp
  have k2 : W0.cell? ⟨w.heap.size, 2, none⟩ = some (.slice A3 n3 c3) := by rw [hW0]; go_simp
  have l1 : W0.cell? ⟨w.heap.size + 1, 1, none⟩ = some (.slice A2' n2' c2') := by rw [hW0]; go_simp
  have l2 : W0.cell? ⟨w.heap.size + 1, 2, none⟩ = some (.slice A3' n3' c3') := by rw [hW0]; go_simp
  have HW := hid hW0
  have t1 := eqStringS_yes A1 n1 c1 A1' n1' c1' W0 B (Nat.le_trans hB b0.size) x.st hn1 (hx.st.below (b0.mono hB)) (hy.st.below (b0.mono hB))
  clear hW0
  go_enter Try.func9, Try.ntmps9
  go_wp2_with fail
  rw [← HW.out]
  refine t1.mono ?_
  rintro r w1 ⟨rfl, b1⟩
  replace k1 := below_cell k1 b1
  replace k2 := below_cell k2 b1
  replace l1 := below_cell l1 b1
  replace l2 := below_cell l2 b1
  replace b1 := b0.trans (b1.mono b0.size)
  go_wp2_with fail
  refine (eqStringS_yes A2 n2 c2 A2' n2' c2' _ B (Nat.le_trans hB b1.size) x.rm hn2 (hx.rm.below (b1.mono hB)) (hy.rm.below (b1.mono hB))).mono ?_
  rintro r w2 ⟨rfl, b2⟩
  replace k2 := below_cell k2 b2
  replace l2 := below_cell l2 b2
  replace b2 := b1.trans (b2.mono b1.size)
  go_wp2_with fail
  refine (eqWayS_yes A3 n3 c3 A3' n3' c3' _ B (Nat.le_trans hB b2.size) x.wy hn3 (hx.wy.below (b2.mono hB)) (hy.wy.below (b2.mono hB))).mono ?_
  rintro r w3 ⟨rfl, b3⟩
  go_wp2_with fail
  go_ret
  exact ⟨rfl, b2.trans (b3.mono b2.size)⟩
set_option maxHeartbeats 1000000 in
theorem markScheme_any (lo hi : Nat) (s : SV) (x : Sch) (m : Int) (w : World) (hn1 : s.n1 ≤ 2000000) (hn2 : s.n2 ≤ 2000000) (hn3 : s.n3 ≤ 2000000) (h0 : 0 ≤ m) (h1 : m ≤ 1000000) (ho : OwnX w lo s x) (hi' : InX s lo hi) :
    Calls Try.prog 10 #[s.v, .int .i64 m] w fun e w' => e = .returned (.int .i64 (m + lenX x)) ∧ OwnX w' lo s (marksX m x) ∧ Span lo hi w w' := by
  obtain ⟨A1, n1, c1, A2, n2, c2, A3, n3, c3⟩ := s
  simp only [SV.v] at hn1 hn2 hn3 ⊢
  obtain ⟨o1, o2, o3, p12, p13, p23⟩ := ho
  simp only at o1 o2 o3 p12 p13 p23
  have l1 := own_len encS_len (by omega) o1
  have l2 := own_len encS_len (by omega) o2
  have l3 := own_len encWay_len (by omega) o3
  have hl : lenX x = n1 + n2 + 3 * n3 := by simp only [lenX, ← l1, ← l2, ← l3]
  have hm : marksX m x = ⟨marksS m n1, marksS (m + n1) n2, marksWay (m + n1 + n2) n3⟩ := by simp only [marksX, ← l1, ← l2, ← l3]
  rw [hl, hm]
  obtain ⟨W0, hW0⟩ : ∃ W0, W0 = w.alloc (.cells #[.slice A1 n1 c1, .slice A2 n2 c2, .slice A3 n3 c3] 29) := ⟨_, rfl⟩
  have s0 : Span lo hi w W0 := by rw [hW0]; exact Span.ofBelow ((Below.refl _ _).alloc (Nat.le_refl _) _)
  have k1 : W0.cell? ⟨w.heap.size, 1, none⟩ = some (.slice A2 n2 c2) := by rw [hW0]; go_simp
  have k2 : W0.cell? ⟨w.heap.size, 2, none⟩ = some (.slice A3 n3 c3) := by rw [hW0]; go_simp
  have r1 : W0.ownsRow lo 9 1 (.slice A1 n1 c1) n1 (x.st.flatMap encS) := by rw [hW0]; exact o1.alloc _
  have r2 : W0.ownsRow lo 9 1 (.slice A2 n2 c2) n2 (x.rm.flatMap encS) := by rw [hW0]; exact o2.alloc _
  have r3 : W0.ownsRow lo 54 3 (.slice A3 n3 c3) n3 (x.wy.flatMap encWay) := by rw [hW0]; exact o3.alloc _
  have q1 := o1.lt
  have q2 := o2.lt
  have q3 := o3.lt
  have HW := hid hW0
  have hI1 : ∀ b, (Value.slice A1 n1 c1).ownBlock = some b → lo ≤ b ∧ b < hi := fun b h => hi' b (.inl h)
  have hI2 : ∀ b, (Value.slice A2 n2 c2).ownBlock = some b → lo ≤ b ∧ b < hi := fun b h => hi' b (.inr (.inl h))
  have hI3 : ∀ b, (Value.slice A3 n3 c3).ownBlock = some b → lo ≤ b ∧ b < hi := fun b h => hi' b (.inr (.inr h))
  clear hW0 o1 o2 o3 l1 l2 l3 hl hm hi'
  go_enter Try.func10, Try.ntmps10
  go_wp2_with fail
  rw [← HW.out]
  refine (markStringS_any lo A1 n1 c1 _ m W0 hn1 h0 (by omega) r1).mono ?_
  rintro r w1 ⟨rfl, m1, g1⟩
  have hne : ∀ (v : Value), (∀ b, v.ownBlock = some b → lo ≤ b ∧ b < w.heap.size) → some w.heap.size ≠ v.ownBlock := fun v h e => by have := (h _ e.symm).2; omega
  replace k1 := g1.cell k1 (hne _ q1)
  replace k2 := g1.cell k2 (hne _ q1)
  replace r2 := own_keep r2 (v2 := .slice A1 n1 c1) (fun b hb => p12 b hb) g1
  replace r3 := own_keep r3 (v2 := .slice A1 n1 c1) (fun b hb => p13 b hb) g1
  replace s0 := s0.trans (Span.ofGrown g1 hI1)
  clear g1 r1
  go_wp2_with fail
  refine (markStringS_any lo A2 n2 c2 _ (m + n1) w1 hn2 (by omega) (by omega) r2).mono ?_
  rintro r w2 ⟨rfl, m2, g2⟩
  replace k2 := g2.cell k2 (hne _ q2)
  replace m1 := own_keep m1 (v2 := .slice A2 n2 c2) (fun b hb e => p12 b e hb) g2
  replace r3 := own_keep r3 (v2 := .slice A2 n2 c2) (fun b hb => p23 b hb) g2
  replace s0 := s0.trans (Span.ofGrown g2 hI2)
  clear g2 r2
  go_wp2_with fail
  refine (markWayS_any lo A3 n3 c3 _ (m + n1 + n2) w2 hn3 (by omega) (by omega) r3).mono ?_
  rintro r w3 ⟨rfl, m3, g3⟩
  replace m1 := own_keep m1 (v2 := .slice A3 n3 c3) (fun b hb e => p13 b e hb) g3
  replace m2 := own_keep m2 (v2 := .slice A3 n3 c3) (fun b hb e => p23 b e hb) g3
  replace s0 := s0.trans (Span.ofGrown g3 hI3)
  clear g3 r3
  go_wp2_with fail
  go_ret
  exact ⟨retI (by omega), ⟨m1, m2, m3, p12, p13, p23⟩, s0⟩
set_option maxHeartbeats 1000000 in
theorem heldScheme_any (s : SV) (x : Sch) (m : Int) (w : World) (B : Nat) (hB : B ≤ w.heap.size) (hn1 : s.n1 ≤ 2000000) (hn2 : s.n2 ≤ 2000000) (hn3 : s.n3 ≤ 2000000) (hl1 : Hid (x.st.length = s.n1)) (hl2 : Hid (x.rm.length = s.n2)) (hl3 : Hid (x.wy.length = s.n3)) (h0 : 0 ≤ m) (h1 : m ≤ 1000000) (hx : SlX w B s (marksX m x)) :
    Calls Try.prog 11 #[s.v, .int .i64 m] w fun e w' => e = .returned (.int .i64 (m + lenX x)) ∧ Below w.heap.size w w' := by
  obtain ⟨A1, n1, c1, A2, n2, c2, A3, n3, c3⟩ := s
  simp only [SV.v] at hn1 hn2 hn3 hl1 hl2 hl3 ⊢
  have hl : lenX x = n1 + n2 + 3 * n3 := by simp only [lenX, hl1.out, hl2.out, hl3.out]
  have hm : marksX m x = ⟨marksS m n1, marksS (m + n1) n2, marksWay (m + n1 + n2) n3⟩ := by simp only [marksX, hl1.out, hl2.out, hl3.out]
  rw [hm] at hx
  rw [hl]
  obtain ⟨W0, hW0⟩ : ∃ W0, W0 = w.alloc (.cells #[.slice A1 n1 c1, .slice A2 n2 c2, .slice A3 n3 c3] 29) := ⟨_, rfl⟩
  have b0 : Below w.heap.size w W0 := by rw [hW0]; exact (Below.refl _ _).alloc (Nat.le_refl _) _
  have k1 : W0.cell? ⟨w.heap.size, 1, none⟩ = some (.slice A2 n2 c2) := by rw [hW0]; go_simp
  have k2 : W0.cell? ⟨w.heap.size, 2, none⟩ = some (.slice A3 n3 c3) := by rw [hW0]; go_simp
  have HW := hid hW0
  have t1 := heldStringS_any A1 n1 c1 m W0 B (Nat.le_trans hB b0.size) hn1 h0 (by omega) (hx.st.below (b0.mono hB))
  clear hW0 hl hm hl1 hl2 hl3
  go_enter Try.func11, Try.ntmps11
  go_wp2_with fail
  rw [← HW.out]
  refine t1.mono ?_
  rintro r w1 ⟨rfl, b1⟩
  replace k1 := below_cell k1 b1
  replace k2 := below_cell k2 b1
  replace b1 := b0.trans (b1.mono b0.size)
  go_wp2_with fail
  refine (heldStringS_any A2 n2 c2 (m + n1) _ B (Nat.le_trans hB b1.size) hn2 (by omega) (by omega) (hx.rm.below (b1.mono hB))).mono ?_
  rintro r w2 ⟨rfl, b2⟩
  replace k2 := below_cell k2 b2
  replace b2 := b1.trans (b2.mono b1.size)
  go_wp2_with fail
  refine (heldWayS_any A3 n3 c3 (m + n1 + n2) _ B (Nat.le_trans hB b2.size) hn3 (by omega) (by omega) (hx.wy.below (b2.mono hB))).mono ?_
  rintro r w3 ⟨rfl, b3⟩
  go_wp2_with fail
  go_ret
  exact ⟨retI (by omega), b2.trans (b3.mono b2.size)⟩
set_option maxRecDepth 100000 in
theorem open_Scheme {H : Type} {enc : TypeId × Value → H} {W : World} {base : Nat} {v : Value} {d : DataW H} {p : List MemPlace} (hv : Value.okWide Try.prog W .any base 25 v)
    (h : DataW.Trod enc Try.prog W 0 (fun _ => true) true 25 v d p) : ∃ (s : SV) (x : Sch), v = s.v ∧ (s.n1 ≤ 9223372036854775807 ∧ s.n2 ≤ 9223372036854775807 ∧ s.n3 ≤ 9223372036854775807) ∧ SlX W W.heap.size s x ∧ Hid (BigX x) := by
  obtain ⟨v0, v1, v2, y0, y1, y2, m, rfl, _, _, h0, h1, h2⟩ := open_agg3 Try.underlying25 (by kernel_rfl) (by kernel_rfl) hv h
  obtain ⟨A1, n1, c1, xs1, e0, hn1, hx1, hz1⟩ := open_Strs rfl h0
  obtain ⟨A2, n2, c2, xs2, e1, hn2, hx2, hz2⟩ := open_Strs rfl h1
  obtain ⟨A3, n3, c3, xs3, e2, hn3, hx3, hz3⟩ := open_WayS rfl h2
  simp only [List.cons.injEq, and_true] at e0 e1 e2
  subst e0 e1 e2
  exact ⟨⟨A1, n1, c1, A2, n2, c2, A3, n3, c3⟩, ⟨xs1, xs2, xs3⟩, rfl, ⟨hn1, hn2, hn3⟩, ⟨hx1, hx2, hx3⟩, hid ⟨hz1, hz2, hz3⟩⟩
end Go.Proofs.Ytmanbpobdaamfaa
