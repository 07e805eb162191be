/-
  RenameStation: the reference's side. No condition.
-/
import Derived.Test.YtmanbpobdaamfaaSOwnS
import Derived.Test.YtmanbpobdaamfaaSRen
namespace Go.Proofs.Ytmanbpobdaamfaa
open Go.RowKit
set_option maxHeartbeats 400000

/-- a list of which the first k places are changed -/
def mixG {α : Type} (f : α → α) (xs : List α) (k : Nat) : List α := (xs.take k).map f ++ xs.drop k
theorem mixG_zero {α : Type} (f : α → α) (xs : List α) : mixG f xs 0 = xs := by simp [mixG]
theorem mixG_all {α : Type} {f : α → α} {xs : List α} {k : Nat} (h : xs.length ≤ k) : mixG f xs k = xs.map f := by simp [mixG, List.take_of_length_le h, List.drop_of_length_le h]
theorem mixG_len {α : Type} (f : α → α) (xs : List α) (k : Nat) : (mixG f xs k).length = xs.length := by simp [mixG]; omega
theorem mixG_at {α : Type} {f : α → α} {xs : List α} {k : Nat} {x : α} (h : xs[k]? = some x) : (mixG f xs k)[k]? = some x := by
  have hl := (List.getElem?_eq_some_iff.1 h).1
  unfold mixG
  rw [List.getElem?_append_right (by simp; omega), List.length_map, List.length_take_of_le (by omega), Nat.sub_self, List.getElem?_drop]
  exact h
theorem mixG_succ {α : Type} {f : α → α} {xs : List α} {k : Nat} {x : α} (h : xs[k]? = some x) : mixG f xs (k + 1) = (xs.take k).map f ++ f x :: xs.drop (k + 1) := by
  simp [mixG, take_at h]
theorem mixG_set {α : Type} {f : α → α} {xs : List α} {k : Nat} {x : α} (h : xs[k]? = some x) : (mixG f xs k).set k (f x) = mixG f xs (k + 1) := by
  have hl := (List.getElem?_eq_some_iff.1 h).1
  rw [mixG_succ h]
  unfold mixG
  rw [drop_at h, List.set_append_right _ _ (by simp; omega)]
  rw [List.length_map, List.length_take_of_le (by omega), Nat.sub_self]
  rfl
theorem mixG_same {α : Type} {f : α → α} {xs : List α} {k : Nat} {x : α} (h : xs[k]? = some x) (hf : f x = x) : mixG f xs (k + 1) = mixG f xs k := by
  rw [mixG_succ h, hf]
  unfold mixG
  rw [drop_at h]
theorem set_encS (l : List ByteArray) (j : Nat) (z : ByteArray) : (l.flatMap encS).set j (.string z) = (l.set j z).flatMap encS := by
  have e : ∀ l : List ByteArray, l.flatMap encS = l.map Value.string := fun l => by induction l with
    | nil => rfl
    | cons a r ih => rw [List.flatMap_cons, ih]; rfl
  rw [e, e, List.map_set]
theorem set_encWay (l : List Way) : ∀ (j : Nat) (y : Way), j < l.length → (((l.flatMap encWay).set (j * 3) (.string y.fr)).set (j * 3 + 1) (.string y.to)).set (j * 3 + 2) (.int .i64 y.metres) = (l.set j y).flatMap encWay := by
  induction l with
  | nil => intro j y h; simp at h
  | cons a r ih =>
    intro j y h
    cases j with
    | zero => rfl
    | succ j =>
      have := ih j y (by simpa using h)
      rw [List.flatMap_cons, List.set_cons_succ, List.flatMap_cons, ← this]
      have e0 : (encWay a).length = 3 := rfl
      rw [List.set_append_right _ _ (by omega), List.set_append_right _ _ (by omega), List.set_append_right _ _ (by omega), e0, show (j + 1) * 3 - 3 = j * 3 by omega, show (j + 1) * 3 + 1 - 3 = j * 3 + 1 by omega, show (j + 1) * 3 + 2 - 3 = j * 3 + 2 by omega]
theorem XAt.set1 {w : World} {gs lo : Nat} {s : SV} {x : Sch} (h : XAt w gs lo s x) {g k : Nat} {t : ByteArray} (hA : s.A1 = some ⟨g, 0, none⟩) : XAt (w.setCell ⟨g, k, none⟩ (.string t)) gs lo s ⟨x.st.set k t, x.rm, x.wy⟩ := by
  obtain ⟨k0, k1, k2, f0, f1, f2, ⟨st, rm, wy, a12, a13, a23⟩, o1, o2, o3⟩ := h
  have hob : (Value.slice s.A1 s.n1 s.c1).ownBlock = some g := by rw [hA]; rfl
  have hne : g ≠ gs := fun e => o1 (by rw [hob, e])
  have h2 := ow_set (p := ⟨g, k, none⟩) (u := .string t) (fun e => a12 g hob e) rm
  have h3 := ow_set (p := ⟨g, k, none⟩) (u := .string t) (fun e => a13 g hob e) wy
  refine ⟨(cell_far (by simpa using hne)).trans k0, (cell_far (by simpa using hne)).trans k1, (cell_far (by simpa using hne)).trans k2, by rw [World.frozen?_setCell]; exact f0, by rw [World.frozen?_setCell]; exact f1, by rw [World.frozen?_setCell]; exact f2, ⟨?_, h2, h3, a12, a13, a23⟩, o1, o2, o3⟩
  rw [hA] at st ⊢
  have := (st.stored k (.string t)).1
  rwa [set_encS] at this
theorem XAt.set2 {w : World} {gs lo : Nat} {s : SV} {x : Sch} (h : XAt w gs lo s x) {g k : Nat} {t : ByteArray} (hA : s.A2 = some ⟨g, 0, none⟩) : XAt (w.setCell ⟨g, k, none⟩ (.string t)) gs lo s ⟨x.st, x.rm.set k t, x.wy⟩ := by
  obtain ⟨k0, k1, k2, f0, f1, f2, ⟨st, rm, wy, a12, a13, a23⟩, o1, o2, o3⟩ := h
  have hob : (Value.slice s.A2 s.n2 s.c2).ownBlock = some g := by rw [hA]; rfl
  have hne : g ≠ gs := fun e => o2 (by rw [hob, e])
  have h2 := ow_set (p := ⟨g, k, none⟩) (u := .string t) (fun e => a12 g e hob) st
  have h3 := ow_set (p := ⟨g, k, none⟩) (u := .string t) (fun e => a23 g hob e) wy
  refine ⟨(cell_far (by simpa using hne)).trans k0, (cell_far (by simpa using hne)).trans k1, (cell_far (by simpa using hne)).trans k2, by rw [World.frozen?_setCell]; exact f0, by rw [World.frozen?_setCell]; exact f1, by rw [World.frozen?_setCell]; exact f2, ⟨h2, ?_, h3, a12, a13, a23⟩, o1, o2, o3⟩
  rw [hA] at rm ⊢
  have := (rm.stored k (.string t)).1
  rwa [set_encS] at this
theorem XAt.set3 {w : World} {gs lo : Nat} {s : SV} {x : Sch} (h : XAt w gs lo s x) {g k : Nat} {y : Way} (hA : s.A3 = some ⟨g, 0, none⟩) (hk : k < x.wy.length) :
    XAt (((w.setCell ⟨g, k * 3, none⟩ (.string y.fr)).setCell ⟨g, k * 3 + 1, none⟩ (.string y.to)).setCell ⟨g, k * 3 + 2, none⟩ (.int .i64 y.metres)) gs lo s ⟨x.st, x.rm, x.wy.set k y⟩ := by
  obtain ⟨k0, k1, k2, f0, f1, f2, ⟨st, rm, wy, a12, a13, a23⟩, o1, o2, o3⟩ := h
  have hob : (Value.slice s.A3 s.n3 s.c3).ownBlock = some g := by rw [hA]; rfl
  have hne : g ≠ gs := fun e => o3 (by rw [hob, e])
  have far : ∀ {u v z : Value} {p : Addr}, p.block ≠ g → (((w.setCell ⟨g, k * 3, none⟩ u).setCell ⟨g, k * 3 + 1, none⟩ v).setCell ⟨g, k * 3 + 2, none⟩ z).cell? p = w.cell? p := fun hp => (cell_far (fun e => hp e.symm)).trans ((cell_far (fun e => hp e.symm)).trans (cell_far (fun e => hp e.symm)))
  have ows : ∀ {T kk n : Nat} {v u1 u2 u3 : Value} {l : List Value}, v.ownBlock ≠ some g → w.ownsRow lo T kk v n l → (((w.setCell ⟨g, k * 3, none⟩ u1).setCell ⟨g, k * 3 + 1, none⟩ u2).setCell ⟨g, k * 3 + 2, none⟩ u3).ownsRow lo T kk v n l := fun hp hh => ow_set hp (ow_set hp (ow_set hp hh))
  refine ⟨(far (Ne.symm hne)).trans k0, (far (Ne.symm hne)).trans k1, (far (Ne.symm hne)).trans k2, by simp only [World.frozen?_setCell]; exact f0, by simp only [World.frozen?_setCell]; exact f1, by simp only [World.frozen?_setCell]; exact f2, ⟨ows (fun e => a13 g e hob) st, ows (fun e => a23 g e hob) rm, ?_, a12, a13, a23⟩, o1, o2, o3⟩
  rw [hA] at wy ⊢
  have := (((wy.stored (k * 3) (.string y.fr)).1.stored (k * 3 + 1) (.string y.to)).1.stored (k * 3 + 2) (.int .i64 y.metres)).1
  rwa [set_encWay _ _ _ hk] at this

theorem own_way {w : World} {lo T g n c : Nat} {l : List Way} (h : w.ownsRow lo T 3 (.slice (some ⟨g, 0, none⟩) n c) n (l.flatMap encWay)) {k : Nat} {f t : ByteArray} {m : Int} (hk : l[k]? = some ⟨f, t, m⟩) :
    (w.cell? ⟨g, k * 3, none⟩ = some (.string f) ∧ w.cell? ⟨g, k * 3 + 1, none⟩ = some (.string t) ∧ w.cell? ⟨g, k * 3 + 2, none⟩ = some (.int .i64 m)) ∧ w.frozen? ⟨g, k * 3, none⟩ = false ∧ w.frozen? ⟨g, k * 3 + 1, none⟩ = false ∧ w.frozen? ⟨g, k * 3 + 2, none⟩ = false := by
  have hl := h.1
  rw [flatMap_len encWay_len] at hl
  have hkl := (List.getElem?_eq_some_iff.1 hk).1
  refine ⟨⟨?_, ?_, ?_⟩, h.frozenAt _, h.frozenAt _, h.frozenAt _⟩
  · rw [h.cellAt _ (by omega)]; exact flatMap_get encWay_len (j := 0) (u := .string f) l k hk rfl
  · rw [h.cellAt _ (by omega)]; exact flatMap_get encWay_len (j := 1) (u := .string t) l k hk rfl
  · rw [h.cellAt _ (by omega)]; exact flatMap_get encWay_len (j := 2) (u := .int .i64 m) l k hk rfl
set_option maxHeartbeats 8000000 in
set_option maxRecDepth 100000 in
theorem specRenameStation_any (s : SV) (x : Sch) (z t : ByteArray) (w : World) (B : Nat) (hB : B ≤ w.heap.size) (hn : s.n1 ≤ 2000000 ∧ s.n2 ≤ 2000000 ∧ s.n3 ≤ 2000000) (hx : SlX w B s x) (hz : Hid (BigX x)) (_hz : z.size ≤ 9223372036854775807) (ht : t.size ≤ 9223372036854775807) :
    Calls Try.prog 6 #[s.v, .string z, .string t] w (XPost w (renF x z t)) := by
  obtain ⟨U1, n1, c1, U2, n2, c2, U3, n3, c3⟩ := s
  simp only [SV.v] at hn ⊢
  obtain ⟨hn1, hn2, hn3⟩ := hn
  obtain ⟨W0, hW0⟩ : ∃ W0, W0 = (w.alloc (.cells #[.slice U1 n1 c1, .slice U2 n2 c2, .slice U3 n3 c3] 29)).alloc (.cells #[.slice none 0 0, .slice none 0 0, .slice none 0 0] 29) := ⟨_, rfl⟩
  have b0 : Below w.heap.size w W0 := by rw [hW0]; exact ((Below.refl _ _).alloc (Nat.le_refl _) _).alloc (by simp) _
  have z0 : W0.heap.size = w.heap.size + 2 := by rw [hW0]; simp
  have k0 : W0.cell? ⟨w.heap.size, 0, none⟩ = some (.slice U1 n1 c1) := by rw [hW0]; go_simp
  have k1 : W0.cell? ⟨w.heap.size, 1, none⟩ = some (.slice U2 n2 c2) := by rw [hW0]; go_simp
  have k2 : W0.cell? ⟨w.heap.size, 2, none⟩ = some (.slice U3 n3 c3) := by rw [hW0]; go_simp
  have d0 : W0.cell? ⟨w.heap.size + 1, 0, none⟩ = some (.slice none 0 0) := by rw [hW0]; go_simp
  have d1 : W0.cell? ⟨w.heap.size + 1, 1, none⟩ = some (.slice none 0 0) := by rw [hW0]; go_simp
  have d2 : W0.cell? ⟨w.heap.size + 1, 2, none⟩ = some (.slice none 0 0) := by rw [hW0]; go_simp
  have f0 : W0.frozen? ⟨w.heap.size + 1, 0, none⟩ = false := by rw [hW0]; go_simp
  have f1 : W0.frozen? ⟨w.heap.size + 1, 1, none⟩ = false := by rw [hW0]; go_simp
  have f2 : W0.frozen? ⟨w.heap.size + 1, 2, none⟩ = false := by rw [hW0]; go_simp
  have hx0 := hx.below (b0.mono hB)
  have hc := l21Code_any w.heap.size ⟨U1, n1, c1, U2, n2, c2, U3, n3, c3⟩ x z W0 B (Nat.le_trans hB b0.size) ⟨hn1, hn2, hn3⟩ hx0 hz k0 k1 k2
  have L1 := hid hx0.st.len
  have L2 := hid hx0.rm.len
  have L3 := hid hx0.wy.len
  have HW := hid hW0
  clear hW0 hx hz
  have EF := hid (show renF x z t = if codeX x z = 0 then if nameB t then if hasS x.st t then (⟨[], [], []⟩, 4) else (⟨x.st.map (renS z t), x.rm.map (renS z t), x.wy.map (renW z t)⟩, 0) else (⟨[], [], []⟩, 2) else (⟨[], [], []⟩, codeX x z) from rfl)
  have cN := fun (W : World) => specIsName_any t W ht
  have cH := fun (W : World) (hb : Below W0.heap.size W0 W) => l21Has_any U1 n1 c1 x.st t W B hn1 (hx0.st.below (hb.mono (Nat.le_trans hB b0.size)))
  have cO := fun (W : World) (hb : Below W0.heap.size W0 W) q0 q1 q2 => l21Own_any w.heap.size U1 U2 U3 n1 c1 n2 c2 n3 c3 x W B (Nat.le_trans hB (Nat.le_trans b0.size hb.size)) hn1 hn2 hn3 (hx0.below (hb.mono (Nat.le_trans hB b0.size))) q0 q1 q2
  have hcz : ∀ h : codeX x z = 0, n1 ≤ 20 ∧ n3 ≤ 60 := fun h => by
    have hvx := (codeX_zero h).1
    have q1 := validX_stl hvx; have q3 := validX_wyl hvx
    have := L1.out; have := L3.out; simp only at *; omega
  clear hx0
  generalize codeX x z = q at hc EF hcz
  generalize nameB t = p1 at cN EF
  generalize hasS x.st t = p2 at cH EF
  by_cases hv : q = 0
  · subst hv
    obtain ⟨h20, h60⟩ := hcz rfl
    clear hcz
    cases p1 with
    | false =>
      clear cH cO
      go_enter Try.func6, Try.ntmps6
      go_wp2_with fail
      rw [← HW.out]
      refine hc.mono ?_
      rintro r w1 ⟨rfl, b1⟩
      clear hc
      have g0 := below_frz d0 f0 b1
      have g1 := below_frz d1 f1 b1
      have g2 := below_frz d2 f2 b1
      replace d0 := below_cell d0 b1
      replace d1 := below_cell d1 b1
      replace d2 := below_cell d2 b1
      clear f0 f1 f2
      go_wp2_with (go_at_call 36; (with_reducible refine (cN _).mono ?_); rintro r wn ⟨rfl, e⟩; replace e := e.symm; subst e)
      have p10 := set3_0 d0 (.slice none 0 0) (.slice none 0 0) (.slice none 0 0)
      have p11 := set3_1 d1 (.slice none 0 0) (.slice none 0 0) (.slice none 0 0)
      have p12 := set3_2 d2 (.slice none 0 0) (.slice none 0 0) (.slice none 0 0)
      rw [EF.out]
      refine bodyPost_ret (v := .tuple #[.agg #[.slice none 0 0, .slice none 0 0, .slice none 0 0], .int .i64 2]) (by simp [results, Try.results6, go_sem, p10, p11, p12]) rfl ⟨⟨none, 0, 0, none, 0, 0, none, 0, 0⟩, by simp [SV.v, *], ⟨by simpa [*] using World.ownsRow_nil _ _ _ _, by simpa [*] using World.ownsRow_nil _ _ _ _, by simpa [*] using World.ownsRow_nil _ _ _ _, fun b h => by simp [Value.ownBlock] at h, fun b h => by simp [Value.ownBlock] at h, fun b h => by simp [Value.ownBlock] at h⟩, bl_set3 (by omega) (b0.trans (b1.mono b0.size))⟩
    | true =>
      cases p2 with
      | true =>
        clear cO
        go_enter Try.func6, Try.ntmps6
        go_wp2_with fail
        rw [← HW.out]
        refine hc.mono ?_
        rintro r w1 ⟨rfl, b1⟩
        clear hc
        replace k0 := below_cell k0 b1
        have g0 := below_frz d0 f0 b1
        have g1 := below_frz d1 f1 b1
        have g2 := below_frz d2 f2 b1
        replace d0 := below_cell d0 b1
        replace d1 := below_cell d1 b1
        replace d2 := below_cell d2 b1
        clear f0 f1 f2
        go_wp2_with (first | (go_at_call 36; (with_reducible refine (cN _).mono ?_); rintro r wn ⟨rfl, e⟩; replace e := e.symm; subst e) | (go_at_call 37; (with_reducible refine (cH _ b1).mono ?_); rintro r wn ⟨rfl, e⟩; replace e := e.symm; subst e))
        have p10 := set3_0 d0 (.slice none 0 0) (.slice none 0 0) (.slice none 0 0)
        have p11 := set3_1 d1 (.slice none 0 0) (.slice none 0 0) (.slice none 0 0)
        have p12 := set3_2 d2 (.slice none 0 0) (.slice none 0 0) (.slice none 0 0)
        rw [EF.out]
        refine bodyPost_ret (v := .tuple #[.agg #[.slice none 0 0, .slice none 0 0, .slice none 0 0], .int .i64 4]) (by simp [results, Try.results6, go_sem, p10, p11, p12]) rfl ⟨⟨none, 0, 0, none, 0, 0, none, 0, 0⟩, by simp [SV.v, *], ⟨by simpa [*] using World.ownsRow_nil _ _ _ _, by simpa [*] using World.ownsRow_nil _ _ _ _, by simpa [*] using World.ownsRow_nil _ _ _ _, fun b h => by simp [Value.ownBlock] at h, fun b h => by simp [Value.ownBlock] at h, fun b h => by simp [Value.ownBlock] at h⟩, bl_set3 (by omega) (b0.trans (b1.mono b0.size))⟩
      | false =>
        go_enter Try.func6, Try.ntmps6
        go_wp2_with fail
        rw [← HW.out]
        refine hc.mono ?_
        rintro r w1 ⟨rfl, b1⟩
        clear hc
        replace k0 := below_cell k0 b1
        replace k1 := below_cell k1 b1
        replace k2 := below_cell k2 b1
        replace f0 := below_frz d0 f0 b1
        replace f1 := below_frz d1 f1 b1
        replace f2 := below_frz d2 f2 b1
        replace d0 := below_cell d0 b1
        replace d1 := below_cell d1 b1
        replace d2 := below_cell d2 b1
        go_wp2_with (first | (go_at_call 36; (with_reducible refine (cN _).mono ?_); rintro r wn ⟨rfl, e⟩; replace e := e.symm; subst e) | (go_at_call 37; (with_reducible refine (cH _ b1).mono ?_); rintro r wn ⟨rfl, e⟩; replace e := e.symm; subst e) | (go_at_call 38; refine Hid.out ?_))
        refine hid ?_
        refine (cO _ b1 k0 k1 k2).mono ?_
        rintro r w2 ⟨A1', q1, A2', q2, A3', q3, rfl, oX, b3⟩
        have z1 := b1.size
        have z2 := b3.size
        have b2 := b0.trans (b1.mono b0.size)
        clear cN cH cO k0 k1 k2 b1
        obtain ⟨W3, hW3⟩ : ∃ W3, W3 = w2.alloc (.cells #[.slice A1' n1 q1, .slice A2' n2 q2, .slice A3' n3 q3] 29) := ⟨_, rfl⟩
        have b4 : Below w2.heap.size w2 W3 := by rw [hW3]; exact (Below.refl _ _).alloc (Nat.le_refl _) _
        have bb : Below w1.heap.size w1 W3 := b3.trans (b4.mono b3.size)
        have z3 : W3.heap.size = w2.heap.size + 1 := by rw [hW3]; simp
        have oX2 := oX.below b4
        have lX := oX.inX
        have X0 : XAt W3 w2.heap.size w1.heap.size ⟨A1', n1, q1, A2', n2, q2, A3', n3, q3⟩ x := by
          refine ⟨?_, ?_, ?_, ?_, ?_, ?_, oX2, fun e => absurd (lX _ (.inl e)).2 (Nat.lt_irrefl _), fun e => absurd (lX _ (.inr (.inl e))).2 (Nat.lt_irrefl _), fun e => absurd (lX _ (.inr (.inr e))).2 (Nat.lt_irrefl _)⟩
          all_goals rw [hW3]
          all_goals go_simp
        have XH := hid X0
        have HW3 := hid hW3
        clear hW3 oX oX2 lX X0
        have HD := hid (And.intro d0 (And.intro d1 d2))
        have HG := hid (And.intro f0 (And.intro f1 f2))
        have le0 : w.heap.size + 1 < w1.heap.size := World.block_lt_of_cell? _ _ d0
        clear d0 d1 d2 f0 f1 f2
        go_wp2_with fail
        rw [← HW3.out]
        go_loopw [10] (fun i wl => ∃ k : Nat, k ≤ n1 ∧ i = .int .i64 k ∧ Hid (XAt wl w2.heap.size w1.heap.size ⟨A1', n1, q1, A2', n2, q2, A3', n3, q3⟩ ⟨mixG (renS z t) x.st k, x.rm, x.wy⟩) ∧ Below w1.heap.size w1 wl) (fun i _ => n1 - (intOf i).toNat)
        case atStart => exact ⟨0, Nat.zero_le _, rfl, by rw [Hid, mixG_zero]; exact XH.out, bb⟩
        case round =>
          obtain ⟨k, hk, rfl, hX, hb⟩ := hrel
          clear bb
          by_cases hlt : k < n1
          · have hXo := hX.out
            have hr := hXo.own.st
            simp only at hr
            obtain ⟨g, rfl, hgl, hgs⟩ := own_some hr (by omega)
            have hy : x.st[k]? = some (x.st[k]'(by rw [L1.out]; exact hlt)) := List.getElem?_eq_getElem _
            generalize x.st[k]'(by rw [L1.out]; exact hlt) = y at hy
            obtain ⟨e0, fz⟩ := own_str hr (mixG_at hy)
            have c0 := hXo.k0
            simp only at c0
            have SET := hid (hXo.set1 (k := k) (t := t) rfl)
            have Hy := hid hy
            have i0 : (0 : Int) ≤ (k : Int) := by omega
            have i1 : (k : Int) < (n1 : Int) := by omega
            have hb6 : Below w1.heap.size w1 (wr.setCell ⟨g, k, none⟩ (.string t)) := bl_set (by simpa using hgl) hb
            have HXo := hid hXo
            clear hX hXo hr hy XH
            by_cases q : y = z
            · have HX2 : Hid (XAt (wr.setCell ⟨g, k, none⟩ (.string t)) w2.heap.size w1.heap.size ⟨some ⟨g, 0, none⟩, n1, q1, A2', n2, q2, A3', n3, q3⟩ ⟨mixG (renS z t) x.st (k + 1), x.rm, x.wy⟩) := by
                rw [Hid, ← mixG_set Hy.out]
                have e : renS z t y = t := by simp [renS, q]
                rw [e]; exact SET.out
              have q5 := bs_in q
              clear SET q
              go_wp2_with fail
              go_roundw
              all_goals first | exact ⟨k + 1, by omega, by go_num, HX2, hb6⟩ | exact ⟨⟨k + 1, by omega, by go_num, HX2, hb6⟩, by simp [intOf]; omega⟩ | (simp [intOf]; omega)
            · have HX2 : Hid (XAt wr w2.heap.size w1.heap.size ⟨some ⟨g, 0, none⟩, n1, q1, A2', n2, q2, A3', n3, q3⟩ ⟨mixG (renS z t) x.st (k + 1), x.rm, x.wy⟩) := by
                rw [Hid, mixG_same Hy.out (by simp [renS, q])]; exact HXo.out
              have q5 := bs_ne q
              clear SET q HXo hb6
              go_wp2_with fail
              go_roundw
              all_goals first | exact ⟨k + 1, by omega, by go_num, HX2, hb⟩ | exact ⟨⟨k + 1, by omega, by go_num, HX2, hb⟩, by simp [intOf]; omega⟩ | (simp [intOf]; omega)
          · have X1 : Hid (XAt wr w2.heap.size w1.heap.size ⟨A1', n1, q1, A2', n2, q2, A3', n3, q3⟩ ⟨x.st.map (renS z t), x.rm, x.wy⟩) := by
              have := hX.out
              rwa [mixG_all (by rw [L1.out]; omega)] at this
            have c0 := X1.out.k0
            simp only at c0
            clear hX XH
            have hkn : ¬ (k : Int) < (n1 : Int) := by omega
            go_wp2_with fail
            obtain ⟨wq, hwq⟩ : ∃ wq : World, wq = wr := ⟨_, rfl⟩
            subst hwq
            clear c0
            go_loopw [11] (fun i wl => ∃ k : Nat, k ≤ n2 ∧ i = .int .i64 k ∧ Hid (XAt wl w2.heap.size w1.heap.size ⟨A1', n1, q1, A2', n2, q2, A3', n3, q3⟩ ⟨x.st.map (renS z t), mixG (renS z t) x.rm k, x.wy⟩) ∧ Below w1.heap.size w1 wl) (fun i _ => n2 - (intOf i).toNat)
            case atStart => exact ⟨0, Nat.zero_le _, rfl, by rw [Hid, mixG_zero]; exact X1.out, hb⟩
            case round =>
              clear hb hkn
              obtain ⟨k, hk, rfl, hX, hb⟩ := hrel
              by_cases hlt : k < n2
              · have hXo := hX.out
                have hr := hXo.own.rm
                simp only at hr
                obtain ⟨g, rfl, hgl, hgs⟩ := own_some hr (by omega)
                have hy : x.rm[k]? = some (x.rm[k]'(by rw [L2.out]; exact hlt)) := List.getElem?_eq_getElem _
                generalize x.rm[k]'(by rw [L2.out]; exact hlt) = y at hy
                obtain ⟨e0, fz⟩ := own_str hr (mixG_at hy)
                have c1 := hXo.k1
                simp only at c1
                have SET := hid (hXo.set2 (k := k) (t := t) rfl)
                have Hy := hid hy
                have i0 : (0 : Int) ≤ (k : Int) := by omega
                have i1 : (k : Int) < (n2 : Int) := by omega
                have hb6 : Below w1.heap.size w1 (wr.setCell ⟨g, k, none⟩ (.string t)) := bl_set (by simpa using hgl) hb
                have HXo := hid hXo
                clear hX hXo hr hy X1
                by_cases q : y = z
                · have HX2 : Hid (XAt (wr.setCell ⟨g, k, none⟩ (.string t)) w2.heap.size w1.heap.size ⟨A1', n1, q1, some ⟨g, 0, none⟩, n2, q2, A3', n3, q3⟩ ⟨x.st.map (renS z t), mixG (renS z t) x.rm (k + 1), x.wy⟩) := by
                    rw [Hid, ← mixG_set Hy.out]
                    have e : renS z t y = t := by simp [renS, q]
                    rw [e]; exact SET.out
                  have q5 := bs_in q
                  clear SET q
                  go_wp2_with fail
                  go_roundw
                  all_goals first | exact ⟨k + 1, by omega, by go_num, HX2, hb6⟩ | exact ⟨⟨k + 1, by omega, by go_num, HX2, hb6⟩, by simp [intOf]; omega⟩ | (simp [intOf]; omega)
                · have HX2 : Hid (XAt wr w2.heap.size w1.heap.size ⟨A1', n1, q1, some ⟨g, 0, none⟩, n2, q2, A3', n3, q3⟩ ⟨x.st.map (renS z t), mixG (renS z t) x.rm (k + 1), x.wy⟩) := by
                    rw [Hid, mixG_same Hy.out (by simp [renS, q])]; exact HXo.out
                  have q5 := bs_ne q
                  clear SET q HXo hb6
                  go_wp2_with fail
                  go_roundw
                  all_goals first | exact ⟨k + 1, by omega, by go_num, HX2, hb⟩ | exact ⟨⟨k + 1, by omega, by go_num, HX2, hb⟩, by simp [intOf]; omega⟩ | (simp [intOf]; omega)
              · have X2 : Hid (XAt wr w2.heap.size w1.heap.size ⟨A1', n1, q1, A2', n2, q2, A3', n3, q3⟩ ⟨x.st.map (renS z t), x.rm.map (renS z t), x.wy⟩) := by
                  have := hX.out
                  rwa [mixG_all (by rw [L2.out]; omega)] at this
                have c1 := X2.out.k1
                simp only at c1
                clear hX X1
                have hkn : ¬ (k : Int) < (n2 : Int) := by omega
                go_wp2_with fail
                obtain ⟨wq, hwq⟩ : ∃ wq : World, wq = wr := ⟨_, rfl⟩
                subst hwq
                clear c1
                go_loopw [12] (fun i wl => ∃ k : Nat, k ≤ n3 ∧ i = .int .i64 k ∧ Hid (XAt wl w2.heap.size w1.heap.size ⟨A1', n1, q1, A2', n2, q2, A3', n3, q3⟩ ⟨x.st.map (renS z t), x.rm.map (renS z t), mixG (renW z t) x.wy k⟩) ∧ Below w1.heap.size w1 wl) (fun i _ => n3 - (intOf i).toNat)
                case atStart => exact ⟨0, Nat.zero_le _, rfl, by rw [Hid, mixG_zero]; exact X2.out, hb⟩
                case round =>
                  clear hb hkn
                  obtain ⟨k, hk, rfl, hX, hb⟩ := hrel
                  by_cases hlt : k < n3
                  · have hXo := hX.out
                    have hr := hXo.own.wy
                    simp only at hr
                    obtain ⟨g, rfl, hgl, hgs⟩ := own_some hr (by omega)
                    have hy : x.wy[k]? = some (x.wy[k]'(by rw [L3.out]; exact hlt)) := List.getElem?_eq_getElem _
                    generalize x.wy[k]'(by rw [L3.out]; exact hlt) = y at hy
                    obtain ⟨f, h, m⟩ := y
                    obtain ⟨⟨e0, e1, e2⟩, fz0, fz1, fz2⟩ := own_way hr (mixG_at hy)
                    have c2 := hXo.k2
                    have hsz := hXo.lt
                    simp only at c2
                    have hkl : k < (mixG (renW z t) x.wy k).length := by rw [mixG_len, L3.out]; exact hlt
                    have SET := hid (fun (u v : ByteArray) (o : Obj) => (hXo.set3 (k := k) (y := ⟨u, v, m⟩) rfl hkl).below ((Below.refl _ _).alloc (Nat.le_refl _) o))
                    have SEB := hid (fun (u v q : Value) (o : Obj) => (bl_set (p := ⟨g, k * 3 + 2, none⟩) (u := q) (by simpa using hgl) (bl_set (p := ⟨g, k * 3 + 1, none⟩) (u := v) (by simpa using hgl) (bl_set (p := ⟨g, k * 3, none⟩) (u := u) (by simpa using hgl) hb))).alloc (by simpa using hb.size) o)
                    have Hy := hid hy
                    have i0 : (0 : Int) ≤ (k : Int) := by omega
                    have i1 : (k : Int) < (n3 : Int) := by omega
                    have lw := World.block_lt_of_cell? _ _ e0
                    simp only at lw
                    have za := hb.size
                    have MS := mixG_set (f := renW z t) hy
                    have RW : renW z t ⟨f, h, m⟩ = ⟨if decide (f = z) then t else f, if decide (h = z) then t else h, m⟩ := by by_cases q5 : f = z <;> by_cases q6 : h = z <;> simp [renW, renS, q5, q6]
                    rw [RW] at MS
                    have HMS := hid MS
                    have p5 := bs_eq (x := f) (y := z)
                    have p6 := bs_eq (x := h) (y := z)
                    clear hX hXo hr hy X2 MS RW hkl
                    generalize decide (f = z) = pf at p5 HMS
                    generalize decide (h = z) = ph at p6 HMS
                    cases pf <;> cases ph
                    all_goals
                      simp only [if_true, if_false, Bool.false_eq_true] at HMS
                      go_wp2_with fail
                      go_roundw
                      case rel => exact ⟨k + 1, by omega, by go_num, by rw [Hid, ← HMS.out]; exact SET.out _ _ _, SEB.out _ _ _ _⟩
                      case measure => simp [intOf]; omega
                  · have X3 : Hid (XAt wr w2.heap.size w1.heap.size ⟨A1', n1, q1, A2', n2, q2, A3', n3, q3⟩ ⟨x.st.map (renS z t), x.rm.map (renS z t), x.wy.map (renW z t)⟩) := by
                      have := hX.out
                      rwa [mixG_all (by rw [L3.out]; omega)] at this
                    have hkn : ¬ (k : Int) < (n3 : Int) := by omega
                    have g0 := X3.out.k0
                    have g1 := X3.out.k1
                    have g2 := X3.out.k2
                    simp only at g0 g1 g2
                    have hbw := b2.trans (hb.mono b2.size)
                    obtain ⟨d0, d1, d2⟩ := HD.out
                    obtain ⟨f0, f1, f2⟩ := HG.out
                    have p10 := below_cell d0 hb
                    have r0 : wr.frozen? ⟨w.heap.size + 1, 0, none⟩ = false := below_frz d0 f0 hb
                    have p11 := below_cell d1 hb
                    have r1 : wr.frozen? ⟨w.heap.size + 1, 1, none⟩ = false := below_frz d1 f1 hb
                    have p12 := below_cell d2 hb
                    have r2 : wr.frozen? ⟨w.heap.size + 1, 2, none⟩ = false := below_frz d2 f2 hb
                    clear hX X2 d0 d1 d2 f0 f1 f2
                    go_wp2_with fail
                    have t0 := set3_0 p10 (.slice A1' n1 q1) (.slice A2' n2 q2) (.slice A3' n3 q3)
                    have t1 := set3_1 p11 (.slice A1' n1 q1) (.slice A2' n2 q2) (.slice A3' n3 q3)
                    have t2 := set3_2 p12 (.slice A1' n1 q1) (.slice A2' n2 q2) (.slice A3' n3 q3)
                    rw [EF.out]
                    have hO := X3.out.own
                    refine bodyPost_ret (v := .tuple #[.agg #[.slice A1' n1 q1, .slice A2' n2 q2, .slice A3' n3 q3], .int .i64 0]) (by simp [results, Try.results6, go_sem, t0, t1, t2]) rfl ⟨⟨A1', n1, q1, A2', n2, q2, A3', n3, q3⟩, rfl, ⟨?_, ?_, ?_, hO.ap12, hO.ap13, hO.ap23⟩, bl_set3 (by omega) hbw⟩
                    · exact ow_set3 (fun e => by have := (hO.st.lt _ e).1; omega) (hO.st.mono (by omega))
                    · exact ow_set3 (fun e => by have := (hO.rm.lt _ e).1; omega) (hO.rm.mono (by omega))
                    · exact ow_set3 (fun e => by have := (hO.wy.lt _ e).1; omega) (hO.wy.mono (by omega))
  · have q1 : (q == 0) = false := by simpa using hv
    have q2 : (q != 0) = true := by simpa using hv
    rw [if_neg hv] at EF
    clear hcz cN cH cO L1 L2 L3 k0 k1 k2
    go_enter Try.func6, Try.ntmps6
    go_wp2_with fail
    rw [← HW.out]
    refine hc.mono ?_
    rintro r w1 ⟨rfl, b1⟩
    clear hc
    have g0 := below_frz d0 f0 b1
    have g1 := below_frz d1 f1 b1
    have g2 := below_frz d2 f2 b1
    replace d0 := below_cell d0 b1
    replace d1 := below_cell d1 b1
    replace d2 := below_cell d2 b1
    clear f0 f1 f2
    go_wp2_with fail
    have p10 := set3_0 d0 (.slice none 0 0) (.slice none 0 0) (.slice none 0 0)
    have p11 := set3_1 d1 (.slice none 0 0) (.slice none 0 0) (.slice none 0 0)
    have p12 := set3_2 d2 (.slice none 0 0) (.slice none 0 0) (.slice none 0 0)
    rw [EF.out]
    refine bodyPost_ret (v := .tuple #[.agg #[.slice none 0 0, .slice none 0 0, .slice none 0 0], .int .i64 q]) (by simp [results, Try.results6, go_sem, p10, p11, p12]) rfl ⟨⟨none, 0, 0, none, 0, 0, none, 0, 0⟩, by simp [SV.v, *], ⟨by simpa [*] using World.ownsRow_nil _ _ _ _, by simpa [*] using World.ownsRow_nil _ _ _ _, by simpa [*] using World.ownsRow_nil _ _ _ _, fun b h => by simp [Value.ownBlock] at h, fun b h => by simp [Value.ownBlock] at h, fun b h => by simp [Value.ownBlock] at h⟩, bl_set3 (by omega) (b0.trans (b1.mono b0.size))⟩
end Go.Proofs.Ytmanbpobdaamfaa
