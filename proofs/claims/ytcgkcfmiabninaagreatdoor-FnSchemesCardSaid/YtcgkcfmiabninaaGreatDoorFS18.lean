/-
  FS: texts LawSFnSchemes, RDoor, one behind the other. No condition but what each says.
-/
import Derived.Test.YtcgkcfmiabninaaGreatDoorFS17
import Derived.ProofKit
import Derived.LaidMore
import Derived.Stop.Joined
import Derived.Lib.LaidTab
import Derived.Stop.LaidErr
import Derived.Lay
import Derived.HandedShaped
import Derived.SevenTiedAt
/-
  The statement on schemes, walked. No condition but what lies laid.
-/
namespace Go.Proofs.YtcgkcfmiabninaaGreatDoor
open Go.RowKit
set_option maxHeartbeats 400000

theorem SlF.lift {w w' : World} {A : Option Addr} {n : Nat} {xs : List Fault} (h : Sl w w.heap.size 2 encFault A n xs) (hb : Below w.heap.size w w') : Sl w' w'.heap.size 2 encFault A n xs := (h.below hb).more hb.size
theorem SlX.lift {w w' : World} {s : SV} {x : Sch} (h : SlX w w.heap.size s x) (hb : Below w.heap.size w w') : SlX w' w'.heap.size s x := (h.below hb).more hb.size
/-- cells of a block -/
structure At3 (w : World) (g : Nat) (u v z : Value) : Prop where
  c0 : w.cell? ⟨g, 0, none⟩ = some u
  c1 : w.cell? ⟨g, 1, none⟩ = some v
  c2 : w.cell? ⟨g, 2, none⟩ = some z
theorem At3.lift {w w' : World} {g : Nat} {u v z : Value} (h : At3 w g u v z) (hb : Below w.heap.size w w') : At3 w' g u v z := ⟨below_cell h.c0 hb, below_cell h.c1 hb, below_cell h.c2 hb⟩
theorem At3.lt {w : World} {g : Nat} {u v z : Value} (h : At3 w g u v z) : g < w.heap.size := World.block_lt_of_cell? _ _ h.c0
structure At2 (w : World) (g : Nat) (u v : Value) : Prop where
  c0 : w.cell? ⟨g, 0, none⟩ = some u
  c1 : w.cell? ⟨g, 1, none⟩ = some v
theorem At2.lift {w w' : World} {g : Nat} {u v : Value} (h : At2 w g u v) (hb : Below w.heap.size w w') : At2 w' g u v := ⟨below_cell h.c0 hb, below_cell h.c1 hb⟩
theorem At2.lt {w : World} {g : Nat} {u v : Value} (h : At2 w g u v) : g < w.heap.size := World.block_lt_of_cell? _ _ h.c0
theorem read_parts {P : Program} {f : Nat} {args : Array Value} {W : World} {t : ByteArray} (h : Calls P f args W (SchP W (readX t))) : Calls P f args W (fun r w2 => ∃ A1 n1 c1 A2 n2 c2 A3 n3 c3 B d, r = .returned (.tuple #[.agg #[.slice A1 n1 c1, .slice A2 n2 c2, .slice A3 n3 c3], .slice B (fL (readX t).2.1).length d, .int .i64 (readX t).2.2]) ∧ SlX w2 w2.heap.size ⟨A1, n1, c1, A2, n2, c2, A3, n3, c3⟩ (readX t).1 ∧ Sl w2 w2.heap.size 2 encFault B (fL (readX t).2.1).length (fL (readX t).2.1) ∧ Below W.heap.size W w2) := h.mono fun r w2 ⟨s, B, m, d, h1, h2, h3, _, h5⟩ => by
  obtain ⟨A1, n1, c1, A2, n2, c2, A3, n3, c3⟩ := s
  obtain rfl := own_len encFault_len (by omega) h3
  exact ⟨A1, n1, c1, A2, n2, c2, A3, n3, c3, B, d, h1, h2.sl, own_sl encFault_len (by omega) h3, h5⟩
theorem SlX.num {w : World} {B m : Nat} {s : SV} {x : Sch} (hx : SlX w B s x) (h : x.st.length ≤ m ∧ x.rm.length ≤ m ∧ x.wy.length ≤ m) (hm : m ≤ 2000000) : s.n1 ≤ 2000000 ∧ s.n2 ≤ 2000000 ∧ s.n3 ≤ 2000000 := by
  have h1 := hx.st.len
  have h2 := hx.rm.len
  have h3 := hx.wy.len
  omega
theorem FewX.big {m : Nat} {x : Sch} (h : FewX m x) : BigX x := ⟨fun z hz => by have := h.2.2.2.1 z hz; omega, fun z hz => by have := h.2.2.2.2.1 z hz; omega, fun y hy => by have := h.2.2.2.2.2 y hy; omega⟩
theorem validX_big {x : Sch} (h : validX x = true) : BigX x := by
  obtain ⟨h1, h2, h3⟩ := validX_short h
  exact ⟨fun z hz => by have := h1 z hz; omega, fun z hz => by have := h2 z hz; omega, fun y hy => by have := h3 y hy; omega⟩
theorem sameX_self (x : Sch) : sameX x x = true := by simp [sameX]
theorem schemeF_size {x : Sch} (h : FewX 62 x) : (schemeF x).size ≤ 1048576 := by
  unfold schemeF
  split
  · rename_i hv
    have := schT_size (n := 62) (validX_short hv) h.1 h.2.1 h.2.2.1
    omega
  · exact Nat.zero_le _
theorem readX_code (t : ByteArray) : (readX t).2.2 = 0 ∨ (readX t).2.2 = 2 := by
  unfold readX
  split
  · exact .inr rfl
  · exact .inl rfl
/-- what a fault in the list fulfils -/
theorem fault_at (t : ByteArray) {k : Nat} {f : Fault} (h : (fL (readX t).2.1)[k]? = some f) : 1 ≤ f.row ∧ f.row ≤ 3001 ∧ 1 ≤ f.kind ∧ f.kind ≤ 8 := by
  obtain ⟨_, h2, _⟩ := readX_faults t
  have := List.mem_of_getElem? h
  obtain ⟨p, hp, rfl⟩ := List.mem_map.1 this
  have := h2 p hp
  simp only
  omega
theorem fault_rise (t : ByteArray) {k : Nat} {f g : Fault} (h : (fL (readX t).2.1)[k]? = some f) (h2 : (fL (readX t).2.1)[k + 1]? = some g) : f.row < g.row := by
  obtain ⟨_, _, h3⟩ := readX_faults t
  rw [fL, List.getElem?_map] at h h2
  cases e : (readX t).2.1[k]? with
  | none => rw [e] at h; cases h
  | some p =>
    cases e2 : (readX t).2.1[k + 1]? with
    | none => rw [e2] at h2; cases h2
    | some q =>
      rw [e] at h; rw [e2] at h2
      simp only [Option.map_some, Option.some.injEq] at h h2
      subst h h2
      have hl := (List.getElem?_eq_some_iff.1 e2).1
      have := List.pairwise_iff_getElem.1 h3 k (k + 1) (by omega) hl (by omega)
      rw [List.getElem?_eq_getElem (by omega)] at e
      rw [List.getElem?_eq_getElem hl] at e2
      simp only [Option.some.injEq] at e e2
      rw [e, e2] at this
      exact this
theorem faultF_full {l c : Int} (h : 1 ≤ l ∧ l ≤ 3001 ∧ 1 ≤ c ∧ c ≤ 8) : ¬ (faultF l c).toList = [] := by
  have h1 : (inR l 1 3001 && inR c 1 8) = true := by rw [Bool.and_eq_true, inR_iff', inR_iff']; omega
  rw [faultF, if_pos h1, ByteArray.toList_eq]
  intro e
  have := congrArg List.length e
  simp at this
set_option maxHeartbeats 32000000 in
set_option maxRecDepth 100000 in
theorem FnSchemes_walk (v : Value) (w : World) (hv : Bytes w w.heap.size 9223372036854775807 v) (L : LibW w) :
    Calls Tryz.prog 4 #[v] w fun r w' => r = .returned (.bool true) ∧ Below w.heap.size w w' := by
  obtain ⟨A0, n0, c0, bs, rfl, hn, hbx, hbz⟩ := hv
  have hbig := fun W => f6big_any A0 n0 c0 W hn
  by_cases h4 : 4096 < n0
  · have e : decide (4096 < n0) = true := by simpa using h4
    rw [e] at hbig
    clear hbx hbz h4 e
    go_enter Tryz.func4, Tryz.ntmps4
    go_wp2_with fail
    refine (hbig _).mono ?_
    rintro r w1 ⟨rfl, e⟩
    replace e := e.symm
    subst e
    go_wp2_with fail
    go_ret
    exact ⟨rfl, Below.refl _ _⟩
  · have e : decide (4096 < n0) = false := by simpa using h4
    rw [e] at hbig
    have hv : Bytes w w.heap.size 5000 (.slice A0 n0 c0) := ⟨A0, n0, c0, bs, rfl, by omega, hbx, hbz⟩
    have HV := hid hv
    have LW := hid L
    clear hbx hbz h4 e hv L
    go_enter Tryz.func4, Tryz.ntmps4
    go_wp2_with fail
    refine (hbig _).mono ?_
    rintro r w1 ⟨rfl, e⟩
    replace e := e.symm
    subst e
    clear hbig
    have E := Below.refl w.heap.size w
    go_wp2_with fail
    have cc := DrawReadScheme_any (.slice A0 n0 c0) w ((HV.out.below E).more E.size)
    (try simp only [SV.v] at cc)
    refine cc.mono ?_
    rintro r wv1 ⟨T, rfl, hT, b⟩
    clear cc
    replace LW := hid (LW.out.below b)
    replace E := E.trans (b.mono E.size)
    clear b
    have hTz : T.size ≤ 1048576 := by omega
    have HTz := hid hTz
    clear hT hTz
    go_wp2_with fail
    have cc := read_parts (implReadScheme_any T wv1 HTz.out LW.out)
    (try simp only [SV.v] at cc)
    refine cc.mono ?_
    rintro r wv2 ⟨A1i, n1i, c1i, A2i, n2i, c2i, A3i, n3i, c3i, Bi, di, rfl, x9, f9, b⟩
    clear cc
    replace LW := hid (LW.out.below b)
    replace E := E.trans (b.mono E.size)
    have Xi := hid x9
    have Fi := hid f9
    clear x9 f9
    clear b
    have hRl := readX_len T HTz.out
    have HRL := hid hRl
    clear hRl
    obtain ⟨bki, egi⟩ : ∃ g, g = wv2.heap.size := ⟨_, rfl⟩
    obtain ⟨wv3, hwv3⟩ : ∃ W, W = (wv2.alloc (.cells #[.slice A1i n1i c1i, .slice A2i n2i c2i, .slice A3i n3i c3i] 25)) := ⟨_, rfl⟩
    have b : Below wv2.heap.size wv2 wv3 := by rw [hwv3]; exact (Below.refl _ _).alloc (by first | exact Nat.le_refl _ | (simp; done) | (simp; omega)) _
    have ai : At3 wv3 bki (.slice A1i n1i c1i) (.slice A2i n2i c2i) (.slice A3i n3i c3i) := by rw [hwv3, egi]; exact ⟨by go_simp, by go_simp, by go_simp⟩
    replace LW := hid (LW.out.below b)
    replace Xi := hid (SlX.lift Xi.out b)
    replace Fi := hid (SlF.lift Fi.out b)
    replace E := E.trans (b.mono E.size)
    have HW := hid hwv3
    clear b hwv3
    have HXi := hid egi
    have Gi := hid ai
    clear egi ai
    go_wp2_with fail
    rw [← HW.out, ← HXi.out]
    clear HW HXi
    have cc := read_parts (specReadScheme_any T wv3 HTz.out)
    (try simp only [SV.v] at cc)
    refine cc.mono ?_
    rintro r wv4 ⟨A1y, n1y, c1y, A2y, n2y, c2y, A3y, n3y, c3y, By, dy, rfl, x9, f9, b⟩
    clear cc
    replace LW := hid (LW.out.below b)
    replace Xi := hid (SlX.lift Xi.out b)
    replace Fi := hid (SlF.lift Fi.out b)
    replace Gi := hid (Gi.out.lift b)
    replace E := E.trans (b.mono E.size)
    have Xy := hid x9
    have Fy := hid f9
    clear x9 f9
    clear b
    obtain ⟨bky, egy⟩ : ∃ g, g = wv4.heap.size := ⟨_, rfl⟩
    obtain ⟨wv5, hwv5⟩ : ∃ W, W = (wv4.alloc (.cells #[.slice A1y n1y c1y, .slice A2y n2y c2y, .slice A3y n3y c3y] 25)) := ⟨_, rfl⟩
    have b : Below wv4.heap.size wv4 wv5 := by rw [hwv5]; exact (Below.refl _ _).alloc (by first | exact Nat.le_refl _ | (simp; done) | (simp; omega)) _
    have ay : At3 wv5 bky (.slice A1y n1y c1y) (.slice A2y n2y c2y) (.slice A3y n3y c3y) := by rw [hwv5, egy]; exact ⟨by go_simp, by go_simp, by go_simp⟩
    replace LW := hid (LW.out.below b)
    replace Xi := hid (SlX.lift Xi.out b)
    replace Fi := hid (SlF.lift Fi.out b)
    replace Gi := hid (Gi.out.lift b)
    replace Xy := hid (SlX.lift Xy.out b)
    replace Fy := hid (SlF.lift Fy.out b)
    replace E := E.trans (b.mono E.size)
    have HW := hid hwv5
    clear b hwv5
    have HXy := hid egy
    have Gy := hid ay
    clear egy ay
    go_wp2_with fail
    rw [← HW.out, ← HXy.out]
    clear HW HXy
    have cc := DrawSchemeText_any (.slice A0 n0 c0) wv5 ((HV.out.below E).more E.size)
    (try simp only [SV.v] at cc)
    refine cc.mono ?_
    rintro r wv6 ⟨A1a, n1a, c1a, A2a, n2a, c2a, A3a, n3a, c3a, a, rfl, oa, fa, b⟩
    clear cc
    replace LW := hid (LW.out.below b)
    replace Xi := hid (SlX.lift Xi.out b)
    replace Fi := hid (SlF.lift Fi.out b)
    replace Gi := hid (Gi.out.lift b)
    replace Xy := hid (SlX.lift Xy.out b)
    replace Fy := hid (SlF.lift Fy.out b)
    replace Gy := hid (Gy.out.lift b)
    replace E := E.trans (b.mono E.size)
    have Xa := hid oa.sl
    have FA := hid fa
    clear oa fa
    clear b
    obtain ⟨bka, ega⟩ : ∃ g, g = wv6.heap.size := ⟨_, rfl⟩
    obtain ⟨wv7, hwv7⟩ : ∃ W, W = (wv6.alloc (.cells #[.slice A1a n1a c1a, .slice A2a n2a c2a, .slice A3a n3a c3a] 25)) := ⟨_, rfl⟩
    have b : Below wv6.heap.size wv6 wv7 := by rw [hwv7]; exact (Below.refl _ _).alloc (by first | exact Nat.le_refl _ | (simp; done) | (simp; omega)) _
    have aa : At3 wv7 bka (.slice A1a n1a c1a) (.slice A2a n2a c2a) (.slice A3a n3a c3a) := by rw [hwv7, ega]; exact ⟨by go_simp, by go_simp, by go_simp⟩
    replace LW := hid (LW.out.below b)
    replace Xi := hid (SlX.lift Xi.out b)
    replace Fi := hid (SlF.lift Fi.out b)
    replace Gi := hid (Gi.out.lift b)
    replace Xy := hid (SlX.lift Xy.out b)
    replace Fy := hid (SlF.lift Fy.out b)
    replace Gy := hid (Gy.out.lift b)
    replace Xa := hid (SlX.lift Xa.out b)
    replace E := E.trans (b.mono E.size)
    have HW := hid hwv7
    clear b hwv7
    have HXa := hid ega
    have Ga := hid aa
    clear ega aa
    obtain ⟨F, hF⟩ : ∃ F, F = schemeF a := ⟨_, rfl⟩
    have hFz : F.size ≤ 1048576 := by rw [hF]; exact schemeF_size FA.out
    have HFz := hid hFz
    have HF := hid hF
    clear hF hFz
    go_wp2_with fail
    rw [← HW.out, ← HXa.out]
    clear HW HXa
    have cc := implSchemeText_any ⟨A1a, n1a, c1a, A2a, n2a, c2a, A3a, n3a, c3a⟩ a wv7 wv7.heap.size (Nat.le_refl _) (Xa.out.num ⟨FA.out.1, FA.out.2.1, FA.out.2.2.1⟩ (by omega)) Xa.out (hid FA.out.big) LW.out.tab
    (try simp only [SV.v] at cc)
    refine cc.mono ?_
    rintro r wv8 ⟨rfl, b⟩
    clear cc
    replace LW := hid (LW.out.below b)
    replace Xi := hid (SlX.lift Xi.out b)
    replace Fi := hid (SlF.lift Fi.out b)
    replace Gi := hid (Gi.out.lift b)
    replace Xy := hid (SlX.lift Xy.out b)
    replace Fy := hid (SlF.lift Fy.out b)
    replace Gy := hid (Gy.out.lift b)
    replace Xa := hid (SlX.lift Xa.out b)
    replace Ga := hid (Ga.out.lift b)
    replace E := E.trans (b.mono E.size)
    rw [← HF.out]
    clear b
    go_wp2_with fail
    have cc := DrawSameScheme_any (.slice A0 n0 c0) wv8 ((HV.out.below E).more E.size)
    (try simp only [SV.v] at cc)
    refine cc.mono ?_
    rintro r wv9 ⟨A1b, n1b, c1b, A2b, n2b, c2b, A3b, n3b, c3b, bx, A1c, n1c, c1c, A2c, n2c, c2c, A3c, n3c, c3c, cx, rfl, xb, xc, nb, ncx, b⟩
    clear cc
    replace LW := hid (LW.out.below b)
    replace Xi := hid (SlX.lift Xi.out b)
    replace Fi := hid (SlF.lift Fi.out b)
    replace Gi := hid (Gi.out.lift b)
    replace Xy := hid (SlX.lift Xy.out b)
    replace Fy := hid (SlF.lift Fy.out b)
    replace Gy := hid (Gy.out.lift b)
    replace Xa := hid (SlX.lift Xa.out b)
    replace Ga := hid (Ga.out.lift b)
    replace E := E.trans (b.mono E.size)
    have Xb := hid xb
    have Xc := hid xc
    have NB := hid nb
    have NC := hid ncx
    clear xb xc nb ncx
    clear b
    obtain ⟨bkb, egb⟩ : ∃ g, g = wv9.heap.size := ⟨_, rfl⟩
    obtain ⟨bkc, egc⟩ : ∃ g, g = wv9.heap.size + 1 := ⟨_, rfl⟩
    obtain ⟨wv10, hwv10⟩ : ∃ W, W = ((wv9.alloc (.cells #[.slice A1b n1b c1b, .slice A2b n2b c2b, .slice A3b n3b c3b] 25)).alloc (.cells #[.slice A1c n1c c1c, .slice A2c n2c c2c, .slice A3c n3c c3c] 25)) := ⟨_, rfl⟩
    have b : Below wv9.heap.size wv9 wv10 := by rw [hwv10]; exact ((Below.refl _ _).alloc (by first | exact Nat.le_refl _ | (simp; done) | (simp; omega)) _).alloc (by first | exact Nat.le_refl _ | (simp; done) | (simp; omega)) _
    have ab : At3 wv10 bkb (.slice A1b n1b c1b) (.slice A2b n2b c2b) (.slice A3b n3b c3b) := by rw [hwv10, egb]; exact ⟨by go_simp, by go_simp, by go_simp⟩
    have ac : At3 wv10 bkc (.slice A1c n1c c1c) (.slice A2c n2c c2c) (.slice A3c n3c c3c) := by rw [hwv10, egc]; exact ⟨by go_simp, by go_simp, by go_simp⟩
    replace LW := hid (LW.out.below b)
    replace Xi := hid (SlX.lift Xi.out b)
    replace Fi := hid (SlF.lift Fi.out b)
    replace Gi := hid (Gi.out.lift b)
    replace Xy := hid (SlX.lift Xy.out b)
    replace Fy := hid (SlF.lift Fy.out b)
    replace Gy := hid (Gy.out.lift b)
    replace Xa := hid (SlX.lift Xa.out b)
    replace Ga := hid (Ga.out.lift b)
    replace Xb := hid (SlX.lift Xb.out b)
    replace Xc := hid (SlX.lift Xc.out b)
    replace E := E.trans (b.mono E.size)
    have HW := hid hwv10
    clear b hwv10
    have HXb := hid egb
    have Gb := hid ab
    clear egb ab
    have HXc := hid egc
    have Gc := hid ac
    clear egc ac
    go_wp2_with fail
    rw [← HW.out, ← HXc.out, ← HXb.out]
    clear HW HXc HXb
    have cc := DrawFaultText_any (.slice A0 n0 c0) wv10 ((HV.out.below E).more E.size)
    (try simp only [SV.v] at cc)
    refine cc.mono ?_
    rintro r wv11 ⟨fl, fc, rfl, b⟩
    clear cc
    replace LW := hid (LW.out.below b)
    replace Xi := hid (SlX.lift Xi.out b)
    replace Fi := hid (SlF.lift Fi.out b)
    replace Gi := hid (Gi.out.lift b)
    replace Xy := hid (SlX.lift Xy.out b)
    replace Fy := hid (SlF.lift Fy.out b)
    replace Gy := hid (Gy.out.lift b)
    replace Xa := hid (SlX.lift Xa.out b)
    replace Ga := hid (Ga.out.lift b)
    replace Xb := hid (SlX.lift Xb.out b)
    replace Xc := hid (SlX.lift Xc.out b)
    replace Gb := hid (Gb.out.lift b)
    replace Gc := hid (Gc.out.lift b)
    replace E := E.trans (b.mono E.size)
    clear b
    obtain ⟨bkf, egf⟩ : ∃ g, g = wv11.heap.size := ⟨_, rfl⟩
    obtain ⟨wv12, hwv12⟩ : ∃ W, W = (wv11.alloc (.cells #[.int .i64 fl, .int .i64 fc] 42)) := ⟨_, rfl⟩
    have b : Below wv11.heap.size wv11 wv12 := by rw [hwv12]; exact (Below.refl _ _).alloc (by first | exact Nat.le_refl _ | (simp; done) | (simp; omega)) _
    have af : At2 wv12 bkf (.int .i64 fl) (.int .i64 fc) := by rw [hwv12, egf]; exact ⟨by go_simp, by go_simp⟩
    replace LW := hid (LW.out.below b)
    replace Xi := hid (SlX.lift Xi.out b)
    replace Fi := hid (SlF.lift Fi.out b)
    replace Gi := hid (Gi.out.lift b)
    replace Xy := hid (SlX.lift Xy.out b)
    replace Fy := hid (SlF.lift Fy.out b)
    replace Gy := hid (Gy.out.lift b)
    replace Xa := hid (SlX.lift Xa.out b)
    replace Ga := hid (Ga.out.lift b)
    replace Xb := hid (SlX.lift Xb.out b)
    replace Xc := hid (SlX.lift Xc.out b)
    replace Gb := hid (Gb.out.lift b)
    replace Gc := hid (Gc.out.lift b)
    replace E := E.trans (b.mono E.size)
    have HW := hid hwv12
    clear b hwv12
    have HXf := hid egf
    have Gf := hid af
    clear egf af
    have VX : Hid (validX (readX T).1 = true) := readX_valid
    have HC := readX_code T
    have HFA := hid (fun (k : Nat) (f : Fault) (h : (fL (readX T).2.1)[k]? = some f) => fault_at T h)
    have HFR := hid (fun (k : Nat) (f g : Fault) (h : (fL (readX T).2.1)[k]? = some f) (h2 : (fL (readX T).2.1)[k + 1]? = some g) => fault_rise T h h2)
    have hFl : (fL (readX T).2.1).length ≤ 20 := by rw [fL_len]; exact HRL.out.2.2.2
    have hr1 := HRL.out.1
    have hr2 := HRL.out.2.1
    have hr3 := HRL.out.2.2.1
    clear HRL
    generalize (readX T).1 = X at *
    generalize (readX T).2.2 = CO at *
    generalize fL (readX T).2.1 = FS at *
    have NI := hid (Xi.out.num (m := 1048577) ⟨by omega, by omega, by omega⟩ (by omega))
    have NY := hid (Xy.out.num (m := 1048577) ⟨by omega, by omega, by omega⟩ (by omega))
    have NA := hid (Xa.out.num (m := 62) ⟨FA.out.1, FA.out.2.1, FA.out.2.2.1⟩ (by omega))
    have BIG := hid FA.out.big
    clear hr1 hr2 hr3
    obtain ⟨FT, hFT⟩ : ∃ z, z = faultF fl fc := ⟨_, rfl⟩
    obtain ⟨sm, hsm⟩ : ∃ z, z = sameX bx cx := ⟨_, rfl⟩
    obtain ⟨vl, hvl⟩ : ∃ z, z = validX a := ⟨_, rfl⟩
    have s1 := sameX_self X
    have C1 := fun i : After wv12 => specSameScheme_any ⟨A1i, n1i, c1i, A2i, n2i, c2i, A3i, n3i, c3i⟩ ⟨A1y, n1y, c1y, A2y, n2y, c2y, A3y, n3y, c3y⟩ X X i.w i.w.heap.size (Nat.le_refl _) NI.out NY.out (SlX.lift Xi.out i.below) (SlX.lift Xy.out i.below)
    have C2 := fun i : After wv12 => specSchemeText_any ⟨A1a, n1a, c1a, A2a, n2a, c2a, A3a, n3a, c3a⟩ a i.w i.w.heap.size (Nat.le_refl _) NA.out (SlX.lift Xa.out i.below) BIG
    have C3 := fun i : After wv12 => implSameScheme_any ⟨A1b, n1b, c1b, A2b, n2b, c2b, A3b, n3b, c3b⟩ ⟨A1c, n1c, c1c, A2c, n2c, c2c, A3c, n3c, c3c⟩ bx cx i.w i.w.heap.size (Nat.le_refl _) NB.out NC.out (SlX.lift Xb.out i.below) (SlX.lift Xc.out i.below)
    have C4 := fun i : After wv12 => specSameScheme_any ⟨A1b, n1b, c1b, A2b, n2b, c2b, A3b, n3b, c3b⟩ ⟨A1c, n1c, c1c, A2c, n2c, c2c, A3c, n3c, c3c⟩ bx cx i.w i.w.heap.size (Nat.le_refl _) NB.out NC.out (SlX.lift Xb.out i.below) (SlX.lift Xc.out i.below)
    have C5 := fun i : After wv12 => implFaultText_any fl fc i.w (LW.out.tab.below i.below)
    have C6 := fun i : After wv12 => specFaultText_any fl fc i.w
    have C7 := fun i : After wv12 => implValid_any ⟨A1a, n1a, c1a, A2a, n2a, c2a, A3a, n3a, c3a⟩ a i.w i.w.heap.size (Nat.le_refl _) NA.out (SlX.lift Xa.out i.below) BIG
    have C8 := fun i : After wv12 => specValid_any ⟨A1a, n1a, c1a, A2a, n2a, c2a, A3a, n3a, c3a⟩ a i.w i.w.heap.size (Nat.le_refl _) NA.out (SlX.lift Xa.out i.below) BIG
    rw [s1] at C1
    rw [← HF.out] at C2
    rw [← hsm] at C3 C4
    rw [← hFT] at C5 C6
    rw [← hvl] at C7 C8
    simp only [SV.v] at C1 C2 C3 C4 C7 C8
    have yi0 := After.cell Gi.out.c0
    have yi1 := After.cell Gi.out.c1
    have yi2 := After.cell Gi.out.c2
    have yli : ∀ i : After wv12, bki < i.w.heap.size := fun i => Nat.lt_of_lt_of_le Gi.out.lt i.below.size
    have yy0 := After.cell Gy.out.c0
    have yy1 := After.cell Gy.out.c1
    have yy2 := After.cell Gy.out.c2
    have yly : ∀ i : After wv12, bky < i.w.heap.size := fun i => Nat.lt_of_lt_of_le Gy.out.lt i.below.size
    have ya0 := After.cell Ga.out.c0
    have ya1 := After.cell Ga.out.c1
    have ya2 := After.cell Ga.out.c2
    have yla : ∀ i : After wv12, bka < i.w.heap.size := fun i => Nat.lt_of_lt_of_le Ga.out.lt i.below.size
    have yb0 := After.cell Gb.out.c0
    have yb1 := After.cell Gb.out.c1
    have yb2 := After.cell Gb.out.c2
    have ylb : ∀ i : After wv12, bkb < i.w.heap.size := fun i => Nat.lt_of_lt_of_le Gb.out.lt i.below.size
    have yc0 := After.cell Gc.out.c0
    have yc1 := After.cell Gc.out.c1
    have yc2 := After.cell Gc.out.c2
    have ylc : ∀ i : After wv12, bkc < i.w.heap.size := fun i => Nat.lt_of_lt_of_le Gc.out.lt i.below.size
    have yf0 := After.cell Gf.out.c0
    have yf1 := After.cell Gf.out.c1
    have ylf : ∀ i : After wv12, bkf < i.w.heap.size := fun i => Nat.lt_of_lt_of_le Gf.out.lt i.below.size
    have qs : (sm != sm) = false := by simp
    have qv : (vl != vl) = false := by simp
    have qt : (F.toList == F.toList) = true := by simp
    have qf : (FT.toList == FT.toList) = true := by simp
    have qc : (CO != CO) = false := by simp
    have qn : ((FS.length : Int) != (FS.length : Int)) = false := by simp
    clear hsm hvl hFT s1
    go_wp2_with fail
    rw [← HW.out, ← HXf.out]
    clear HW HXf
    refine wp_after (by kernel_rfl) (by kernel_rfl) ?_
    repeat (first | go_big_quiet_skip | (go_big_quiet_want; go_big_quiet_op; first | go_big_quiet_on | go_big_quiet_call (first | (go_at_call 19; first | with_reducible exact Calls.after (C1 _) | with_reducible exact Calls.after (C4 _)) | (go_at_call 20; first | with_reducible exact Calls.after (C2 _)) | (go_at_call 21; first | with_reducible exact Calls.after (C3 _)) | (go_at_call 22; first | with_reducible exact Calls.after (C5 _)) | (go_at_call 23; first | with_reducible exact Calls.after (C6 _)) | (go_at_call 24; first | with_reducible exact Calls.after (C7 _)) | (go_at_call 25; first | with_reducible exact Calls.after (C8 _)))))
    refine wpQuiet_nil ?_
    rintro UN ⟨i, e⟩
    have b := i.below
    rw [← e] at b
    clear e i
    clear C1 C2 C3 C4 C5 C6 C7 C8 yi0 yi1 yi2 yli yy0 yy1 yy2 yly ya0 ya1 ya2 yla yb0 yb1 yb2 ylb yc0 yc1 yc2 ylc yf0 yf1 ylf qs qv qt qf qc qn
    replace LW := hid (LW.out.below b)
    replace Xi := hid (SlX.lift Xi.out b)
    replace Fi := hid (SlF.lift Fi.out b)
    replace Gi := hid (Gi.out.lift b)
    replace Xy := hid (SlX.lift Xy.out b)
    replace Fy := hid (SlF.lift Fy.out b)
    replace Gy := hid (Gy.out.lift b)
    replace Xa := hid (SlX.lift Xa.out b)
    replace Ga := hid (Ga.out.lift b)
    replace Xb := hid (SlX.lift Xb.out b)
    replace Xc := hid (SlX.lift Xc.out b)
    replace Gb := hid (Gb.out.lift b)
    replace Gc := hid (Gc.out.lift b)
    replace Gf := hid (Gf.out.lift b)
    replace E := E.trans (b.mono E.size)
    clear b
    clear Xb Xc Gb Gc Gf NB NC Xy Gy NY HTz
    obtain ⟨ln, hln⟩ : ∃ ln, ln = FS.length := ⟨_, rfl⟩
    rw [← hln]
    rw [← hln] at Fi Fy hFl
    have HLN := hid hln
    clear hln
    go_wp2_with fail
    go_loopw [15] (fun i wl => ∃ k : Nat, k ≤ ln ∧ i = .int .i64 k ∧ Below UN.heap.size UN wl) (fun i _ => ln - (intOf i).toNat)
    case atStart => exact ⟨0, Nat.zero_le _, rfl, Below.refl _ _⟩
    case round =>
      obtain ⟨k, hk, rfl, hb⟩ := hrel
      by_cases hkl : k < ln
      · obtain ⟨l, c, b1, o1, Hf, rfl, hb1, p0, p1⟩ := (SlF.lift Fi.out hb).atFault hkl
        obtain ⟨b2, o2, rfl, hb2, q0, q1⟩ := (SlF.lift Fy.out hb).ofFault Hf.out
        have hfa := HFA.out k ⟨l, c⟩ Hf.out
        simp only at hfa
        have hful := faultF_full hfa
        obtain ⟨z, hz⟩ : ∃ z, z = faultF l c := ⟨_, rfl⟩
        have C1 := fun i : After wr => implFaultText_any l c i.w ((LW.out.below hb).tab.below i.below)
        rw [← hz] at C1 hful
        have qe : z.toList.isEmpty = false := by simpa using hful
        have n1 : ¬ l < 1 := by omega
        have P0 := After.cell p0
        have P1 := After.cell p1
        have Q0 := After.cell q0
        have Q1 := After.cell q1
        have L1 : ∀ i : After wr, b1 < i.w.heap.size := fun i => Nat.lt_of_lt_of_le hb1 i.below.size
        have L2 : ∀ i : After wr, b2 < i.w.heap.size := fun i => Nat.lt_of_lt_of_le hb2 i.below.size
        have k0 : (0 : Int) ≤ (k : Int) := by omega
        have k1 : (k : Int) < (ln : Int) := by omega
        clear hz p0 p1 q0 q1
        rcases k with _ | j
        · clear Hf HFR hfa
          simp only [Nat.zero_mul, Nat.add_zero] at P0 P1 Q0 Q1
          go_wp2_with fail
          have d1 : decide (l < 1) = false := decide_eq_false (by omega)
          refine wp_after (by kernel_rfl) (by kernel_rfl) ?_
          repeat (first | go_big_quiet_skip | (go_big_quiet_want; go_big_quiet_op; first | go_big_quiet_on | go_big_quiet_call (first | (go_at_call 22; exact Calls.after (C1 _)))))
          refine wpQuiet_nil ?_
          rintro UM ⟨i, e⟩
          have b := i.below
          rw [← e] at b
          have b9 := hb.trans (b.mono hb.size)
          clear e i b C1 P0 P1 Q0 Q1 L1 L2
          go_wp2_with fail
          go_roundw
          all_goals first | exact ⟨1, by omega, by go_num, b9⟩ | exact ⟨⟨1, by omega, by go_num, b9⟩, by simp [intOf]; omega⟩ | (simp [intOf]; omega)
        · obtain ⟨l2, c2, b3, o3, Hg, e3, hb3, p0, p1⟩ := (SlF.lift Fy.out hb).atFault (i := j) (by omega)
          injection e3 with e3
          injection e3 with e4 e5
          subst e4 e5
          have hlt := HFR.out j ⟨l2, c2⟩ ⟨l, c⟩ Hg.out Hf.out
          simp only at hlt
          have n2 : ¬ l ≤ l2 := by omega
          have R0 := After.cell p0
          have wj : ((j + 1 : Nat) : Int) - 1 = (j : Int) := by omega
          have j0 : (0 : Int) ≤ (j : Int) := by omega
          have j1 : (j : Int) < (ln : Int) := by omega
          have j2 : (0 : Int) < ((j + 1 : Nat) : Int) := by omega
          clear Hf Hg hfa hlt p0 p1
          go_wp2_with fail
          have d1 : decide (l < 1) = false := decide_eq_false (by omega)
          have d2 : decide (l ≤ l2) = false := decide_eq_false (by omega)
          refine wp_after (by kernel_rfl) (by kernel_rfl) ?_
          repeat (first | go_big_quiet_skip | (go_big_quiet_want; go_big_quiet_op; first | go_big_quiet_on | go_big_quiet_call (first | (go_at_call 22; exact Calls.after (C1 _)))))
          refine wpQuiet_nil ?_
          rintro UM ⟨i, e⟩
          have b := i.below
          rw [← e] at b
          have b9 := hb.trans (b.mono hb.size)
          clear e i b C1 P0 P1 Q0 Q1 L1 L2 R0
          go_wp2_with fail
          go_roundw
          all_goals first | exact ⟨j + 1 + 1, by omega, by go_num, b9⟩ | exact ⟨⟨j + 1 + 1, by omega, by go_num, b9⟩, by simp [intOf]; omega⟩ | (simp [intOf]; omega)
      · obtain rfl : k = ln := by omega
        clear HFA HFR Fi Fy HLN hFl hkl
        replace LW := hid (LW.out.below hb)
        replace Xi := hid (SlX.lift Xi.out hb)
        replace Gi := hid (Gi.out.lift hb)
        replace Xa := hid (SlX.lift Xa.out hb)
        replace Ga := hid (Ga.out.lift hb)
        replace E := E.trans (hb.mono E.size)
        clear hb
        rcases HC with rfl | rfl
        · skip
          have c8 := implValid_any ⟨A1i, n1i, c1i, A2i, n2i, c2i, A3i, n3i, c3i⟩ X wr wr.heap.size (Nat.le_refl _) NI.out Xi.out (hid (validX_big VX.out))
          rw [VX.out] at c8
          have ki0 := Gi.out.c0
          have ki1 := Gi.out.c1
          have ki2 := Gi.out.c2
          have kil := Gi.out.lt
          go_wp2_with fail
          clear ki0 ki1 ki2 kil
          have cc := c8
          (try simp only [SV.v] at cc)
          refine cc.mono ?_
          rintro r wv13 ⟨rfl, b⟩
          clear cc
          replace LW := hid (LW.out.below b)
          replace Xi := hid (SlX.lift Xi.out b)
          replace Gi := hid (Gi.out.lift b)
          replace Xa := hid (SlX.lift Xa.out b)
          replace Ga := hid (Ga.out.lift b)
          replace E := E.trans (b.mono E.size)
          clear b
          clear c8 Xi Gi NI
          by_cases hE : F = ⟨#[]⟩
          · have q1 : F.toList.isEmpty = true := by rw [emp_eq]; exact decide_eq_true hE
            have q2 : F.toList = [] := by simpa using q1
            clear hE
            go_wp2_with fail
            go_ret
            exact ⟨rfl, E⟩
          have q1 : F.toList.isEmpty = false := by rw [emp_eq]; exact decide_eq_false hE
          have q2 : ¬ F.toList = [] := by simpa using q1
          by_cases hL : 3000 < F.size
          · have l1 : (3000 : Int) < (F.size : Int) := by omega
            clear hE hL
            go_wp2_with fail
            go_ret
            exact ⟨rfl, E⟩
          have l1 : ¬ (3000 : Int) < (F.size : Int) := by omega
          have hva : validX a = true := by
            cases hh : validX a with
            | true => rfl
            | false => exact absurd (by rw [HF.out, schemeF, hh]; rfl) hE
          have hrd : readX F = (a, [], 0) := by
            have e1 : F = schT a := by rw [HF.out, schemeF, hva]; rfl
            rw [e1]
            exact readX_txt hva (by rw [← e1]; omega)
          have cR := read_parts (implReadScheme_any F wv13 HFz.out LW.out)
          rw [hrd] at cR
          simp only [fL, List.map_nil, List.length_nil] at cR
          clear hE hL hva hrd HF HFz
          go_wp2_with fail
          have cc := cR
          (try simp only [SV.v] at cc)
          refine cc.mono ?_
          rintro r wv14 ⟨A1k, n1k, c1k, A2k, n2k, c2k, A3k, n3k, c3k, Bk, dk, rfl, x9, _, b⟩
          clear cc
          replace LW := hid (LW.out.below b)
          replace Xa := hid (SlX.lift Xa.out b)
          replace Ga := hid (Ga.out.lift b)
          replace E := E.trans (b.mono E.size)
          have Xk := hid x9
          clear x9 cR
          clear b
          have ka0 := Ga.out.c0
          have ka1 := Ga.out.c1
          have ka2 := Ga.out.c2
          have kal := Ga.out.lt
          obtain ⟨bkk, egk⟩ : ∃ g, g = wv14.heap.size := ⟨_, rfl⟩
          obtain ⟨wv15, hwv15⟩ : ∃ W, W = (wv14.alloc (.cells #[.slice A1k n1k c1k, .slice A2k n2k c2k, .slice A3k n3k c3k] 25)) := ⟨_, rfl⟩
          have b : Below wv14.heap.size wv14 wv15 := by rw [hwv15]; exact (Below.refl _ _).alloc (by first | exact Nat.le_refl _ | (simp; done) | (simp; omega)) _
          have ak : At3 wv15 bkk (.slice A1k n1k c1k) (.slice A2k n2k c2k) (.slice A3k n3k c3k) := by rw [hwv15, egk]; exact ⟨by go_simp, by go_simp, by go_simp⟩
          replace LW := hid (LW.out.below b)
          replace Xa := hid (SlX.lift Xa.out b)
          replace Ga := hid (Ga.out.lift b)
          replace Xk := hid (SlX.lift Xk.out b)
          replace E := E.trans (b.mono E.size)
          have HW := hid hwv15
          clear b hwv15
          have HXk := hid egk
          have Gk := hid ak
          clear egk ak
          have NK := hid (Xk.out.num (m := 62) ⟨FA.out.1, FA.out.2.1, FA.out.2.2.1⟩ (by omega))
          have c9 := specSameScheme_any ⟨A1k, n1k, c1k, A2k, n2k, c2k, A3k, n3k, c3k⟩ ⟨A1a, n1a, c1a, A2a, n2a, c2a, A3a, n3a, c3a⟩ a a wv15 wv15.heap.size (Nat.le_refl _) NK.out NA.out Xk.out Xa.out
          rw [sameX_self a] at c9
          go_wp2_with fail
          rw [← HW.out, ← HXk.out]
          clear HW HXk
          have cc := c9
          (try simp only [SV.v] at cc)
          refine cc.mono ?_
          rintro r wv16 ⟨rfl, b⟩
          clear cc
          replace LW := hid (LW.out.below b)
          replace Xa := hid (SlX.lift Xa.out b)
          replace Ga := hid (Ga.out.lift b)
          replace Xk := hid (SlX.lift Xk.out b)
          replace Gk := hid (Gk.out.lift b)
          replace E := E.trans (b.mono E.size)
          clear b
          go_wp2_with fail
          go_ret
          exact ⟨rfl, E⟩
        · skip
          clear Xi Gi NI
          by_cases hE : F = ⟨#[]⟩
          · have q1 : F.toList.isEmpty = true := by rw [emp_eq]; exact decide_eq_true hE
            have q2 : F.toList = [] := by simpa using q1
            clear hE
            go_wp2_with fail
            go_ret
            exact ⟨rfl, E⟩
          have q1 : F.toList.isEmpty = false := by rw [emp_eq]; exact decide_eq_false hE
          have q2 : ¬ F.toList = [] := by simpa using q1
          by_cases hL : 3000 < F.size
          · have l1 : (3000 : Int) < (F.size : Int) := by omega
            clear hE hL
            go_wp2_with fail
            go_ret
            exact ⟨rfl, E⟩
          have l1 : ¬ (3000 : Int) < (F.size : Int) := by omega
          have hva : validX a = true := by
            cases hh : validX a with
            | true => rfl
            | false => exact absurd (by rw [HF.out, schemeF, hh]; rfl) hE
          have hrd : readX F = (a, [], 0) := by
            have e1 : F = schT a := by rw [HF.out, schemeF, hva]; rfl
            rw [e1]
            exact readX_txt hva (by rw [← e1]; omega)
          have cR := read_parts (implReadScheme_any F wr HFz.out LW.out)
          rw [hrd] at cR
          simp only [fL, List.map_nil, List.length_nil] at cR
          clear hE hL hva hrd HF HFz
          go_wp2_with fail
          have cc := cR
          (try simp only [SV.v] at cc)
          refine cc.mono ?_
          rintro r wv17 ⟨A1k, n1k, c1k, A2k, n2k, c2k, A3k, n3k, c3k, Bk, dk, rfl, x9, _, b⟩
          clear cc
          replace LW := hid (LW.out.below b)
          replace Xa := hid (SlX.lift Xa.out b)
          replace Ga := hid (Ga.out.lift b)
          replace E := E.trans (b.mono E.size)
          have Xk := hid x9
          clear x9 cR
          clear b
          have ka0 := Ga.out.c0
          have ka1 := Ga.out.c1
          have ka2 := Ga.out.c2
          have kal := Ga.out.lt
          obtain ⟨bkk, egk⟩ : ∃ g, g = wv17.heap.size := ⟨_, rfl⟩
          obtain ⟨wv18, hwv18⟩ : ∃ W, W = (wv17.alloc (.cells #[.slice A1k n1k c1k, .slice A2k n2k c2k, .slice A3k n3k c3k] 25)) := ⟨_, rfl⟩
          have b : Below wv17.heap.size wv17 wv18 := by rw [hwv18]; exact (Below.refl _ _).alloc (by first | exact Nat.le_refl _ | (simp; done) | (simp; omega)) _
          have ak : At3 wv18 bkk (.slice A1k n1k c1k) (.slice A2k n2k c2k) (.slice A3k n3k c3k) := by rw [hwv18, egk]; exact ⟨by go_simp, by go_simp, by go_simp⟩
          replace LW := hid (LW.out.below b)
          replace Xa := hid (SlX.lift Xa.out b)
          replace Ga := hid (Ga.out.lift b)
          replace Xk := hid (SlX.lift Xk.out b)
          replace E := E.trans (b.mono E.size)
          have HW := hid hwv18
          clear b hwv18
          have HXk := hid egk
          have Gk := hid ak
          clear egk ak
          have NK := hid (Xk.out.num (m := 62) ⟨FA.out.1, FA.out.2.1, FA.out.2.2.1⟩ (by omega))
          have c9 := specSameScheme_any ⟨A1k, n1k, c1k, A2k, n2k, c2k, A3k, n3k, c3k⟩ ⟨A1a, n1a, c1a, A2a, n2a, c2a, A3a, n3a, c3a⟩ a a wv18 wv18.heap.size (Nat.le_refl _) NK.out NA.out Xk.out Xa.out
          rw [sameX_self a] at c9
          go_wp2_with fail
          rw [← HW.out, ← HXk.out]
          clear HW HXk
          have cc := c9
          (try simp only [SV.v] at cc)
          refine cc.mono ?_
          rintro r wv19 ⟨rfl, b⟩
          clear cc
          replace LW := hid (LW.out.below b)
          replace Xa := hid (SlX.lift Xa.out b)
          replace Ga := hid (Ga.out.lift b)
          replace Xk := hid (SlX.lift Xk.out b)
          replace Gk := hid (Gk.out.lift b)
          replace E := E.trans (b.mono E.size)
          clear b
          go_wp2_with fail
          go_ret
          exact ⟨rfl, E⟩
end Go.Proofs.YtcgkcfmiabninaaGreatDoor
/-
  What the door's run leaves in the listed variables of a reading statement; what the condition gives the walks. No condition.
-/
namespace Go.Proofs.YtcgkcfmiabninaaGreatDoor
open Go.ChangeShapes Go.WideShapes Go.ChangeAt Go.RowKit Go.Stop Go.Extern.Stop

abbrev kLaid : List (String × DataW Unit) := Rows.fnExactReadSchemeRow.laid
theorem kDoor_met (os : Os) (args : Array Value) : laidMetH Tryz.prog kLaid ((World.laidAll Tryz.prog os kLaid).forCall (fun _ _ => 0) ⟨#[], args, []⟩).memory := by
  rw [MakeChecks.laidMetH_plain _ _ _ (by kernel_rfl)]
  exact laidMet_laidAll _ (by kernel_rfl) (by kernel_rfl)
theorem k_star : "*" ++ "errors.errorString" = "*errors.errorString" := by decide
theorem k_row (u : TypeId) (h : Tryz.prog.typeName? 3 u = some "*errors.errorString") : u = 140 :=
  typeName_ptr_named (nm := "errors.errorString") (by rw [k_star]; kernel_rfl) (by kernel_rfl) (by decide) u (by rw [k_star]; exact h)
theorem kLib {W : World} (h : laidMetH Tryz.prog kLaid W) (hs : W.ShapedOpen Tryz.prog) : LibW W := by
  rw [MakeChecks.laidMetH_plain _ _ _ (by kernel_rfl)] at h
  have h2 : laidMet Tryz.prog [("internal/strconv.uint64pow10", Lib.tabData .u64 Lib.pow10Tab), ("unicode/utf8.acceptRanges", Rows.laid_unicode_utf8_acceptRanges), ("strconv.ErrRange", Rows.laid_strconv_ErrRange), ("strconv.ErrSyntax", Rows.laid_strconv_ErrSyntax), ("unicode/utf8.first", Rows.laid_unicode_utf8_first)] W := laidMet.tail (laidMet.tail h)
  have h4 := laidMet.tail (laidMet.tail h2)
  have h5 := laidMet.tail h4
  have gR : Tryz.prog.globalNamed "strconv.ErrRange" = some 5 := by kernel_rfl
  have gS : Tryz.prog.globalNamed "strconv.ErrSyntax" = some 4 := by kernel_rfl
  obtain ⟨a4, s4, v4, _⟩ := laid_sentinel (tp := 140) h4 gR (by kernel_rfl) Tryz.underlying95 k_row Tryz.underlying140 Tryz.underlying142 rfl rfl Tryz.underlying9 (by kernel_rfl) (by kernel_rfl)
  obtain ⟨a5, s5, v5, _⟩ := laid_sentinel (tp := 140) h5 gS (by kernel_rfl) Tryz.underlying95 k_row Tryz.underlying140 Tryz.underlying142 rfl rfl Tryz.underlying9 (by kernel_rfl) (by kernel_rfl)
  exact ⟨Lib.tabIs_of_head (g := 1) (t := 122) (e := 81) (n := 20) (by kernel_rfl) (by kernel_rfl) Tryz.underlying122 Tryz.underlying81 (by kernel_rfl) (by kernel_rfl) h2,
    maxlen_of W hs, ⟨_, _, World.var?_cell gS v5 0⟩, ⟨_, _, World.var?_cell gR v4 0⟩⟩
theorem handed_shaped {H : Type} {enc : TypeId × Value → H} {a : Assume} {C : Checked} {os : Os} {f : FuncId} {fn : Func} {s : ChangeSpec} {conds : List PathCond} {apart fresh handsOn again : Bool} {X : World → Array Value → Prop}
    (hX : ∀ (w w' : World) (args : Array Value), w.heap = w'.heap → X w args → X w' args)
    (own : ownKnob C.prog.godebug = none) (started : os.Started) (noInit : C.prog.inits.idxOf? f = none) (hfn : C.prog.funcs[f]? = some fn)
    (witness : ∃ (w : World) (tape : Tape) (i : Input), w.os = os ∧ (w.forCall tape i).Shaped C.prog ∧ i.vars = [] ∧ Input.okWide C.prog (w.forCall tape i) .any w.heap.size f i ∧
      ((s.pre enc C.prog fn conds apart (w.forCall tape i).memory i.args ∧ X (w.forCall tape i).memory i.args) ∧ sizedMet enc C.prog fn (OpenSpec.ofChange s) apart (w.forCall tape i).memory i.args) ∧ a.holds C.prog (lone (Frame.enter C.prog f i.args .normal) [] (w.forCall tape i)))
    (contract : ∀ (W : World) (base : Nat) (args : Array Value) (ds gs : List (DataW H)) (before : List MemPlace),
      (∀ (j : Nat) t v, fn.params[j]? = some t → args[j]? = some v → Value.okWide C.prog W .any base t v) →
      DataW.Whole enc C.prog fn.params.toList s.vars apart W args.toList ds gs before → X W args → W.ShapedOpen C.prog →
      Calls C.prog f args W fun e W' => ∃ v, e = .returned v ∧ s.post enc C.prog fn apart fresh handsOn again W args v W') :
    ReturnsInHanded a C os f .any (fun w args => (s.pre enc C.prog fn conds apart w args ∧ X w args) ∧ sizedMet enc C.prog fn (OpenSpec.ofChange s) apart w args) (s.post enc C.prog fn apart fresh handsOn again) := by
  refine returnsInHanded_of_calls own started noInit witness ?_
  intro w tape i _ hsh _ hok hpre hholds
  obtain ⟨_, _, _, fn', hfn', _, _, _, _, hval⟩ := hok
  have e : fn' = fn := Option.some.inj (hfn'.symm.trans hfn)
  subst e
  obtain ⟨⟨⟨ds, gs, before, hw, hc⟩, hx⟩, hz⟩ := hpre
  have hw' := DataW.Whole.of_heap (w' := w.forCall tape i) (by rfl) hw
  refine (contract (w.forCall tape i) w.heap.size i.args ds gs before hval hw' (hX _ _ _ (by rfl) hx) hsh).mono fun e W' ⟨v, he, hp⟩ => ?_
  subst he
  exact ChangeSpec.post_blind hp
end Go.Proofs.YtcgkcfmiabninaaGreatDoor
