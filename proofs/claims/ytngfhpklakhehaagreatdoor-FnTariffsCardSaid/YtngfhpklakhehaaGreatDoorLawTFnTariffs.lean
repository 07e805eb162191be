/-
  The statement on tariffs, walked. No condition but what lies laid.
-/
import Derived.Test.YtngfhpklakhehaaGreatDoorTDraw6
import Derived.Test.YtngfhpklakhehaaGreatDoorTReadD
import Derived.Test.YtngfhpklakhehaaGreatDoorTTfP
import Derived.Test.YtngfhpklakhehaaGreatDoorTSame
import Derived.Test.YtngfhpklakhehaaGreatDoorRTarI
import Derived.Test.YtngfhpklakhehaaGreatDoorTHeavI
import Derived.Test.YtngfhpklakhehaaGreatDoorLHelp
import Derived.Test.YtngfhpklakhehaaGreatDoorAfter
import Derived.Deep.Cut
import Derived.Test.YtngfhpklakhehaaGreatDoorBOpen
namespace Go.Proofs.YtngfhpklakhehaaGreatDoor
open Go.RowKit
set_option maxHeartbeats 400000

theorem SlT.lift {α : Type} {w w' : World} {k n : Nat} {enc : α → List Value} {A : Option Addr} {xs : List α} (h : Sl w w.heap.size k enc A n xs) (hb : Below w.heap.size w w') : Sl w' w'.heap.size k enc A n xs := (h.below hb).more hb.size
/-- three cells of a block -/
structure At3 (w : World) (g : Nat) (u v z : Value) : Prop where
  c0 : w.cell? ⟨g, 0, none⟩ = some u
  c1 : w.cell? ⟨g, 1, none⟩ = some v
  c2 : w.cell? ⟨g, 2, none⟩ = some z
theorem At3.lift {w w' : World} {g : Nat} {u v z : Value} (h : At3 w g u v z) (hb : Below w.heap.size w w') : At3 w' g u v z := ⟨below_cell h.c0 hb, below_cell h.c1 hb, below_cell h.c2 hb⟩
theorem At3.lt {w : World} {g : Nat} {u v z : Value} (h : At3 w g u v z) : g < w.heap.size := World.block_lt_of_cell? _ _ h.c0
theorem tariffF_size {xs : List Step} {h e : Int} : (tariffF xs h e).size ≤ 1048576 := by
  cases hv : validT ⟨xs, h, e⟩ with
  | false => simp [tariffF, hv, ByteArray.size]
  | true =>
    obtain ⟨h1, h2, h3, h4, h5, h6⟩ := valid_parts hv
    simp only at h1 h2 h3 h4 h5 h6
    have := tarT_size (xs := xs) (h := h) (e := e) (fun s hs => by have := h1 s hs; omega) ⟨h4.1, by omega⟩ ⟨h5, by omega⟩ (by omega)
    rw [tariffF_yes hv]
    omega
theorem readT_len8 (s : List UInt8) : (sOf (readT s)).length ≤ 8 := by
  cases h : readT s with
  | none => exact Nat.zero_le _
  | some t => exact (valid_parts (readT_some h).1).2.2.1
/-- the text that was drawn, read back -/
theorem text_back {T : ByteArray} {R : Option Tariff} {xs : List Step} {h e : Int} (hT : T = tariffF xs h e) (hR : R = readT T.data.toList) :
    (R.isSome = true ∧ sameT (sOf R) xs (hOf R) (eOf R) h e = true ∧ ¬ T.toList = [] ∧ R = some ⟨xs, h, e⟩) ∨ (R.isSome = false ∧ T.toList = []) := by
  cases hv : validT ⟨xs, h, e⟩ with
  | true =>
    have e1 : R = some ⟨xs, h, e⟩ := by rw [hR, hT, tariffF_yes hv, tarT_data, readT_txt hv]
    have e2 : ¬ T.toList = [] := by
      rw [ByteArray.toList_eq]
      intro q
      rw [hR, q] at e1
      have e3 : readT ([] : List UInt8) = none := by rfl
      rw [e3] at e1
      cases e1
    subst e1
    exact .inl ⟨rfl, by simp [sameT, sOf, hOf, eOf], e2, rfl⟩
  | false =>
    have e1 : T = ⟨#[]⟩ := by rw [hT, tariffF, hv]; rfl
    subst e1
    have e3 : readT ([] : List UInt8) = none := by rfl
    subst hR
    exact .inr ⟨by show (readT []).isSome = false; rw [e3]; rfl, by rw [ByteArray.toList_eq]⟩
set_option maxHeartbeats 32000000 in
set_option maxRecDepth 100000 in
theorem FnTariffs_walk (v : Value) (w : World) (hv : Bytes w w.heap.size 9223372036854775807 v) (L : LibW w) :
    Calls Tryz.prog 3 #[v] w fun r w' => r = .returned (.bool true) ∧ Below w.heap.size w w' := by
  obtain ⟨A0, n0, c0, bs, rfl, hn, hbx, hbz⟩ := hv
  have hbig := fun W => f6big_any A0 n0 c0 W hn
  by_cases h4 : 4096 < n0
  · have e : decide (4096 < n0) = true := by simpa using h4
    rw [e] at hbig
    clear hbx hbz h4 e
    go_enter Tryz.func3, Tryz.ntmps3
    go_wp2_with fail
    refine (hbig _).mono ?_
    rintro r w1 ⟨rfl, e⟩
    replace e := e.symm
    subst e
    go_wp2_with fail
    go_ret
    exact ⟨rfl, Below.refl _ _⟩
  · have e : decide (4096 < n0) = false := by simpa using h4
    rw [e] at hbig
    have hv : Bytes w w.heap.size 5000 (.slice A0 n0 c0) := ⟨A0, n0, c0, bs, rfl, by omega, hbx, hbz⟩
    have HV := hid hv
    have LW := hid L
    clear hbx hbz h4 e hv L
    go_enter Tryz.func3, Tryz.ntmps3
    go_wp2_with fail
    refine (hbig _).mono ?_
    rintro r w1 ⟨rfl, e⟩
    replace e := e.symm
    subst e
    clear hbig
    have E := Below.refl w.heap.size w
    go_wp2_with fail
    have cc := DrawPriceFor_any (.slice A0 n0 c0) w ((HV.out.below E).more E.size)
    refine cc.mono ?_
    rintro r wv1 ⟨Aa, ca, xa, ha, ea, ma, ga, za, rfl, na9, Xa, b⟩
    clear cc
    replace LW := hid (LW.out.below b)
    replace E := E.trans (b.mono E.size)
    clear b
    obtain ⟨bka, ega⟩ : ∃ g, g = wv1.heap.size := ⟨_, rfl⟩
    obtain ⟨wv2, hwv2⟩ : ∃ W, W = (wv1.alloc (.cells #[.slice Aa xa.length ca, .int .i64 ha, .int .i64 ea] 26)) := ⟨_, rfl⟩
    have b : Below wv1.heap.size wv1 wv2 := by rw [hwv2]; exact (Below.refl _ _).alloc (by first | exact Nat.le_refl _ | (simp; done) | (simp; omega)) _
    have aa : At3 wv2 bka (.slice Aa xa.length ca) (.int .i64 ha) (.int .i64 ea) := by rw [hwv2, ega]; exact ⟨by go_simp, by go_simp, by go_simp⟩
    replace LW := hid (LW.out.below b)
    replace Xa := hid (SlT.lift Xa.out b)
    replace E := E.trans (b.mono E.size)
    have HW := hid hwv2
    clear b hwv2
    have HXa := hid ega
    have Ga := hid aa
    clear ega aa
    obtain ⟨Fp, hFp⟩ : ∃ F, F = priceF xa ha ea ma ga za := ⟨_, rfl⟩
    have prl : Fp.2 = 0 → 0 ≤ Fp.1 ∧ (0 ≤ ga ∧ ga ≤ 20000) ∧ (ga < 20000 → ∃ c, priceF xa ha ea ma (ga + 1) za = (c, 0) ∧ Fp.1 ≤ c) ∧ ∃ c, priceF xa ha ea ma ga false = (c, 0) ∧ c ≤ Fp.1 := fun h => price_law (by rw [← hFp, ← h])
    have PRL := hid prl
    clear prl
    have HFp := hid hFp
    clear hFp
    obtain ⟨Fp1, Fp2⟩ := Fp
    simp only at PRL
    go_wp2_with fail
    rw [← HW.out, ← HXa.out]
    clear HW HXa
    have cc := implPriceFor_any Aa xa.length ca xa ha ea ma ga za wv2 wv2.heap.size (Nat.le_refl _) (by omega) Xa.out
    refine cc.mono ?_
    rintro r wv3 ⟨rfl, b⟩
    clear cc
    replace LW := hid (LW.out.below b)
    replace Xa := hid (SlT.lift Xa.out b)
    replace Ga := hid (Ga.out.lift b)
    replace E := E.trans (b.mono E.size)
    rw [← HFp.out]
    simp only [pairI]
    clear b
    have ka0 := Ga.out.c0
    have ka1 := Ga.out.c1
    have ka2 := Ga.out.c2
    go_wp2_with fail
    clear ka0 ka1 ka2
    have cc := specPriceFor_any Aa xa.length ca xa ha ea ma ga za wv3 wv3.heap.size (Nat.le_refl _) (by omega) Xa.out
    refine cc.mono ?_
    rintro r wv4 ⟨rfl, b⟩
    clear cc
    replace LW := hid (LW.out.below b)
    replace Xa := hid (SlT.lift Xa.out b)
    replace Ga := hid (Ga.out.lift b)
    replace E := E.trans (b.mono E.size)
    rw [← HFp.out]
    simp only [pairI]
    clear b
    go_wp2_with fail
    have cc := DrawHeaviestWithin_any (.slice A0 n0 c0) wv4 ((HV.out.below E).more E.size)
    refine cc.mono ?_
    rintro r wv5 ⟨Ab, cb, xb, hb, eb, mb, gb, zb, rfl, nb9, Xb, b⟩
    clear cc
    replace LW := hid (LW.out.below b)
    replace Xa := hid (SlT.lift Xa.out b)
    replace Ga := hid (Ga.out.lift b)
    replace E := E.trans (b.mono E.size)
    clear b
    obtain ⟨bkb, egb⟩ : ∃ g, g = wv5.heap.size := ⟨_, rfl⟩
    obtain ⟨wv6, hwv6⟩ : ∃ W, W = (wv5.alloc (.cells #[.slice Ab xb.length cb, .int .i64 hb, .int .i64 eb] 26)) := ⟨_, rfl⟩
    have b : Below wv5.heap.size wv5 wv6 := by rw [hwv6]; exact (Below.refl _ _).alloc (by first | exact Nat.le_refl _ | (simp; done) | (simp; omega)) _
    have ab : At3 wv6 bkb (.slice Ab xb.length cb) (.int .i64 hb) (.int .i64 eb) := by rw [hwv6, egb]; exact ⟨by go_simp, by go_simp, by go_simp⟩
    replace LW := hid (LW.out.below b)
    replace Xa := hid (SlT.lift Xa.out b)
    replace Ga := hid (Ga.out.lift b)
    replace Xb := hid (SlT.lift Xb.out b)
    replace E := E.trans (b.mono E.size)
    have HW := hid hwv6
    clear b hwv6
    have HXb := hid egb
    have Gb := hid ab
    clear egb ab
    obtain ⟨Fh, hFh⟩ : ∃ F, F = heavF xb hb eb mb gb zb := ⟨_, rfl⟩
    have hvl : Fh.2 = 0 → (0 ≤ Fh.1 ∧ Fh.1 ≤ 5000) ∧ (∃ c, priceF xb hb eb Fh.1 mb zb = (c, 0) ∧ c ≤ gb) ∧ ∀ c, priceF xb hb eb (Fh.1 + 1) mb zb = (c, 0) → gb < c := fun h => heav_law (by rw [← hFh, ← h])
    have HVL := hid hvl
    clear hvl
    have HFh := hid hFh
    clear hFh
    obtain ⟨Fh1, Fh2⟩ := Fh
    simp only at HVL
    go_wp2_with fail
    rw [← HW.out, ← HXb.out]
    clear HW HXb
    have cc := implHeaviestWithin_any Ab xb.length cb xb hb eb mb gb zb wv6 wv6.heap.size (Nat.le_refl _) (by omega) Xb.out
    refine cc.mono ?_
    rintro r wv7 ⟨rfl, b⟩
    clear cc
    replace LW := hid (LW.out.below b)
    replace Xa := hid (SlT.lift Xa.out b)
    replace Ga := hid (Ga.out.lift b)
    replace Xb := hid (SlT.lift Xb.out b)
    replace Gb := hid (Gb.out.lift b)
    replace E := E.trans (b.mono E.size)
    rw [← HFh.out]
    simp only [pairI]
    clear b
    have kb0 := Gb.out.c0
    have kb1 := Gb.out.c1
    have kb2 := Gb.out.c2
    go_wp2_with fail
    clear kb0 kb1 kb2
    have cc := specHeaviestWithin_any Ab xb.length cb xb hb eb mb gb zb wv7 wv7.heap.size (Nat.le_refl _) (by omega) Xb.out
    refine cc.mono ?_
    rintro r wv8 ⟨rfl, b⟩
    clear cc
    replace LW := hid (LW.out.below b)
    replace Xa := hid (SlT.lift Xa.out b)
    replace Ga := hid (Ga.out.lift b)
    replace Xb := hid (SlT.lift Xb.out b)
    replace Gb := hid (Gb.out.lift b)
    replace E := E.trans (b.mono E.size)
    rw [← HFh.out]
    simp only [pairI]
    clear b
    go_wp2_with fail
    have cc := DrawFarthestWithin_any (.slice A0 n0 c0) wv8 ((HV.out.below E).more E.size)
    refine cc.mono ?_
    rintro r wv9 ⟨Ac, cc0, xc, hc, ec, mc, gc, zc, rfl, nc9, Xc, b⟩
    clear cc
    replace LW := hid (LW.out.below b)
    replace Xa := hid (SlT.lift Xa.out b)
    replace Ga := hid (Ga.out.lift b)
    replace Xb := hid (SlT.lift Xb.out b)
    replace Gb := hid (Gb.out.lift b)
    replace E := E.trans (b.mono E.size)
    clear b
    obtain ⟨bkc, egc⟩ : ∃ g, g = wv9.heap.size := ⟨_, rfl⟩
    obtain ⟨wv10, hwv10⟩ : ∃ W, W = (wv9.alloc (.cells #[.slice Ac xc.length cc0, .int .i64 hc, .int .i64 ec] 26)) := ⟨_, rfl⟩
    have b : Below wv9.heap.size wv9 wv10 := by rw [hwv10]; exact (Below.refl _ _).alloc (by first | exact Nat.le_refl _ | (simp; done) | (simp; omega)) _
    have ac : At3 wv10 bkc (.slice Ac xc.length cc0) (.int .i64 hc) (.int .i64 ec) := by rw [hwv10, egc]; exact ⟨by go_simp, by go_simp, by go_simp⟩
    replace LW := hid (LW.out.below b)
    replace Xa := hid (SlT.lift Xa.out b)
    replace Ga := hid (Ga.out.lift b)
    replace Xb := hid (SlT.lift Xb.out b)
    replace Gb := hid (Gb.out.lift b)
    replace Xc := hid (SlT.lift Xc.out b)
    replace E := E.trans (b.mono E.size)
    have HW := hid hwv10
    clear b hwv10
    have HXc := hid egc
    have Gc := hid ac
    clear egc ac
    obtain ⟨Ff, hFf⟩ : ∃ F, F = farF xc hc ec mc gc zc := ⟨_, rfl⟩
    have frl : Ff.2 = 0 → (0 ≤ Ff.1 ∧ Ff.1 ≤ 20000) ∧ (∃ c, priceF xc hc ec mc Ff.1 zc = (c, 0) ∧ c ≤ gc) ∧ (Ff.1 < 20000 → ∃ c, priceF xc hc ec mc (Ff.1 + 1) zc = (c, 0) ∧ gc < c) := fun h => far_law (by rw [← hFf, ← h])
    have FRL := hid frl
    clear frl
    have HFf := hid hFf
    clear hFf
    obtain ⟨Ff1, Ff2⟩ := Ff
    simp only at FRL
    go_wp2_with fail
    rw [← HW.out, ← HXc.out]
    clear HW HXc
    have cc := implFarthestWithin_any Ac xc.length cc0 xc hc ec mc gc zc wv10 wv10.heap.size (Nat.le_refl _) (by omega) Xc.out
    refine cc.mono ?_
    rintro r wv11 ⟨rfl, b⟩
    clear cc
    replace LW := hid (LW.out.below b)
    replace Xa := hid (SlT.lift Xa.out b)
    replace Ga := hid (Ga.out.lift b)
    replace Xb := hid (SlT.lift Xb.out b)
    replace Gb := hid (Gb.out.lift b)
    replace Xc := hid (SlT.lift Xc.out b)
    replace Gc := hid (Gc.out.lift b)
    replace E := E.trans (b.mono E.size)
    rw [← HFf.out]
    simp only [pairI]
    clear b
    have kc0 := Gc.out.c0
    have kc1 := Gc.out.c1
    have kc2 := Gc.out.c2
    go_wp2_with fail
    clear kc0 kc1 kc2
    have cc := specFarthestWithin_any Ac xc.length cc0 xc hc ec mc gc zc wv11 wv11.heap.size (Nat.le_refl _) (by omega) Xc.out
    refine cc.mono ?_
    rintro r wv12 ⟨rfl, b⟩
    clear cc
    replace LW := hid (LW.out.below b)
    replace Xa := hid (SlT.lift Xa.out b)
    replace Ga := hid (Ga.out.lift b)
    replace Xb := hid (SlT.lift Xb.out b)
    replace Gb := hid (Gb.out.lift b)
    replace Xc := hid (SlT.lift Xc.out b)
    replace Gc := hid (Gc.out.lift b)
    replace E := E.trans (b.mono E.size)
    rw [← HFf.out]
    simp only [pairI]
    clear b
    go_wp2_with fail
    have cc := DrawTariffText_any (.slice A0 n0 c0) wv12 ((HV.out.below E).more E.size)
    refine cc.mono ?_
    rintro r wv13 ⟨Ad, cd, xd, hd, ed, rfl, nd9, Xd, b⟩
    clear cc
    replace LW := hid (LW.out.below b)
    replace Xa := hid (SlT.lift Xa.out b)
    replace Ga := hid (Ga.out.lift b)
    replace Xb := hid (SlT.lift Xb.out b)
    replace Gb := hid (Gb.out.lift b)
    replace Xc := hid (SlT.lift Xc.out b)
    replace Gc := hid (Gc.out.lift b)
    replace E := E.trans (b.mono E.size)
    clear b
    obtain ⟨bkd, egd⟩ : ∃ g, g = wv13.heap.size := ⟨_, rfl⟩
    obtain ⟨wv14, hwv14⟩ : ∃ W, W = (wv13.alloc (.cells #[.slice Ad xd.length cd, .int .i64 hd, .int .i64 ed] 26)) := ⟨_, rfl⟩
    have b : Below wv13.heap.size wv13 wv14 := by rw [hwv14]; exact (Below.refl _ _).alloc (by first | exact Nat.le_refl _ | (simp; done) | (simp; omega)) _
    have ad : At3 wv14 bkd (.slice Ad xd.length cd) (.int .i64 hd) (.int .i64 ed) := by rw [hwv14, egd]; exact ⟨by go_simp, by go_simp, by go_simp⟩
    replace LW := hid (LW.out.below b)
    replace Xa := hid (SlT.lift Xa.out b)
    replace Ga := hid (Ga.out.lift b)
    replace Xb := hid (SlT.lift Xb.out b)
    replace Gb := hid (Gb.out.lift b)
    replace Xc := hid (SlT.lift Xc.out b)
    replace Gc := hid (Gc.out.lift b)
    replace Xd := hid (SlT.lift Xd.out b)
    replace E := E.trans (b.mono E.size)
    have HW := hid hwv14
    clear b hwv14
    have HXd := hid egd
    have Gd := hid ad
    clear egd ad
    obtain ⟨T, hT⟩ : ∃ T, T = tariffF xd hd ed := ⟨_, rfl⟩
    have hTz : T.size ≤ 1048576 := by rw [hT]; exact tariffF_size
    have HSZT := hid hTz
    have HT := hid hT
    clear hTz hT
    go_wp2_with fail
    rw [← HW.out, ← HXd.out]
    clear HW HXd
    have cc := implTariffText_any Ad xd.length cd xd hd ed wv14 wv14.heap.size (Nat.le_refl _) (by omega) Xd.out LW.out.tab
    refine cc.mono ?_
    rintro r wv15 ⟨rfl, b⟩
    clear cc
    replace LW := hid (LW.out.below b)
    replace Xa := hid (SlT.lift Xa.out b)
    replace Ga := hid (Ga.out.lift b)
    replace Xb := hid (SlT.lift Xb.out b)
    replace Gb := hid (Gb.out.lift b)
    replace Xc := hid (SlT.lift Xc.out b)
    replace Gc := hid (Gc.out.lift b)
    replace Xd := hid (SlT.lift Xd.out b)
    replace Gd := hid (Gd.out.lift b)
    replace E := E.trans (b.mono E.size)
    rw [← HT.out]
    clear b
    obtain ⟨RT, hRT⟩ : ∃ q, q = readT T.data.toList := ⟨_, rfl⟩
    have HRT := hid hRT
    clear hRT
    go_wp2_with fail
    have cc := implReadTariff_any T wv15 HSZT.out LW.out
    refine cc.mono ?_
    rintro r wv16 ⟨Ai, ni, ci, rfl, oi, b⟩
    clear cc
    replace LW := hid (LW.out.below b)
    replace Xa := hid (SlT.lift Xa.out b)
    replace Ga := hid (Ga.out.lift b)
    replace Xb := hid (SlT.lift Xb.out b)
    replace Gb := hid (Gb.out.lift b)
    replace Xc := hid (SlT.lift Xc.out b)
    replace Gc := hid (Gc.out.lift b)
    replace Xd := hid (SlT.lift Xd.out b)
    replace Gd := hid (Gd.out.lift b)
    replace E := E.trans (b.mono E.size)
    have Oi := own_sl encStep_len (by omega) oi
    clear oi
    rw [← HRT.out] at Oi
    have Xi := hid Oi
    clear Oi
    rw [← HRT.out]
    clear b
    obtain ⟨bki, egi⟩ : ∃ g, g = wv16.heap.size := ⟨_, rfl⟩
    obtain ⟨wv17, hwv17⟩ : ∃ W, W = (wv16.alloc (.cells #[.slice Ai ni ci, .int .i64 (hOf RT), .int .i64 (eOf RT)] 26)) := ⟨_, rfl⟩
    have b : Below wv16.heap.size wv16 wv17 := by rw [hwv17]; exact (Below.refl _ _).alloc (by first | exact Nat.le_refl _ | (simp; done) | (simp; omega)) _
    have ai : At3 wv17 bki (.slice Ai ni ci) (.int .i64 (hOf RT)) (.int .i64 (eOf RT)) := by rw [hwv17, egi]; exact ⟨by go_simp, by go_simp, by go_simp⟩
    replace LW := hid (LW.out.below b)
    replace Xa := hid (SlT.lift Xa.out b)
    replace Ga := hid (Ga.out.lift b)
    replace Xb := hid (SlT.lift Xb.out b)
    replace Gb := hid (Gb.out.lift b)
    replace Xc := hid (SlT.lift Xc.out b)
    replace Gc := hid (Gc.out.lift b)
    replace Xd := hid (SlT.lift Xd.out b)
    replace Gd := hid (Gd.out.lift b)
    replace Xi := hid (SlT.lift Xi.out b)
    replace E := E.trans (b.mono E.size)
    have HW := hid hwv17
    clear b hwv17
    have HXi := hid egi
    have Gi := hid ai
    clear egi ai
    go_wp2_with fail
    rw [← HW.out, ← HXi.out]
    clear HW HXi
    have cc := DrawReadTariff_any (.slice A0 n0 c0) wv17 ((HV.out.below E).more E.size)
    refine cc.mono ?_
    rintro r wv18 ⟨S, rfl, hS, b⟩
    clear cc
    replace LW := hid (LW.out.below b)
    replace Xa := hid (SlT.lift Xa.out b)
    replace Ga := hid (Ga.out.lift b)
    replace Xb := hid (SlT.lift Xb.out b)
    replace Gb := hid (Gb.out.lift b)
    replace Xc := hid (SlT.lift Xc.out b)
    replace Gc := hid (Gc.out.lift b)
    replace Xd := hid (SlT.lift Xd.out b)
    replace Gd := hid (Gd.out.lift b)
    replace Xi := hid (SlT.lift Xi.out b)
    replace Gi := hid (Gi.out.lift b)
    replace E := E.trans (b.mono E.size)
    clear b
    have hSz : S.size ≤ 1048576 := by omega
    have HSZS := hid hSz
    clear hSz
    obtain ⟨RS, hRS⟩ : ∃ q, q = readT S.data.toList := ⟨_, rfl⟩
    have HRS := hid hRS
    clear hRS
    go_wp2_with fail
    have cc := implReadTariff_any S wv18 HSZS.out LW.out
    refine cc.mono ?_
    rintro r wv19 ⟨Au, nu, cu, rfl, ou, b⟩
    clear cc
    replace LW := hid (LW.out.below b)
    replace Xa := hid (SlT.lift Xa.out b)
    replace Ga := hid (Ga.out.lift b)
    replace Xb := hid (SlT.lift Xb.out b)
    replace Gb := hid (Gb.out.lift b)
    replace Xc := hid (SlT.lift Xc.out b)
    replace Gc := hid (Gc.out.lift b)
    replace Xd := hid (SlT.lift Xd.out b)
    replace Gd := hid (Gd.out.lift b)
    replace Xi := hid (SlT.lift Xi.out b)
    replace Gi := hid (Gi.out.lift b)
    replace E := E.trans (b.mono E.size)
    have Ou := own_sl encStep_len (by omega) ou
    clear ou
    rw [← HRS.out] at Ou
    have Xu := hid Ou
    clear Ou
    rw [← HRS.out]
    clear b
    obtain ⟨bku, egu⟩ : ∃ g, g = wv19.heap.size := ⟨_, rfl⟩
    obtain ⟨wv20, hwv20⟩ : ∃ W, W = (wv19.alloc (.cells #[.slice Au nu cu, .int .i64 (hOf RS), .int .i64 (eOf RS)] 26)) := ⟨_, rfl⟩
    have b : Below wv19.heap.size wv19 wv20 := by rw [hwv20]; exact (Below.refl _ _).alloc (by first | exact Nat.le_refl _ | (simp; done) | (simp; omega)) _
    have au : At3 wv20 bku (.slice Au nu cu) (.int .i64 (hOf RS)) (.int .i64 (eOf RS)) := by rw [hwv20, egu]; exact ⟨by go_simp, by go_simp, by go_simp⟩
    replace LW := hid (LW.out.below b)
    replace Xa := hid (SlT.lift Xa.out b)
    replace Ga := hid (Ga.out.lift b)
    replace Xb := hid (SlT.lift Xb.out b)
    replace Gb := hid (Gb.out.lift b)
    replace Xc := hid (SlT.lift Xc.out b)
    replace Gc := hid (Gc.out.lift b)
    replace Xd := hid (SlT.lift Xd.out b)
    replace Gd := hid (Gd.out.lift b)
    replace Xi := hid (SlT.lift Xi.out b)
    replace Gi := hid (Gi.out.lift b)
    replace Xu := hid (SlT.lift Xu.out b)
    replace E := E.trans (b.mono E.size)
    have HW := hid hwv20
    clear b hwv20
    have HXu := hid egu
    have Gu := hid au
    clear egu au
    go_wp2_with fail
    rw [← HW.out, ← HXu.out]
    clear HW HXu
    have cc := specReadTariff_any S wv20 HSZS.out
    refine cc.mono ?_
    rintro r wv21 ⟨Ay, ny, cy, rfl, oy, b⟩
    clear cc
    replace LW := hid (LW.out.below b)
    replace Xa := hid (SlT.lift Xa.out b)
    replace Ga := hid (Ga.out.lift b)
    replace Xb := hid (SlT.lift Xb.out b)
    replace Gb := hid (Gb.out.lift b)
    replace Xc := hid (SlT.lift Xc.out b)
    replace Gc := hid (Gc.out.lift b)
    replace Xd := hid (SlT.lift Xd.out b)
    replace Gd := hid (Gd.out.lift b)
    replace Xi := hid (SlT.lift Xi.out b)
    replace Gi := hid (Gi.out.lift b)
    replace Xu := hid (SlT.lift Xu.out b)
    replace Gu := hid (Gu.out.lift b)
    replace E := E.trans (b.mono E.size)
    have Oy := own_sl encStep_len (by omega) oy
    clear oy
    rw [← HRS.out] at Oy
    have Xy := hid Oy
    clear Oy
    rw [← HRS.out]
    clear b
    obtain ⟨bky, egy⟩ : ∃ g, g = wv21.heap.size := ⟨_, rfl⟩
    obtain ⟨wv22, hwv22⟩ : ∃ W, W = (wv21.alloc (.cells #[.slice Ay ny cy, .int .i64 (hOf RS), .int .i64 (eOf RS)] 26)) := ⟨_, rfl⟩
    have b : Below wv21.heap.size wv21 wv22 := by rw [hwv22]; exact (Below.refl _ _).alloc (by first | exact Nat.le_refl _ | (simp; done) | (simp; omega)) _
    have ay : At3 wv22 bky (.slice Ay ny cy) (.int .i64 (hOf RS)) (.int .i64 (eOf RS)) := by rw [hwv22, egy]; exact ⟨by go_simp, by go_simp, by go_simp⟩
    replace LW := hid (LW.out.below b)
    replace Xa := hid (SlT.lift Xa.out b)
    replace Ga := hid (Ga.out.lift b)
    replace Xb := hid (SlT.lift Xb.out b)
    replace Gb := hid (Gb.out.lift b)
    replace Xc := hid (SlT.lift Xc.out b)
    replace Gc := hid (Gc.out.lift b)
    replace Xd := hid (SlT.lift Xd.out b)
    replace Gd := hid (Gd.out.lift b)
    replace Xi := hid (SlT.lift Xi.out b)
    replace Gi := hid (Gi.out.lift b)
    replace Xu := hid (SlT.lift Xu.out b)
    replace Gu := hid (Gu.out.lift b)
    replace Xy := hid (SlT.lift Xy.out b)
    replace E := E.trans (b.mono E.size)
    have HW := hid hwv22
    clear b hwv22
    have HXy := hid egy
    have Gy := hid ay
    clear egy ay
    go_wp2_with fail
    rw [← HW.out, ← HXy.out]
    clear HW HXy
    have cc := DrawSameTariff_any (.slice A0 n0 c0) wv22 ((HV.out.below E).more E.size)
    refine cc.mono ?_
    rintro r wv23 ⟨Ae, ce, xe, he, ee, Af, cf, xf, hf, ef, rfl, ne9, nf9, Xe, Xf, b⟩
    clear cc
    replace LW := hid (LW.out.below b)
    replace Xa := hid (SlT.lift Xa.out b)
    replace Ga := hid (Ga.out.lift b)
    replace Xb := hid (SlT.lift Xb.out b)
    replace Gb := hid (Gb.out.lift b)
    replace Xc := hid (SlT.lift Xc.out b)
    replace Gc := hid (Gc.out.lift b)
    replace Xd := hid (SlT.lift Xd.out b)
    replace Gd := hid (Gd.out.lift b)
    replace Xi := hid (SlT.lift Xi.out b)
    replace Gi := hid (Gi.out.lift b)
    replace Xu := hid (SlT.lift Xu.out b)
    replace Gu := hid (Gu.out.lift b)
    replace Xy := hid (SlT.lift Xy.out b)
    replace Gy := hid (Gy.out.lift b)
    replace E := E.trans (b.mono E.size)
    clear b
    obtain ⟨bke, ege⟩ : ∃ g, g = wv23.heap.size := ⟨_, rfl⟩
    obtain ⟨bkf, egf⟩ : ∃ g, g = wv23.heap.size + 1 := ⟨_, rfl⟩
    obtain ⟨wv24, hwv24⟩ : ∃ W, W = ((wv23.alloc (.cells #[.slice Ae xe.length ce, .int .i64 he, .int .i64 ee] 26)).alloc (.cells #[.slice Af xf.length cf, .int .i64 hf, .int .i64 ef] 26)) := ⟨_, rfl⟩
    have b : Below wv23.heap.size wv23 wv24 := by rw [hwv24]; exact ((Below.refl _ _).alloc (by first | exact Nat.le_refl _ | (simp; done) | (simp; omega)) _).alloc (by first | exact Nat.le_refl _ | (simp; done) | (simp; omega)) _
    have ae : At3 wv24 bke (.slice Ae xe.length ce) (.int .i64 he) (.int .i64 ee) := by rw [hwv24, ege]; exact ⟨by go_simp, by go_simp, by go_simp⟩
    have af : At3 wv24 bkf (.slice Af xf.length cf) (.int .i64 hf) (.int .i64 ef) := by rw [hwv24, egf]; exact ⟨by go_simp, by go_simp, by go_simp⟩
    replace LW := hid (LW.out.below b)
    replace Xa := hid (SlT.lift Xa.out b)
    replace Ga := hid (Ga.out.lift b)
    replace Xb := hid (SlT.lift Xb.out b)
    replace Gb := hid (Gb.out.lift b)
    replace Xc := hid (SlT.lift Xc.out b)
    replace Gc := hid (Gc.out.lift b)
    replace Xd := hid (SlT.lift Xd.out b)
    replace Gd := hid (Gd.out.lift b)
    replace Xi := hid (SlT.lift Xi.out b)
    replace Gi := hid (Gi.out.lift b)
    replace Xu := hid (SlT.lift Xu.out b)
    replace Gu := hid (Gu.out.lift b)
    replace Xy := hid (SlT.lift Xy.out b)
    replace Gy := hid (Gy.out.lift b)
    replace Xe := hid (SlT.lift Xe.out b)
    replace Xf := hid (SlT.lift Xf.out b)
    replace E := E.trans (b.mono E.size)
    have HW := hid hwv24
    clear b hwv24
    have HXe := hid ege
    have Ge := hid ae
    clear ege ae
    have HXf := hid egf
    have Gf := hid af
    clear egf af
    have lT : (sOf RT).length ≤ 8 := by rw [HRT.out]; exact readT_len8 _
    have lS : (sOf RS).length ≤ 8 := by rw [HRS.out]; exact readT_len8 _
    have li : ni ≤ 8 := by have := Xi.out.len; omega
    have lu : nu ≤ 8 := by have := Xu.out.len; omega
    have ly : ny ≤ 8 := by have := Xy.out.len; omega
    obtain ⟨sm, hsm⟩ : ∃ s, s = sameT xe xf he ee hf ef := ⟨_, rfl⟩
    obtain ⟨vl, hvl⟩ : ∃ s, s = validT ⟨xa, ha, ea⟩ := ⟨_, rfl⟩
    have s3 : sameT (sOf RS) (sOf RS) (hOf RS) (eOf RS) (hOf RS) (eOf RS) = true := by simp [sameT]
    have C1 := fun i : After wv24 => specTariffText_any Ad xd.length cd xd hd ed i.w i.w.heap.size (Nat.le_refl _) (by omega) (SlT.lift Xd.out i.below)
    have C2 := fun i : After wv24 => specSameTariff_any Ai ni ci Ad xd.length cd (sOf RT) xd (hOf RT) (eOf RT) hd ed i.w i.w.heap.size (Nat.le_refl _) (by omega) (by omega) (SlT.lift Xi.out i.below) (SlT.lift Xd.out i.below)
    have C3 := fun i : After wv24 => specSameTariff_any Au nu cu Ay ny cy (sOf RS) (sOf RS) (hOf RS) (eOf RS) (hOf RS) (eOf RS) i.w i.w.heap.size (Nat.le_refl _) (by omega) (by omega) (SlT.lift Xu.out i.below) (SlT.lift Xy.out i.below)
    have C4 := fun i : After wv24 => implSameTariff_any Ae xe.length ce Af xf.length cf xe xf he ee hf ef i.w i.w.heap.size (Nat.le_refl _) (by omega) (by omega) (SlT.lift Xe.out i.below) (SlT.lift Xf.out i.below)
    have C5 := fun i : After wv24 => specSameTariff_any Ae xe.length ce Af xf.length cf xe xf he ee hf ef i.w i.w.heap.size (Nat.le_refl _) (by omega) (by omega) (SlT.lift Xe.out i.below) (SlT.lift Xf.out i.below)
    have C6 := fun i : After wv24 => ValidTariff_any Aa xa.length ca xa ha ea i.w i.w.heap.size (Nat.le_refl _) (by omega) (SlT.lift Xa.out i.below)
    have C7 := fun i : After wv24 => specValidTariff_any Aa xa.length ca xa ha ea i.w i.w.heap.size (Nat.le_refl _) (by omega) (SlT.lift Xa.out i.below)
    rw [← HT.out] at C1
    rw [s3] at C3
    rw [← hsm] at C4 C5
    rw [← hvl] at C6 C7
    have ya0 := After.cell Ga.out.c0
    have ya1 := After.cell Ga.out.c1
    have ya2 := After.cell Ga.out.c2
    have yla : ∀ i : After wv24, bka < i.w.heap.size := fun i => Nat.lt_of_lt_of_le Ga.out.lt i.below.size
    have yd0 := After.cell Gd.out.c0
    have yd1 := After.cell Gd.out.c1
    have yd2 := After.cell Gd.out.c2
    have yld : ∀ i : After wv24, bkd < i.w.heap.size := fun i => Nat.lt_of_lt_of_le Gd.out.lt i.below.size
    have yi0 := After.cell Gi.out.c0
    have yi1 := After.cell Gi.out.c1
    have yi2 := After.cell Gi.out.c2
    have yli : ∀ i : After wv24, bki < i.w.heap.size := fun i => Nat.lt_of_lt_of_le Gi.out.lt i.below.size
    have yu0 := After.cell Gu.out.c0
    have yu1 := After.cell Gu.out.c1
    have yu2 := After.cell Gu.out.c2
    have ylu : ∀ i : After wv24, bku < i.w.heap.size := fun i => Nat.lt_of_lt_of_le Gu.out.lt i.below.size
    have yy0 := After.cell Gy.out.c0
    have yy1 := After.cell Gy.out.c1
    have yy2 := After.cell Gy.out.c2
    have yly : ∀ i : After wv24, bky < i.w.heap.size := fun i => Nat.lt_of_lt_of_le Gy.out.lt i.below.size
    have ye0 := After.cell Ge.out.c0
    have ye1 := After.cell Ge.out.c1
    have ye2 := After.cell Ge.out.c2
    have yle : ∀ i : After wv24, bke < i.w.heap.size := fun i => Nat.lt_of_lt_of_le Ge.out.lt i.below.size
    have yf0 := After.cell Gf.out.c0
    have yf1 := After.cell Gf.out.c1
    have yf2 := After.cell Gf.out.c2
    have ylf : ∀ i : After wv24, bkf < i.w.heap.size := fun i => Nat.lt_of_lt_of_le Gf.out.lt i.below.size
    have qs : (sm != sm) = false := by simp
    have qv : (vl != vl) = false := by simp
    have qt : (T.toList == T.toList) = true := by simp
    have qz : (RS.isSome != RS.isSome) = false := by simp
    clear hsm hvl s3
    have hTT := text_back HT.out HRT.out
    go_wp2_with fail
    rw [← HW.out, ← HXf.out, ← HXe.out]
    clear HW HXf HXe
    dsimp only [List.append]
    rcases hTT with ⟨z1, z2, z3, z4⟩ | ⟨z1, z2⟩
    · rw [z2] at C2
      have z5 : T.toList.isEmpty = false := by simpa using z3
      clear z2 z4
      rw [z1]
      refine wp_after (by kernel_rfl) (by kernel_rfl) ?_
      repeat (first | go_big_quiet_skip | (go_big_quiet_want; go_big_quiet_op; first | go_big_quiet_on | go_big_quiet_call (first | (go_at_call 20; first | with_reducible exact Calls.after (C1 _)) | (go_at_call 21; first | with_reducible exact Calls.after (C2 _) | with_reducible exact Calls.after (C3 _) | with_reducible exact Calls.after (C5 _)) | (go_at_call 22; first | with_reducible exact Calls.after (C4 _)) | (go_at_call 23; first | with_reducible exact Calls.after (C6 _)) | (go_at_call 24; first | with_reducible exact Calls.after (C7 _)))))
      refine wpQuiet_nil ?_
      rintro wa90 ⟨i, e⟩
      have b := i.below
      rw [← e] at b
      clear e i
      clear C1 C2 C3 C4 C5 C6 C7 ya0 ya1 ya2 yla yd0 yd1 yd2 yld yi0 yi1 yi2 yli yu0 yu1 yu2 ylu yy0 yy1 yy2 yly ye0 ye1 ye2 yle yf0 yf1 yf2 ylf qv qz qt
      replace LW := hid (LW.out.below b)
      replace Xa := hid (SlT.lift Xa.out b)
      replace Ga := hid (Ga.out.lift b)
      replace Xb := hid (SlT.lift Xb.out b)
      replace Gb := hid (Gb.out.lift b)
      replace Xc := hid (SlT.lift Xc.out b)
      replace Gc := hid (Gc.out.lift b)
      replace Xd := hid (SlT.lift Xd.out b)
      replace Gd := hid (Gd.out.lift b)
      replace Xi := hid (SlT.lift Xi.out b)
      replace Gi := hid (Gi.out.lift b)
      replace Xu := hid (SlT.lift Xu.out b)
      replace Gu := hid (Gu.out.lift b)
      replace Xy := hid (SlT.lift Xy.out b)
      replace Gy := hid (Gy.out.lift b)
      replace Xe := hid (SlT.lift Xe.out b)
      replace Xf := hid (SlT.lift Xf.out b)
      replace Ge := hid (Ge.out.lift b)
      replace Gf := hid (Gf.out.lift b)
      replace E := E.trans (b.mono E.size)
      clear b
      clear Gd Gi Gu Gy Ge Gf Xd Xi Xu Xy Xe Xf LW HT HRT HRS HSZT HSZS lT lS li lu ly
      go_upto_if 224 with fail
      go_cut [] from 223 (fun wx => Below wa90.heap.size wa90 wx)
      case first =>
        as_aux_lemma =>
          clear PRL FRL Ga Gc Xa Xc E
          by_cases hh2 : Fh2 = 0
          · subst hh2
            obtain ⟨⟨v0, v1⟩, ⟨c1, E1, l1⟩, gr1⟩ := HVL.out rfl
            have HE1 := hid E1
            have GR := hid gr1
            have kb0 := Gb.out.c0
            have kb1 := Gb.out.c1
            have kb2 := Gb.out.c2
            clear HVL E1 gr1
            go_wp2_with fail
            refine (implPriceFor_any Ab xb.length cb xb hb eb Fh1 mb zb wa90 wa90.heap.size (Nat.le_refl _) (by omega) Xb.out).mono ?_
            rintro r w5 ⟨rfl, b5⟩
            rw [HE1.out]
            simp only [pairI]
            have n1 : ¬ gb < c1 := by omega
            have Xb5 := hid (SlT.lift Xb.out b5)
            have Gb5 := hid (Gb.out.lift b5)
            clear kb0 kb1 kb2 Xb Gb HE1
            by_cases h5 : Fh1 < 5000
            · have kb0 := Gb5.out.c0
              have kb1 := Gb5.out.c1
              have kb2 := Gb5.out.c2
              obtain ⟨F, hF⟩ : ∃ F, F = priceF xb hb eb (Fh1 + 1) mb zb := ⟨_, rfl⟩
              have hf2 : F.2 = 0 → gb < F.1 := fun h => GR.out F.1 (by rw [← hF, ← h])
              have HF := hid hF
              have wF : IntKind.i64.wrap (Fh1 + 1) = Fh1 + 1 := IntWalk.i64_in _ (by omega)
              have HF2 := hid hf2
              clear hF GR hf2
              go_wp2_with fail
              refine (implPriceFor_any Ab xb.length cb xb hb eb (Fh1 + 1) mb zb w5 w5.heap.size (Nat.le_refl _) (by omega) Xb5.out).mono ?_
              rintro r w6 ⟨rfl, b6⟩
              rw [← HF.out]
              simp only [pairI]
              obtain ⟨F1, F2⟩ := F
              have bb := b5.trans (b6.mono b5.size)
              have hf3 := HF2.out
              simp only at hf3
              clear HF HF2 kb0 kb1 kb2 Xb5 Gb5 b5 b6
              by_cases hz : F2 = 0
              · subst hz
                have n2 : ¬ F1 ≤ gb := by have := hf3 rfl; omega
                clear hf3
                go_wp2_with fail
                go_meet
                case rel => exact bb
              · have q0 : (F2 == 0) = false := by simpa using hz
                clear hf3
                go_wp2_with fail
                go_meet
                case rel => exact bb
            · clear GR Xb5 Gb5
              go_wp2_with fail
              go_meet
              case rel => exact b5
          · have q0 : (Fh2 == 0) = false := by simpa using hh2
            go_wp2_with fail
            go_meet
            case rel => exact Below.refl _ _
      case rest =>
        as_aux_lemma =>
          clear HVL
          obtain ⟨wak1, rfl⟩ : ∃ W : World, W = wc := ⟨_, rfl⟩
          have b := hcut
          clear hcut
          replace Xa := hid (SlT.lift Xa.out b)
          replace Ga := hid (Ga.out.lift b)
          replace Xb := hid (SlT.lift Xb.out b)
          replace Gb := hid (Gb.out.lift b)
          replace Xc := hid (SlT.lift Xc.out b)
          replace Gc := hid (Gc.out.lift b)
          replace E := E.trans (b.mono E.size)
          clear b
          clear Gb Xb
          go_upto_if 259 with fail
          go_cut [] from 258 (fun wx => Below wak1.heap.size wak1 wx)
          case first =>
            as_aux_lemma =>
              clear PRL Ga Xa E
              by_cases hf2 : Ff2 = 0
              · subst hf2
                obtain ⟨⟨v0, v1⟩, ⟨c1, E1, l1⟩, gr1⟩ := FRL.out rfl
                have HE1 := hid E1
                have GR := hid gr1
                have kb0 := Gc.out.c0
                have kb1 := Gc.out.c1
                have kb2 := Gc.out.c2
                clear FRL E1 gr1
                go_wp2_with fail
                refine (implPriceFor_any Ac xc.length cc0 xc hc ec mc Ff1 zc wak1 wak1.heap.size (Nat.le_refl _) (by omega) Xc.out).mono ?_
                rintro r w5 ⟨rfl, b5⟩
                rw [HE1.out]
                simp only [pairI]
                have n1 : ¬ gc < c1 := by omega
                have Xb5 := hid (SlT.lift Xc.out b5)
                have Gb5 := hid (Gc.out.lift b5)
                clear kb0 kb1 kb2 Xc Gc HE1
                by_cases h5 : Ff1 < 20000
                · have kb0 := Gb5.out.c0
                  have kb1 := Gb5.out.c1
                  have kb2 := Gb5.out.c2
                  obtain ⟨c2, E2, l2⟩ := GR.out h5
                  have HE2 := hid E2
                  have wF : IntKind.i64.wrap (Ff1 + 1) = Ff1 + 1 := IntWalk.i64_in _ (by omega)
                  clear GR E2
                  go_wp2_with fail
                  refine (implPriceFor_any Ac xc.length cc0 xc hc ec mc (Ff1 + 1) zc w5 w5.heap.size (Nat.le_refl _) (by omega) Xb5.out).mono ?_
                  rintro r w6 ⟨rfl, b6⟩
                  rw [HE2.out]
                  simp only [pairI]
                  have bb := b5.trans (b6.mono b5.size)
                  have n2 : ¬ c2 ≤ gc := by omega
                  clear HE2 kb0 kb1 kb2 Xb5 Gb5 b5 b6
                  go_wp2_with fail
                  go_meet
                  case rel => exact bb
                · clear GR Xb5 Gb5
                  go_wp2_with fail
                  go_meet
                  case rel => exact b5
              · have q0 : (Ff2 == 0) = false := by simpa using hf2
                go_wp2_with fail
                go_meet
                case rel => exact Below.refl _ _
          case rest =>
            as_aux_lemma =>
              clear FRL
              obtain ⟨wak2, rfl⟩ : ∃ W : World, W = wc := ⟨_, rfl⟩
              have b := hcut
              clear hcut
              replace Xa := hid (SlT.lift Xa.out b)
              replace Ga := hid (Ga.out.lift b)
              replace Xc := hid (SlT.lift Xc.out b)
              replace Gc := hid (Gc.out.lift b)
              replace E := E.trans (b.mono E.size)
              clear b
              clear Gc Xc
              by_cases hp : Fp2 = 0
              · subst hp
                obtain ⟨p0, ⟨g0, g1⟩, mono, c2, E2, l2⟩ := PRL.out rfl
                have HE2 := hid E2
                have HM := hid mono
                clear PRL E2 mono
                by_cases h5 : ga < 20000
                · obtain ⟨c1, E1, l1⟩ := HM.out h5
                  have HE1 := hid E1
                  have wF : IntKind.i64.wrap (ga + 1) = ga + 1 := IntWalk.i64_in _ (by omega)
                  have k0 := Ga.out.c0
                  have k1 := Ga.out.c1
                  have k2 := Ga.out.c2
                  clear HM E1
                  go_wp2_with fail
                  refine (implPriceFor_any Aa xa.length ca xa ha ea ma (ga + 1) za wak2 wak2.heap.size (Nat.le_refl _) (by omega) Xa.out).mono ?_
                  rintro r w5 ⟨rfl, b5⟩
                  rw [HE1.out]
                  simp only [pairI]
                  have n1 : ¬ c1 < Fp1 := by omega
                  have X5 := hid (SlT.lift Xa.out b5)
                  have G5 := hid (Ga.out.lift b5)
                  clear k0 k1 k2 Xa Ga HE1
                  have k0 := G5.out.c0
                  have k1 := G5.out.c1
                  have k2 := G5.out.c2
                  have E5 := E.trans (b5.mono E.size)
                  go_wp2_with fail
                  refine (implPriceFor_any Aa xa.length ca xa ha ea ma ga false w5 w5.heap.size (Nat.le_refl _) (by omega) X5.out).mono ?_
                  rintro r w6 ⟨rfl, b6⟩
                  rw [HE2.out]
                  simp only [pairI]
                  have E6 := E5.trans (b6.mono E5.size)
                  clear k0 k1 k2 X5 G5 HE2 b5 b6 E E5
                  go_wp2_with fail
                  go_ret
                  exact ⟨rfl, E6⟩
                · have k0 := Ga.out.c0
                  have k1 := Ga.out.c1
                  have k2 := Ga.out.c2
                  clear HM
                  go_wp2_with fail
                  refine (implPriceFor_any Aa xa.length ca xa ha ea ma ga false wak2 wak2.heap.size (Nat.le_refl _) (by omega) Xa.out).mono ?_
                  rintro r w6 ⟨rfl, b6⟩
                  rw [HE2.out]
                  simp only [pairI]
                  have E6 := E.trans (b6.mono E.size)
                  clear k0 k1 k2 Xa Ga HE2 b6 E
                  go_wp2_with fail
                  go_ret
                  exact ⟨rfl, E6⟩
              · have q0 : (Fp2 != 0) = true := by simpa using hp
                clear PRL Ga Xa
                go_wp2_with fail
                go_ret
                exact ⟨rfl, E⟩
    · skip
      rw [z1]
      refine wp_after (by kernel_rfl) (by kernel_rfl) ?_
      repeat (first | go_big_quiet_skip | (go_big_quiet_want; go_big_quiet_op; first | go_big_quiet_on | go_big_quiet_call (first | (go_at_call 20; first | with_reducible exact Calls.after (C1 _)) | (go_at_call 21; first | with_reducible exact Calls.after (C2 _) | with_reducible exact Calls.after (C3 _) | with_reducible exact Calls.after (C5 _)) | (go_at_call 22; first | with_reducible exact Calls.after (C4 _)) | (go_at_call 23; first | with_reducible exact Calls.after (C6 _)) | (go_at_call 24; first | with_reducible exact Calls.after (C7 _)))))
      refine wpQuiet_nil ?_
      rintro wb90 ⟨i, e⟩
      have b := i.below
      rw [← e] at b
      clear e i
      clear C1 C2 C3 C4 C5 C6 C7 ya0 ya1 ya2 yla yd0 yd1 yd2 yld yi0 yi1 yi2 yli yu0 yu1 yu2 ylu yy0 yy1 yy2 yly ye0 ye1 ye2 yle yf0 yf1 yf2 ylf qv qz qt
      replace LW := hid (LW.out.below b)
      replace Xa := hid (SlT.lift Xa.out b)
      replace Ga := hid (Ga.out.lift b)
      replace Xb := hid (SlT.lift Xb.out b)
      replace Gb := hid (Gb.out.lift b)
      replace Xc := hid (SlT.lift Xc.out b)
      replace Gc := hid (Gc.out.lift b)
      replace Xd := hid (SlT.lift Xd.out b)
      replace Gd := hid (Gd.out.lift b)
      replace Xi := hid (SlT.lift Xi.out b)
      replace Gi := hid (Gi.out.lift b)
      replace Xu := hid (SlT.lift Xu.out b)
      replace Gu := hid (Gu.out.lift b)
      replace Xy := hid (SlT.lift Xy.out b)
      replace Gy := hid (Gy.out.lift b)
      replace Xe := hid (SlT.lift Xe.out b)
      replace Xf := hid (SlT.lift Xf.out b)
      replace Ge := hid (Ge.out.lift b)
      replace Gf := hid (Gf.out.lift b)
      replace E := E.trans (b.mono E.size)
      clear b
      clear Gd Gi Gu Gy Ge Gf Xd Xi Xu Xy Xe Xf LW HT HRT HRS HSZT HSZS lT lS li lu ly
      go_upto_if 224 with fail
      go_cut [] from 223 (fun wx => Below wb90.heap.size wb90 wx)
      case first =>
        as_aux_lemma =>
          clear PRL FRL Ga Gc Xa Xc E
          by_cases hh2 : Fh2 = 0
          · subst hh2
            obtain ⟨⟨v0, v1⟩, ⟨c1, E1, l1⟩, gr1⟩ := HVL.out rfl
            have HE1 := hid E1
            have GR := hid gr1
            have kb0 := Gb.out.c0
            have kb1 := Gb.out.c1
            have kb2 := Gb.out.c2
            clear HVL E1 gr1
            go_wp2_with fail
            refine (implPriceFor_any Ab xb.length cb xb hb eb Fh1 mb zb wb90 wb90.heap.size (Nat.le_refl _) (by omega) Xb.out).mono ?_
            rintro r w5 ⟨rfl, b5⟩
            rw [HE1.out]
            simp only [pairI]
            have n1 : ¬ gb < c1 := by omega
            have Xb5 := hid (SlT.lift Xb.out b5)
            have Gb5 := hid (Gb.out.lift b5)
            clear kb0 kb1 kb2 Xb Gb HE1
            by_cases h5 : Fh1 < 5000
            · have kb0 := Gb5.out.c0
              have kb1 := Gb5.out.c1
              have kb2 := Gb5.out.c2
              obtain ⟨F, hF⟩ : ∃ F, F = priceF xb hb eb (Fh1 + 1) mb zb := ⟨_, rfl⟩
              have hf2 : F.2 = 0 → gb < F.1 := fun h => GR.out F.1 (by rw [← hF, ← h])
              have HF := hid hF
              have wF : IntKind.i64.wrap (Fh1 + 1) = Fh1 + 1 := IntWalk.i64_in _ (by omega)
              have HF2 := hid hf2
              clear hF GR hf2
              go_wp2_with fail
              refine (implPriceFor_any Ab xb.length cb xb hb eb (Fh1 + 1) mb zb w5 w5.heap.size (Nat.le_refl _) (by omega) Xb5.out).mono ?_
              rintro r w6 ⟨rfl, b6⟩
              rw [← HF.out]
              simp only [pairI]
              obtain ⟨F1, F2⟩ := F
              have bb := b5.trans (b6.mono b5.size)
              have hf3 := HF2.out
              simp only at hf3
              clear HF HF2 kb0 kb1 kb2 Xb5 Gb5 b5 b6
              by_cases hz : F2 = 0
              · subst hz
                have n2 : ¬ F1 ≤ gb := by have := hf3 rfl; omega
                clear hf3
                go_wp2_with fail
                go_meet
                case rel => exact bb
              · have q0 : (F2 == 0) = false := by simpa using hz
                clear hf3
                go_wp2_with fail
                go_meet
                case rel => exact bb
            · clear GR Xb5 Gb5
              go_wp2_with fail
              go_meet
              case rel => exact b5
          · have q0 : (Fh2 == 0) = false := by simpa using hh2
            go_wp2_with fail
            go_meet
            case rel => exact Below.refl _ _
      case rest =>
        as_aux_lemma =>
          clear HVL
          obtain ⟨wbk1, rfl⟩ : ∃ W : World, W = wc := ⟨_, rfl⟩
          have b := hcut
          clear hcut
          replace Xa := hid (SlT.lift Xa.out b)
          replace Ga := hid (Ga.out.lift b)
          replace Xb := hid (SlT.lift Xb.out b)
          replace Gb := hid (Gb.out.lift b)
          replace Xc := hid (SlT.lift Xc.out b)
          replace Gc := hid (Gc.out.lift b)
          replace E := E.trans (b.mono E.size)
          clear b
          clear Gb Xb
          go_upto_if 259 with fail
          go_cut [] from 258 (fun wx => Below wbk1.heap.size wbk1 wx)
          case first =>
            as_aux_lemma =>
              clear PRL Ga Xa E
              by_cases hf2 : Ff2 = 0
              · subst hf2
                obtain ⟨⟨v0, v1⟩, ⟨c1, E1, l1⟩, gr1⟩ := FRL.out rfl
                have HE1 := hid E1
                have GR := hid gr1
                have kb0 := Gc.out.c0
                have kb1 := Gc.out.c1
                have kb2 := Gc.out.c2
                clear FRL E1 gr1
                go_wp2_with fail
                refine (implPriceFor_any Ac xc.length cc0 xc hc ec mc Ff1 zc wbk1 wbk1.heap.size (Nat.le_refl _) (by omega) Xc.out).mono ?_
                rintro r w5 ⟨rfl, b5⟩
                rw [HE1.out]
                simp only [pairI]
                have n1 : ¬ gc < c1 := by omega
                have Xb5 := hid (SlT.lift Xc.out b5)
                have Gb5 := hid (Gc.out.lift b5)
                clear kb0 kb1 kb2 Xc Gc HE1
                by_cases h5 : Ff1 < 20000
                · have kb0 := Gb5.out.c0
                  have kb1 := Gb5.out.c1
                  have kb2 := Gb5.out.c2
                  obtain ⟨c2, E2, l2⟩ := GR.out h5
                  have HE2 := hid E2
                  have wF : IntKind.i64.wrap (Ff1 + 1) = Ff1 + 1 := IntWalk.i64_in _ (by omega)
                  clear GR E2
                  go_wp2_with fail
                  refine (implPriceFor_any Ac xc.length cc0 xc hc ec mc (Ff1 + 1) zc w5 w5.heap.size (Nat.le_refl _) (by omega) Xb5.out).mono ?_
                  rintro r w6 ⟨rfl, b6⟩
                  rw [HE2.out]
                  simp only [pairI]
                  have bb := b5.trans (b6.mono b5.size)
                  have n2 : ¬ c2 ≤ gc := by omega
                  clear HE2 kb0 kb1 kb2 Xb5 Gb5 b5 b6
                  go_wp2_with fail
                  go_meet
                  case rel => exact bb
                · clear GR Xb5 Gb5
                  go_wp2_with fail
                  go_meet
                  case rel => exact b5
              · have q0 : (Ff2 == 0) = false := by simpa using hf2
                go_wp2_with fail
                go_meet
                case rel => exact Below.refl _ _
          case rest =>
            as_aux_lemma =>
              clear FRL
              obtain ⟨wbk2, rfl⟩ : ∃ W : World, W = wc := ⟨_, rfl⟩
              have b := hcut
              clear hcut
              replace Xa := hid (SlT.lift Xa.out b)
              replace Ga := hid (Ga.out.lift b)
              replace Xc := hid (SlT.lift Xc.out b)
              replace Gc := hid (Gc.out.lift b)
              replace E := E.trans (b.mono E.size)
              clear b
              clear Gc Xc
              by_cases hp : Fp2 = 0
              · subst hp
                obtain ⟨p0, ⟨g0, g1⟩, mono, c2, E2, l2⟩ := PRL.out rfl
                have HE2 := hid E2
                have HM := hid mono
                clear PRL E2 mono
                by_cases h5 : ga < 20000
                · obtain ⟨c1, E1, l1⟩ := HM.out h5
                  have HE1 := hid E1
                  have wF : IntKind.i64.wrap (ga + 1) = ga + 1 := IntWalk.i64_in _ (by omega)
                  have k0 := Ga.out.c0
                  have k1 := Ga.out.c1
                  have k2 := Ga.out.c2
                  clear HM E1
                  go_wp2_with fail
                  refine (implPriceFor_any Aa xa.length ca xa ha ea ma (ga + 1) za wbk2 wbk2.heap.size (Nat.le_refl _) (by omega) Xa.out).mono ?_
                  rintro r w5 ⟨rfl, b5⟩
                  rw [HE1.out]
                  simp only [pairI]
                  have n1 : ¬ c1 < Fp1 := by omega
                  have X5 := hid (SlT.lift Xa.out b5)
                  have G5 := hid (Ga.out.lift b5)
                  clear k0 k1 k2 Xa Ga HE1
                  have k0 := G5.out.c0
                  have k1 := G5.out.c1
                  have k2 := G5.out.c2
                  have E5 := E.trans (b5.mono E.size)
                  go_wp2_with fail
                  refine (implPriceFor_any Aa xa.length ca xa ha ea ma ga false w5 w5.heap.size (Nat.le_refl _) (by omega) X5.out).mono ?_
                  rintro r w6 ⟨rfl, b6⟩
                  rw [HE2.out]
                  simp only [pairI]
                  have E6 := E5.trans (b6.mono E5.size)
                  clear k0 k1 k2 X5 G5 HE2 b5 b6 E E5
                  go_wp2_with fail
                  go_ret
                  exact ⟨rfl, E6⟩
                · have k0 := Ga.out.c0
                  have k1 := Ga.out.c1
                  have k2 := Ga.out.c2
                  clear HM
                  go_wp2_with fail
                  refine (implPriceFor_any Aa xa.length ca xa ha ea ma ga false wbk2 wbk2.heap.size (Nat.le_refl _) (by omega) Xa.out).mono ?_
                  rintro r w6 ⟨rfl, b6⟩
                  rw [HE2.out]
                  simp only [pairI]
                  have E6 := E.trans (b6.mono E.size)
                  clear k0 k1 k2 Xa Ga HE2 b6 E
                  go_wp2_with fail
                  go_ret
                  exact ⟨rfl, E6⟩
              · have q0 : (Fp2 != 0) = true := by simpa using hp
                clear PRL Ga Xa
                go_wp2_with fail
                go_ret
                exact ⟨rfl, E⟩
end Go.Proofs.YtngfhpklakhehaaGreatDoor
