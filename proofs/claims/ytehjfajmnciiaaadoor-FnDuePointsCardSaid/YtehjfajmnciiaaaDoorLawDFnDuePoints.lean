/-
  The statement on points that are due, walked. No condition.
-/
import Derived.Test.YtehjfajmnciiaaaDoorDDraw3
import Derived.Test.YtehjfajmnciiaaaDoorDPlain
import Derived.Test.YtehjfajmnciiaaaDoorKPoint
import Derived.Test.YtehjfajmnciiaaaDoorLHelp
import Derived.Test.YtehjfajmnciiaaaDoorAfter
import Derived.Deep.Cut
import Derived.Test.YtehjfajmnciiaaaDoorBOpen
namespace Go.Proofs.YtehjfajmnciiaaaDoor
open Go.RowKit
set_option maxHeartbeats 400000

theorem SlG.lift {α : Type} {w w' : World} {k n : Nat} {enc : α → List Value} {A : Option Addr} {xs : List α} (h : Sl w w.heap.size k enc A n xs) (hb : Below w.heap.size w w') : Sl w' w'.heap.size k enc A n xs := (h.below hb).more hb.size
/-- two cells of a block -/
structure At2 (w : World) (g : Nat) (u v : Value) : Prop where
  c0 : w.cell? ⟨g, 0, none⟩ = some u
  c1 : w.cell? ⟨g, 1, none⟩ = some v
theorem At2.lift {w w' : World} {g : Nat} {u v : Value} (h : At2 w g u v) (hb : Below w.heap.size w w') : At2 w' g u v := ⟨below_cell h.c0 hb, below_cell h.c1 hb⟩
theorem At2.lt {w : World} {g : Nat} {u v : Value} (h : At2 w g u v) : g < w.heap.size := World.block_lt_of_cell? _ _ h.c0
/-- what the test ahead of the second loop leaves -/
def TestB (q fr to : Int) (W : World) (s : Value) (wx : World) : Prop := ∃ b : Bool, s = .bool b ∧ (b = true → q = 0 ∧ fr < to) ∧ wx = W
theorem TestB.yes {fr to : Int} {W : World} (h : fr < to) : TestB 0 fr to W (.bool true) W := ⟨true, rfl, fun _ => ⟨rfl, h⟩, rfl⟩
theorem TestB.no {q fr to : Int} {W : World} : TestB q fr to W (.bool false) W := ⟨false, rfl, (fun h => by cases h), rfl⟩
theorem specValidPoints_any (A : Option Addr) (n c : Nat) (xs : List Point) (w : World) (B : Nat) (hB : B ≤ w.heap.size) (hn : n ≤ 2000000) (hx : Sl w B 2 encPoint A n xs) :
    Calls Tryd.prog 29 #[.slice A n c] w fun e w' => e = .returned (.bool (validPts xs)) ∧ Below w.heap.size w w' := by
  have hc := l19OkB_any A n c xs w B hB hn hx
  clear hx
  generalize validPts xs = q at hc
  go_enter Tryd.func29, Tryd.ntmps29
  go_wp2_with fail
  refine hc.mono ?_
  rintro r w1 ⟨rfl, b1⟩
  clear hc
  go_wp2_with fail
  go_ret
  exact ⟨rfl, b1⟩
set_option maxHeartbeats 32000000 in
set_option maxRecDepth 100000 in
theorem FnDuePoints_walk (v : Value) (w : World) (hv : Bytes w w.heap.size 9223372036854775807 v) (htab : TabW w) :
    Calls Tryd.prog 3 #[v] w fun r w' => r = .returned (.bool true) ∧ Below w.heap.size w w' := by
  obtain ⟨A0, n0, c0, bs, rfl, hn, hbx, hbz⟩ := hv
  have hbig := fun W => f6big_any A0 n0 c0 W hn
  by_cases h4 : 4096 < n0
  · have e : decide (4096 < n0) = true := by simpa using h4
    rw [e] at hbig
    clear hbx hbz h4 e
    go_enter Tryd.func3, Tryd.ntmps3
    go_wp2_with fail
    refine (hbig _).mono ?_
    rintro r w1 ⟨rfl, e⟩
    replace e := e.symm
    subst e
    go_wp2_with fail
    go_ret
    exact ⟨rfl, Below.refl _ _⟩
  · have e : decide (4096 < n0) = false := by simpa using h4
    rw [e] at hbig
    have hv : Bytes w w.heap.size 5000 (.slice A0 n0 c0) := ⟨A0, n0, c0, bs, rfl, by omega, hbx, hbz⟩
    have HV := hid hv
    have TW := hid htab
    clear hbx hbz h4 e hv htab
    go_enter Tryd.func3, Tryd.ntmps3
    go_wp2_with fail
    refine (hbig _).mono ?_
    rintro r w1 ⟨rfl, e⟩
    replace e := e.symm
    subst e
    clear hbig
    have E := Below.refl w.heap.size w
    go_wp2_with fail
    have cc := DrawDueOn_any (.slice A0 n0 c0) w ((HV.out.below E).more E.size)
    refine cc.mono ?_
    rintro r wv1 ⟨Al, cl, xsl, d, rfl, hxl, d0, d1, Xl, b⟩
    clear cc
    replace TW := hid (TW.out.below b)
    replace E := E.trans (b.mono E.size)
    clear b
    obtain ⟨Fu, hFu⟩ : ∃ F, F = dueF xsl d := ⟨_, rfl⟩
    have lu : Fu.1.length ≤ 2000000 := by rw [hFu]; exact dueF_len xsl d (by omega)
    have duel : Fu.2 = 0 → validPts xsl = true ∧ 0 ≤ d ∧ d ≤ 100000 ∧ ∀ i : Nat, i < xsl.length → hasI Fu.1 i = decide (dueD (pAt xsl i) ≤ d) := fun h => by
      rw [hFu] at h ⊢
      have hc : codeP xsl d = 0 := by
        unfold dueF at h
        split at h
        · assumption
        · exact h
      exact ⟨(codeP_zero hc).1, (codeP_zero hc).2.1, (codeP_zero hc).2.2, fun i hi => due_law hc hi⟩
    have DUE := hid duel
    clear duel
    have HFu := hid hFu
    clear hFu
    obtain ⟨Fu1, Fu2⟩ := Fu
    simp only at lu DUE
    obtain ⟨Ft, hFt⟩ : ∃ F, F = lateF xsl d := ⟨_, rfl⟩
    have HFt := hid hFt
    clear hFt
    obtain ⟨Ft1, Ft2⟩ := Ft
    obtain ⟨Fn, hFn⟩ : ∃ F, F = nextF xsl := ⟨_, rfl⟩
    have nextl : validPts xsl = true → ∀ i : Nat, i < xsl.length → Fn.1 ≤ dueD (pAt xsl i) := fun h i hi => by rw [hFn]; exact next_law h hi
    have NXT := hid nextl
    clear nextl
    have HFn := hid hFn
    clear hFn
    obtain ⟨Fn1, Fn2⟩ := Fn
    simp only at NXT
    go_wp2_with fail
    have cc := implDueOn_any Al xsl.length cl xsl d wv1 wv1.heap.size (Nat.le_refl _) (by omega) Xl.out
    refine cc.mono ?_
    rintro r wv2 ⟨Adu, ndu, cdu, rfl, odu, b⟩
    clear cc
    replace TW := hid (TW.out.below b)
    replace Xl := hid (SlG.lift Xl.out b)
    replace E := E.trans (b.mono E.size)
    rw [← HFu.out]
    rw [← HFu.out] at odu
    simp only at odu
    obtain rfl := own_len encI_len (by omega) odu
    have Ldu := hid (own_sl encI_len (by omega) odu)
    clear odu
    clear b
    go_wp2_with fail
    have cc := specDueOn_any Al xsl.length cl xsl d wv2 wv2.heap.size (Nat.le_refl _) (by omega) Xl.out
    refine cc.mono ?_
    rintro r wv3 ⟨Adm, ndm, cdm, rfl, odm, b⟩
    clear cc
    replace TW := hid (TW.out.below b)
    replace Xl := hid (SlG.lift Xl.out b)
    replace Ldu := hid (SlG.lift Ldu.out b)
    replace E := E.trans (b.mono E.size)
    rw [← HFu.out]
    rw [← HFu.out] at odm
    simp only at odm
    obtain rfl := own_len encI_len (by omega) odm
    have Ldm := hid (own_sl encI_len (by omega) odm)
    clear odm
    clear b
    go_wp2_with fail
    have cc := implLateBy_any Al xsl.length cl xsl d wv3 wv3.heap.size (Nat.le_refl _) (by omega) Xl.out
    refine cc.mono ?_
    rintro r wv4 ⟨rfl, b⟩
    clear cc
    replace TW := hid (TW.out.below b)
    replace Xl := hid (SlG.lift Xl.out b)
    replace Ldu := hid (SlG.lift Ldu.out b)
    replace Ldm := hid (SlG.lift Ldm.out b)
    replace E := E.trans (b.mono E.size)
    rw [← HFt.out]
    clear b
    go_wp2_with fail
    have cc := specLateBy_any Al xsl.length cl xsl d wv4 wv4.heap.size (Nat.le_refl _) (by omega) Xl.out
    refine cc.mono ?_
    rintro r wv5 ⟨rfl, b⟩
    clear cc
    replace TW := hid (TW.out.below b)
    replace Xl := hid (SlG.lift Xl.out b)
    replace Ldu := hid (SlG.lift Ldu.out b)
    replace Ldm := hid (SlG.lift Ldm.out b)
    replace E := E.trans (b.mono E.size)
    rw [← HFt.out]
    clear b
    go_wp2_with fail
    have cc := implNextDue_any Al xsl.length cl xsl wv5 wv5.heap.size (Nat.le_refl _) (by omega) Xl.out
    refine cc.mono ?_
    rintro r wv6 ⟨rfl, b⟩
    clear cc
    replace TW := hid (TW.out.below b)
    replace Xl := hid (SlG.lift Xl.out b)
    replace Ldu := hid (SlG.lift Ldu.out b)
    replace Ldm := hid (SlG.lift Ldm.out b)
    replace E := E.trans (b.mono E.size)
    rw [← HFn.out]
    clear b
    go_wp2_with fail
    have cc := specNextDue_any Al xsl.length cl xsl wv6 wv6.heap.size (Nat.le_refl _) (by omega) Xl.out
    refine cc.mono ?_
    rintro r wv7 ⟨rfl, b⟩
    clear cc
    replace TW := hid (TW.out.below b)
    replace Xl := hid (SlG.lift Xl.out b)
    replace Ldu := hid (SlG.lift Ldu.out b)
    replace Ldm := hid (SlG.lift Ldm.out b)
    replace E := E.trans (b.mono E.size)
    rw [← HFn.out]
    clear b
    go_wp2_with fail
    have cc := DrawDonePoints_any (.slice A0 n0 c0) wv7 ((HV.out.below E).more E.size)
    refine cc.mono ?_
    rintro r wv8 ⟨Aa, ca, xsa, As, cs, ks, on, rfl, hxa, hks, on0, on1, Xa, Ls, b⟩
    clear cc
    replace TW := hid (TW.out.below b)
    replace Xl := hid (SlG.lift Xl.out b)
    replace Ldu := hid (SlG.lift Ldu.out b)
    replace Ldm := hid (SlG.lift Ldm.out b)
    replace E := E.trans (b.mono E.size)
    clear b
    obtain ⟨Fd, hFd⟩ : ∃ F, F = doneF xsa ks on := ⟨_, rfl⟩
    have ld : Fd.1.length ≤ 2000000 := by rw [hFd]; exact doneF_len xsa ks on (by omega)
    have donel : Fd.2 = 0 → validPts Fd.1 = true ∧ Fd.1.length = xsa.length ∧ validPts xsa = true ∧ 0 ≤ on ∧ on ≤ 100000 ∧ ∀ z ∈ ks, ∃ j : Nat, z = j ∧ j < xsa.length ∧ dueD (pAt Fd.1 j) = on + (pAt xsa j).i := fun h => by rw [hFd] at h ⊢; exact done_law h
    have DN := hid donel
    clear donel
    have HFd := hid hFd
    clear hFd
    obtain ⟨Fd1, Fd2⟩ := Fd
    simp only at ld DN
    go_wp2_with fail
    have cc := implDonePoints_any Aa xsa.length ca xsa As ks.length cs ks on wv8 wv8.heap.size (Nat.le_refl _) (by omega) (by omega) Xa.out Ls.out
    refine cc.mono ?_
    rintro r wv9 ⟨Adn, ndn, cdn, rfl, odn, b⟩
    clear cc
    replace TW := hid (TW.out.below b)
    replace Xl := hid (SlG.lift Xl.out b)
    replace Ldu := hid (SlG.lift Ldu.out b)
    replace Ldm := hid (SlG.lift Ldm.out b)
    replace Xa := hid (SlG.lift Xa.out b)
    replace Ls := hid (SlG.lift Ls.out b)
    replace E := E.trans (b.mono E.size)
    rw [← HFd.out]
    rw [← HFd.out] at odn
    simp only at odn
    obtain rfl := own_len encPoint_len (by omega) odn
    have Xdn := hid (own_slP odn)
    clear odn
    clear b
    go_wp2_with fail
    have cc := specDonePoints_any Aa xsa.length ca xsa As ks.length cs ks on wv9 wv9.heap.size (Nat.le_refl _) (by omega) (by omega) Xa.out Ls.out
    refine cc.mono ?_
    rintro r wv10 ⟨Aaf, naf, caf, rfl, oaf, b⟩
    clear cc
    replace TW := hid (TW.out.below b)
    replace Xl := hid (SlG.lift Xl.out b)
    replace Ldu := hid (SlG.lift Ldu.out b)
    replace Ldm := hid (SlG.lift Ldm.out b)
    replace Xa := hid (SlG.lift Xa.out b)
    replace Ls := hid (SlG.lift Ls.out b)
    replace Xdn := hid (SlG.lift Xdn.out b)
    replace E := E.trans (b.mono E.size)
    rw [← HFd.out]
    rw [← HFd.out] at oaf
    simp only at oaf
    obtain rfl := own_len encPoint_len (by omega) oaf
    have Xaf := hid (own_slP oaf)
    clear oaf
    clear b
    go_wp2_with fail
    have cc := DrawVisitsBetween_any (.slice A0 n0 c0) wv10 ((HV.out.below E).more E.size)
    refine cc.mono ?_
    rintro r wv11 ⟨Ab, cb, xsb, fr, to, rfl, hxb, fr0, fr1, to0, to1, Xb, b⟩
    clear cc
    replace TW := hid (TW.out.below b)
    replace Xl := hid (SlG.lift Xl.out b)
    replace Ldu := hid (SlG.lift Ldu.out b)
    replace Ldm := hid (SlG.lift Ldm.out b)
    replace Xa := hid (SlG.lift Xa.out b)
    replace Ls := hid (SlG.lift Ls.out b)
    replace Xdn := hid (SlG.lift Xdn.out b)
    replace Xaf := hid (SlG.lift Xaf.out b)
    replace E := E.trans (b.mono E.size)
    clear b
    obtain ⟨Fv, hFv⟩ : ∃ F, F = visF xsb fr to := ⟨_, rfl⟩
    have lv : Fv.1.length ≤ 2000000 := by rw [hFv]; exact visF_len xsb fr to (by omega)
    have visl : Fv.2 = 0 → fr < to → 0 ≤ fr ∧ to ≤ 100000 ∧ Fv.1.length = xsb.length ∧ visF xsb (fr + 1) to = (xsb.map (visV (fr + 1) to), 0) ∧ ∀ (i : Nat) (u v : Int), Fv.1[i]? = some u → (xsb.map (visV (fr + 1) to))[i]? = some v → (v ≤ u ∧ u ≤ v + 1) ∧ -100001 ≤ v ∧ v ≤ 100001 := fun h hlt => by
      rw [hFv] at h ⊢
      obtain ⟨h1, h2, h3, h4⟩ := vis_code h
      refine ⟨h3, h4, by rw [h2, List.length_map], vis_law h hlt, fun i u v hu hv => ?_⟩
      rw [h2] at hu
      exact ⟨vis_at h1 hu hv, vis_bd h1 (by omega) h4 (by omega) hv⟩
    have VIS := hid visl
    clear visl
    have HFv := hid hFv
    clear hFv
    obtain ⟨Fv1, Fv2⟩ := Fv
    simp only at lv VIS
    go_wp2_with fail
    have cc := implVisitsBetween_any Ab xsb.length cb xsb fr to wv11 wv11.heap.size (Nat.le_refl _) (by omega) Xb.out
    refine cc.mono ?_
    rintro r wv12 ⟨Avi, nvi, cvi, rfl, ovi, b⟩
    clear cc
    replace TW := hid (TW.out.below b)
    replace Xl := hid (SlG.lift Xl.out b)
    replace Ldu := hid (SlG.lift Ldu.out b)
    replace Ldm := hid (SlG.lift Ldm.out b)
    replace Xa := hid (SlG.lift Xa.out b)
    replace Ls := hid (SlG.lift Ls.out b)
    replace Xdn := hid (SlG.lift Xdn.out b)
    replace Xaf := hid (SlG.lift Xaf.out b)
    replace Xb := hid (SlG.lift Xb.out b)
    replace E := E.trans (b.mono E.size)
    rw [← HFv.out]
    rw [← HFv.out] at ovi
    simp only at ovi
    obtain rfl := own_len encI_len (by omega) ovi
    have Lvi := hid (own_sl encI_len (by omega) ovi)
    clear ovi
    clear b
    go_wp2_with fail
    have cc := specVisitsBetween_any Ab xsb.length cb xsb fr to wv12 wv12.heap.size (Nat.le_refl _) (by omega) Xb.out
    refine cc.mono ?_
    rintro r wv13 ⟨Avt, nvt, cvt, rfl, ovt, b⟩
    clear cc
    replace TW := hid (TW.out.below b)
    replace Xl := hid (SlG.lift Xl.out b)
    replace Ldu := hid (SlG.lift Ldu.out b)
    replace Ldm := hid (SlG.lift Ldm.out b)
    replace Xa := hid (SlG.lift Xa.out b)
    replace Ls := hid (SlG.lift Ls.out b)
    replace Xdn := hid (SlG.lift Xdn.out b)
    replace Xaf := hid (SlG.lift Xaf.out b)
    replace Xb := hid (SlG.lift Xb.out b)
    replace Lvi := hid (SlG.lift Lvi.out b)
    replace E := E.trans (b.mono E.size)
    rw [← HFv.out]
    rw [← HFv.out] at ovt
    simp only at ovt
    obtain rfl := own_len encI_len (by omega) ovt
    have Lvt := hid (own_sl encI_len (by omega) ovt)
    clear ovt
    clear b
    go_wp2_with fail
    have cc := DrawDueDay_any (.slice A0 n0 c0) wv13 ((HV.out.below E).more E.size)
    refine cc.mono ?_
    rintro r wv14 ⟨Ac, cc0, xsc, kk, rfl, hxc, kk0, kk1, Xc, b⟩
    clear cc
    replace TW := hid (TW.out.below b)
    replace Xl := hid (SlG.lift Xl.out b)
    replace Ldu := hid (SlG.lift Ldu.out b)
    replace Ldm := hid (SlG.lift Ldm.out b)
    replace Xa := hid (SlG.lift Xa.out b)
    replace Ls := hid (SlG.lift Ls.out b)
    replace Xdn := hid (SlG.lift Xdn.out b)
    replace Xaf := hid (SlG.lift Xaf.out b)
    replace Xb := hid (SlG.lift Xb.out b)
    replace Lvi := hid (SlG.lift Lvi.out b)
    replace Lvt := hid (SlG.lift Lvt.out b)
    replace E := E.trans (b.mono E.size)
    clear b
    obtain ⟨Fy, hFy⟩ : ∃ F, F = dayF xsc kk := ⟨_, rfl⟩
    have HFy := hid hFy
    clear hFy
    obtain ⟨Fy1, Fy2⟩ := Fy
    go_wp2_with fail
    have cc := implDueDay_any Ac xsc.length cc0 xsc kk wv14 wv14.heap.size (Nat.le_refl _) (by omega) Xc.out
    refine cc.mono ?_
    rintro r wv15 ⟨rfl, b⟩
    clear cc
    replace TW := hid (TW.out.below b)
    replace Xl := hid (SlG.lift Xl.out b)
    replace Ldu := hid (SlG.lift Ldu.out b)
    replace Ldm := hid (SlG.lift Ldm.out b)
    replace Xa := hid (SlG.lift Xa.out b)
    replace Ls := hid (SlG.lift Ls.out b)
    replace Xdn := hid (SlG.lift Xdn.out b)
    replace Xaf := hid (SlG.lift Xaf.out b)
    replace Xb := hid (SlG.lift Xb.out b)
    replace Lvi := hid (SlG.lift Lvi.out b)
    replace Lvt := hid (SlG.lift Lvt.out b)
    replace Xc := hid (SlG.lift Xc.out b)
    replace E := E.trans (b.mono E.size)
    rw [← HFy.out]
    clear b
    go_wp2_with fail
    have cc := specDueDay_any Ac xsc.length cc0 xsc kk wv15 wv15.heap.size (Nat.le_refl _) (by omega) Xc.out
    refine cc.mono ?_
    rintro r wv16 ⟨rfl, b⟩
    clear cc
    replace TW := hid (TW.out.below b)
    replace Xl := hid (SlG.lift Xl.out b)
    replace Ldu := hid (SlG.lift Ldu.out b)
    replace Ldm := hid (SlG.lift Ldm.out b)
    replace Xa := hid (SlG.lift Xa.out b)
    replace Ls := hid (SlG.lift Ls.out b)
    replace Xdn := hid (SlG.lift Xdn.out b)
    replace Xaf := hid (SlG.lift Xaf.out b)
    replace Xb := hid (SlG.lift Xb.out b)
    replace Lvi := hid (SlG.lift Lvi.out b)
    replace Lvt := hid (SlG.lift Lvt.out b)
    replace Xc := hid (SlG.lift Xc.out b)
    replace E := E.trans (b.mono E.size)
    rw [← HFy.out]
    clear b
    go_wp2_with fail
    have cc := DrawSamePoints_any (.slice A0 n0 c0) wv16 ((HV.out.below E).more E.size)
    refine cc.mono ?_
    rintro r wv17 ⟨Ap, cp, xsp, Aq, cq, xsq, rfl, hxp, hxq, Xp, Xq, b⟩
    clear cc
    replace TW := hid (TW.out.below b)
    replace Xl := hid (SlG.lift Xl.out b)
    replace Ldu := hid (SlG.lift Ldu.out b)
    replace Ldm := hid (SlG.lift Ldm.out b)
    replace Xa := hid (SlG.lift Xa.out b)
    replace Ls := hid (SlG.lift Ls.out b)
    replace Xdn := hid (SlG.lift Xdn.out b)
    replace Xaf := hid (SlG.lift Xaf.out b)
    replace Xb := hid (SlG.lift Xb.out b)
    replace Lvi := hid (SlG.lift Lvi.out b)
    replace Lvt := hid (SlG.lift Lvt.out b)
    replace Xc := hid (SlG.lift Xc.out b)
    replace E := E.trans (b.mono E.size)
    clear b
    go_wp2_with fail
    have cc := DrawPointText_any (.slice A0 n0 c0) wv17 ((HV.out.below E).more E.size)
    refine cc.mono ?_
    rintro r wv18 ⟨px, py, rfl, b⟩
    clear cc
    replace TW := hid (TW.out.below b)
    replace Xl := hid (SlG.lift Xl.out b)
    replace Ldu := hid (SlG.lift Ldu.out b)
    replace Ldm := hid (SlG.lift Ldm.out b)
    replace Xa := hid (SlG.lift Xa.out b)
    replace Ls := hid (SlG.lift Ls.out b)
    replace Xdn := hid (SlG.lift Xdn.out b)
    replace Xaf := hid (SlG.lift Xaf.out b)
    replace Xb := hid (SlG.lift Xb.out b)
    replace Lvi := hid (SlG.lift Lvi.out b)
    replace Lvt := hid (SlG.lift Lvt.out b)
    replace Xc := hid (SlG.lift Xc.out b)
    replace Xp := hid (SlG.lift Xp.out b)
    replace Xq := hid (SlG.lift Xq.out b)
    replace E := E.trans (b.mono E.size)
    clear b
    obtain ⟨wv19, hwv19⟩ : ∃ W, W = wv18.alloc (.cells #[.int .i64 px, .int .i64 py] 42) := ⟨_, rfl⟩
    have b : Below wv18.heap.size wv18 wv19 := by rw [hwv19]; exact (Below.refl _ _).alloc (Nat.le_refl _) _
    obtain ⟨gx, egx⟩ : ∃ g, g = wv18.heap.size := ⟨_, rfl⟩
    have ax : At2 wv19 gx (.int .i64 px) (.int .i64 py) := by rw [hwv19, egx]; exact ⟨(World.cell?_alloc_at _ _ _ _ rfl).trans rfl, (World.cell?_alloc_at _ _ _ _ rfl).trans rfl⟩
    replace TW := hid (TW.out.below b)
    replace Xl := hid (SlG.lift Xl.out b)
    replace Ldu := hid (SlG.lift Ldu.out b)
    replace Ldm := hid (SlG.lift Ldm.out b)
    replace Xa := hid (SlG.lift Xa.out b)
    replace Ls := hid (SlG.lift Ls.out b)
    replace Xdn := hid (SlG.lift Xdn.out b)
    replace Xaf := hid (SlG.lift Xaf.out b)
    replace Xb := hid (SlG.lift Xb.out b)
    replace Lvi := hid (SlG.lift Lvi.out b)
    replace Lvt := hid (SlG.lift Lvt.out b)
    replace Xc := hid (SlG.lift Xc.out b)
    replace Xp := hid (SlG.lift Xp.out b)
    replace Xq := hid (SlG.lift Xq.out b)
    replace E := E.trans (b.mono E.size)
    have HW := hid hwv19
    have HX := hid egx
    have Gx := hid ax
    clear b hwv19 egx ax
    as_aux_lemma =>
      have sy : samePts Fd1 Fd1 = true := by simp [samePts]
      obtain ⟨sm, hsm⟩ : ∃ s, s = samePts xsp xsq := ⟨_, rfl⟩
      obtain ⟨tx, htx⟩ : ∃ s, s = pointF px py := ⟨_, rfl⟩
      obtain ⟨vl, hvl⟩ : ∃ s, s = validPts xsl := ⟨_, rfl⟩
      have C1 := fun i : After wv19 => f6ints_yes Adu Fu1.length cdu Adm Fu1.length cdm Fu1 i.w i.w.heap.size (by omega) (SlG.lift Ldu.out i.below) (SlG.lift Ldm.out i.below)
      have C2 := fun i : After wv19 => specSamePoints_any Adn Fd1.length cdn Aaf Fd1.length caf Fd1 Fd1 i.w i.w.heap.size (Nat.le_refl _) (by omega) (by omega) (SlG.lift Xdn.out i.below) (SlG.lift Xaf.out i.below)
      have C3 := fun i : After wv19 => f6ints_yes Avi Fv1.length cvi Avt Fv1.length cvt Fv1 i.w i.w.heap.size (by omega) (SlG.lift Lvi.out i.below) (SlG.lift Lvt.out i.below)
      have C4 := fun i : After wv19 => implSamePoints_any Ap xsp.length cp Aq xsq.length cq xsp xsq i.w i.w.heap.size (Nat.le_refl _) (by omega) (by omega) (SlG.lift Xp.out i.below) (SlG.lift Xq.out i.below)
      have C5 := fun i : After wv19 => specSamePoints_any Ap xsp.length cp Aq xsq.length cq xsp xsq i.w i.w.heap.size (Nat.le_refl _) (by omega) (by omega) (SlG.lift Xp.out i.below) (SlG.lift Xq.out i.below)
      have C6 := fun i : After wv19 => implPointText_any px py i.w (TW.out.below i.below)
      have C7 := fun i : After wv19 => specPointText_any px py i.w
      have C8 := fun i : After wv19 => ValidPoints_any Al xsl.length cl xsl i.w i.w.heap.size (Nat.le_refl _) (by omega) (SlG.lift Xl.out i.below)
      have C9 := fun i : After wv19 => specValidPoints_any Al xsl.length cl xsl i.w i.w.heap.size (Nat.le_refl _) (by omega) (SlG.lift Xl.out i.below)
      rw [sy] at C2
      rw [← hsm] at C4 C5
      rw [← htx] at C6 C7
      rw [← hvl] at C8 C9
      have gx0 : ∀ i : After wv19, i.w.cell? ⟨gx, 0, none⟩ = some (.int .i64 px) := After.cell Gx.out.c0
      have gx1 : ∀ i : After wv19, i.w.cell? ⟨gx, 1, none⟩ = some (.int .i64 py) := After.cell Gx.out.c1
      have gxl : ∀ i : After wv19, gx < i.w.heap.size := fun i => Nat.lt_of_lt_of_le Gx.out.lt i.below.size
      have qs : (sm != sm) = false := by simp
      have qv : (vl != vl) = false := by simp
      have qt : (tx.toList == tx.toList) = true := by simp
      clear sy hsm htx hvl
      go_wp2_with fail
      rw [← HW.out, ← HX.out]
      clear HW HX
      dsimp only [List.append]
      refine wp_after (by kernel_rfl) (by kernel_rfl) ?_
      repeat (first | go_big_quiet_skip | (go_big_quiet_want; go_big_quiet_op; first | go_big_quiet_on | go_big_quiet_call ((first | (go_at_call 23; first | with_reducible exact Calls.after (C1 _) | with_reducible exact Calls.after (C3 _)) | (go_at_call 24; first | with_reducible exact Calls.after (C2 _) | with_reducible exact Calls.after (C5 _)) | (go_at_call 25; with_reducible exact Calls.after (C4 _)) | (go_at_call 26; with_reducible exact Calls.after (C6 _)) | (go_at_call 27; with_reducible exact Calls.after (C7 _)) | (go_at_call 28; with_reducible exact Calls.after (C8 _)) | (go_at_call 29; with_reducible exact Calls.after (C9 _))))))
      refine wpQuiet_nil ?_
      rintro wv90 ⟨i, e⟩
      have b := i.below
      rw [← e] at b
      clear e i
      clear C1 C2 C3 C4 C5 C6 C7 C8 C9 gx0 gx1 gxl qv
      replace TW := hid (TW.out.below b)
      replace Xl := hid (SlG.lift Xl.out b)
      replace Ldu := hid (SlG.lift Ldu.out b)
      replace Ldm := hid (SlG.lift Ldm.out b)
      replace Xa := hid (SlG.lift Xa.out b)
      replace Ls := hid (SlG.lift Ls.out b)
      replace Xdn := hid (SlG.lift Xdn.out b)
      replace Xaf := hid (SlG.lift Xaf.out b)
      replace Xb := hid (SlG.lift Xb.out b)
      replace Lvi := hid (SlG.lift Lvi.out b)
      replace Lvt := hid (SlG.lift Lvt.out b)
      replace Xc := hid (SlG.lift Xc.out b)
      replace Xp := hid (SlG.lift Xp.out b)
      replace Xq := hid (SlG.lift Xq.out b)
      replace Gx := hid (Gx.out.lift b)
      replace E := E.trans (b.mono E.size)
      clear b
      clear qs qt
      go_upto_if 239 with fail
      go_cut [] from 238 (fun wx => Below wv90.heap.size wv90 wx)
      case first =>
        as_aux_lemma =>
          by_cases hu2 : Fu2 = 0
          · subst hu2
            rw [show ((0 : Int) == 0) = true from rfl]
            obtain ⟨uv, ud0, ud1, uall⟩ := DUE.out rfl
            have UALL := hid uall
            have nx := NXT.out uv
            have NX := hid nx
            have HUV := hid uv
            clear uall nx uv DUE NXT
            go_wp2_with fail
            go_loopw [40] (fun i wl => ∃ k : Nat, k ≤ xsl.length ∧ i = .int .i64 k ∧ Below wv90.heap.size wv90 wl) (fun i _ => xsl.length - (intOf i).toNat)
            case atStart => exact ⟨0, Nat.zero_le _, rfl, Below.refl _ _⟩
            case round =>
              obtain ⟨k, hk, rfl, hb⟩ := hrel
              by_cases hkl : k < xsl.length
              · have xl := hid (SlG.lift Xl.out hb)
                have lm := hid (SlG.lift Ldm.out hb)
                have hun := UALL.out k hkl
                have hnx := NX.out k hkl
                have ED : Hid (dayF xsl (k : Int) = (dueD (pAt xsl k), 0)) := day_law HUV.out hkl
                generalize dueD (pAt xsl k) = dd at hun hnx ED
                have hk0 : (0 : Int) ≤ (k : Int) := by omega
                have hk1 : (k : Int) < (xsl.length : Int) := by omega
                have HUN := hid hun
                have n1 : ¬ dd < Fn1 := by omega
                have n2 : decide (dd < Fn1) = false := by simpa using n1
                clear hun hnx
                go_wp2_with fail
                refine (implDueDay_any Al xsl.length cl xsl (k : Int) wr wr.heap.size (Nat.le_refl _) (by omega) xl.out).mono ?_
                rintro r w9 ⟨rfl, b9⟩
                rw [ED.out]
                have lm9 := hid (SlG.lift lm.out b9)
                have hb9 := hb.trans (b9.mono hb.size)
                clear ED b9 xl lm hb
                have hh := HUN.out
                by_cases hdd : dd ≤ d
                · have e : hasI Fu1 (k : Int) = true := by rw [hh]; simpa using hdd
                  have HE := hid e
                  clear hh e HUN
                  go_wp2_with fail
                  refine (f6has_any Adm Fu1.length cdm Fu1 (k : Int) w9 w9.heap.size (by omega) lm9.out).mono ?_
                  rintro r w10 ⟨rfl, e⟩
                  rw [HE.out]
                  replace e := e.symm
                  subst e
                  go_wp2_with fail
                  go_roundw
                  all_goals first | exact ⟨k + 1, by omega, by go_num, hb9⟩ | exact ⟨⟨k + 1, by omega, by go_num, hb9⟩, by simp [intOf]; omega⟩ | (simp [intOf]; omega)
                · have e : hasI Fu1 (k : Int) = false := by rw [hh]; simpa using hdd
                  have HE := hid e
                  clear hh e HUN
                  go_wp2_with fail
                  refine (f6has_any Adm Fu1.length cdm Fu1 (k : Int) w9 w9.heap.size (by omega) lm9.out).mono ?_
                  rintro r w10 ⟨rfl, e⟩
                  rw [HE.out]
                  replace e := e.symm
                  subst e
                  go_wp2_with fail
                  go_roundw
                  all_goals first | exact ⟨k + 1, by omega, by go_num, hb9⟩ | exact ⟨⟨k + 1, by omega, by go_num, hb9⟩, by simp [intOf]; omega⟩ | (simp [intOf]; omega)
              · have hkn : ¬ (k : Int) < (xsl.length : Int) := by omega
                clear UALL NX hkl hk
                go_wp2_with fail
                go_meet
                case rel => exact hb
          · have q0 : (Fu2 == 0) = false := by simpa using hu2
            clear hu2
            go_wp2_with fail
            go_meet
            case rel => exact Below.refl _ _
      case rest =>
        as_aux_lemma =>
          obtain ⟨wk1, rfl⟩ : ∃ W : World, W = wc := ⟨_, rfl⟩
          have b := hcut
          clear hcut
          replace TW := hid (TW.out.below b)
          replace Xl := hid (SlG.lift Xl.out b)
          replace Ldu := hid (SlG.lift Ldu.out b)
          replace Ldm := hid (SlG.lift Ldm.out b)
          replace Xa := hid (SlG.lift Xa.out b)
          replace Ls := hid (SlG.lift Ls.out b)
          replace Xdn := hid (SlG.lift Xdn.out b)
          replace Xaf := hid (SlG.lift Xaf.out b)
          replace Xb := hid (SlG.lift Xb.out b)
          replace Lvi := hid (SlG.lift Lvi.out b)
          replace Lvt := hid (SlG.lift Lvt.out b)
          replace Xc := hid (SlG.lift Xc.out b)
          replace Xp := hid (SlG.lift Xp.out b)
          replace Xq := hid (SlG.lift Xq.out b)
          replace Gx := hid (Gx.out.lift b)
          replace E := E.trans (b.mono E.size)
          clear b
          clear DUE NXT
          go_upto_region 30 with fail
          go_cut [274] from 268 (fun s wx => TestB Fv2 fr to wk1 s wx)
          case first =>
            by_cases hv2 : Fv2 = 0
            · subst hv2
              by_cases hft : fr < to
              · go_wp2_with fail
                go_meet
                case rel => exact TestB.yes hft
              · go_wp2_with fail
                go_meet
                case rel => exact TestB.no
            · have q1 : (Fv2 == 0) = false := by simpa using hv2
              go_wp2_with fail
              go_meet
              case rel => exact TestB.no
          case rest =>
            obtain ⟨b, rfl, hbv, hw⟩ := hcut
            replace hw := hw.symm
            subst hw
            have HBV := hid hbv
            clear hbv
            go_upto_if 274 with fail
            go_cut [] from 268 (fun wx => Below wk1.heap.size wk1 wx)
            case first =>
              cases b with
              | false =>
                go_wp2_with fail
                go_meet
                case rel => exact Below.refl _ _
              | true =>
                as_aux_lemma =>
                  obtain ⟨hv2, hft⟩ := HBV.out rfl
                  subst hv2
                  have bz := Below.refl wk1.heap.size wk1
                  obtain ⟨fr2, to2, vle, vless, vall⟩ := VIS.out rfl hft
                  have VALL := hid vall
                  have VLE := hid vle
                  obtain ⟨Ls2, hLs2⟩ : ∃ L, L = xsb.map (visV (fr + 1) to) := ⟨_, rfl⟩
                  have hll : Ls2.length = xsb.length := by rw [hLs2, List.length_map]
                  rw [← hLs2] at vless VALL
                  have VL := hid vless
                  have HLL := hid hll
                  clear vall vle vless hll hLs2 VIS
                  go_wp2_with fail
                  have cc := implVisitsBetween_any Ab xsb.length cb xsb (fr + 1) to wk1 wk1.heap.size (Nat.le_refl _) (by omega) Xb.out
                  refine cc.mono ?_
                  rintro r wv20 ⟨Ae, ne, ce, rfl, oe, b⟩
                  clear cc
                  replace TW := hid (TW.out.below b)
                  replace Xl := hid (SlG.lift Xl.out b)
                  replace Ldu := hid (SlG.lift Ldu.out b)
                  replace Ldm := hid (SlG.lift Ldm.out b)
                  replace Xa := hid (SlG.lift Xa.out b)
                  replace Ls := hid (SlG.lift Ls.out b)
                  replace Xdn := hid (SlG.lift Xdn.out b)
                  replace Xaf := hid (SlG.lift Xaf.out b)
                  replace Xb := hid (SlG.lift Xb.out b)
                  replace Lvi := hid (SlG.lift Lvi.out b)
                  replace Lvt := hid (SlG.lift Lvt.out b)
                  replace Xc := hid (SlG.lift Xc.out b)
                  replace Xp := hid (SlG.lift Xp.out b)
                  replace Xq := hid (SlG.lift Xq.out b)
                  replace Gx := hid (Gx.out.lift b)
                  replace bz := bz.trans (b.mono bz.size)
                  replace E := E.trans (b.mono E.size)
                  rw [VL.out]
                  rw [VL.out] at oe
                  simp only at oe
                  obtain rfl := own_len encI_len (by omega) oe
                  have Le := own_sl encI_len (by omega) oe
                  rw [HLL.out.trans VLE.out.symm] at Le
                  have Lle := hid Le
                  clear oe Le
                  rw [HLL.out.trans VLE.out.symm]
                  clear b
                  have hvl0 : (0 : Int) ≤ (Fv1.length : Int) := by omega
                  have hvm : (Fv1.length : Int) ≤ 31 := by have := VLE.out; omega
                  go_wp2_with fail
                  go_loopw [45] (fun i wl => ∃ k : Nat, k ≤ Fv1.length ∧ i = .int .i64 k ∧ Below wv20.heap.size wv20 wl) (fun i _ => Fv1.length - (intOf i).toNat)
                  case atStart => exact ⟨0, Nat.zero_le _, rfl, Below.refl _ _⟩
                  case round =>
                    obtain ⟨k, hk, rfl, hb⟩ := hrel
                    by_cases hkl : k < Fv1.length
                    · obtain ⟨x, xb, xo, Hx, rfl, hxb', cx⟩ := (SlG.lift Lvt.out hb).int hkl
                      obtain ⟨y, yb, yo, Hy, rfl, hyb', cy⟩ := (SlG.lift Lle.out hb).int hkl
                      have hxy := VALL.out k x y Hx.out Hy.out
                      obtain ⟨⟨hy1, hy2⟩, hy3, hy4⟩ := hxy
                      have n1 : ¬ x < y := by omega
                      have n2 : ¬ y + 1 < x := by omega
                      have q1 : decide (x < y) = false := by simpa using n1
                      have q2 : decide (y + 1 < x) = false := by simpa using n2
                      have wy : IntKind.i64.wrap (y + 1) = y + 1 := IntWalk.i64_in _ (by omega)
                      have hk0 : (0 : Int) ≤ (k : Int) := by omega
                      have hk1 : (k : Int) < (Fv1.length : Int) := by omega
                      clear Hx Hy
                      go_wp2_with fail
                      go_quiet (fail)
                      go_wp2
                      have hb2 := below_drewN hb nq
                      go_roundw
                      all_goals first | exact ⟨k + 1, by omega, by go_num, hb2⟩ | exact ⟨⟨k + 1, by omega, by go_num, hb2⟩, by simp [intOf]; omega⟩ | (simp [intOf]; omega)
                    · have hkn : ¬ (k : Int) < (Fv1.length : Int) := by omega
                      clear VALL hkl hk
                      go_wp2_with fail
                      go_meet
                      case rel => exact bz.trans (hb.mono bz.size)
            case rest =>
              as_aux_lemma =>
                obtain ⟨wk2, rfl⟩ : ∃ W : World, W = wc := ⟨_, rfl⟩
                have b := hcut
                clear hcut
                replace TW := hid (TW.out.below b)
                replace Xl := hid (SlG.lift Xl.out b)
                replace Ldu := hid (SlG.lift Ldu.out b)
                replace Ldm := hid (SlG.lift Ldm.out b)
                replace Xa := hid (SlG.lift Xa.out b)
                replace Ls := hid (SlG.lift Ls.out b)
                replace Xdn := hid (SlG.lift Xdn.out b)
                replace Xaf := hid (SlG.lift Xaf.out b)
                replace Xb := hid (SlG.lift Xb.out b)
                replace Lvi := hid (SlG.lift Lvi.out b)
                replace Lvt := hid (SlG.lift Lvt.out b)
                replace Xc := hid (SlG.lift Xc.out b)
                replace Xp := hid (SlG.lift Xp.out b)
                replace Xq := hid (SlG.lift Xq.out b)
                replace Gx := hid (Gx.out.lift b)
                replace E := E.trans (b.mono E.size)
                clear b
                clear VIS HBV
                by_cases hd2 : Fd2 = 0
                · subst hd2
                  obtain ⟨dv, dl, av, on2, on3, dall⟩ := DN.out rfl
                  have DALL := hid dall
                  have HDV := hid dv
                  have HDL := hid dl
                  have HAV := hid av
                  clear DN dall dv dl av
                  have hks0 : (0 : Int) ≤ (ks.length : Int) := by omega
                  go_wp2_with fail
                  go_loopw [46] (fun i wl => ∃ k : Nat, k ≤ ks.length ∧ i = .int .i64 k ∧ Below wk2.heap.size wk2 wl) (fun i _ => ks.length - (intOf i).toNat)
                  case atStart => exact ⟨0, Nat.zero_le _, rfl, Below.refl _ _⟩
                  case round =>
                    obtain ⟨k, hk, rfl, hb⟩ := hrel
                    have EE := E.trans (hb.mono E.size)
                    by_cases hkl : k < ks.length
                    · have xa := hid (SlG.lift Xa.out hb)
                      have xd := hid (SlG.lift Xdn.out hb)
                      obtain ⟨z, sb, so, Hz, rfl, hsb, cz⟩ := (SlG.lift Ls.out hb).int hkl
                      obtain ⟨j, rfl, hj, hdj⟩ := DALL.out z (List.mem_of_getElem? Hz.out)
                      have hjd : j < Fd1.length := by rw [HDL.out]; exact hj
                      obtain ⟨a0, a1, ab, ao, Ha, rfl, hab, k0, k1⟩ := xa.out.atPoint hj
                      rw [pAt_of Ha.out] at hdj
                      simp only at hdj
                      have hap := okPoint_at HAV.out Ha.out
                      simp only at hap
                      have ED : Hid (dayF Fd1 (j : Int) = (on + a0, 0)) := by rw [Hid, day_law HDV.out hjd, hdj]
                      have hk0 : (0 : Int) ≤ (k : Int) := by omega
                      have hk1 : (k : Int) < (ks.length : Int) := by omega
                      have hj0 : (0 : Int) ≤ (j : Int) := by omega
                      have hj1 : (j : Int) < (xsa.length : Int) := by omega
                      have ha0 : 0 ≤ on + a0 ∧ on + a0 ≤ 200000 := by omega
                      have hHj := hid hj
                      clear hdj Hz Ha xa hj hjd hap
                      go_wp2_with fail
                      refine (implDueDay_any Adn Fd1.length cdn Fd1 (j : Int) wr wr.heap.size (Nat.le_refl _) (by omega) xd.out).mono ?_
                      rintro r w9 ⟨rfl, b9⟩
                      rw [ED.out]
                      replace k0 := below_cell k0 b9
                      replace k1 := below_cell k1 b9
                      replace cz := below_cell cz b9
                      have hb9 := hb.trans (b9.mono hb.size)
                      have hjn := hHj.out
                      have ab9 : ab < w9.heap.size := World.block_lt_of_cell? _ _ k0
                      have sb9 : sb < w9.heap.size := World.block_lt_of_cell? _ _ cz
                      have ar : -1000000 ≤ a0 ∧ a0 ≤ 1000000 := by omega
                      clear ED xd b9 k1 EE hHj
                      go_wp2_with fail
                      go_roundw
                      all_goals first | exact ⟨k + 1, by omega, by go_num, hb9⟩ | exact ⟨⟨k + 1, by omega, by go_num, hb9⟩, by simp [intOf]; omega⟩ | (simp [intOf]; omega)
                    · obtain rfl : k = ks.length := by omega
                      clear E
                      go_wp2_with fail
                      go_ret
                      exact ⟨rfl, EE⟩
                · have q1 : (Fd2 == 0) = false := by simpa using hd2
                  have q2 : (Fd2 != 0) = true := by simpa using hd2
                  clear hd2
                  go_wp2_with fail
                  go_ret
                  exact ⟨rfl, E⟩
end Go.Proofs.YtehjfajmnciiaaaDoor
