/-
  LoadsOf: the reference's loads; both sides; no condition.
-/
import Derived.Test.YtfbgglhjlbdfiaaGLoads
import Derived.StillTailTactics
namespace Go.Proofs.Ytfbgglhjlbdfiaa
open Go.RowKit
set_option maxHeartbeats 400000

set_option maxHeartbeats 2000000 in
theorem l20Loads_any (A : Option Addr) (n c : Nat) (ps : List Int) (A' : Option Addr) (c' : Nat) (ds : List Int) (w : World) (B : Nat) (hB : B ≤ w.heap.size) (hn : n ≤ 6) (hx : Sl w B 1 encI A n ps) (hy : Sl w B 1 encI A' n ds) (hp : inP ps) (ht : isTree ps = true) (hd : bnd ds 1000) :
    Calls Try.prog 53 #[.slice A n c, .slice A' n c'] w fun r w' => ∃ A1 c1, r = .returned (.slice A1 n c1) ∧ w'.ownsRow w.heap.size 2 1 (.slice A1 n c1) n ((loadK ps ds n).flatMap encI) ∧ Below w.heap.size w w' := by
  have hl := hx.len
  have hld := hy.len
  obtain ⟨i0, hi, hz0, hz1, hz2⟩ := info_parts int_info
  have hmk : ∀ u : World, (Instr.makeSlice 26 (.int .i64 (n : Int)) (.int .i64 (n : Int))).run Try.prog u =
      .ok (.slice (some ⟨u.heap.size, 0, none⟩) n n) (u.alloc (.cells (madeCells #[.int .i64 0] n) 2)) := fun u => by
    have h := run_make (P := Try.prog) u 26 2 i0 _ Try.underlying26 hi hz0 .i64 .i64 (n : Int) (n : Int) (by omega) (Int.le_refl _) (by rw [hz2]; omega) (by omega)
    simpa [hz1, Value.cells] using h
  clear hi hz0 hz1 hz2
  have hown0 : ((w.alloc (.cells (madeCells #[.int .i64 0] n) 2))).ownsRow w.heap.size 2 1 (.slice (some ⟨w.heap.size, 0, none⟩) n n) n ((List.replicate n (0 : Int)).flatMap encI) := by
    have := World.ownsRow_lit (base := w.heap.size) (e := 2) (size := 1) w (madeCells #[.int .i64 0] n) n (Nat.le_refl _) (by simp only [maxLen]; omega) (by simp [size_madeCells])
    rwa [rep_encI] at this
  have Ht := hid ht
  clear ht
  go_enter Try.func53, Try.ntmps53
  go_wp2
  go_loopw [6] (fun i w1 => ∃ (k : Nat) (y : Int) (o : List Int), k ≤ n ∧ Hid (y = (k : Int) + 1) ∧ 1 ≤ y ∧ y ≤ n + 1 ∧ i = .int .i64 y ∧ Hid (loadK ps ds k = o) ∧ Hid (bnd o (6000 * k)) ∧ w1.ownsRow w.heap.size 2 1 (.slice (some ⟨w.heap.size, 0, none⟩) n n) n (o.flatMap encI) ∧ Below w.heap.size w w1) (fun i _ => (n + 1 - intOf i).toNat)
  case atStart => exact ⟨0, 1, List.replicate n 0, Nat.zero_le _, rfl, by omega, by omega, rfl, by rw [Hid, loadK, hl], fun x hx => by rw [List.eq_of_mem_replicate hx]; omega, hown0, (Below.refl _ _).alloc (Nat.le_refl _) _⟩
  case round =>
    obtain ⟨k, y, o, hk, hyk, y0, y1, rfl, he, hbd, hown, hb⟩ := hrel
    clear hown0 hmk
    by_cases hlt : y ≤ n
    · have hkn : k < n := by have := hyk.out; omega
      obtain ⟨x, bd, od, Hd, rfl, hbd2, d0⟩ := (hy.below (hb.mono hB)).int hkn
      have hxd := hd x (List.mem_of_getElem? Hd.out)
      obtain ⟨d, hdn, hup⟩ := isTree_up Ht.out (i := k) (by omega)
      rw [hl] at hup hdn
      have EK : Hid (loadK ps ds (k + 1) = addUp ps d ((k : Int) + 1) x o) := by
        have h1 : ∀ (f d : Nat) (p : Int) (o : List Int), upF ps d p = some d → d ≤ f → addUp ps f p x o = addUp ps d p x o := by
          intro f
          induction f with
          | zero => intro d p o h1 h2; obtain rfl : d = 0 := (by omega); rfl
          | succ f ih =>
            intro d p o h1 h2
            by_cases hp0 : p = 0
            · subst hp0; rw [addUp_zero, addUp_zero]
            · cases d with
              | zero => simp [upF, hp0] at h1
              | succ d =>
                rw [upF_step _ _ hp0] at h1
                obtain ⟨d2, hd2, h3⟩ := Option.map_eq_some_iff.1 h1
                obtain rfl : d2 = d := by omega
                rw [addUp, addUp, if_neg hp0, if_neg hp0]
                exact ih _ _ _ hd2 (by omega)
        rw [Hid, loadK, List.getD, Hd.out, he.out, hl]
        exact h1 _ _ _ _ ((up_mono hup).2 d (Nat.le_refl _)) hdn
      have Hup := hid hup
      have hx2 : 0 ≤ x := hxd.1
      have hx3 : x ≤ 1000 := hxd.2
      have k60 : (0 : Int) ≤ 6000 * (k : Int) ∧ 6000 * (k : Int) ≤ 36000 := by omega
      have Hy2 : Hid (y + 1 = ((k + 1 : Nat) : Int) + 1) := by have := hyk.out; unfold Hid; omega
      have dE : ∀ W : World, Below w.heap.size w W → W.cell? ⟨bd, od + k, none⟩ = some (.int .i64 x) := fun W hW => (hW.cell (p := ⟨bd, od + k, none⟩) (Nat.lt_of_lt_of_le hbd2 hB)).trans ((hb.cell (p := ⟨bd, od + k, none⟩) (Nat.lt_of_lt_of_le hbd2 hB)).symm.trans d0)
      obtain rfl : y = (k : Int) + 1 := hyk.out
      clear he hup hxd hy
      go_wp2
      go_loopw [7] (fun s w1 => ∃ (q : Int) (d : Nat) (o : List Int) (C : Int), s = .int .i64 q ∧ 0 ≤ q ∧ q ≤ n ∧ d ≤ n ∧ Hid (upF ps n q = some d) ∧ Hid (loadK ps ds (k + 1) = addUp ps d q x o) ∧ Hid (bnd o C) ∧ 0 ≤ C ∧ C ≤ 6000 * k + 1000 * (6 - d) ∧ w1.ownsRow w.heap.size 2 1 (.slice (some ⟨w.heap.size, 0, none⟩) n n) n (o.flatMap encI) ∧ Below w.heap.size w w1) (fun s _ => (upF ps n (intOf s)).getD 0)
      case atStart => exact ⟨(k : Int) + 1, d, o, 6000 * k, rfl, by omega, by omega, hdn, Hup, EK, hbd, by omega, by omega, hown, hb⟩
      case round =>
        clear hown hb EK hbd Hup hdn d0
        obtain ⟨q, d, o, C, rfl, q0, q1, hdn, hup, EK, hbd, c0, c1, hown, hb⟩ := hrel
        by_cases hq : q = 0
        · subst hq
          have E : Hid (loadK ps ds (k + 1) = o) := by rw [Hid, EK.out, addUp_zero]
          have G : Hid (bnd o (6000 * ((k + 1 : Nat) : Int))) := fun y hy => by have := hbd.out y hy; omega
          clear EK hup hbd hx
          go_wp2
          go_roundw
          case measure => simp [intOf]; omega
          case rel => exact ⟨k + 1, (k : Int) + 1 + 1, o, by omega, Hy2, by omega, by omega, by go_num, E, G, hown, hb⟩
        · obtain ⟨j, hj⟩ : ∃ j : Nat, q = (j : Int) + 1 := ⟨(q - 1).toNat, by omega⟩
          have hjn : j < n := by omega
          obtain ⟨z, b, off, Hz, rfl, hbB, e0⟩ := (hx.below (hb.mono hB)).int hjn
          have hz := hp z (List.mem_of_getElem? Hz.out)
          rw [hl] at hz
          have hol : o.length = n := by
            have := hown.1
            rw [flatMap_len encI_len, Nat.mul_one, Nat.mul_one] at this
            exact this
          obtain ⟨v, hv⟩ : ∃ v, o[j]? = some v := ⟨_, List.getElem?_eq_getElem (by omega)⟩
          have hvb := hbd.out v (List.mem_of_getElem? hv)
          obtain ⟨d', rfl, hup2, hstep⟩ := addUp_step (x := x) (o := o) hl hj Hz.out hup.out
          have E := EK.out
          rw [hstep v hv] at E
          have EK2 := hid E
          have HM : Hid ((upF ps n z).getD 0 < (upF ps n q).getD 0) := by rw [Hid, hup2, hup.out]; simp
          have Hup2 := hid hup2
          obtain ⟨w0, w00⟩ := own_int hown hv
          have hs2 := hown.stored j (.int .i64 (v + x))
          rw [set_encI] at hs2
          have G : Hid (bnd (o.set j (v + x)) (C + 1000)) := bnd_set hbd.out (by omega) (by omega) (by omega)
          have hz0 := hz.1
          have hz1 := hz.2
          have hb2 : Below w.heap.size w (wr.setCell ⟨w.heap.size, j, none⟩ (.int .i64 (v + x))) := hb.setCell (by simp) _
          have e1 : (wr.setCell ⟨w.heap.size, j, none⟩ (.int .i64 (v + x))).cell? ⟨b, off + j, none⟩ = some (.int .i64 z) := (cell_far (by show w.heap.size ≠ b; omega)).trans e0
          have hs3 := hs2.1
          obtain ⟨hv0, hv1⟩ := hvb
          have hCC : C + 1000 ≤ 6000 * k + 1000 * (6 - (d' : Int)) := by omega
          clear EK hup hbd hx hstep E hup2 hz hown hol hv Hz hp hs2
          have d1 := dE _ hb
          have i0 : (0 : Int) ≤ (j : Int) := by omega
          have i1 : (j : Int) < (n : Int) := by omega
          have i2 : (0 : Int) ≤ (k : Int) := by omega
          have i3 : (k : Int) < (n : Int) := by omega
          have hw : IntKind.i64.wrap (v + x) = v + x := IntWalk.i64_in _ (by omega)
          have hwj : IntKind.i64.wrap (j : Int) = (j : Int) := IntWalk.i64_in _ (by omega)
          have hwk : IntKind.i64.wrap (k : Int) = (k : Int) := IntWalk.i64_in _ (by omega)
          subst hj
          go_wp2_with fail
          go_still_tail 12, (by kernel_rfl)
          change wpList _ _ _ _ _ wr.drew
          go_wp2
          exact ⟨⟨z, d', _, C + 1000, rfl, hz0, hz1, by omega, Hup2, EK2, G, by omega, hCC, hs3, hb2.drew⟩, by simpa [intOf] using HM.out⟩
    · have : k = n := by have := hyk.out; omega
      subst this
      have E := he.out
      clear he hx hy hbd
      subst E
      go_wp2
      go_ret
      exact ⟨_, _, rfl, hown, hb⟩
def loadsF (css : List (List Int)) (ps ds : List Int) : List Int × Int :=
  if validC css then if parC css ps = 0 ∧ demOk css ds = true then if isTree ps then (loadK ps ds ps.length, 0) else ([], 6) else ([], 2) else ([], 1)
theorem loadsF_len (css : List (List Int)) (ps ds : List Int) : (loadsF css ps ds).1.length ≤ 2000000 := by
  unfold loadsF
  split
  · rename_i hv
    split
    · rename_i hp
      split
      · have h1 := parC_zero hp.1
        have h2 := validC_len hv
        simp only [loadK_len]
        omega
      · simp
    · simp
  · simp
theorem demOk_parts {css : List (List Int)} {ps ds : List Int} (hp : parC css ps = 0) (h : demOk css ds = true) : ds.length = ps.length ∧ bnd ds 1000 := by
  simp only [demOk, Bool.and_eq_true, beq_iff_eq, List.all_eq_true] at h
  have h1 := (parC_zero hp).2.1
  exact ⟨by omega, fun x hx => by have := h.2 x hx; simpa [inR] using this⟩
theorem parC_one {css : List (List Int)} {ps : List Int} : parC css ps = 1 ↔ validC css = false := by
  unfold parC
  split
  · rename_i hv
    rw [hv]
    split <;> simp
  · rename_i hv
    simp at hv
    simp [hv]
/-- the codes of LoadsOf, step by step -/
theorem loads_cases (css : List (List Int)) (ps ds : List Int) :
    (parC css ps = 1 ∧ loadsF css ps ds = ([], 1)) ∨ (parC css ps = 2 ∧ loadsF css ps ds = ([], 2)) ∨ (parC css ps = 0 ∧ demOk css ds = false ∧ loadsF css ps ds = ([], 2)) ∨
      (parC css ps = 0 ∧ demOk css ds = true ∧ isTree ps = false ∧ loadsF css ps ds = ([], 6)) ∨ (parC css ps = 0 ∧ demOk css ds = true ∧ isTree ps = true ∧ loadsF css ps ds = (loadK ps ds ps.length, 0)) := by
  rcases parC_in css ps with h | h | h
  · have hv := (parC_zero h).1
    cases hd : demOk css ds with
    | false => exact .inr (.inr (.inl ⟨h, rfl, by simp [loadsF, hv, hd]⟩))
    | true =>
      cases ht : isTree ps with
      | false => exact .inr (.inr (.inr (.inl ⟨h, rfl, rfl, by simp [loadsF, hv, hd, h, ht]⟩)))
      | true => exact .inr (.inr (.inr (.inr ⟨h, rfl, rfl, by simp [loadsF, hv, hd, h, ht]⟩)))
  · exact .inl ⟨h, by simp [loadsF, parC_one.1 h]⟩
  · refine .inr (.inl ⟨h, ?_⟩)
    have hv : validC css = true := by
      cases hv : validC css with
      | true => rfl
      | false => have := (parC_one (ps := ps)).2 hv; rw [h] at this; omega
    simp [loadsF, hv, h]
set_option maxHeartbeats 2000000 in
theorem implLoadsOf_any (A : Option Addr) (n c : Nat) (rs : List Row) (A1 : Option Addr) (m1 c1 : Nat) (ps : List Int) (A2 : Option Addr) (m2 c2 : Nat) (ds : List Int) (w : World) (B : Nat) (hB : B ≤ w.heap.size) (hn : n + tot rs ≤ 2000000) (hm1 : m1 ≤ 2000000) (hm2 : m2 ≤ 2000000) (hx : SlS w B A n rs) (hy : Sl w B 1 encI A1 m1 ps) (hz : Sl w B 1 encI A2 m2 ds) :
    Calls Try.prog 11 #[.slice A n c, .slice A1 m1 c1, .slice A2 m2 c2] w (ListPost w (loadsF (cont rs) ps ds)) := by
  have hp := treeCode_any A n c rs A1 m1 c1 ps w B hB hn hm1 hx hy
  have hdm := fun W h1 h => areDemands_any A n c rs A2 m2 c2 ds W B h1 (by omega) hm2 hx.len h
  have hlp := hy.len
  have hld := hz.len
  clear hx
  rcases loads_cases (cont rs) ps ds with ⟨h0, E⟩ | ⟨h0, E⟩ | ⟨h0, hd, E⟩ | ⟨h0, hd, ht, E⟩ | ⟨h0, hd, ht, E⟩
  · have E' := hid E
    rw [show codeG (cont rs) ps = 1 by unfold codeG; rw [h0]; rfl] at hp
    clear E h0 hy hz
    go_enter Try.func11, Try.ntmps11
    go_wp2_with (go_at_call 24; refine hp.mono ?_; rintro r w1 ⟨rfl, b1⟩)
    go_ret2
    exact ListPost.bad E'.out b1
  · have E' := hid E
    rw [show codeG (cont rs) ps = 2 by unfold codeG; rw [h0]; rfl] at hp
    clear E h0 hy
    cases hdd : demOk (cont rs) ds
    all_goals rw [hdd] at hdm
    all_goals clear hdd
    all_goals go_enter Try.func11, Try.ntmps11
    all_goals go_wp2_with (first
      | (go_at_call 24; refine hp.mono ?_; rintro r w1 ⟨rfl, b1⟩)
      | (go_at_call 29; refine (hdm _ (Nat.le_trans hB b1.size) (hz.below (b1.mono hB))).mono ?_; rintro r w2 ⟨rfl, b2⟩))
    all_goals go_ret2
    all_goals exact ListPost.bad E'.out (b1.trans (b2.mono b1.size))
  · have E' := hid E
    obtain ⟨z, hz', hz1⟩ : ∃ z, codeG (cont rs) ps = z ∧ (z = 0 ∨ z = 6) := ⟨_, rfl, by unfold codeG; rw [h0]; cases isTree ps <;> simp⟩
    rw [hz'] at hp
    rw [hd] at hdm
    clear E h0 hd hy hz'
    rcases hz1 with rfl | rfl
    all_goals go_enter Try.func11, Try.ntmps11
    all_goals go_wp2_with (first
      | (go_at_call 24; refine hp.mono ?_; rintro r w1 ⟨rfl, b1⟩)
      | (go_at_call 29; refine (hdm _ (Nat.le_trans hB b1.size) (hz.below (b1.mono hB))).mono ?_; rintro r w2 ⟨rfl, b2⟩))
    all_goals go_ret2
    all_goals exact ListPost.bad E'.out (b1.trans (b2.mono b1.size))
  · have E' := hid E
    rw [show codeG (cont rs) ps = 6 by unfold codeG; rw [h0, ht]; rfl] at hp
    rw [hd] at hdm
    clear E h0 hd ht hy
    go_enter Try.func11, Try.ntmps11
    go_wp2_with (first
      | (go_at_call 24; refine hp.mono ?_; rintro r w1 ⟨rfl, b1⟩)
      | (go_at_call 29; refine (hdm _ (Nat.le_trans hB b1.size) (hz.below (b1.mono hB))).mono ?_; rintro r w2 ⟨rfl, b2⟩))
    go_ret2
    exact ListPost.bad E'.out (b1.trans (b2.mono b1.size))
  · have E' := hid E
    obtain ⟨hv, hpl, hin⟩ := parC_zero h0
    have hm6 : m1 ≤ 6 := by have := validC_len hv; omega
    obtain ⟨hdl, hdb⟩ := demOk_parts h0 hd
    obtain rfl : m2 = m1 := by omega
    have hlo := fun W h1 h2 h3 => loadsOf_any A1 m2 c1 ps A2 c2 ds W B h1 hm6 h2 h3 hin ht hdb
    rw [show codeG (cont rs) ps = 0 by unfold codeG; rw [h0, ht]; rfl] at hp
    rw [hd] at hdm
    have Hlp := hid hlp
    clear E h0 hd ht hv hpl hin hdb hdl hlp hld
    go_enter Try.func11, Try.ntmps11
    go_wp2_with (first
      | (go_at_call 24; refine hp.mono ?_; rintro r w1 ⟨rfl, b1⟩)
      | (go_at_call 29; refine (hdm _ (Nat.le_trans hB b1.size) (hz.below (b1.mono hB))).mono ?_; rintro r w2 ⟨rfl, b2⟩; replace b2 := b1.trans (b2.mono b1.size))
      | (go_at_call 30; refine (hlo _ (Nat.le_trans hB b2.size) (hy.below (b2.mono hB)) (hz.below (b2.mono hB))).mono ?_; rintro r w3 ⟨A3, c3, rfl, o3, b3⟩))
    go_ret2
    rw [E'.out, Hlp.out]
    exact ⟨_, _, _, rfl, o3.mono b2.size, b2.trans (b3.mono b2.size)⟩
end Go.Proofs.Ytfbgglhjlbdfiaa
