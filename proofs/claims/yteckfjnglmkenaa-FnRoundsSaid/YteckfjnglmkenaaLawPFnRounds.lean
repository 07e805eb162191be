/-
  The statement on rounds, walked. No condition.
-/
import Derived.Test.YteckfjnglmkenaaPDraw3
import Derived.Test.YteckfjnglmkenaaPShort6
import Derived.Test.YteckfjnglmkenaaPNear2
import Derived.Test.YteckfjnglmkenaaPLen
import Derived.Test.YteckfjnglmkenaaPRnd
import Derived.Test.YteckfjnglmkenaaLHelp
namespace Go.Proofs.Yteckfjnglmkenaa
open Go.RowKit
set_option maxHeartbeats 400000

theorem Sl.lift {w w' : World} {A : Option Addr} {n : Nat} {xs : List Int} (h : Sl w w.heap.size 1 encI A n xs) (hb : Below w.heap.size w w') : Sl w' w'.heap.size 1 encI A n xs := (h.below hb).more hb.size
theorem SlS.lift {w w' : World} {A : Option Addr} {n : Nat} {rs : List Row} (h : SlS w w.heap.size A n rs) (hb : Below w.heap.size w w') : SlS w' w'.heap.size A n rs := (h.below hb).more hb.size
theorem short_no {css : List (List Int)} {ps : List Int} (h : codeS css ps ≠ 0) : (shortF css ps).2.2 ≠ 0 := by
  unfold shortF
  rw [if_neg h]
  exact h
/-- what is known of the two rounds -/
structure RndOk (css : List (List Int)) (ps : List Int) (R : List Int × Int × Int) (N : List Int × Int) : Prop where
  rl : R.1.length ≤ 2000000
  nl : N.1.length ≤ 2000000
  near : N.2 = 0 → (∀ x ∈ ps, hasI N.1 x = true) ∧ N.1.length = ps.length
  short : R.2.2 = 0 → N.2 = 0 ∧ (∀ x ∈ ps, hasI R.1 x = true) ∧ R.1.length = ps.length ∧ lenF css R.1 = (R.2.1, 0) ∧ lenF css N.1 = (lenR css N.1, 0) ∧ R.2.1 ≤ lenR css N.1
theorem rnd_ok (css : List (List Int)) (ps : List Int) (hp : ps.length ≤ 2000000) : RndOk css ps (shortF css ps) (nearF css ps) := by
  have hnear : (nearF css ps).2 = 0 → codeS css ps = 0 := fun h => by
    unfold nearF at h
    split at h
    · assumption
    · exact h
  have perm_has : ∀ (q : List Int), q.Perm ps → (∀ x ∈ ps, hasI q x = true) ∧ q.length = ps.length := fun q hq => ⟨fun x hx => hasI_iff.2 (hq.symm.subset hx), hq.length_eq⟩
  refine ⟨?_, nearF_len css ps, fun h => perm_has _ (near_perm (hnear h)), fun h => ?_⟩
  · by_cases h : (shortF css ps).2.2 = 0
    · obtain ⟨h1, h7⟩ := short_code h
      obtain ⟨b, l, e, hb, _⟩ := short_best h1 h7
      rw [e]
      have := hb.length_eq
      simp only
      omega
    · unfold shortF at h ⊢
      split
      · rename_i hc
        rw [if_pos hc] at h
        split
        · simp
        · rename_i h7
          rw [if_neg h7] at h
          obtain ⟨b, l, e, _⟩ := ordG_best css ps.length ps [] none rfl
          rw [e] at h
          exact absurd rfl h
      · simp
  · obtain ⟨h1, h7⟩ := short_code h
    obtain ⟨b, l, e, hb, hl, hall⟩ := short_best h1 h7
    have hn := near_perm h1
    have hn0 : (nearF css ps).2 = 0 := by simp only [nearF, h1, if_true]
    have hl1 := lenF_ok h1 hb
    have hl2 := lenF_ok h1 hn
    rw [e]
    simp only
    exact ⟨hn0, (perm_has b hb).1, (perm_has b hb).2, by rw [hl1, hl], hl2, hall _ hn⟩
set_option maxHeartbeats 8000000 in
set_option maxRecDepth 100000 in
theorem FnRounds_walk (v : Value) (w : World) (hv : Bytes w w.heap.size 9223372036854775807 v) :
    Calls Try.prog 4 #[v] w fun r w' => r = .returned (.bool true) ∧ Below w.heap.size w w' := by
  obtain ⟨A0, n0, c0, bs, rfl, hn, hbx, hbz⟩ := hv
  have hbig := fun W => f6big_any A0 n0 c0 W hn
  by_cases h4 : 4096 < n0
  · have e : decide (4096 < n0) = true := by simpa using h4
    rw [e] at hbig
    clear hbx hbz h4 e
    go_enter Try.func4, Try.ntmps4
    go_wp2_with fail
    refine (hbig _).mono ?_
    rintro r w1 ⟨rfl, e⟩
    replace e := e.symm
    subst e
    go_wp2_with fail
    go_ret
    exact ⟨rfl, Below.refl _ _⟩
  · have e : decide (4096 < n0) = false := by simpa using h4
    rw [e] at hbig
    have hv : Bytes w w.heap.size 5000 (.slice A0 n0 c0) := ⟨A0, n0, c0, bs, rfl, by omega, hbx, hbz⟩
    have hd := DrawShortestRound_any _ w hv
    have HV := hid hv
    clear hbx hbz h4 e hv
    go_enter Try.func4, Try.ntmps4
    go_wp2_with fail
    refine (hbig _).mono ?_
    rintro r w1 ⟨rfl, e⟩
    replace e := e.symm
    subst e
    clear hbig
    go_wp2_with fail
    refine hd.mono ?_
    rintro r w1 ⟨A, c, rs, As, cs, ps, rfl, h1, h2, h3, h4, hX, hP, b1⟩
    clear hd
    obtain ⟨R, hR⟩ : ∃ R, R = shortF (cont rs) ps := ⟨_, rfl⟩
    obtain ⟨N, hN⟩ : ∃ N, N = nearF (cont rs) ps := ⟨_, rfl⟩
    have ok := rnd_ok (cont rs) ps (by omega)
    rw [← hR, ← hN] at ok
    have cI := fun W (hx : SlS W W.heap.size A rs.length rs) hp => implShortestRound_any A rs.length c rs As ps.length cs ps W W.heap.size (Nat.le_refl _) (by omega) (by omega) hx hp
    have cS := fun W (hx : SlS W W.heap.size A rs.length rs) hp => specShortestRound_any A rs.length c rs As ps.length cs ps W W.heap.size (Nat.le_refl _) (by omega) (by omega) h4 hx hp
    have cN := fun W (hx : SlS W W.heap.size A rs.length rs) hp => implNearestRound_any A rs.length c rs As ps.length cs ps W W.heap.size (Nat.le_refl _) (by omega) (by omega) hx hp
    have cM := fun W (hx : SlS W W.heap.size A rs.length rs) hp => specNearestRound_any A rs.length c rs As ps.length cs ps W W.heap.size (Nat.le_refl _) (by omega) (by omega) hx hp
    have cL := fun W A1 m1 c1 qs (hm : m1 ≤ 2000000) (hx : SlS W W.heap.size A rs.length rs) hp => implLengthOfRound_any A rs.length c rs A1 m1 c1 qs W W.heap.size (Nat.le_refl _) (by omega) hm hx hp
    rw [← hR] at cI cS
    rw [← hN] at cN cM
    clear hR hN
    obtain ⟨rS, rl, rb⟩ := R
    obtain ⟨nS, nb⟩ := N
    obtain ⟨o1, o2, o3, o4⟩ := ok
    simp only at o1 o2 o3 o4
    have O3 := hid o3
    have O4 := hid o4
    have CL := hid cL
    clear o3 o4 cL
    go_wp2_with fail
    refine (cI _ hX.out hP.out).mono ?_
    rintro r w2 ⟨A2, n2, c2, rfl, p2, b2⟩
    obtain rfl := own_len encI_len (by omega) p2
    have e2 := b1.trans (b2.mono b1.size)
    have X2 := hid (hX.out.lift b2)
    have P2 := hid (hP.out.lift b2)
    have R2 := hid (own_sl encI_len (by omega) p2)
    clear hX hP p2 b2 b1 cI
    go_wp2_with fail
    refine (cS _ X2.out P2.out).mono ?_
    rintro r w3 ⟨A3, n3, c3, rfl, p3, b3⟩
    obtain rfl := own_len encI_len (by omega) p3
    have e3 := e2.trans (b3.mono e2.size)
    have X3 := hid (X2.out.lift b3)
    have P3 := hid (P2.out.lift b3)
    have R3 := hid (R2.out.lift b3)
    have M3 := hid (own_sl encI_len (by omega) p3)
    clear X2 P2 R2 p3 b3 e2 cS
    go_wp2_with fail
    refine (cN _ X3.out P3.out).mono ?_
    rintro r w4 ⟨A4, n4, c4, rfl, p4, b4⟩
    obtain rfl := own_len encI_len (by omega) p4
    have e4 := e3.trans (b4.mono e3.size)
    have X4 := hid (X3.out.lift b4)
    have P4 := hid (P3.out.lift b4)
    have R4 := hid (R3.out.lift b4)
    have M4 := hid (M3.out.lift b4)
    have N4 := hid (own_sl encI_len (by omega) p4)
    clear X3 P3 R3 M3 p4 b4 e3 cN
    go_wp2_with fail
    refine (cM _ X4.out P4.out).mono ?_
    rintro r w5 ⟨A5, n5, c5, rfl, p5, b5⟩
    obtain rfl := own_len encI_len (by omega) p5
    have e5 := e4.trans (b5.mono e4.size)
    have X5 := hid (X4.out.lift b5)
    have P5 := hid (P4.out.lift b5)
    have R5 := hid (R4.out.lift b5)
    have M5 := hid (M4.out.lift b5)
    have N5 := hid (N4.out.lift b5)
    have L5 := hid (own_sl encI_len (by omega) p5)
    have hd := DrawLengthOfRound_any (.slice A0 n0 c0) w5 ((HV.out.below e5).more e5.size)
    clear X4 P4 R4 M4 N4 p5 b5 e4 cM HV
    go_wp2_with fail
    refine hd.mono ?_
    rintro r w6 ⟨A', c', rs', As', cs', qs, rfl, g1, g2, g3, g4, hX', hP', b6⟩
    have e6 := e5.trans (b6.mono e5.size)
    have X6 := hid (X5.out.lift b6)
    have P6 := hid (P5.out.lift b6)
    have R6 := hid (R5.out.lift b6)
    have M6 := hid (M5.out.lift b6)
    have N6 := hid (N5.out.lift b6)
    have L6 := hid (L5.out.lift b6)
    have cI := fun W (hx : SlS W W.heap.size A' rs'.length rs') hp => implLengthOfRound_any A' rs'.length c' rs' As' qs.length cs' qs W W.heap.size (Nat.le_refl _) (by omega) (by omega) hx hp
    have cS := fun W (hx : SlS W W.heap.size A' rs'.length rs') hp => specLengthOfRound_any A' rs'.length c' rs' As' qs.length cs' qs W W.heap.size (Nat.le_refl _) (by omega) (by omega) hx hp
    generalize lenF (cont rs') qs = F at cI cS
    obtain ⟨f1, f2⟩ := F
    simp only [pairJ] at cI cS
    clear X5 P5 R5 M5 N5 L5 b6 e5 hd
    go_wp2_with fail
    refine (cI _ hX'.out hP'.out).mono ?_
    rintro r w7 ⟨rfl, b7⟩
    have e7 := e6.trans (b7.mono e6.size)
    have hX7 := hid (hX'.out.lift b7)
    have hP7 := hid (hP'.out.lift b7)
    have X7 := hid (X6.out.lift b7)
    have P7 := hid (P6.out.lift b7)
    have R7 := hid (R6.out.lift b7)
    have M7 := hid (M6.out.lift b7)
    have N7 := hid (N6.out.lift b7)
    have L7 := hid (L6.out.lift b7)
    clear hX' hP' X6 P6 R6 M6 N6 L6 b7 e6 cI
    go_wp2_with fail
    refine (cS _ hX7.out hP7.out).mono ?_
    rintro r w8 ⟨rfl, b8⟩
    have e8 := e7.trans (b8.mono e7.size)
    have X8 := hid (X7.out.lift b8)
    have P8 := hid (P7.out.lift b8)
    have R8 := hid (R7.out.lift b8)
    have M8 := hid (M7.out.lift b8)
    have N8 := hid (N7.out.lift b8)
    have L8 := hid (L7.out.lift b8)
    have cA := f6ints_yes A2 rS.length c2 A3 rS.length c3 rS w8 w8.heap.size (by omega) R8.out M8.out
    clear hX7 hP7 X7 P7 R7 M7 N7 L7 b8 e7 cS
    go_wp2_with fail
    refine cA.mono ?_
    rintro r w9 ⟨rfl, b9⟩
    have e9 := e8.trans (b9.mono e8.size)
    have X9 := hid (X8.out.lift b9)
    have P9 := hid (P8.out.lift b9)
    have R9 := hid (R8.out.lift b9)
    have M9 := hid (M8.out.lift b9)
    have N9 := hid (N8.out.lift b9)
    have L9 := hid (L8.out.lift b9)
    have cA := f6ints_yes A4 nS.length c4 A5 nS.length c5 nS w9 w9.heap.size (by omega) N9.out L9.out
    clear X8 P8 R8 M8 N8 L8 b9 e8
    go_wp2_with fail
    refine cA.mono ?_
    rintro r w10 ⟨rfl, b10⟩
    have e10 := e9.trans (b10.mono e9.size)
    have X10 := hid (X9.out.lift b10)
    have P10 := hid (P9.out.lift b10)
    have R10 := hid (R9.out.lift b10)
    have M10 := hid (M9.out.lift b10)
    have N10 := hid (N9.out.lift b10)
    have L10 := hid (L9.out.lift b10)
    clear X9 P9 R9 M9 N9 L9 b10 e9 cA
    by_cases hnb : nb = 0
    · subst hnb
      obtain ⟨k1, k2⟩ := O3.out rfl
      have K1 := hid k1
      have K2a : nS.length ≤ ps.length := by omega
      have K2b : ps.length ≤ nS.length := by omega
      clear k1 k2 O3
      go_wp2_with fail
      go_loopw [21] (fun i wl => ∃ k : Nat, k ≤ ps.length ∧ i = .int .i64 k ∧ wl = w10) (fun i _ => ps.length - (intOf i).toNat)
      case atStart => exact ⟨0, Nat.zero_le _, rfl, rfl⟩
      case round =>
        obtain ⟨k, hk, rfl, e⟩ := hrel
        subst e
        by_cases hkp : k < ps.length
        · obtain ⟨x, bp, op, Hx, rfl, hbp, cx⟩ := P10.out.int hkp
          have ch := f6has_any A5 nS.length c5 nS x wr wr.heap.size (by omega) L10.out
          rw [K1.out x (List.mem_of_getElem? Hx.out)] at ch
          have j0 : (0 : Int) ≤ (k : Int) := by omega
          have j1 : (k : Int) < (ps.length : Int) := by omega
          go_wp2_with fail
          refine ch.mono ?_
          rintro r w11 ⟨rfl, e⟩
          replace e := e.symm
          subst e
          clear ch
          go_wp2_with fail
          go_roundw
          all_goals first | exact ⟨k + 1, by omega, by go_num, by trivial⟩ | exact ⟨⟨k + 1, by omega, by go_num, by trivial⟩, by simp [intOf]; omega⟩ | (simp [intOf]; omega)
        · clear K1
          have q1 : nS.length = ps.length := by omega
          have q2 : ((nS.length : Int) == (ps.length : Int)) = true := by rw [beq_iff_eq, q1]
          have Q1 := hid q1
          clear q1
          by_cases hrb : rb = 0
          · subst hrb
            obtain ⟨_, t1, t2, t3, t4, t5⟩ := O4.out rfl
            have T1 := hid t1
            have tA : rS.length ≤ ps.length := by omega
            have tB : ps.length ≤ rS.length := by omega
            have cR := fun W (hx : SlS W W.heap.size A rs.length rs) hp => CL.out W A2 rS.length c2 rS (by omega) hx hp
            have cN := fun W (hx : SlS W W.heap.size A rs.length rs) hp => CL.out W A4 nS.length c4 nS (by omega) hx hp
            rw [t3] at cR
            rw [t4] at cN
            simp only [pairJ] at cR cN
            generalize lenR (cont rs) nS = far at cN t5
            have t6 : ((rS.length : Int) == (ps.length : Int)) = true := by rw [beq_iff_eq, t2]
            have t7 : ¬ far < rl := by omega
            clear t1 t2 t3 t4 O4 CL
            go_wp2_with fail
            go_loopw [22] (fun i wl => ∃ k : Nat, k ≤ ps.length ∧ i = .int .i64 k ∧ wl = wr) (fun i _ => ps.length - (intOf i).toNat)
            case atStart => exact ⟨0, Nat.zero_le _, rfl, rfl⟩
            case round =>
              obtain ⟨k', hk', rfl, e⟩ := hrel
              subst e
              by_cases hkp' : k' < ps.length
              · obtain ⟨x, bp, op, Hx, rfl, hbp, cx⟩ := P10.out.int hkp'
                have ch := f6has_any A3 rS.length c3 rS x wr wr.heap.size (by omega) M10.out
                rw [T1.out x (List.mem_of_getElem? Hx.out)] at ch
                have j0 : (0 : Int) ≤ (k' : Int) := by omega
                have j1 : (k' : Int) < (ps.length : Int) := by omega
                go_wp2_with fail
                refine ch.mono ?_
                rintro r w11 ⟨rfl, e⟩
                replace e := e.symm
                subst e
                clear ch
                go_wp2_with fail
                go_roundw
                all_goals first | exact ⟨k' + 1, by omega, by go_num, by trivial⟩ | exact ⟨⟨k' + 1, by omega, by go_num, by trivial⟩, by simp [intOf]; omega⟩ | (simp [intOf]; omega)
              · clear T1 Q1
                go_wp2_with fail
                refine (cR _ X10.out R10.out).mono ?_
                rintro r w12 ⟨rfl, b12⟩
                have e12 := e10.trans (b12.mono e10.size)
                have X12 := hid (X10.out.lift b12)
                have N12 := hid (N10.out.lift b12)
                clear X10 N10 R10 M10 L10 P10 b12 e10 cR
                go_wp2_with fail
                refine (cN _ X12.out N12.out).mono ?_
                rintro r w13 ⟨rfl, b13⟩
                have e13 := e12.trans (b13.mono e12.size)
                clear X12 N12 b13 e12 cN
                go_wp2_with fail
                go_ret
                exact ⟨rfl, e13⟩
          · have hrb2 : (rb == 0) = false := by rw [beq_eq_false_iff_ne]; exact hrb
            clear O4 CL Q1 X10 P10 R10 M10 N10 L10
            go_wp2_with fail
            go_ret
            exact ⟨rfl, e10⟩
    · have hnb2 : (nb == 0) = false := by rw [beq_eq_false_iff_ne]; exact hnb
      have hrb : rb ≠ 0 := fun h => hnb (O4.out h).1
      have hrb2 : (rb == 0) = false := by rw [beq_eq_false_iff_ne]; exact hrb
      clear O3 O4 CL X10 P10 R10 M10 N10 L10
      go_wp2_with fail
      go_ret
      exact ⟨rfl, e10⟩
end Go.Proofs.Yteckfjnglmkenaa
