/-
  Numbers read from their decimal form: the reference's way. No condition.
-/
import Derived.Test.YtngfhpklakhehaaGreatDoorKDec2
import Derived.Test.YtngfhpklakhehaaGreatDoorRNumP
import Derived.Test.YtngfhpklakhehaaGreatDoorRSplit
import Derived.Deep.Cut
namespace Go.Proofs.YtngfhpklakhehaaGreatDoor
open Go.RowKit
set_option maxHeartbeats 400000

/-- a number, and whether there is one -/
def numO : Option Int → Value
  | some n => .tuple #[.int .i64 n, .bool true]
  | none => .tuple #[.int .i64 0, .bool false]
def NumP (w : World) (o : Option Int) (r : Ending) (w' : World) : Prop := r = .returned (numO o) ∧ Below w.heap.size w w'
theorem NumP.no {w w' : World} {o : Option Int} (h : o = none) (hb : Below w.heap.size w w') : NumP w o (.returned (.tuple #[.int .i64 0, .bool false])) w' := by subst h; exact ⟨rfl, hb⟩
theorem NumP.yes {w w' : World} {o : Option Int} {n : Int} (h : o = some n) (hb : Below w.heap.size w w') : NumP w o (.returned (.tuple #[.int .i64 n, .bool true])) w' := by subst h; exact ⟨rfl, hb⟩
def digB (c : UInt8) : Bool := decide (48 ≤ (c.toNat : Int)) && decide ((c.toNat : Int) ≤ 57)
theorem digB_yes {c : UInt8} (h : digB c = true) : 48 ≤ c.toNat ∧ c.toNat ≤ 57 := by simp [digB] at h; omega
theorem digB_no {c : UInt8} (h : digB c = false) : ¬ (48 ≤ c.toNat ∧ c.toNat ≤ 57) := by simp [digB] at h; omega
theorem l01DigitN_any (c : UInt8) (w : World) : Calls Tryz.prog 67 #[.int .u8 (c.toNat : Int)] w fun r w' => r = .returned (.bool (digB c)) ∧ w' = w := by
  go_enter Tryz.func67, Tryz.ntmps67
  go_wp2
  all_goals go_ret
  all_goals exact ⟨retB (by simp [digB]; try omega), rfl⟩
theorem rd_len {s : List UInt8} (h : (undash s).length < 1 ∨ 18 < (undash s).length) : rdN s = none := by unfold rdN; rw [if_pos h]
/-- how a text reads once its sign is off -/
theorem rd_neg {s t : List UInt8} (h1 : s.head? = some 45) (ht : undash s = t) (h : 1 ≤ t.length ∧ t.length ≤ 18) :
    rdN s = match Lib.decFrom 0 t with | none => none | some u => if Lib.itoa (-(u : Int)) = s then some (-(u : Int)) else none := by
  unfold rdN
  rw [ht, if_neg (by omega)]
  simp only [h1, if_true]
  rfl
theorem rd_pos {s t : List UInt8} (h1 : ¬ s.head? = some 45) (ht : undash s = t) (h : 1 ≤ t.length ∧ t.length ≤ 18) :
    rdN s = match Lib.decFrom 0 t with | none => none | some u => if Lib.itoa (u : Int) = s then some (u : Int) else none := by
  unfold rdN
  rw [ht, if_neg (by omega)]
  simp only [h1, if_false]
  rfl
theorem undash_cut {s : ByteArray} (h0 : 0 < s.size) (h : s[0] = 45) : s.data.toList.head? = some 45 ∧ undash s.data.toList = (s.extract 1 s.size).data.toList ∧ (s.extract 1 s.size).size + 1 = s.size := by
  have h1 := bs_get h0
  rw [h] at h1
  have h2 : s.data.toList.head? = some 45 := by rw [List.head?_eq_getElem?]; exact h1
  have h3 : undash s.data.toList = (s.extract 1 s.size).data.toList := by
    unfold undash
    rw [if_pos h2, ext_end, List.drop_one]
  refine ⟨h2, h3, ?_⟩
  rw [← bs_len, ext_end, List.length_drop, bs_len]
  omega
theorem undash_keep {s : ByteArray} (h : ∀ h0 : 0 < s.size, s[0] ≠ 45) : ¬ s.data.toList.head? = some 45 ∧ undash s.data.toList = s.data.toList := by
  have h2 : ¬ s.data.toList.head? = some 45 := by
    rw [List.head?_eq_getElem?]
    intro e
    have hl := (List.getElem?_eq_some_iff.1 e).1
    rw [bs_len] at hl
    rw [bs_get hl] at e
    exact h hl (Option.some.inj e)
  exact ⟨h2, by unfold undash; rw [if_neg h2]⟩
theorem pow17 {k u : Nat} (h : u < 10 ^ k) (hk : k ≤ 17) : u < 100000000000000000 := Nat.lt_of_lt_of_le h (Nat.pow_le_pow_right (by omega) hk)
theorem pow18 {k u : Nat} (h : u < 10 ^ k) (hk : k ≤ 18) : u < 1000000000000000000 := Nat.lt_of_lt_of_le h (Nat.pow_le_pow_right (by omega) hk)
theorem pow_step {k u d : Nat} (h : u < 10 ^ k) (hd : d ≤ 9) : u * 10 + d < 10 ^ (k + 1) := by rw [Nat.pow_succ]; omega
theorem ba_eq {n : Int} {s : ByteArray} (h : Lib.itoa n = s.data.toList) : (⟨(Lib.itoa n).toArray⟩ : ByteArray) = s := by cases s; simp [h]
theorem ba_ne {n : Int} {s : ByteArray} (h : ¬ Lib.itoa n = s.data.toList) : (⟨(Lib.itoa n).toArray⟩ : ByteArray) ≠ s := fun e => h (by rw [← e])
set_option maxHeartbeats 8000000 in
set_option maxRecDepth 100000 in
theorem l01Number_any (s : ByteArray) (w : World) (hs : s.size ≤ 1048576) : Calls Tryz.prog 50 #[.string s] w (NumP w (rdN s.data.toList)) := by
  by_cases h0 : s.size = 0
  · have hl : s.data.toList = [] := List.eq_nil_of_length_eq_zero (by rw [bs_len]; exact h0)
    have E : Hid (rdN s.data.toList = none) := by rw [Hid, hl]; rfl
    have h1 : s.toList = [] := by rw [ByteArray.toList_eq, hl]
    have h3 : s.size < 1 := by omega
    clear hl h0
    go_enter Tryz.func50, Tryz.ntmps50
    go_wp2
    go_ret2
    exact NumP.no E.out (Below.refl _ _)
  · have hp : 0 < s.size := by omega
    have h1 : ¬ s.toList = [] := by
      rw [ByteArray.toList_eq]
      intro e
      have := bs_len s
      rw [e] at this
      simp at this
      omega
    have h2 : s.toList.isEmpty = false := by simpa using h1
    clear h0
    by_cases hc : s[0] = 45
    · obtain ⟨u1, u2, u3⟩ := undash_cut hp hc
      have HD := hid u1
      have e1 : (((s[0].toNat : Nat) : Int) == 45) = true := by rw [hc]; rfl
      obtain ⟨T, hT⟩ : ∃ T, T = s.extract 1 s.size := ⟨_, rfl⟩
      rw [← hT] at u2 u3
      have UD := hid u2
      have HT := hid hT
      have z1 : (1 : Int) ≤ (s.size : Int) := by omega
      have z2 : (T.size : Int) < (s.size : Int) := by omega
      clear u1 u2 u3 hc hT
      go_enter Tryz.func50, Tryz.ntmps50
      go_upto_region 4 with fail
      rw [← HT.out]
      clear HT
      by_cases hl : T.size < 1 ∨ 18 < T.size
      · have E : Hid (rdN s.data.toList = none) := rd_len (by rw [UD.out, bs_len]; exact hl)
        rcases hl with hl | hl
        · go_wp2
          go_ret2
          exact NumP.no E.out (Below.refl _ _)
        · have hl2 : ¬ T.size < 1 := by omega
          go_wp2
          go_ret2
          exact NumP.no E.out (Below.refl _ _)
      · have hl1 : ¬ T.size < 1 := by omega
        have hl2 : ¬ 18 < T.size := by omega
        have RD : Hid (rdN s.data.toList = match Lib.decFrom 0 T.data.toList with | none => none | some u => if Lib.itoa (-(u : Int)) = s.data.toList then some (-(u : Int)) else none) := rd_neg HD.out UD.out (by rw [bs_len]; omega)
        clear hl HD UD
        go_wp2
        go_loop [5, 6] (fun vn vi => ∃ (k u : Nat), k ≤ T.size ∧ vi = .int .i64 (k : Nat) ∧ vn = .int .i64 (u : Nat) ∧ Hid (u < 10 ^ k) ∧ Hid (Lib.decFrom 0 T.data.toList = Lib.decFrom u (T.data.toList.drop k))) (fun _ i => T.size - (intOf i).toNat)
        case atStart => exact ⟨0, 0, by omega, rfl, rfl, hid (by simp), hid rfl⟩
        case round =>
          obtain ⟨k, u, hk, rfl, rfl, hu, hE⟩ := hrel
          by_cases hkT : k < T.size
          · have hu17 := pow17 hu.out (by omega)
            have e1 := hE.out
            rw [drop_at (bs_get hkT), decFrom_cons] at e1
            have hdg := fun W => l01DigitN_any T[k] W
            have k0 : (0 : Int) ≤ (k : Int) := by omega
            have k1 : (k : Int) < (T.size : Int) := by omega
            cases hd : digB T[k] with
            | false =>
              have E : Hid (rdN s.data.toList = none) := by rw [Hid, RD.out, e1, if_neg (digB_no hd)]
              rw [hd] at hdg
              clear e1 hE hu
              go_wp2_with (go_at_call 67; refine (hdg _).mono ?_; rintro r w1 ⟨rfl, e⟩; replace e := e.symm; subst e)
              go_ret2
              exact NumP.no E.out (Below.refl _ _)
            | true =>
              obtain ⟨d0, d1⟩ := digB_yes hd
              rw [if_pos ⟨d0, d1⟩] at e1
              have E2 := hid e1
              have U2 := hid (pow_step hu.out (show T[k].toNat - 48 ≤ 9 by omega))
              rw [hd] at hdg
              have wr8 : IntKind.u8.wrap ((T[k].toNat : Int) - 48) = (T[k].toNat : Int) - 48 := by simp only [IntKind.wrap, IntKind.bits, IntKind.signed]; simp; omega
              have i48 : (48 : Int) ≤ (T[k].toNat : Int) := by omega
              have i57 : (T[k].toNat : Int) ≤ 57 := by omega
              clear e1 hE hu hd d0 d1
              go_wp2_with (go_at_call 67; refine (hdg _).mono ?_; rintro r w1 ⟨rfl, e⟩; replace e := e.symm; subst e)
              go_round
              case rel => exact ⟨k + 1, u * 10 + (T[k].toNat - 48), by omega, by go_num, by (congr 1; omega), U2, E2⟩
              case measure => simp [intOf]; omega
          · obtain rfl : k = T.size := by omega
            have hu18 := pow18 hu.out (by omega)
            have e1 := hE.out
            rw [List.drop_of_length_le (by rw [bs_len]; omega)] at e1
            have e2 := RD.out
            rw [e1] at e2
            have e3 : rdN s.data.toList = if Lib.itoa (-(u : Int)) = s.data.toList then some (-(u : Int)) else none := e2
            have E3 := hid e3
            obtain ⟨D, hD⟩ : ∃ D : ByteArray, D = ⟨(Lib.itoa (-(u : Int))).toArray⟩ := ⟨_, rfl⟩
            have cc := fun W => l01Dec_any (-(u : Int)) W (by omega) (by omega)
            have ev : itoaV (-(u : Int)) = .string D := by rw [hD]; rfl
            rw [ev] at cc
            by_cases hq : Lib.itoa (-(u : Int)) = s.data.toList
            · have E : Hid (rdN s.data.toList = some (-(u : Int))) := by rw [Hid, E3.out, if_pos hq]
              have q1 : (D.toList == s.toList) = true := bs_in (by rw [hD]; exact ba_eq hq)
              clear e1 e2 e3 hE RD E3 hq hD ev hu
              go_wp2_with (go_at_call 65; refine (cc _).mono ?_; rintro r w1 ⟨rfl, b1⟩)
              go_ret2
              exact NumP.yes E.out b1
            · have E : Hid (rdN s.data.toList = none) := by rw [Hid, E3.out, if_neg hq]
              have q1 : (D.toList == s.toList) = false := bs_ne (by rw [hD]; exact ba_ne hq)
              clear e1 e2 e3 hE RD E3 hq hD ev hu
              go_wp2_with (go_at_call 65; refine (cc _).mono ?_; rintro r w1 ⟨rfl, b1⟩)
              go_ret2
              exact NumP.no E.out b1
    · obtain ⟨u1, u2⟩ := undash_keep (fun _ => hc)
      have HD := hid u1
      have UD := hid u2
      have e1 : (((s[0].toNat : Nat) : Int) == 45) = false := by
        rw [beq_eq_false_iff_ne]
        intro e
        exact hc (UInt8.toNat_inj.1 (by simp only [UInt8.reduceToNat]; omega))
      clear u1 u2 hc
      go_enter Tryz.func50, Tryz.ntmps50
      go_upto_region 4 with fail
      by_cases hl : s.size < 1 ∨ 18 < s.size
      · have E : Hid (rdN s.data.toList = none) := rd_len (by rw [UD.out, bs_len]; exact hl)
        rcases hl with hl | hl
        · exact absurd hl (by omega)
        · have hl2 : ¬ s.size < 1 := by omega
          go_wp2
          go_ret2
          exact NumP.no E.out (Below.refl _ _)
      · have hl1 : ¬ s.size < 1 := by omega
        have hl2 : ¬ 18 < s.size := by omega
        have RD : Hid (rdN s.data.toList = match Lib.decFrom 0 s.data.toList with | none => none | some u => if Lib.itoa (u : Int) = s.data.toList then some (u : Int) else none) := rd_pos HD.out UD.out (by rw [bs_len]; omega)
        clear hl HD UD
        go_wp2
        go_loop [5, 6] (fun vn vi => ∃ (k u : Nat), k ≤ s.size ∧ vi = .int .i64 (k : Nat) ∧ vn = .int .i64 (u : Nat) ∧ Hid (u < 10 ^ k) ∧ Hid (Lib.decFrom 0 s.data.toList = Lib.decFrom u (s.data.toList.drop k))) (fun _ i => s.size - (intOf i).toNat)
        case atStart => exact ⟨0, 0, by omega, rfl, rfl, hid (by simp), hid rfl⟩
        case round =>
          obtain ⟨k, u, hk, rfl, rfl, hu, hE⟩ := hrel
          by_cases hkT : k < s.size
          · have hu17 := pow17 hu.out (by omega)
            have e1 := hE.out
            rw [drop_at (bs_get hkT), decFrom_cons] at e1
            have hdg := fun W => l01DigitN_any s[k] W
            have k0 : (0 : Int) ≤ (k : Int) := by omega
            have k1 : (k : Int) < (s.size : Int) := by omega
            cases hd : digB s[k] with
            | false =>
              have E : Hid (rdN s.data.toList = none) := by rw [Hid, RD.out, e1, if_neg (digB_no hd)]
              rw [hd] at hdg
              clear e1 hE hu
              go_wp2_with (go_at_call 67; refine (hdg _).mono ?_; rintro r w1 ⟨rfl, e⟩; replace e := e.symm; subst e)
              go_ret2
              exact NumP.no E.out (Below.refl _ _)
            | true =>
              obtain ⟨d0, d1⟩ := digB_yes hd
              rw [if_pos ⟨d0, d1⟩] at e1
              have E2 := hid e1
              have U2 := hid (pow_step hu.out (show s[k].toNat - 48 ≤ 9 by omega))
              rw [hd] at hdg
              have wr8 : IntKind.u8.wrap ((s[k].toNat : Int) - 48) = (s[k].toNat : Int) - 48 := by simp only [IntKind.wrap, IntKind.bits, IntKind.signed]; simp; omega
              have i48 : (48 : Int) ≤ (s[k].toNat : Int) := by omega
              have i57 : (s[k].toNat : Int) ≤ 57 := by omega
              clear e1 hE hu hd d0 d1
              go_wp2_with (go_at_call 67; refine (hdg _).mono ?_; rintro r w1 ⟨rfl, e⟩; replace e := e.symm; subst e)
              go_round
              case rel => exact ⟨k + 1, u * 10 + (s[k].toNat - 48), by omega, by go_num, by (congr 1; omega), U2, E2⟩
              case measure => simp [intOf]; omega
          · obtain rfl : k = s.size := by omega
            have hu18 := pow18 hu.out (by omega)
            have e1 := hE.out
            rw [List.drop_of_length_le (by rw [bs_len]; omega)] at e1
            have e2 := RD.out
            rw [e1] at e2
            have e3 : rdN s.data.toList = if Lib.itoa (u : Int) = s.data.toList then some (u : Int) else none := e2
            have E3 := hid e3
            obtain ⟨D, hD⟩ : ∃ D : ByteArray, D = ⟨(Lib.itoa (u : Int)).toArray⟩ := ⟨_, rfl⟩
            have cc := fun W => l01Dec_any (u : Int) W (by omega) (by omega)
            have ev : itoaV (u : Int) = .string D := by rw [hD]; rfl
            rw [ev] at cc
            by_cases hq : Lib.itoa (u : Int) = s.data.toList
            · have E : Hid (rdN s.data.toList = some (u : Int)) := by rw [Hid, E3.out, if_pos hq]
              have q1 : (D.toList == s.toList) = true := bs_in (by rw [hD]; exact ba_eq hq)
              clear e1 e2 e3 hE RD E3 hq hD ev hu
              go_wp2_with (go_at_call 65; refine (cc _).mono ?_; rintro r w1 ⟨rfl, b1⟩)
              go_ret2
              exact NumP.yes E.out b1
            · have E : Hid (rdN s.data.toList = none) := by rw [Hid, E3.out, if_neg hq]
              have q1 : (D.toList == s.toList) = false := bs_ne (by rw [hD]; exact ba_ne hq)
              clear e1 e2 e3 hE RD E3 hq hD ev hu
              go_wp2_with (go_at_call 65; refine (cc _).mono ?_; rintro r w1 ⟨rfl, b1⟩)
              go_ret2
              exact NumP.no E.out b1
end Go.Proofs.YtngfhpklakhehaaGreatDoor
