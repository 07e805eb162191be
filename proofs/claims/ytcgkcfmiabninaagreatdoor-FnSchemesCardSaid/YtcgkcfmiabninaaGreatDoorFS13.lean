/-
  FS: texts RNum, RLib, RSplI, RWord, one behind the other. No condition but what each says.
-/
import Derived.Test.YtcgkcfmiabninaaGreatDoorFS12
import Derived.Deep.Cut
import Derived.Lib.ParseIntBTie
import Derived.Lib.AtoiErrMem
/-
  Numbers read from their decimal form: the reference's way. No condition.
-/
namespace Go.Proofs.YtcgkcfmiabninaaGreatDoor
open Go.RowKit
set_option maxHeartbeats 400000

/-- a number, and whether there is one -/
def numO : Option Int → Value
  | some n => .tuple #[.int .i64 n, .bool true]
  | none => .tuple #[.int .i64 0, .bool false]
def NumP (w : World) (o : Option Int) (r : Ending) (w' : World) : Prop := r = .returned (numO o) ∧ Below w.heap.size w w'
theorem NumP.no {w w' : World} {o : Option Int} (h : o = none) (hb : Below w.heap.size w w') : NumP w o (.returned (.tuple #[.int .i64 0, .bool false])) w' := by subst h; exact ⟨rfl, hb⟩
theorem NumP.yes {w w' : World} {o : Option Int} {n : Int} (h : o = some n) (hb : Below w.heap.size w w') : NumP w o (.returned (.tuple #[.int .i64 n, .bool true])) w' := by subst h; exact ⟨rfl, hb⟩
def digB (c : UInt8) : Bool := decide (48 ≤ (c.toNat : Int)) && decide ((c.toNat : Int) ≤ 57)
theorem digB_yes {c : UInt8} (h : digB c = true) : 48 ≤ c.toNat ∧ c.toNat ≤ 57 := by simp [digB] at h; omega
theorem digB_no {c : UInt8} (h : digB c = false) : ¬ (48 ≤ c.toNat ∧ c.toNat ≤ 57) := by simp [digB] at h; omega
theorem l01DigitN_any (c : UInt8) (w : World) : Calls Tryz.prog 76 #[.int .u8 (c.toNat : Int)] w fun r w' => r = .returned (.bool (digB c)) ∧ w' = w := by
  go_enter Tryz.func76, Tryz.ntmps76
  go_wp2
  all_goals go_ret
  all_goals exact ⟨retB (by simp [digB]; try omega), rfl⟩
theorem rd_len {s : List UInt8} (h : (undash s).length < 1 ∨ 18 < (undash s).length) : rdN s = none := by unfold rdN; rw [if_pos h]
/-- how a text reads once its sign is off -/
theorem rd_neg {s t : List UInt8} (h1 : s.head? = some 45) (ht : undash s = t) (h : 1 ≤ t.length ∧ t.length ≤ 18) :
    rdN s = match Lib.decFrom 0 t with | none => none | some u => if Lib.itoa (-(u : Int)) = s then some (-(u : Int)) else none := by
  unfold rdN
  rw [ht, if_neg (by omega)]
  simp only [h1, if_true]
  rfl
theorem rd_pos {s t : List UInt8} (h1 : ¬ s.head? = some 45) (ht : undash s = t) (h : 1 ≤ t.length ∧ t.length ≤ 18) :
    rdN s = match Lib.decFrom 0 t with | none => none | some u => if Lib.itoa (u : Int) = s then some (u : Int) else none := by
  unfold rdN
  rw [ht, if_neg (by omega)]
  simp only [h1, if_false]
  rfl
theorem undash_cut {s : ByteArray} (h0 : 0 < s.size) (h : s[0] = 45) : s.data.toList.head? = some 45 ∧ undash s.data.toList = (s.extract 1 s.size).data.toList ∧ (s.extract 1 s.size).size + 1 = s.size := by
  have h1 := bs_get h0
  rw [h] at h1
  have h2 : s.data.toList.head? = some 45 := by rw [List.head?_eq_getElem?]; exact h1
  have h3 : undash s.data.toList = (s.extract 1 s.size).data.toList := by
    unfold undash
    rw [if_pos h2, ext_end, List.drop_one]
  refine ⟨h2, h3, ?_⟩
  rw [← bs_len, ext_end, List.length_drop, bs_len]
  omega
theorem undash_keep {s : ByteArray} (h : ∀ h0 : 0 < s.size, s[0] ≠ 45) : ¬ s.data.toList.head? = some 45 ∧ undash s.data.toList = s.data.toList := by
  have h2 : ¬ s.data.toList.head? = some 45 := by
    rw [List.head?_eq_getElem?]
    intro e
    have hl := (List.getElem?_eq_some_iff.1 e).1
    rw [bs_len] at hl
    rw [bs_get hl] at e
    exact h hl (Option.some.inj e)
  exact ⟨h2, by unfold undash; rw [if_neg h2]⟩
theorem pow17 {k u : Nat} (h : u < 10 ^ k) (hk : k ≤ 17) : u < 100000000000000000 := Nat.lt_of_lt_of_le h (Nat.pow_le_pow_right (by omega) hk)
theorem pow18 {k u : Nat} (h : u < 10 ^ k) (hk : k ≤ 18) : u < 1000000000000000000 := Nat.lt_of_lt_of_le h (Nat.pow_le_pow_right (by omega) hk)
theorem pow_step {k u d : Nat} (h : u < 10 ^ k) (hd : d ≤ 9) : u * 10 + d < 10 ^ (k + 1) := by rw [Nat.pow_succ]; omega
theorem ba_eq {n : Int} {s : ByteArray} (h : Lib.itoa n = s.data.toList) : (⟨(Lib.itoa n).toArray⟩ : ByteArray) = s := by cases s; simp [h]
theorem ba_ne {n : Int} {s : ByteArray} (h : ¬ Lib.itoa n = s.data.toList) : (⟨(Lib.itoa n).toArray⟩ : ByteArray) ≠ s := fun e => h (by rw [← e])
set_option maxHeartbeats 8000000 in
set_option maxRecDepth 100000 in
theorem l01Number_any (s : ByteArray) (w : World) (hs : s.size ≤ 1048576) : Calls Tryz.prog 60 #[.string s] w (NumP w (rdN s.data.toList)) := by
  by_cases h0 : s.size = 0
  · have hl : s.data.toList = [] := List.eq_nil_of_length_eq_zero (by rw [bs_len]; exact h0)
    have E : Hid (rdN s.data.toList = none) := by rw [Hid, hl]; rfl
    have h1 : s.toList = [] := by rw [ByteArray.toList_eq, hl]
    have h3 : s.size < 1 := by omega
    clear hl h0
    go_enter Tryz.func60, Tryz.ntmps60
    go_wp2
    go_ret2
    exact NumP.no E.out (Below.refl _ _)
  · have hp : 0 < s.size := by omega
    have h1 : ¬ s.toList = [] := by
      rw [ByteArray.toList_eq]
      intro e
      have := bs_len s
      rw [e] at this
      simp at this
      omega
    have h2 : s.toList.isEmpty = false := by simpa using h1
    clear h0
    by_cases hc : s[0] = 45
    · obtain ⟨u1, u2, u3⟩ := undash_cut hp hc
      have HD := hid u1
      have e1 : (((s[0].toNat : Nat) : Int) == 45) = true := by rw [hc]; rfl
      obtain ⟨T, hT⟩ : ∃ T, T = s.extract 1 s.size := ⟨_, rfl⟩
      rw [← hT] at u2 u3
      have UD := hid u2
      have HT := hid hT
      have z1 : (1 : Int) ≤ (s.size : Int) := by omega
      have z2 : (T.size : Int) < (s.size : Int) := by omega
      clear u1 u2 u3 hc hT
      go_enter Tryz.func60, Tryz.ntmps60
      go_upto_region 4 with fail
      rw [← HT.out]
      clear HT
      by_cases hl : T.size < 1 ∨ 18 < T.size
      · have E : Hid (rdN s.data.toList = none) := rd_len (by rw [UD.out, bs_len]; exact hl)
        rcases hl with hl | hl
        · go_wp2
          go_ret2
          exact NumP.no E.out (Below.refl _ _)
        · have hl2 : ¬ T.size < 1 := by omega
          go_wp2
          go_ret2
          exact NumP.no E.out (Below.refl _ _)
      · have hl1 : ¬ T.size < 1 := by omega
        have hl2 : ¬ 18 < T.size := by omega
        have RD : Hid (rdN s.data.toList = match Lib.decFrom 0 T.data.toList with | none => none | some u => if Lib.itoa (-(u : Int)) = s.data.toList then some (-(u : Int)) else none) := rd_neg HD.out UD.out (by rw [bs_len]; omega)
        clear hl HD UD
        go_wp2
        go_loop [5, 6] (fun vn vi => ∃ (k u : Nat), k ≤ T.size ∧ vi = .int .i64 (k : Nat) ∧ vn = .int .i64 (u : Nat) ∧ Hid (u < 10 ^ k) ∧ Hid (Lib.decFrom 0 T.data.toList = Lib.decFrom u (T.data.toList.drop k))) (fun _ i => T.size - (intOf i).toNat)
        case atStart => exact ⟨0, 0, by omega, rfl, rfl, hid (by simp), hid rfl⟩
        case round =>
          obtain ⟨k, u, hk, rfl, rfl, hu, hE⟩ := hrel
          by_cases hkT : k < T.size
          · have hu17 := pow17 hu.out (by omega)
            have e1 := hE.out
            rw [drop_at (bs_get hkT), decFrom_cons] at e1
            have hdg := fun W => l01DigitN_any T[k] W
            have k0 : (0 : Int) ≤ (k : Int) := by omega
            have k1 : (k : Int) < (T.size : Int) := by omega
            cases hd : digB T[k] with
            | false =>
              have E : Hid (rdN s.data.toList = none) := by rw [Hid, RD.out, e1, if_neg (digB_no hd)]
              rw [hd] at hdg
              clear e1 hE hu
              go_wp2_with (go_at_call 76; refine (hdg _).mono ?_; rintro r w1 ⟨rfl, e⟩; replace e := e.symm; subst e)
              go_ret2
              exact NumP.no E.out (Below.refl _ _)
            | true =>
              obtain ⟨d0, d1⟩ := digB_yes hd
              rw [if_pos ⟨d0, d1⟩] at e1
              have E2 := hid e1
              have U2 := hid (pow_step hu.out (show T[k].toNat - 48 ≤ 9 by omega))
              rw [hd] at hdg
              have wr8 : IntKind.u8.wrap ((T[k].toNat : Int) - 48) = (T[k].toNat : Int) - 48 := by simp only [IntKind.wrap, IntKind.bits, IntKind.signed]; simp; omega
              have i48 : (48 : Int) ≤ (T[k].toNat : Int) := by omega
              have i57 : (T[k].toNat : Int) ≤ 57 := by omega
              clear e1 hE hu hd d0 d1
              go_wp2_with (go_at_call 76; refine (hdg _).mono ?_; rintro r w1 ⟨rfl, e⟩; replace e := e.symm; subst e)
              go_round
              case rel => exact ⟨k + 1, u * 10 + (T[k].toNat - 48), by omega, by go_num, by (congr 1; omega), U2, E2⟩
              case measure => simp [intOf]; omega
          · obtain rfl : k = T.size := by omega
            have hu18 := pow18 hu.out (by omega)
            have e1 := hE.out
            rw [List.drop_of_length_le (by rw [bs_len]; omega)] at e1
            have e2 := RD.out
            rw [e1] at e2
            have e3 : rdN s.data.toList = if Lib.itoa (-(u : Int)) = s.data.toList then some (-(u : Int)) else none := e2
            have E3 := hid e3
            obtain ⟨D, hD⟩ : ∃ D : ByteArray, D = ⟨(Lib.itoa (-(u : Int))).toArray⟩ := ⟨_, rfl⟩
            have cc := fun W => l01Dec_any (-(u : Int)) W (by omega) (by omega)
            have ev : itoaV (-(u : Int)) = .string D := by rw [hD]; rfl
            rw [ev] at cc
            by_cases hq : Lib.itoa (-(u : Int)) = s.data.toList
            · have E : Hid (rdN s.data.toList = some (-(u : Int))) := by rw [Hid, E3.out, if_pos hq]
              have q1 : (D.toList == s.toList) = true := bs_in (by rw [hD]; exact ba_eq hq)
              clear e1 e2 e3 hE RD E3 hq hD ev hu
              go_wp2_with (go_at_call 53; refine (cc _).mono ?_; rintro r w1 ⟨rfl, b1⟩)
              go_ret2
              exact NumP.yes E.out b1
            · have E : Hid (rdN s.data.toList = none) := by rw [Hid, E3.out, if_neg hq]
              have q1 : (D.toList == s.toList) = false := bs_ne (by rw [hD]; exact ba_ne hq)
              clear e1 e2 e3 hE RD E3 hq hD ev hu
              go_wp2_with (go_at_call 53; refine (cc _).mono ?_; rintro r w1 ⟨rfl, b1⟩)
              go_ret2
              exact NumP.no E.out b1
    · obtain ⟨u1, u2⟩ := undash_keep (fun _ => hc)
      have HD := hid u1
      have UD := hid u2
      have e1 : (((s[0].toNat : Nat) : Int) == 45) = false := by
        rw [beq_eq_false_iff_ne]
        intro e
        exact hc (UInt8.toNat_inj.1 (by simp only [UInt8.reduceToNat]; omega))
      clear u1 u2 hc
      go_enter Tryz.func60, Tryz.ntmps60
      go_upto_region 4 with fail
      by_cases hl : s.size < 1 ∨ 18 < s.size
      · have E : Hid (rdN s.data.toList = none) := rd_len (by rw [UD.out, bs_len]; exact hl)
        rcases hl with hl | hl
        · exact absurd hl (by omega)
        · have hl2 : ¬ s.size < 1 := by omega
          go_wp2
          go_ret2
          exact NumP.no E.out (Below.refl _ _)
      · have hl1 : ¬ s.size < 1 := by omega
        have hl2 : ¬ 18 < s.size := by omega
        have RD : Hid (rdN s.data.toList = match Lib.decFrom 0 s.data.toList with | none => none | some u => if Lib.itoa (u : Int) = s.data.toList then some (u : Int) else none) := rd_pos HD.out UD.out (by rw [bs_len]; omega)
        clear hl HD UD
        go_wp2
        go_loop [5, 6] (fun vn vi => ∃ (k u : Nat), k ≤ s.size ∧ vi = .int .i64 (k : Nat) ∧ vn = .int .i64 (u : Nat) ∧ Hid (u < 10 ^ k) ∧ Hid (Lib.decFrom 0 s.data.toList = Lib.decFrom u (s.data.toList.drop k))) (fun _ i => s.size - (intOf i).toNat)
        case atStart => exact ⟨0, 0, by omega, rfl, rfl, hid (by simp), hid rfl⟩
        case round =>
          obtain ⟨k, u, hk, rfl, rfl, hu, hE⟩ := hrel
          by_cases hkT : k < s.size
          · have hu17 := pow17 hu.out (by omega)
            have e1 := hE.out
            rw [drop_at (bs_get hkT), decFrom_cons] at e1
            have hdg := fun W => l01DigitN_any s[k] W
            have k0 : (0 : Int) ≤ (k : Int) := by omega
            have k1 : (k : Int) < (s.size : Int) := by omega
            cases hd : digB s[k] with
            | false =>
              have E : Hid (rdN s.data.toList = none) := by rw [Hid, RD.out, e1, if_neg (digB_no hd)]
              rw [hd] at hdg
              clear e1 hE hu
              go_wp2_with (go_at_call 76; refine (hdg _).mono ?_; rintro r w1 ⟨rfl, e⟩; replace e := e.symm; subst e)
              go_ret2
              exact NumP.no E.out (Below.refl _ _)
            | true =>
              obtain ⟨d0, d1⟩ := digB_yes hd
              rw [if_pos ⟨d0, d1⟩] at e1
              have E2 := hid e1
              have U2 := hid (pow_step hu.out (show s[k].toNat - 48 ≤ 9 by omega))
              rw [hd] at hdg
              have wr8 : IntKind.u8.wrap ((s[k].toNat : Int) - 48) = (s[k].toNat : Int) - 48 := by simp only [IntKind.wrap, IntKind.bits, IntKind.signed]; simp; omega
              have i48 : (48 : Int) ≤ (s[k].toNat : Int) := by omega
              have i57 : (s[k].toNat : Int) ≤ 57 := by omega
              clear e1 hE hu hd d0 d1
              go_wp2_with (go_at_call 76; refine (hdg _).mono ?_; rintro r w1 ⟨rfl, e⟩; replace e := e.symm; subst e)
              go_round
              case rel => exact ⟨k + 1, u * 10 + (s[k].toNat - 48), by omega, by go_num, by (congr 1; omega), U2, E2⟩
              case measure => simp [intOf]; omega
          · obtain rfl : k = s.size := by omega
            have hu18 := pow18 hu.out (by omega)
            have e1 := hE.out
            rw [List.drop_of_length_le (by rw [bs_len]; omega)] at e1
            have e2 := RD.out
            rw [e1] at e2
            have e3 : rdN s.data.toList = if Lib.itoa (u : Int) = s.data.toList then some (u : Int) else none := e2
            have E3 := hid e3
            obtain ⟨D, hD⟩ : ∃ D : ByteArray, D = ⟨(Lib.itoa (u : Int)).toArray⟩ := ⟨_, rfl⟩
            have cc := fun W => l01Dec_any (u : Int) W (by omega) (by omega)
            have ev : itoaV (u : Int) = .string D := by rw [hD]; rfl
            rw [ev] at cc
            by_cases hq : Lib.itoa (u : Int) = s.data.toList
            · have E : Hid (rdN s.data.toList = some (u : Int)) := by rw [Hid, E3.out, if_pos hq]
              have q1 : (D.toList == s.toList) = true := bs_in (by rw [hD]; exact ba_eq hq)
              clear e1 e2 e3 hE RD E3 hq hD ev hu
              go_wp2_with (go_at_call 53; refine (cc _).mono ?_; rintro r w1 ⟨rfl, b1⟩)
              go_ret2
              exact NumP.yes E.out b1
            · have E : Hid (rdN s.data.toList = none) := by rw [Hid, E3.out, if_neg hq]
              have q1 : (D.toList == s.toList) = false := bs_ne (by rw [hD]; exact ba_ne hq)
              clear e1 e2 e3 hE RD E3 hq hD ev hu
              go_wp2_with (go_at_call 53; refine (cc _).mono ?_; rintro r w1 ⟨rfl, b1⟩)
              go_ret2
              exact NumP.no E.out b1
end Go.Proofs.YtcgkcfmiabninaaGreatDoor
/-
  Numbers read by the program; the library's cutting of texts. No condition but what lies laid.
-/
namespace Go.Proofs.YtcgkcfmiabninaaGreatDoor
open Go.RowKit
set_option maxHeartbeats 400000

/-- what the library's variables hold -/
structure LibW (w : World) : Prop where
  tab : TabW w
  max : ∃ m, w.cell? ⟨0, 0, none⟩ = some (.int .i64 m)
  syn : ∃ te pe, w.cell? ⟨4, 0, none⟩ = some (.iface te pe)
  rng : ∃ te pe, w.cell? ⟨5, 0, none⟩ = some (.iface te pe)
theorem LibW.below {w w' : World} (h : LibW w) (hb : Below w.heap.size w w') : LibW w' := by
  obtain ⟨t, ⟨m, hm⟩, ⟨a, b, hs⟩, c, d, hr⟩ := h
  exact ⟨t.below hb, ⟨m, below_cell hm hb⟩, ⟨a, b, below_cell hs hb⟩, c, d, below_cell hr hb⟩
theorem trim_dash (l : List UInt8) : Lib.trimPrefix l [45] = undash l := by
  unfold Lib.trimPrefix undash Lib.hasPrefix
  cases l with
  | nil => rfl
  | cons c r =>
    by_cases h : c = 45
    · subst h; simp [List.isPrefixOf]
    · have : ¬ (45 : UInt8) = c := fun e => h e.symm
      simp [List.isPrefixOf, h, this]
theorem ba_size (l : List UInt8) : (⟨l.toArray⟩ : ByteArray).size = l.length := by simp [ByteArray.size]
theorem trim_le (l p : List UInt8) : (Lib.trimPrefix l p).length ≤ l.length := by unfold Lib.trimPrefix; split <;> simp
theorem cut_le (l p : List UInt8) : (Lib.cut l p).1.length ≤ l.length ∧ (Lib.cut l p).2.1.length ≤ l.length := by
  unfold Lib.cut; split <;> simp <;> omega
theorem splitK_le (sep : List UInt8) : ∀ (k : Nat) (s : List UInt8), ∀ z ∈ Lib.splitK sep 0 k s, z.length ≤ s.length := by
  intro k
  induction k with
  | zero => intro s z hz; simp only [Lib.splitK, List.mem_singleton] at hz; subst hz; omega
  | succ k ih =>
    intro s z hz
    rw [Lib.splitK] at hz
    split at hz
    · obtain rfl := List.mem_singleton.1 hz; omega
    · rcases List.mem_cons.1 hz with rfl | hz
      · simp; omega
      · have := ih _ z hz
        simp only [List.length_drop] at this
        omega
theorem trim_any (s p : ByteArray) (w : World) : Calls Tryz.prog 83 #[.string s, .string p] w fun e w' => e = .returned (.string ⟨(Lib.trimPrefix s.data.toList p.data.toList).toArray⟩) ∧ w' = w := Any.strings_TrimPrefix Tryz.lays101 s p w
theorem parse_ok (s : ByteArray) (v : Int) (w : World) (hs : s.size ≤ 1048576) (h : Lib.parseIntB 64 s.data.toList = .ok v) :
    Calls Tryz.prog 84 #[.string s, .int .i64 10, .int .i64 64] w fun e w' => e = .returned (.tuple #[.int .i64 v, .nilIface]) ∧ Below w.heap.size w w' := by
  refine (Any.strconv_ParseInt_10_at64_ok Tryz.laysC174 s (by omega) v h w).mono ?_
  rintro e w' ⟨he, h⟩
  refine ⟨he, ?_⟩
  rcases h with rfl | ⟨t, rfl⟩
  · exact Below.refl _ _
  · exact Lib.bytesWorld_below w _ t
theorem parse_no (s : ByteArray) (w : World) (hs : s.size ≤ 1048576) (L : LibW w) (h : ∀ v, Lib.parseIntB 64 s.data.toList ≠ .ok v) :
    Calls Tryz.prog 84 #[.string s, .int .i64 10, .int .i64 64] w fun e w' => ∃ v T N, e = .returned (.tuple #[.int .i64 v, .iface T (.pointer (some ⟨N, 0, none⟩))]) ∧ Below w.heap.size w w' := by
  rcases hp : Lib.parseIntB 64 s.data.toList with v | _ | _
  · exact absurd hp (h v)
  · obtain ⟨te, pe, hc⟩ := L.syn
    refine (Any.strconv_ParseInt_10_at64_syntax Tryz.laysC174 s (by omega) hp _ w hc (.inr ⟨te, pe, rfl⟩)).mono ?_
    rintro e w' ⟨N, he, _, _, hb⟩
    exact ⟨_, _, N, he, hb⟩
  · obtain ⟨te, pe, hc⟩ := L.rng
    refine (Any.strconv_ParseInt_10_at64_range Tryz.laysC174 s (by omega) hp _ w hc (.inr ⟨te, pe, rfl⟩)).mono ?_
    rintro e w' ⟨N, he, _, _, hb⟩
    exact ⟨_, _, N, he, hb⟩
set_option maxHeartbeats 2000000 in
theorem ReadDecimalI_any (s : ByteArray) (w : World) (hs : s.size ≤ 1048576) (L : LibW w) : Calls Tryz.prog 64 #[.string s] w (NumP w (rdI s.data.toList)) := by
  by_cases h19 : 19 < s.size
  · have E : Hid (rdI s.data.toList = none) := by rw [Hid, rdI, if_pos (.inl (by rw [bs_len]; exact h19))]
    go_enter Tryz.func64, Tryz.ntmps64
    go_wp2_with fail
    go_ret2
    exact NumP.no E.out (Below.refl _ _)
  · have ct := trim_any s ⟨#[45]⟩ w
    rw [show (⟨#[45]⟩ : ByteArray).data.toList = [45] from rfl, trim_dash] at ct
    obtain ⟨D, hD⟩ : ∃ D : ByteArray, D = ⟨(undash s.data.toList).toArray⟩ := ⟨_, rfl⟩
    rw [← hD] at ct
    have hDz : D.size = (undash s.data.toList).length := by rw [hD, ba_size]
    have n19 : ¬ 19 < s.size := h19
    by_cases h18 : 18 < D.size
    · have E : Hid (rdI s.data.toList = none) := by rw [Hid, rdI, if_pos (.inr (by rw [← hDz]; exact h18))]
      clear hD hDz
      go_enter Tryz.func64, Tryz.ntmps64
      go_wp2_with (go_at_call 83; refine ct.mono ?_; rintro r w1 ⟨rfl, e⟩; replace e := e.symm; subst e)
      go_ret2
      exact NumP.no E.out (Below.refl _ _)
    · have RD : Hid (rdI s.data.toList = match Lib.parseIntB 64 s.data.toList with | .ok v => if Lib.itoa v = s.data.toList then some v else none | _ => none) := by
        rw [Hid, rdI, if_neg (by rw [bs_len, ← hDz]; omega)]
        rfl
      have n18 : ¬ 18 < D.size := h18
      clear hD hDz h18
      by_cases hp : ∃ v, Lib.parseIntB 64 s.data.toList = .ok v
      · obtain ⟨v, hv⟩ := hp
        have bd := Lib.parseIntB_bounds hv
        have b0 : -9223372036854775808 ≤ v := by have := bd.1; simp at this; omega
        have b1 : v ≤ 9223372036854775807 := by have := bd.2; simp at this; omega
        have cp := parse_ok s v w hs hv
        obtain ⟨X, hX⟩ : ∃ X : ByteArray, X = ⟨(Lib.itoa v).toArray⟩ := ⟨_, rfl⟩
        have ev : itoaV v = .string X := by rw [hX]; rfl
        have cd := fun W (h : TabW W) => Decimal_any v W b0 b1 h
        rw [ev] at cd
        have HL := hid L
        have e3 : rdI s.data.toList = if Lib.itoa v = s.data.toList then some v else none := by rw [RD.out, hv]
        by_cases hq : Lib.itoa v = s.data.toList
        · have E : Hid (rdI s.data.toList = some v) := by rw [Hid, e3, if_pos hq]
          have q1 : (X.toList == s.toList) = true := bs_in (by rw [hX]; exact ba_eq hq)
          clear RD hv bd e3 hq hX ev L
          go_enter Tryz.func64, Tryz.ntmps64
          go_wp2_with (first
            | (go_at_call 83; refine ct.mono ?_; rintro r w1 ⟨rfl, e⟩; replace e := e.symm; subst e)
            | (go_at_call 84; refine cp.mono ?_; rintro r w2 ⟨rfl, b2⟩)
            | (go_at_call 41; refine (cd _ (HL.out.below b2).tab).mono ?_; rintro r w3 ⟨rfl, b3⟩))
          go_ret2
          exact NumP.yes E.out (b2.trans (b3.mono b2.size))
        · have E : Hid (rdI s.data.toList = none) := by rw [Hid, e3, if_neg hq]
          have q1 : (X.toList == s.toList) = false := bs_ne (by rw [hX]; exact ba_ne hq)
          clear RD hv bd e3 hq hX ev L
          go_enter Tryz.func64, Tryz.ntmps64
          go_wp2_with (first
            | (go_at_call 83; refine ct.mono ?_; rintro r w1 ⟨rfl, e⟩; replace e := e.symm; subst e)
            | (go_at_call 84; refine cp.mono ?_; rintro r w2 ⟨rfl, b2⟩)
            | (go_at_call 41; refine (cd _ (HL.out.below b2).tab).mono ?_; rintro r w3 ⟨rfl, b3⟩))
          go_ret2
          exact NumP.no E.out (b2.trans (b3.mono b2.size))
      · have hno : ∀ v, Lib.parseIntB 64 s.data.toList ≠ .ok v := fun v e => hp ⟨v, e⟩
        have cp := parse_no s w hs L hno
        have E : Hid (rdI s.data.toList = none) := by
          rw [Hid, RD.out]
          rcases hh : Lib.parseIntB 64 s.data.toList with v | _ | _
          · exact absurd hh (hno v)
          · rfl
          · rfl
        clear RD hp hno L
        go_enter Tryz.func64, Tryz.ntmps64
        go_wp2_with (first
          | (go_at_call 83; refine ct.mono ?_; rintro r w1 ⟨rfl, e⟩; replace e := e.symm; subst e)
          | (go_at_call 84; refine cp.mono ?_; rintro r w2 ⟨v, T, N, rfl, b2⟩))
        go_ret2
        exact NumP.no E.out b2
theorem ReadDecimal_any (s : ByteArray) (w : World) (hs : s.size ≤ 1048576) (L : LibW w) : Calls Tryz.prog 64 #[.string s] w (NumP w (rdN s.data.toList)) := by
  have := ReadDecimalI_any s w hs L
  rwa [rdI_eq] at this
end Go.Proofs.YtcgkcfmiabninaaGreatDoor
/-
  strings.Split at a byte. No condition but what lies laid.
-/
namespace Go.Proofs.YtcgkcfmiabninaaGreatDoor
open Go.RowKit
set_option maxHeartbeats 400000

/-- the parts of a text between bytes b -/
def splB (b : UInt8) (s : ByteArray) : List ByteArray := (spl b s.data.toList).map mkB
theorem of_bytesL {xs : List ByteArray} {l : List (List UInt8)} (h : bytesL xs = l) : xs = l.map mkB := by
  subst h
  rw [bytesL, List.map_map]
  conv => lhs; rw [← List.map_id xs]
  exact List.map_congr_left fun z _ => (mkB_of z).symm
theorem rowsOf_spl (t : ByteArray) : rowsOf t = splB 10 t := rfl
theorem splB_len (b : UInt8) (s : ByteArray) : (splB b s).length ≤ s.size + 1 := by
  rw [splB, List.length_map, spl_length]
  have h1 : List.count b s.data.toList ≤ s.data.toList.length := List.count_le_length
  rw [bs_len] at h1
  omega
theorem splB_one (b : UInt8) (s : ByteArray) : 1 ≤ (splB b s).length := by rw [splB, List.length_map, spl_length]; omega
theorem spl_part (b : UInt8) : ∀ (l : List UInt8), ∀ w ∈ spl b l, w.length ≤ l.length := by
  intro l
  induction l with
  | nil => intro w hw; simp only [spl, List.mem_singleton] at hw; subst hw; simp
  | cons c r ih =>
    intro w hw
    simp only [spl] at hw
    split at hw
    · rcases List.mem_cons.1 hw with rfl | hw
      · simp
      · have := ih w hw; simp only [List.length_cons]; omega
    · cases hs : spl b r with
      | nil => exact absurd hs (spl_ne b r)
      | cons h t =>
        rw [hs] at hw ih
        simp only at hw
        rcases List.mem_cons.1 hw with rfl | hw
        · have := ih h (by simp); simp only [List.length_cons]; omega
        · have := ih w (by simp [hw]); simp only [List.length_cons]; omega
theorem mkB_size (l : List UInt8) : (mkB l).size = l.length := by rw [← bs_len, mkB_data]
theorem splB_size {b : UInt8} {s z : ByteArray} (h : z ∈ splB b s) : z.size ≤ s.size := by
  obtain ⟨l, hl, rfl⟩ := List.mem_map.1 h
  have := spl_part b _ l hl
  rw [bs_len] at this
  rw [mkB_size]
  exact this
/-- what a row's words are -/
theorem words_stay (row : ByteArray) : wordsR row = (splB 32 row).filter fun z => !decide (z = ByteArray.empty) := by
  rw [wordsR, splB, List.filter_map]
  congr 1
  refine List.filter_congr fun w _ => ?_
  simp only [Function.comp_apply]
  cases w with
  | nil => rfl
  | cons c r =>
    have : mkB (c :: r) ≠ ByteArray.empty := fun e => by
      have := congrArg ByteArray.size e
      rw [mkB_size] at this
      simp at this
    simp [this]
theorem words_size {row z : ByteArray} (h : z ∈ wordsR row) : z.size ≤ row.size := by
  rw [words_stay] at h
  exact splB_size (List.mem_filter.1 h).1
/-- a list of texts of one's own -/
def WordsP (w : World) (xs : List ByteArray) (r : Ending) (w' : World) : Prop :=
  ∃ (A : Option Addr) (n c : Nat), r = .returned (.slice A n c) ∧ w'.ownsRow w.heap.size 9 1 (.slice A n c) n (xs.flatMap encS) ∧ Below w.heap.size w w'
theorem encS_map (xs : List ByteArray) : xs.flatMap encS = xs.map Value.string := by
  induction xs with
  | nil => rfl
  | cons x r ih => rw [List.flatMap_cons, ih]; rfl
theorem l01Split_words (s : ByteArray) (b : UInt8) (w : World) (hs : s.size ≤ 1048576) :
    Calls Tryz.prog 27 #[.string s, .int .u8 (b.toNat : Int)] w (WordsP w (splB b s)) := by
  refine (l01Split_any s b w hs).mono ?_
  rintro r w1 ⟨g, c, xs, rfl, hx, ho, hb⟩
  rw [of_bytesL hx] at ho
  rw [of_bytesL hx]
  exact ⟨_, _, _, rfl, ho, hb⟩
theorem splitI_any (s : ByteArray) (b : UInt8) (w : World) (hs : s.size ≤ 1048576) (L : LibW w) :
    Calls Tryz.prog 29 #[.string s, .string ⟨#[b]⟩] w (WordsP w (splB b s)) := by
  obtain ⟨m, hm⟩ := L.max
  have h := Any.strings_Split { Tryz.laysM146 with } Tryz.laysM146.i9 s ⟨#[b]⟩ m w (by omega) hm (show 1 ≤ (⟨#[b]⟩ : ByteArray).size from Nat.le_refl 1)
  have hc : Lib.countB s ⟨#[b]⟩ = List.count b s.data.toList := Lib.count_one b s.data.toList
  have e : Lib.splitB ⟨#[b]⟩ 0 (Lib.countB s ⟨#[b]⟩) s = splB b s := by
    refine of_bytesL ?_
    rw [bytesL, Lib.splitB_data]
    have h1 := splitK_join (b := b) (k := Lib.countB s ⟨#[b]⟩) (spl_ne b s.data.toList) (spl_mem b _) (by rw [spl_length, hc]; omega)
    rwa [join_spl] at h1
  have hl : Lib.countB s ⟨#[b]⟩ + 1 = (splB b s).length := by rw [splB, List.length_map, spl_length, hc]
  rw [e, hl] at h
  refine h.mono ?_
  rintro e w' ⟨he, rfl⟩
  have hle := splB_len b s
  have ho := World.ownsRow_lit (base := w.heap.size) (e := 9) (size := 1) w ((splB b s).map Value.string).toArray (splB b s).length (Nat.le_refl _) (by simp only [maxLen]; omega) (by simp)
  refine ⟨_, _, _, he, ?_, (Below.refl _ _).alloc (Nat.le_refl _) _⟩
  rw [encS_map]
  exact ho
end Go.Proofs.YtcgkcfmiabninaaGreatDoor
/-
  A row's words: the program's way and the reference's. No condition but what lies laid.
-/
namespace Go.Proofs.YtcgkcfmiabninaaGreatDoor
open Go.RowKit
set_option maxHeartbeats 400000

theorem word_cell {w : World} {lo T n c : Nat} {A : Option Addr} {ws : List ByteArray} (h : w.ownsRow lo T 1 (.slice A n c) n (ws.flatMap encS)) {i : Nat} {z : ByteArray} (hz : ws[i]? = some z) :
    ∃ g, A = some ⟨g, 0, none⟩ ∧ w.cell? ⟨g, i, none⟩ = some (.string z) := by
  have hn := own_len encS_len (by omega) h
  have hi := (List.getElem?_eq_some_iff.1 hz).1
  obtain ⟨g, rfl, _, _⟩ := own_some h (by omega)
  refine ⟨g, rfl, ?_⟩
  rw [h.cellAt i (by omega)]
  have := flatMap_get encS_len (j := 0) (u := .string z) ws i hz rfl
  simpa using this
theorem emp_eq (z : ByteArray) : z.toList.isEmpty = decide (z = ByteArray.empty) := by
  rw [ByteArray.toList_eq]
  by_cases h : z = ByteArray.empty
  · subst h; rfl
  · rw [decide_eq_false h]
    cases hl : z.data.toList with
    | nil => exact absurd (data_inj (x := z) (y := ByteArray.empty) hl) h
    | cons c r => rfl
theorem splitWords1_any (z : ByteArray) (w : World) : Calls Tryz.prog 82 #[.string z] w fun r w' => r = .returned (.bool (decide (z = ByteArray.empty))) ∧ Below w.heap.size w w' := by
  have E := hid (emp_eq z)
  go_enter Tryz.func82, Tryz.ntmps82
  go_wp2
  go_ret
  exact ⟨retB E.out, Below.refl _ _⟩
set_option maxRecDepth 100000 in
theorem splitWordsI_any (s : ByteArray) (w : World) (hs : s.size ≤ 1048576) (L : LibW w) : Calls Tryz.prog 63 #[.string s] w (WordsP w (wordsR s)) := by
  have c1 := splitI_any s 32 w hs L
  have hl := splB_len 32 s
  have EW := hid (words_stay s)
  have eg := enters_of Tryz.func82 (by kernel_rfl) rfl
  have c2 := fun (A : Option Addr) (n c : Nat) (W : World) (hn : n ≤ 2000000) (ho : W.ownsRow w.heap.size 9 1 (.slice A n c) n ((splB 32 s).flatMap encS)) => deleteS_any 82 #[] (fun z => decide (z = ByteArray.empty)) eg w.heap.size A n c (splB 32 s) W hn ho (fun W2 z _ _ => splitWords1_any z W2)
  generalize splB 32 s = ps at c1 hl EW c2
  clear eg
  go_enter Tryz.func63, Tryz.ntmps63
  go_wp2_with fail
  refine c1.mono ?_
  rintro r w1 ⟨A, n, c, rfl, ho, hb⟩
  have hn := own_len encS_len (by omega) ho
  have c3 := c2 A n c w1 (by omega) ho
  clear c1 c2 hn
  go_wp2_with fail
  refine c3.mono ?_
  rintro r w2 ⟨m, rfl, ho2, hg⟩
  go_wp2_with fail
  go_ret
  refine ⟨_, _, _, rfl, ?_, grown_below hb hg hb.size (fun b hb => (ho.lt b hb).1)⟩
  rw [EW.out]
  exact ho2
set_option maxHeartbeats 4000000 in
set_option maxRecDepth 100000 in
theorem splitWordsS_any (s : ByteArray) (w : World) (hs : s.size ≤ 1048576) : Calls Tryz.prog 57 #[.string s] w (WordsP w (wordsR s)) := by
  obtain ⟨i0, hi, hz0, hz1, hz2⟩ := info_parts str_info
  have c1 := l01Split_words s 32 w hs
  have hl := splB_len 32 s
  have EW := hid (words_stay s)
  generalize splB 32 s = ps at c1 hl EW
  go_enter Tryz.func57, Tryz.ntmps57
  go_wp2_with fail
  refine c1.mono ?_
  rintro r w1 ⟨A, n, c, rfl, ho, hb⟩
  have hn := own_len encS_len (by omega) ho
  have hx := own_sl encS_len (by omega) ho
  have o0 := World.ownsRow_lit (base := w1.heap.size) (e := 9) (size := 1) w1 #[] 0 (Nat.le_refl _) (by simp [maxLen]) (by simp)
  have O0 := hid o0
  have HN := hid hn
  clear o0 c1 ho
  have hn2 : n ≤ 1048577 := by omega
  clear hn
  go_wp2_with fail
  go_loopw [4, 5] (fun vo vi wl => ∃ (g c' k : Nat) (xs : List ByteArray), k ≤ n ∧ xs.length ≤ k ∧ vo = .slice (some ⟨g, 0, none⟩) xs.length c' ∧ vi = .int .i64 (k : Nat) ∧ Hid (xs = (ps.take k).filter fun z => !decide (z = ByteArray.empty)) ∧ Hid (wl.ownsRow w1.heap.size 9 1 (.slice (some ⟨g, 0, none⟩) xs.length c') xs.length (xs.flatMap encS)) ∧ Below w1.heap.size w1 wl) (fun _ i _ => n - (intOf i).toNat)
  case atStart => exact ⟨_, _, 0, [], by omega, by simp, rfl, rfl, hid (by simp), O0, (Below.refl _ _).alloc (Nat.le_refl _) _⟩
  case round =>
    clear O0
    obtain ⟨g, c', k, xs, hk, hxk, rfl, rfl, hE, hO, hbl⟩ := hrel
    have hbs := hbl.size
    have hlo := hO.out.lt
    by_cases hlt : k < n
    · obtain ⟨z, b, off, Hz, rfl, hbB, c0⟩ := (hx.below hbl).str hlt
      have k0 : (0 : Int) ≤ (k : Int) := by omega
      have k1 : (k : Int) < (n : Int) := by omega
      have hbw : b < wr.heap.size := by omega
      by_cases hz : z = ByteArray.empty
      · have E2 : Hid (xs = (ps.take (k + 1)).filter fun z => !decide (z = ByteArray.empty)) := by
          rw [Hid, take_at Hz.out, List.filter_append, ← hE.out, hz]; simp
        have q1 : z.toList.isEmpty = true := by rw [emp_eq]; simpa using hz
        have q2 : z.toList = [] := by simpa using q1
        clear hE Hz hz hx
        go_wp2_with fail
        go_roundw
        all_goals first | exact ⟨g, c', k + 1, xs, by omega, by omega, rfl, by go_num, E2, hO, hbl⟩ | exact ⟨⟨g, c', k + 1, xs, by omega, by omega, rfl, by go_num, E2, hO, hbl⟩, by simp [intOf]; omega⟩ | (simp [intOf]; omega)
      · have E2 : Hid (xs ++ [z] = (ps.take (k + 1)).filter fun z => !decide (z = ByteArray.empty)) := by
          rw [Hid, take_at Hz.out, List.filter_append, ← hE.out]; simp [hz]
        have q1 : z.toList.isEmpty = false := by rw [emp_eq]; simpa using hz
        have q2 : ¬ z.toList = [] := by simpa using q1
        have hlen : (xs ++ [z]).length = xs.length + 1 := by simp
        have HL := hid hlen
        clear hE Hz hz hlen hx
        go_wp2_with (at_builtin; refine wpList_append_lies _ rfl _ _ 22 rfl w1.heap.size 9 i0 (.string ByteArray.empty) 1 16 Tryz.underlying22 hi hz0 hz1 hz2 rfl (by omega) (.slice (some ⟨g, 0, none⟩) xs.length c') xs.length (xs.flatMap encS) rfl (hO.out.alloc _) ⟨wr.heap.size, 0, none⟩ 1 1 [.string z] rfl rfl (World.news_of_block (cs := #[.string z]) (t := 9) (fr := (0, 0)) (heap_alloc_new _ _)) (by simp [Value.oneCell']) (by omega) (by simp only [maxLen]; omega) (by omega) (by simp; omega) (wr.heap.size + 1) (by simp) ?_; intro gg cap w3 ho3 hg3 hat3 hlt3)
        rw [snocZ] at ho3
        have O3 : Hid (w3.ownsRow w1.heap.size 9 1 (.slice (some ⟨gg, 0, none⟩) (xs ++ [z]).length cap) (xs ++ [z]).length ((xs ++ [z]).flatMap encS)) := by rw [HL.out]; exact hid ho3
        have b3 : Below w1.heap.size w1 w3 := (hbl.alloc hbs _).grown hg3 (by simp; omega) (fun q hq => (hlo q hq).1)
        clear hO ho3 hg3 hat3 hlo hlt3
        go_roundw
        all_goals first | exact ⟨_, _, k + 1, xs ++ [z], by omega, by rw [HL.out]; omega, by rw [HL.out], by go_num, E2, O3, b3⟩ | exact ⟨⟨_, _, k + 1, xs ++ [z], by omega, by rw [HL.out]; omega, by rw [HL.out], by go_num, E2, O3, b3⟩, by simp [intOf]; omega⟩ | (simp [intOf]; omega)
    · obtain rfl : k = n := by omega
      have E2 : Hid (xs = wordsR s) := by rw [Hid, EW.out, hE.out, HN.out, List.take_length]
      have L1 := hb.size
      clear hE hx
      go_wp2_with fail
      go_ret
      refine ⟨some ⟨g, 0, none⟩, xs.length, c', rfl, ?_, hb.trans (hbl.mono hb.size)⟩
      rw [← E2.out]
      exact hO.out.mono L1
end Go.Proofs.YtcgkcfmiabninaaGreatDoor
