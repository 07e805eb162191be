/-
  Names: the program's test and the reference's. No condition.
-/
import Derived.Test.YtmanbpobdaamfaaStr
import Derived.Test.YtmanbpobdaamfaaBasic
namespace Go.Proofs.Ytmanbpobdaamfaa
open Go.RowKit
set_option maxHeartbeats 400000

theorem beq_int (a b : Int) : (a == b) = decide (a = b) := by by_cases h : a = b <;> simp [h]
def smallC (c : UInt8) : Bool := decide (97 ≤ (c.toNat : Int)) && decide ((c.toNat : Int) ≤ 122)
def digitC (c : UInt8) : Bool := decide (48 ≤ (c.toNat : Int)) && decide ((c.toNat : Int) ≤ 57)
def okC (c : UInt8) : Bool := smallC c || digitC c || decide ((c.toNat : Int) = 45)
def nameL : List UInt8 → Bool
  | [] => false
  | c :: r => smallC c && r.all okC
def nameB (s : ByteArray) : Bool := decide (s.size ≤ 12) && nameL s.data.toList
theorem nameB_big {s : ByteArray} (h : 12 < s.size) : nameB s = false := by simp [nameB]; omega
theorem nameB_nil {s : ByteArray} (h : s.size = 0) : nameB s = false := by
  have : s.data.toList = [] := List.eq_nil_of_length_eq_zero (by simpa using h)
  simp [nameB, nameL, this]
theorem bs_at {s : ByteArray} {k : Nat} (h : k < s.size) : s.data.toList[k]? = some s[k] := by
  rw [List.getElem?_eq_getElem (by simpa using h)]; rfl
theorem nameB_cons {s : ByteArray} (h0 : 0 < s.size) (h : s.size ≤ 12) : nameB s = (smallC s[0] && (s.data.toList.drop 1).all okC) := by
  have h1 := bs_at h0
  cases hl : s.data.toList with
  | nil => rw [hl] at h1; simp at h1
  | cons c r =>
    rw [hl] at h1
    simp at h1
    simp [nameB, nameL, hl, h, ← h1]
theorem bs_drop {s : ByteArray} {k : Nat} (h : k < s.size) : s.data.toList.drop k = s[k] :: s.data.toList.drop (k + 1) := drop_at (bs_at h)
theorem bs_end {s : ByteArray} : s.data.toList.drop s.size = [] := List.drop_of_length_le (by simp)
theorem l01Small_any (c : UInt8) (w : World) : Calls Try.prog 71 #[.int .u8 (c.toNat : Int)] w fun r w' => r = .returned (.bool (smallC c)) ∧ w' = w := by
  go_enter Try.func71, Try.ntmps71
  go_wp2
  all_goals go_ret
  all_goals exact ⟨retB (by simp [smallC]; try omega), rfl⟩
theorem l01Digit_any (c : UInt8) (w : World) : Calls Try.prog 72 #[.int .u8 (c.toNat : Int)] w fun r w' => r = .returned (.bool (digitC c)) ∧ w' = w := by
  go_enter Try.func72, Try.ntmps72
  go_wp2
  all_goals go_ret
  all_goals exact ⟨retB (by simp [digitC]; try omega), rfl⟩
set_option maxHeartbeats 2000000 in
theorem implIsName_any (s : ByteArray) (w : World) (hs : s.size ≤ 9223372036854775807) :
    Calls Try.prog 42 #[.string s] w fun r w' => r = .returned (.bool (nameB s)) ∧ w' = w := by
  by_cases h12 : 12 < s.size
  · have E := hid (nameB_big h12)
    go_enter Try.func42, Try.ntmps42
    go_wp2
    all_goals go_ret
    all_goals exact ⟨retB E.out.symm, rfl⟩
  by_cases h0 : s.size = 0
  · have E := hid (nameB_nil h0)
    have h1 : s.size < 1 := by omega
    clear h0
    go_enter Try.func42, Try.ntmps42
    go_wp2
    all_goals go_ret
    all_goals exact ⟨retB E.out.symm, rfl⟩
  have hp : 0 < s.size := by omega
  have h1 : ¬ s.size < 1 := by omega
  have E := hid (nameB_cons hp (by omega))
  clear h0
  cases hf : smallC s[0] with
  | false =>
    have E2 : Hid (nameB s = false) := by rw [Hid, E.out, hf]; rfl
    clear E
    simp [smallC] at hf
    go_enter Try.func42, Try.ntmps42
    go_wp2
    all_goals first
      | (go_ret; exact ⟨retB E2.out.symm, rfl⟩)
      | (exfalso; omega)
  | true =>
    have E2 : Hid (nameB s = (s.data.toList.drop 1).all okC) := by rw [Hid, E.out, hf]; rfl
    clear E
    simp [smallC] at hf
    obtain ⟨f1, f2⟩ := hf
    go_enter Try.func42, Try.ntmps42
    go_wp2
    go_loop [3] (fun i => ∃ k : Nat, k ≤ s.size ∧ 1 ≤ k ∧ i = .int .i64 k ∧ Hid (nameB s = (s.data.toList.drop k).all okC)) (fun i => s.size - (intOf i).toNat)
    case atStart => exact ⟨1, by omega, by omega, rfl, E2⟩
    case round =>
      obtain ⟨k, hk, hk1, rfl, he⟩ := hrel
      clear E2
      by_cases hlt : k < s.size
      · have he2 := he.out
        rw [bs_drop hlt, List.all_cons] at he2
        cases hc : okC s[k] with
        | false =>
          have E3 : Hid (nameB s = false) := by rw [Hid, he2, hc]; rfl
          clear he he2
          simp [okC, smallC, digitC] at hc
          go_wp2
          all_goals first
            | (go_ret; exact ⟨retB E3.out.symm, rfl⟩)
            | (exfalso; omega)
        | true =>
          have E3 : Hid (nameB s = (s.data.toList.drop (k + 1)).all okC) := by rw [Hid, he2, hc]; rfl
          clear he he2
          simp [okC, smallC, digitC] at hc
          go_wp2
          all_goals first
            | (exfalso; omega)
            | (go_round
               case rel => exact ⟨k + 1, by omega, by omega, by go_num, E3⟩
               case measure => simp [intOf]; omega)
      · have : k = s.size := by omega
        subst this
        have E3 : Hid (nameB s = true) := by rw [Hid, he.out, bs_end]; rfl
        clear he
        go_wp2
        go_ret
        exact ⟨retB E3.out.symm, rfl⟩
theorem toList_size (s : ByteArray) : s.toList.length = s.size := by rw [ByteArray.toList_eq]; simp
theorem bs_nil {s : ByteArray} (h : s.size = 0) : s.toList = [] := List.eq_nil_of_length_eq_zero (by rw [toList_size]; exact h)
theorem bs_full {s : ByteArray} (h : 0 < s.size) : s.toList.isEmpty = false := by
  cases hl : s.toList with
  | nil => have := toList_size s; rw [hl] at this; simp at this; omega
  | cons c r => rfl
set_option maxHeartbeats 2000000 in
theorem specIsName_any (s : ByteArray) (w : World) (hs : s.size ≤ 9223372036854775807) :
    Calls Try.prog 36 #[.string s] w fun r w' => r = .returned (.bool (nameB s)) ∧ w' = w := by
  by_cases h0 : s.size = 0
  · have E := hid (nameB_nil h0)
    have e0 := bs_nil h0
    clear h0
    go_enter Try.func36, Try.ntmps36
    go_wp2
    all_goals go_ret
    all_goals exact ⟨retB E.out.symm, rfl⟩
  have hp : 0 < s.size := by omega
  have e0 := bs_full hp
  clear h0
  by_cases h12 : 12 < s.size
  · have E := hid (nameB_big h12)
    go_enter Try.func36, Try.ntmps36
    go_wp2
    all_goals go_ret
    all_goals exact ⟨retB E.out.symm, rfl⟩
  have E := hid (nameB_cons hp (by omega))
  have hi := l01Small_any s[0]
  cases hf : smallC s[0] with
  | false =>
    have E2 : Hid (nameB s = false) := by rw [Hid, E.out, hf]; rfl
    rw [hf] at hi
    clear E hf
    go_enter Try.func36, Try.ntmps36
    go_wp2_with (go_at_call 71; refine (hi _).mono ?_; rintro r w1 ⟨rfl, rfl⟩)
    all_goals go_ret
    all_goals exact ⟨retB E2.out.symm, rfl⟩
  | true =>
    have E2 : Hid (nameB s = (s.data.toList.drop 0).all okC) := by
      rw [Hid, E.out, hf, bs_drop hp, List.all_cons, Bool.true_and]
      simp [okC, hf]
    rw [hf] at hi
    clear E hf
    go_enter Try.func36, Try.ntmps36
    go_wp2_with (go_at_call 71; refine (hi _).mono ?_; rintro r w1 ⟨rfl, rfl⟩)
    go_loop [3] (fun i => ∃ k : Nat, k ≤ s.size ∧ i = .int .i64 k ∧ Hid (nameB s = (s.data.toList.drop k).all okC)) (fun i => s.size - (intOf i).toNat)
    case atStart => exact ⟨0, by omega, rfl, E2⟩
    case round =>
      obtain ⟨k, hk, rfl, he⟩ := hrel
      clear E2 hi
      by_cases hlt : k < s.size
      · have he2 := he.out
        rw [bs_drop hlt, List.all_cons] at he2
        have h1 := l01Small_any s[k]
        have h2 := l01Digit_any s[k]
        have E3 : Hid (nameB s = ((smallC s[k] || digitC s[k] || decide (((s[k]).toNat : Int) = 45)) && (s.data.toList.drop (k + 1)).all okC)) := he2
        clear he he2
        cases q1 : smallC s[k] <;> cases q2 : digitC s[k]
        all_goals
          rw [q1] at h1 E3
          rw [q2] at h2 E3
          clear q1 q2
          cases q4 : decide (((s[k]).toNat : Int) = 45)
          all_goals
            have q5 : (((s[k]).toNat : Int) == 45) = decide (((s[k]).toNat : Int) = 45) := beq_int _ _
            rw [q4] at q5 E3
            clear q4
            go_wp2_with (first
              | (go_at_call 71; refine (h1 _).mono ?_; rintro r w1 ⟨rfl, rfl⟩)
              | (go_at_call 72; refine (h2 _).mono ?_; rintro r w1 ⟨rfl, rfl⟩))
          all_goals first
            | (go_ret; exact ⟨retB (by rw [E3.out]; rfl), rfl⟩)
            | (have E4 : Hid (nameB s = (s.data.toList.drop (k + 1)).all okC) := by rw [Hid, E3.out]; rfl
               go_round
               case rel => exact ⟨k + 1, by omega, by go_num, E4⟩
               case measure => simp [intOf]; omega)
      · have : k = s.size := by omega
        subst this
        have E3 : Hid (nameB s = true) := by rw [Hid, he.out, bs_end]; rfl
        clear he
        go_wp2
        go_ret
        exact ⟨retB E3.out.symm, rfl⟩
end Go.Proofs.Ytmanbpobdaamfaa
