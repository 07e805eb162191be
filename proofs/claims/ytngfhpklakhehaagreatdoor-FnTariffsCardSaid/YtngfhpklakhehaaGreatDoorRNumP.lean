/-
  Decimal numerals: which texts are the decimal form of a number. No condition.
-/
import Derived.Lib.ParseIntB
import Derived.Lib.Atoi
import Derived.Lib.ItoaNum
import Derived.Lib.SplitLaws
namespace Go.Proofs.YtngfhpklakhehaaGreatDoor
open Go.Lib

/-- what stands behind a minus sign -/
def undash (l : List UInt8) : List UInt8 := if l.head? = some 45 then l.tail else l
/-- the number with a decimal form of at most 18 digits -/
def rdN (l : List UInt8) : Option Int :=
  if (undash l).length < 1 ∨ 18 < (undash l).length then none else
  match decFrom 0 (undash l) with
  | none => none
  | some u => if itoa (if l.head? = some 45 then -(u : Int) else u) = l then some (if l.head? = some 45 then -(u : Int) else u) else none
def rdI (l : List UInt8) : Option Int :=
  if 19 < l.length ∨ 18 < (undash l).length then none else
  match parseIntB 64 l with
  | .ok v => if itoa v = l then some v else none
  | _ => none

theorem digitVal_range {b : UInt8} {d : Nat} (h : digitVal b = some d) : d ≤ 9 ∧ d = b.toNat - 48 ∧ 48 ≤ b.toNat ∧ b.toNat ≤ 57 := by
  unfold digitVal at h
  split at h
  · simp only [Option.some.injEq] at h; omega
  · cases h
theorem decFrom_cons (acc : Nat) (c : UInt8) (r : List UInt8) : decFrom acc (c :: r) = if 48 ≤ c.toNat ∧ c.toNat ≤ 57 then decFrom (acc * 10 + (c.toNat - 48)) r else none := by
  by_cases h : 48 ≤ c.toNat ∧ c.toNat ≤ 57
  · simp only [decFrom, digitVal, if_pos h]
  · simp only [decFrom, digitVal, if_neg h]
theorem parse_short : ∀ (l : List UInt8) (k acc : Nat), acc < 10 ^ k → k + l.length ≤ 18 → parseUintM (2 ^ 64 - 1) acc l = match decFrom acc l with | some u => .ok u | none => NumEnd.syntax := by
  intro l
  induction l with
  | nil => intro k acc _ _; rfl
  | cons c r ih =>
    intro k acc ha hk
    rw [decFrom_cons, parseUintM]
    by_cases hc : 48 ≤ c.toNat ∧ c.toNat ≤ 57
    · rw [if_pos hc, if_pos hc]
      simp only [List.length_cons] at hk
      have h17 : 10 ^ k ≤ 10 ^ 17 := Nat.pow_le_pow_right (by omega) (by omega)
      rw [if_neg (by omega), if_neg (by omega)]
      have h18 : acc * 10 + (c.toNat - 48) < 10 ^ (k + 1) := by rw [Nat.pow_succ]; omega
      exact ih (k + 1) _ h18 (by omega)
    · rw [if_neg hc, if_neg hc]
theorem decFrom_below {l : List UInt8} {u : Nat} (h : decFrom 0 l = some u) (hl : l.length ≤ 18) : u < 1000000000000000000 := by
  have h1 := decFrom_lt l 0 u h
  have h2 : 10 ^ l.length ≤ 10 ^ 18 := Nat.pow_le_pow_right (by omega) hl
  omega
theorem decDigits_head {u : Nat} : ∃ c r, decDigits u = c :: r ∧ 48 ≤ c.toNat ∧ c.toNat ≤ 57 := by
  induction u using Nat.strongRecOn with
  | _ u ih =>
    by_cases h : u < 10
    · refine ⟨_, [], decDigits_one h, ?_, ?_⟩
      · simp [UInt8.toNat_ofNat']; omega
      · simp [UInt8.toNat_ofNat']; omega
    · rw [decDigits, dif_neg h]
      obtain ⟨c, r, e, h1, h2⟩ := ih (u / 10) (by omega)
      rw [e]
      exact ⟨c, _, rfl, h1, h2⟩
theorem decDigits_all (u : Nat) : ∀ c ∈ decDigits u, 48 ≤ c.toNat ∧ c.toNat ≤ 57 := by
  induction u using Nat.strongRecOn with
  | _ u ih =>
    by_cases h : u < 10
    · rw [decDigits_one h]
      intro c hc
      obtain rfl := List.mem_singleton.1 hc
      simp [UInt8.toNat_ofNat']; omega
    · rw [decDigits, dif_neg h]
      intro c hc
      rcases List.mem_append.1 hc with hc | hc
      · exact ih (u / 10) (by omega) c hc
      · obtain rfl := List.mem_singleton.1 hc
        simp [UInt8.toNat_ofNat']; omega
theorem decFrom_append : ∀ (a b : List UInt8) (acc : Nat), decFrom acc (a ++ b) = (decFrom acc a).bind fun u => decFrom u b := by
  intro a
  induction a with
  | nil => intro b acc; rfl
  | cons c r ih =>
    intro b acc
    rw [List.cons_append, decFrom_cons, decFrom_cons]
    split
    · exact ih b _
    · rfl
theorem decFrom_digits (u : Nat) : decFrom 0 (decDigits u) = some u := by
  induction u using Nat.strongRecOn with
  | _ u ih =>
    by_cases h : u < 10
    · rw [decDigits_one h, decFrom_cons]
      have e : (UInt8.ofNat (48 + u)).toNat = 48 + u := by simp [UInt8.toNat_ofNat']; omega
      rw [e, if_pos (by omega)]
      simp only [decFrom, Option.some.injEq]; omega
    · have hd : decDigits u = decDigits (u / 10) ++ [UInt8.ofNat (48 + u % 10)] := by rw [decDigits, dif_neg h]
      rw [hd, decFrom_append, ih (u / 10) (by omega)]
      simp only [Option.bind_some]
      rw [decFrom_cons]
      have e : (UInt8.ofNat (48 + u % 10)).toNat = 48 + u % 10 := by simp [UInt8.toNat_ofNat']; omega
      rw [e, if_pos (by omega)]
      simp only [decFrom, Option.some.injEq]; omega
theorem decDigits_len : ∀ (k u : Nat), u < 10 ^ (k + 1) → (decDigits u).length ≤ k + 1 := by
  intro k
  induction k with
  | zero => intro u h; rw [decDigits_one (by omega)]; simp
  | succ k ih =>
    intro u h
    by_cases h1 : u < 10
    · rw [decDigits_one h1]; simp
    · have hd : decDigits u = decDigits (u / 10) ++ [UInt8.ofNat (48 + u % 10)] := by rw [decDigits, dif_neg h1]
      have := ih (u / 10) (by rw [Nat.pow_succ] at h; omega)
      rw [hd, List.length_append]
      simp only [List.length_cons, List.length_nil]
      omega
theorem itoa_pos {n : Int} (h : 0 ≤ n) : itoa n = decDigits n.toNat := by unfold itoa; rw [if_neg (by omega)]
theorem itoa_head (n : Int) : ∃ c r, itoa n = c :: r ∧ (c = 45 ∨ (48 ≤ c.toNat ∧ c.toNat ≤ 57)) := by
  unfold itoa
  split
  · exact ⟨45, _, rfl, .inl rfl⟩
  · obtain ⟨c, r, e, h⟩ := decDigits_head (u := n.toNat)
    exact ⟨c, r, e, .inr h⟩
theorem undash_pos {c : UInt8} {r : List UInt8} (h : c ≠ 45) : undash (c :: r) = c :: r := by simp [undash, h]
theorem undash_neg (r : List UInt8) : undash (45 :: r) = r := by simp [undash]
/-- both ways of reading agree -/
theorem rdI_eq (l : List UInt8) : rdI l = rdN l := by
  unfold rdI rdN
  by_cases h18 : 18 < (undash l).length
  · rw [if_pos (.inr h18), if_pos (.inr h18)]
  · have h19 : l.length ≤ 19 := by
      unfold undash at h18
      split at h18
      · have := List.length_tail (l := l); omega
      · omega
    rw [if_neg (by omega)]
    cases l with
    | nil => simp [parseIntB, undash]
    | cons c r =>
      by_cases h45 : c = 45
      · subst h45
        rw [undash_neg] at h18 ⊢
        have hn : ((45 : UInt8).toNat = 45) := rfl
        simp only [parseIntB, hn, or_true, if_true, List.head?_cons]
        cases r with
        | nil => simp [parseUintB]
        | cons d q =>
          rw [parseUintB, if_neg (by simp), parse_short (d :: q) 0 0 (by omega) (by omega), if_neg (by simp only [List.length_cons] at h18 ⊢; omega)]
          cases hd : decFrom 0 (d :: q) with
          | none => rfl
          | some u =>
            have hu := decFrom_below hd (by omega)
            simp only [not_true, false_and, if_false, true_and]
            rw [if_neg (by simp only [Nat.add_one_sub_one]; omega)]
      · have h45n : c.toNat ≠ 45 := fun e => h45 (UInt8.toNat_inj.1 e)
        rw [undash_pos h45] at h18 ⊢
        have hh : ¬ ((c :: r).head? = some 45) := by simp [h45]
        by_cases h43 : c.toNat = 43
        · have e1 : decFrom 0 (c :: r) = none := by rw [decFrom_cons, if_neg (by omega)]
          rw [e1]
          have e2 : ∀ v, itoa v ≠ c :: r := fun v e => by
            obtain ⟨c', r', e', h⟩ := itoa_head v
            rw [e'] at e
            obtain ⟨rfl, rfl⟩ := List.cons.inj e
            rcases h with rfl | h
            · exact h45 rfl
            · omega
          have key : (match parseIntB 64 (c :: r) with | .ok v => if itoa v = c :: r then some v else none | _ => (none : Option Int)) = none := by
            split
            · rw [if_neg (e2 _)]
            · rfl
          rw [key]
          split <;> rfl
        · simp only [parseIntB, h43, h45n, or_self, if_false]
          rw [parseUintB, if_neg (by simp), parse_short (c :: r) 0 0 (by omega) (by omega), if_neg (by simp only [List.length_cons] at h18 ⊢; omega)]
          cases hd : decFrom 0 (c :: r) with
          | none => rfl
          | some u =>
            have hu := decFrom_below hd (by omega)
            simp only [not_false_eq_true, true_and, false_and, if_false, hh]
            rw [if_neg (by simp only [Nat.add_one_sub_one]; omega)]
theorem rdN_some {l : List UInt8} {n : Int} (h : rdN l = some n) : itoa n = l ∧ -1000000000000000000 < n ∧ n < 1000000000000000000 := by
  unfold rdN at h
  split at h
  · cases h
  · rename_i hl
    cases hd : decFrom 0 (undash l) with
    | none => rw [hd] at h; cases h
    | some u =>
      rw [hd] at h
      have hu := decFrom_below hd (by omega)
      have h2 : (if itoa (if l.head? = some 45 then -(u : Int) else u) = l then some (if l.head? = some 45 then -(u : Int) else u) else none) = some n := h
      clear h
      have h := h2
      by_cases e : itoa (if l.head? = some 45 then -(u : Int) else u) = l
      · rw [if_pos e] at h
        simp only [Option.some.injEq] at h
        rw [h] at e
        refine ⟨e, ?_, ?_⟩ <;> rw [← h] <;> split <;> omega
      · rw [if_neg e] at h
        cases h
theorem undash_digits (u : Nat) : undash (decDigits u) = decDigits u := by
  obtain ⟨c, r, e, h1, h2⟩ := decDigits_head (u := u)
  rw [e]
  exact undash_pos (fun q => by subst q; revert h1; decide)
/-- a number that is not negative and has at most 18 digits is read from its form -/
theorem rdN_itoa {n : Int} (h0 : 0 ≤ n) (h1 : n < 1000000000000000000) : rdN (itoa n) = some n := by
  rw [itoa_pos h0]
  have hl : (decDigits n.toNat).length ≤ 18 := decDigits_len 17 _ (by omega)
  obtain ⟨c, r, e, h2, h3⟩ := decDigits_head (u := n.toNat)
  have hh : ¬ (decDigits n.toNat).head? = some 45 := by
    rw [e]
    simp only [List.head?_cons, Option.some.injEq]
    intro q; subst q; revert h2; decide
  have hne : 1 ≤ (decDigits n.toNat).length := by rw [e]; simp
  unfold rdN
  rw [undash_digits, if_neg (by omega), decFrom_digits]
  simp only [hh, if_false]
  have e2 : itoa ((n.toNat : Nat) : Int) = decDigits n.toNat := by rw [itoa_pos (by omega)]; congr 1
  rw [if_pos e2]
  congr 1
  omega
theorem itoa_digits {n : Int} (h0 : 0 ≤ n) : ∀ c ∈ itoa n, 48 ≤ c.toNat ∧ c.toNat ≤ 57 := by rw [itoa_pos h0]; exact decDigits_all _
end Go.Proofs.YtngfhpklakhehaaGreatDoor
