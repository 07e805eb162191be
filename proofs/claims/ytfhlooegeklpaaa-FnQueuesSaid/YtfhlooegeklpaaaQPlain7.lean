/-
  What is sent at place i of the order, as one law; the soonest of those that are left; who overtakes. No program here. No condition.
-/
import Derived.Test.YtfhlooegeklpaaaQPlain6
import Derived.Test.YtfhlooegeklpaaaQPlain3
namespace Go.Proofs.Ytfhlooegeklpaaa
open Go.RowKit
set_option maxHeartbeats 400000

/-- z is the least of xa and of what is left of the first m -/
def Soon (xs : List Item) (p : List Int) (xa : Int) (m : Nat) (z : Int) : Prop :=
  z ≤ xa ∧ (z = xa ∨ ∃ (j : Nat) (y : Item), xs[j]? = some y ∧ hasI p j = false ∧ z = y.a) ∧ ∀ (j : Nat) (y : Item), j < m → xs[j]? = some y → hasI p j = false → z ≤ y.a
theorem Soon.zero (xs : List Item) (p : List Int) (xa : Int) : Soon xs p xa 0 xa := ⟨Int.le_refl _, .inl rfl, fun j y h => by omega⟩
theorem Soon.skip {xs : List Item} {p : List Int} {xa z : Int} {m : Nat} (h : Soon xs p xa m z) (hh : hasI p m = true) : Soon xs p xa (m + 1) z :=
  ⟨h.1, h.2.1, fun j y hj hy hn => by
    by_cases e : j = m
    · subst e; rw [hh] at hn; cases hn
    · exact h.2.2 j y (by omega) hy hn⟩
theorem Soon.keep {xs : List Item} {p : List Int} {xa z : Int} {m : Nat} {y : Item} (h : Soon xs p xa m z) (hy : xs[m]? = some y) (hz : z ≤ y.a) : Soon xs p xa (m + 1) z :=
  ⟨h.1, h.2.1, fun j y' hj hy' hn => by
    by_cases e : j = m
    · subst e; rw [hy] at hy'; injection hy' with hy'; subst hy'; exact hz
    · exact h.2.2 j y' (by omega) hy' hn⟩
theorem Soon.less {xs : List Item} {p : List Int} {xa z : Int} {m : Nat} {y : Item} (h : Soon xs p xa m z) (hy : xs[m]? = some y) (hh : hasI p m = false) (hz : y.a ≤ z) : Soon xs p xa (m + 1) y.a :=
  ⟨Int.le_trans hz h.1, .inr ⟨m, y, hy, hh, rfl⟩, fun j y' hj hy' hn => by
    by_cases e : j = m
    · subst e; rw [hy] at hy'; injection hy' with hy'; subst hy'; exact Int.le_refl _
    · exact Int.le_trans hz (h.2.2 j y' (by omega) hy' hn)⟩
theorem workK_pos {xs : List Item} (hv : validQ xs = true) {o : List Int} : ∀ i, 0 ≤ workK xs o i
  | 0 => Int.le_refl 0
  | i + 1 => by
    have h := workK_pos hv (o := o) i
    have ht : 0 ≤ (xs.getD (o.getD i 0).toNat z3).t := by
      rw [List.getD_eq_getElem?_getD]
      cases hx : xs[(o.getD i 0).toNat]? with
      | none => decide
      | some x => have := validQ_item hv hx; simp; omega
    simp only [workK]
    omega
theorem sent_at {xs : List Item} (hv : validQ xs = true) {i : Nat} (hi : i < xs.length) :
    ∃ (k : Nat) (x : Item) (s : Int), (orderQ xs 0)[i]? = some (k : Int) ∧ k < xs.length ∧ xs[k]? = some x ∧ (startsQ xs 0)[k]? = some s ∧ hasI ((orderQ xs 0).take i) k = false ∧
      atK xs (orderQ xs 0) (startsQ xs 0) i ≤ s ∧ x.a ≤ s ∧ atK xs (orderQ xs 0) (startsQ xs 0) (i + 1) = s + x.t ∧ workK xs (orderQ xs 0) (i + 1) = workK xs (orderQ xs 0) i + x.t ∧
      (∀ (j : Nat) (y : Item), xs[j]? = some y → hasI ((orderQ xs 0).take i) j = false → ¬ (y.a ≤ s ∧ (y.c < x.c ∨ (y.c = x.c ∧ y.a < x.a)))) ∧
      (∀ z, Soon xs ((orderQ xs 0).take i) x.a xs.length z → s = max (atK xs (orderQ xs 0) (startsQ xs 0) i) z) := by
  obtain ⟨k, x, s, h1, h2, h3, h4, e1, e2, e3⟩ := order_at hv hi
  obtain ⟨S1, S2, S3, S4⟩ := orderQ_sent hv i hi
  simp only [e1, Int.toNat_natCast, e2, e3] at S1 S2 S3 S4
  have hnot : hasI ((orderQ xs 0).take i) k = false := by
    rw [hasI_false]
    intro hm
    obtain ⟨j, hj⟩ := List.mem_iff_getElem?.1 hm
    rw [List.getElem?_take] at hj
    split at hj
    · have hnd := (orderQ_all (age := 0) hv).1
      have hl := (List.getElem?_eq_some_iff.1 hj).1
      have := (List.getElem?_inj hl hnd).1 (hj.trans h1.symm)
      omega
    · cases hj
  refine ⟨k, x, s, h1, h2, h3, h4, hnot, S1, S2, atK_succ e1 e2 e3, workK_succ e1 e2, S3, fun z hz => ?_⟩
  obtain ⟨j, y, g1, g2, g3, g4⟩ := S4
  obtain ⟨z1, z2, z4⟩ := hz
  have hz5 : z ≤ y.a := z4 j y (List.getElem?_eq_some_iff.1 g1).1 g1 g2
  have hz6 : y.a ≤ z := by
    rcases z2 with e | ⟨j', y', f1, f2, e⟩
    · rw [e]; exact g4 k x h3 hnot
    · rw [e]; exact g4 j' y' f1 f2
  rw [g3, show y.a = z by omega]
theorem at_bd {xs : List Item} (hv : validQ xs = true) {i : Nat} (hi : i ≤ xs.length) : 0 ≤ workK xs (orderQ xs 0) i ∧ workK xs (orderQ xs 0) i ≤ atK xs (orderQ xs 0) (startsQ xs 0) i ∧ atK xs (orderQ xs 0) (startsQ xs 0) i ≤ 23000 := by
  refine ⟨workK_pos hv i, at_work hv i hi, ?_⟩
  match i, hi with
  | 0, _ => simp [atK]
  | i + 1, hi =>
    obtain ⟨k, x, s, h1, h2, h3, h4, _, _, _, e, _⟩ := sent_at hv (i := i) (by omega)
    obtain ⟨s', hs', b0, b1⟩ := starts_at hv h2
    rw [h4] at hs'
    injection hs' with hs'
    have hb := validQ_item hv h3
    rw [e]
    omega
theorem idle_nil {xs : List Item} (h : xs.length = 0) : idleRes xs = 0 := by
  have : xs = [] := List.eq_nil_of_length_eq_zero h
  subst this
  decide
end Go.Proofs.Ytfhlooegeklpaaa
