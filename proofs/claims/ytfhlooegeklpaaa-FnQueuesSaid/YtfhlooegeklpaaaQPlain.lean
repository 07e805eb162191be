/-
  The order in which items are sent, in plain Lean: no program in sight.
-/
import Derived.Test.YtfhlooegeklpaaaItem
namespace Go.Proofs.Ytfhlooegeklpaaa

/-- the class of an item at a tick -/
def cls (age tick : Int) (x : Item) : Int := if age = 0 then x.c else max 0 (x.c - (tick - x.a) / age)
def better (age tick : Int) (x b : Item) : Bool := decide (cls age tick x < cls age tick b) || (decide (cls age tick x = cls age tick b) && decide (x.a < b.a))
def stepBest (xs : List Item) (o : List Int) (age tick : Int) (best : Int) (i : Nat) (x : Item) : Int :=
  if hasI o i || decide (tick < x.a) then best else if best < 0 then i else
  match xs[best.toNat]? with
  | some b => if better age tick x b then i else best
  | none => best
def bestFrom (xs : List Item) (o : List Int) (age tick : Int) : Int → Nat → List Item → Int
  | best, _, [] => best
  | best, i, x :: r => bestFrom xs o age tick (stepBest xs o age tick best i x) (i + 1) r
def bestQ (xs : List Item) (o : List Int) (age tick : Int) : Int := bestFrom xs o age tick (-1) 0 xs
def stepMin (o : List Int) (next : Int) (i : Nat) (x : Item) : Int := if !hasI o i && (decide (next < 0) || decide (x.a < next)) then x.a else next
def minFrom (o : List Int) : Int → Nat → List Item → Int
  | next, _, [] => next
  | next, i, x :: r => minFrom o (stepMin o next i x) (i + 1) r
def minQ (xs : List Item) (o : List Int) : Int := minFrom o (-1) 0 xs
/-- the least arrival behind a tick -/
def stepNext (o : List Int) (tick next : Int) (i : Nat) (x : Item) : Int := if hasI o i then next else if tick < x.a then (if next < 0 ∨ x.a < next then x.a else next) else next
def nextFrom (o : List Int) (tick : Int) : Int → Nat → List Item → Int
  | next, _, [] => next
  | next, i, x :: r => nextFrom o tick (stepNext o tick next i x) (i + 1) r

def runQ (xs : List Item) (age : Int) : Nat → List Int → List Int → Int → List Int × List Int
  | 0, o, s, _ => (o, s)
  | f + 1, o, s, t =>
    if o.length < xs.length then
      if 0 ≤ bestQ xs o age t then runQ xs age f (o ++ [bestQ xs o age t]) (s.set (bestQ xs o age t).toNat t) (t + (xs.getD (bestQ xs o age t).toNat ⟨0, 0, 0⟩).t)
      else runQ xs age f o s (minQ xs o)
    else (o, s)
/-- order and starts -/
def servedQ (xs : List Item) (age : Int) : List Int × List Int := runQ xs age (2 * xs.length) [] (List.replicate xs.length 0) 0
def orderQ (xs : List Item) (age : Int) : List Int := (servedQ xs age).1
def startsQ (xs : List Item) (age : Int) : List Int := (servedQ xs age).2

theorem okItem_bounds {x : Item} (h : okItem x = true) : 0 ≤ x.a ∧ x.a ≤ 10000 ∧ 1 ≤ x.t ∧ x.t ≤ 1000 ∧ 0 ≤ x.c ∧ x.c ≤ 9 := by
  simp only [okItem, inR, Bool.and_eq_true, decide_eq_true_eq] at h; omega
theorem validQ_len {xs : List Item} (h : validQ xs = true) : xs.length ≤ 12 := by simp only [validQ, Bool.and_eq_true, decide_eq_true_eq] at h; exact h.1
theorem validQ_item {xs : List Item} (h : validQ xs = true) {i : Nat} {x : Item} (hx : xs[i]? = some x) : 0 ≤ x.a ∧ x.a ≤ 10000 ∧ 1 ≤ x.t ∧ x.t ≤ 1000 ∧ 0 ≤ x.c ∧ x.c ≤ 9 := by
  simp only [validQ, Bool.and_eq_true, List.all_eq_true] at h
  exact okItem_bounds (h.2 x (List.mem_of_getElem? hx))

/-- a best that has been found is an item that is left and has come -/
def Found (xs : List Item) (o : List Int) (tick best : Int) : Prop := best < 0 ∨ ∃ (j : Nat) (b : Item), best = j ∧ xs[j]? = some b ∧ hasI o j = false ∧ b.a ≤ tick
theorem Found.step {xs : List Item} {o : List Int} {age tick best : Int} {i : Nat} {x : Item} (h : Found xs o tick best) (hx : xs[i]? = some x) : Found xs o tick (stepBest xs o age tick best i x) := by
  unfold stepBest
  by_cases h1 : (hasI o i || decide (tick < x.a)) = true
  · rw [if_pos h1]; exact h
  · rw [if_neg h1]
    simp only [Bool.or_eq_true, decide_eq_true_eq, not_or, Bool.not_eq_true] at h1
    have hi : Found xs o tick i := .inr ⟨i, x, rfl, hx, h1.1, by omega⟩
    split
    · exact hi
    · split
      · split
        · exact hi
        · exact h
      · exact h
theorem stepBest_mono {xs : List Item} {o : List Int} {age tick best : Int} {i : Nat} {x : Item} (h : stepBest xs o age tick best i x < 0) : best < 0 ∧ (hasI o i = true ∨ tick < x.a) := by
  unfold stepBest at h
  by_cases h1 : (hasI o i || decide (tick < x.a)) = true
  · rw [if_pos h1] at h; exact ⟨h, by simpa using h1⟩
  · rw [if_neg h1] at h
    split at h
    · omega
    · split at h
      · split at h <;> omega
      · omega
theorem bestFrom_found {xs : List Item} {o : List Int} {age tick : Int} (r : List Item) : ∀ (best : Int) (i : Nat), Found xs o tick best → xs.drop i = r → Found xs o tick (bestFrom xs o age tick best i r) := by
  induction r with
  | nil => intro best i h _; exact h
  | cons x r ih =>
    intro best i h hd
    have hx : xs[i]? = some x := by have := congrArg (·[0]?) hd; simpa using this
    refine ih _ (i + 1) (h.step hx) ?_
    have := congrArg List.tail hd
    simpa using this
theorem bestQ_found (xs : List Item) (o : List Int) (age tick : Int) : Found xs o tick (bestQ xs o age tick) := bestFrom_found xs (-1) 0 (.inl (by omega)) rfl
theorem bestFrom_none {xs : List Item} {o : List Int} {age tick : Int} (r : List Item) : ∀ (best : Int) (i : Nat), bestFrom xs o age tick best i r < 0 → best < 0 ∧ ∀ (j : Nat) (x : Item), r[j]? = some x → hasI o (i + j : Nat) = true ∨ tick < x.a := by
  induction r with
  | nil => intro best i h; exact ⟨h, fun j x hx => by simp at hx⟩
  | cons y r ih =>
    intro best i h
    have h1 := ih _ _ h
    have h2 := stepBest_mono h1.1
    refine ⟨h2.1, fun j x hx => ?_⟩
    cases j with
    | zero => simp at hx; subst hx; exact h2.2
    | succ j =>
      have := h1.2 j x (by simpa using hx)
      rw [show i + (j + 1) = i + 1 + j by omega]; exact this
theorem bestQ_none {xs : List Item} {o : List Int} {age tick : Int} (h : bestQ xs o age tick < 0) {j : Nat} {x : Item} (hx : xs[j]? = some x) : hasI o j = true ∨ tick < x.a := by
  have := (bestFrom_none xs (-1) 0 h).2 j x hx
  rwa [Nat.zero_add] at this
/-- where none has come the least arrival behind the tick is the least of all that are left -/
theorem nextFrom_min {o : List Int} {tick : Int} (r : List Item) : ∀ (next : Int) (i : Nat), (∀ (j : Nat) (x : Item), r[j]? = some x → hasI o (i + j : Nat) = true ∨ tick < x.a) → nextFrom o tick next i r = minFrom o next i r := by
  induction r with
  | nil => intro next i _; rfl
  | cons y r ih =>
    intro next i h
    have h0 := h 0 y rfl
    rw [Nat.add_zero] at h0
    have e : stepNext o tick next i y = stepMin o next i y := by
      unfold stepNext stepMin
      cases ho : hasI o i with
      | true => simp
      | false =>
        have : tick < y.a := by rcases h0 with h0 | h0; (rw [ho] at h0; cases h0); exact h0
        simp [this]
    rw [nextFrom, minFrom, e]
    exact ih _ _ fun j x hx => by have := h (j + 1) x (by simpa using hx); rwa [show i + (j + 1) = i + 1 + j by omega] at this
/-- the least arrival, if some item is left -/
theorem minFrom_spec {o : List Int} (r : List Item) : ∀ (next : Int) (i : Nat), (∀ (j : Nat) (x : Item), r[j]? = some x → 0 ≤ x.a) →
    (minFrom o next i r = next ∨ ∃ (j : Nat) (x : Item), r[j]? = some x ∧ hasI o (i + j : Nat) = false ∧ minFrom o next i r = x.a) ∧
    (0 ≤ next → 0 ≤ minFrom o next i r ∧ minFrom o next i r ≤ next) ∧
    ∀ (j : Nat) (x : Item), r[j]? = some x → hasI o (i + j : Nat) = false → 0 ≤ minFrom o next i r ∧ minFrom o next i r ≤ x.a := by
  induction r with
  | nil => intro next i _; exact ⟨.inl rfl, fun h => ⟨h, Int.le_refl _⟩, fun j x hx => by simp at hx⟩
  | cons y r ih =>
    intro next i h
    have hy := h 0 y rfl
    obtain ⟨h1, h2, h3⟩ := ih (stepMin o next i y) (i + 1) fun j x hx => h (j + 1) x (by simpa using hx)
    rw [minFrom]
    have hs : (stepMin o next i y = next ∧ (hasI o i = true ∨ (0 ≤ next ∧ next ≤ y.a))) ∨ (stepMin o next i y = y.a ∧ hasI o i = false ∧ (next < 0 ∨ y.a < next)) := by
      unfold stepMin
      cases ho : hasI o i with
      | true => exact .inl ⟨by simp, .inl rfl⟩
      | false =>
        by_cases hc : next < 0 ∨ y.a < next
        · exact .inr ⟨by simp [hc], rfl, hc⟩
        · exact .inl ⟨by simp; omega, .inr (by omega)⟩
    refine ⟨?_, ?_, ?_⟩
    · rcases h1 with h1 | ⟨j, x, hx, ho, e⟩
      · rcases hs with hs | hs
        · exact .inl (h1.trans hs.1)
        · exact .inr ⟨0, y, rfl, hs.2.1, h1.trans hs.1⟩
      · exact .inr ⟨j + 1, x, by simpa using hx, by rw [show i + (j + 1) = i + 1 + j by omega]; exact ho, e⟩
    · intro hn
      rcases hs with hs | hs
      · rw [hs.1] at h2 ⊢; exact h2 hn
      · rw [hs.1] at h2 ⊢; have := h2 hy; omega
    · intro j x hx ho
      cases j with
      | zero =>
        simp at hx; subst hx
        rw [Nat.add_zero] at ho
        rcases hs with hs | hs
        · have hn : 0 ≤ next ∧ next ≤ y.a := by rcases hs.2 with h' | h'; (rw [ho] at h'; cases h'); exact h'
          rw [hs.1] at h2 ⊢; have := h2 hn.1; omega
        · rw [hs.1] at h2 ⊢; exact h2 hy
      | succ j => exact h3 j x (by simpa using hx) (by rw [show i + 1 + j = i + (j + 1) by omega]; exact ho)

/-- some place is left where not all places stand in a list -/
theorem left_over : ∀ (n : Nat) (o : List Int), (∀ i : Nat, i < n → (i : Int) ∈ o) → n ≤ o.length
  | 0, _, _ => Nat.zero_le _
  | n + 1, o, h => by
    have hn := h n (by omega)
    have := left_over n (o.erase (n : Int)) fun i hi => (List.mem_erase_of_ne (by omega)).2 (h i (by omega))
    rw [List.length_erase_of_mem hn] at this
    have := List.length_pos_of_mem hn
    omega
theorem exists_left {n : Nat} {o : List Int} (h : o.length < n) : ∃ i : Nat, i < n ∧ hasI o i = false := by
  rcases Classical.em (∃ i : Nat, i < n ∧ hasI o i = false) with h1 | h1
  · exact h1
  · exfalso
    have := left_over n o fun i hi => by
      rcases hb : hasI o i with _ | _
      · exact absurd ⟨i, hi, hb⟩ h1
      · exact hasI_iff.1 hb
    omega

/-- how many rounds are still to come, at most -/
def need (xs : List Item) (o : List Int) (age t : Int) : Nat := if o.length < xs.length then 2 * (xs.length - o.length) - (if 0 ≤ bestQ xs o age t then 1 else 0) else 0
theorem need_start (xs : List Item) (age : Int) : need xs [] age 0 ≤ 2 * xs.length := by unfold need; split <;> simp

/-- a round in which an item is sent -/
theorem round_sent {xs : List Item} {o : List Int} {age t : Int} (hlt : o.length < xs.length) (hk : 0 ≤ bestQ xs o age t) :
    ∃ (j : Nat) (b : Item), bestQ xs o age t = j ∧ j < xs.length ∧ xs[j]? = some b ∧ hasI o j = false ∧ b.a ≤ t ∧ ∀ t', need xs (o ++ [(j : Int)]) age t' < need xs o age t := by
  rcases bestQ_found xs o age t with h | ⟨j, b, e, hb, ho, ha⟩
  · omega
  · refine ⟨j, b, e, (List.getElem?_eq_some_iff.1 hb).1, hb, ho, ha, fun t' => ?_⟩
    unfold need
    rw [if_pos hlt, if_pos hk]
    simp only [List.length_append, List.length_cons, List.length_nil]
    split
    · split <;> omega
    · omega
/-- a round in which the tick goes on -/
theorem round_idle {xs : List Item} {o : List Int} {age t : Int} (hv : validQ xs = true) (hlt : o.length < xs.length) (hk : bestQ xs o age t < 0) :
    0 ≤ minQ xs o ∧ minQ xs o ≤ 10000 ∧ 0 ≤ bestQ xs o age (minQ xs o) ∧ need xs o age (minQ xs o) < need xs o age t := by
  obtain ⟨i, hi, ho⟩ := exists_left hlt
  have hs := minFrom_spec (o := o) xs (-1) 0 fun j x hx => (validQ_item hv hx).1
  have hm := hs.2.2 i xs[i] (List.getElem?_eq_getElem hi) (by rw [Nat.zero_add]; exact ho)
  have hb := validQ_item hv (List.getElem?_eq_getElem hi)
  have h0 : 0 ≤ bestQ xs o age (minQ xs o) := by
    rcases Int.lt_or_le (bestQ xs o age (minQ xs o)) 0 with h | h
    · exfalso
      rcases hs.1 with e | ⟨j, x, hx, hoj, e⟩
      · omega
      · rw [Nat.zero_add] at hoj
        rcases bestQ_none h hx with h' | h'
        · rw [hoj] at h'; cases h'
        · unfold minQ at h'; omega
    · exact h
  refine ⟨hm.1, by unfold minQ; omega, h0, ?_⟩
  unfold need
  rw [if_pos hlt, if_pos hlt, if_pos h0, if_neg (by omega)]
  omega
end Go.Proofs.Ytfhlooegeklpaaa
