/-
  What the order and the starts of a queue fulfil, in plain Lean.
-/
import Derived.Test.YtfhlooegeklpaaaQPlain2
namespace Go.Proofs.Ytfhlooegeklpaaa

/-- the best is not beaten by any that has come and is left -/
def Least (xs : List Item) (o : List Int) (age tick best : Int) (i : Nat) : Prop :=
  ∀ (j : Nat) (y : Item), j < i → xs[j]? = some y → hasI o j = false → y.a ≤ tick → ∃ b, 0 ≤ best ∧ xs[best.toNat]? = some b ∧ better age tick y b = false
theorem better_self (age tick : Int) (x : Item) : better age tick x x = false := by simp [better]
theorem better_trans {age tick : Int} {y b x : Item} (h1 : better age tick y b = false) (h2 : better age tick x b = true) : better age tick y x = false := by
  unfold better at *
  generalize cls age tick y = cy at *
  generalize cls age tick b = cb at *
  generalize cls age tick x = cx at *
  simp only [Bool.or_eq_false_iff, Bool.and_eq_false_iff, Bool.or_eq_true, Bool.and_eq_true, decide_eq_true_eq, decide_eq_false_iff_not] at *
  omega
theorem bestFrom_least {xs : List Item} {o : List Int} {age tick : Int} (r : List Item) : ∀ (best : Int) (i : Nat), xs.drop i = r → Found xs o tick best → Least xs o age tick best i → Least xs o age tick (bestFrom xs o age tick best i r) xs.length := by
  induction r with
  | nil =>
    intro best i hd _ hl j y hj hy
    have : xs.length ≤ i := by simpa using hd
    exact hl j y (by omega) hy
  | cons x r ih =>
    intro best i hd hf hl
    have hx : xs[i]? = some x := by have := congrArg (·[0]?) hd; simpa using this
    have hd2 : xs.drop (i + 1) = r := by have := congrArg List.tail hd; simpa using this
    refine ih _ (i + 1) hd2 (hf.step hx) fun j y hj hy ho ha => ?_
    unfold stepBest
    by_cases h1 : (hasI o i || decide (tick < x.a)) = true
    · rw [if_pos h1]
      by_cases hji : j = i
      · subst hji
        rw [hx] at hy
        injection hy with hy
        subst hy
        rw [ho] at h1
        simp at h1
        omega
      · exact hl j y (by omega) hy ho ha
    · rw [if_neg h1]
      by_cases hb : best < 0
      · rw [if_pos hb]
        by_cases hji : j = i
        · subst hji
          rw [hx] at hy
          injection hy with hy
          subst hy
          exact ⟨x, by omega, by simpa using hx, better_self _ _ _⟩
        · obtain ⟨_, h0, _⟩ := hl j y (by omega) hy ho ha
          omega
      · rw [if_neg hb]
        rcases hf with hf | ⟨m, b, e, hm, _, _⟩
        · exact absurd hf hb
        · subst e
          simp only [Int.toNat_natCast, hm]
          by_cases hbt : better age tick x b = true
          · rw [if_pos hbt]
            by_cases hji : j = i
            · subst hji
              rw [hx] at hy
              injection hy with hy
              subst hy
              exact ⟨x, by omega, by simpa using hx, better_self _ _ _⟩
            · obtain ⟨b2, _, h2, h3⟩ := hl j y (by omega) hy ho ha
              simp only [Int.toNat_natCast, hm] at h2
              injection h2 with h2
              subst h2
              exact ⟨x, by omega, by simpa using hx, better_trans h3 hbt⟩
          · rw [if_neg hbt]
            by_cases hji : j = i
            · subst hji
              rw [hx] at hy
              injection hy with hy
              subst hy
              exact ⟨b, by omega, by simpa using hm, by simpa using hbt⟩
            · exact hl j y (by omega) hy ho ha
theorem bestQ_least (xs : List Item) (o : List Int) (age tick : Int) : Least xs o age tick (bestQ xs o age tick) xs.length :=
  bestFrom_least xs (-1) 0 rfl (.inl (by omega)) (fun j y hj => by omega)

def z3 : Item := ⟨0, 0, 0⟩
/-- the tick behind the first i that are sent -/
def atK (xs : List Item) (o s : List Int) : Nat → Int
  | 0 => 0
  | i + 1 => s.getD (o.getD i 0).toNat 0 + (xs.getD (o.getD i 0).toNat z3).t
/-- what is asked of the one that is sent at place i -/
structure Sent (xs : List Item) (o s : List Int) (i : Nat) : Prop where
  late : atK xs o s i ≤ s.getD (o.getD i 0).toNat 0
  come : (xs.getD (o.getD i 0).toNat z3).a ≤ s.getD (o.getD i 0).toNat 0
  best : ∀ (j : Nat) (y : Item), xs[j]? = some y → hasI (o.take i) j = false → ¬ (y.a ≤ s.getD (o.getD i 0).toNat 0 ∧ (y.c < (xs.getD (o.getD i 0).toNat z3).c ∨ (y.c = (xs.getD (o.getD i 0).toNat z3).c ∧ y.a < (xs.getD (o.getD i 0).toNat z3).a)))
  soon : ∃ (j : Nat) (y : Item), xs[j]? = some y ∧ hasI (o.take i) j = false ∧ s.getD (o.getD i 0).toNat 0 = max (atK xs o s i) y.a ∧ ∀ (j' : Nat) (y' : Item), xs[j']? = some y' → hasI (o.take i) j' = false → y.a ≤ y'.a
theorem atK_snoc {xs : List Item} {o s : List Int} {j : Nat} {t : Int} (_hs : j < s.length) (hj : (j : Int) ∉ o) (hin : ∀ z ∈ o, 0 ≤ z) {i : Nat} (hi : i ≤ o.length) : atK xs (o ++ [(j : Int)]) (s.set j t) i = atK xs o s i := by
  cases i with
  | zero => rfl
  | succ i =>
    have h1 : (o ++ [(j : Int)]).getD i 0 = o.getD i 0 := by simp [List.getD, List.getElem?_append_left (show i < o.length by omega)]
    have h2 : o.getD i 0 ∈ o := by rw [List.getD, List.getElem?_eq_getElem (by omega)]; exact List.getElem_mem _
    have h3 : (o.getD i 0).toNat ≠ j := fun e => hj (by have := hin _ h2; rw [← e, Int.toNat_of_nonneg this]; exact h2)
    simp only [atK, h1]
    rw [List.getD_eq_getElem?_getD, List.getElem?_set_ne (fun e => h3 e.symm), ← List.getD_eq_getElem?_getD]
theorem Sent.snoc {xs : List Item} {o s : List Int} {j : Nat} {t : Int} (hs : j < s.length) (hj : (j : Int) ∉ o) (hin : ∀ z ∈ o, 0 ≤ z) {i : Nat} (hi : i < o.length) (h : Sent xs o s i) : Sent xs (o ++ [(j : Int)]) (s.set j t) i := by
  have h1 : (o ++ [(j : Int)]).getD i 0 = o.getD i 0 := by simp [List.getD, List.getElem?_append_left hi]
  have h2 : o.getD i 0 ∈ o := by rw [List.getD, List.getElem?_eq_getElem hi]; exact List.getElem_mem _
  have h3 : (o.getD i 0).toNat ≠ j := fun e => hj (by have := hin _ h2; rw [← e, Int.toNat_of_nonneg this]; exact h2)
  have h4 : (s.set j t).getD (o.getD i 0).toNat 0 = s.getD (o.getD i 0).toNat 0 := by rw [List.getD_eq_getElem?_getD, List.getElem?_set_ne (fun e => h3 e.symm), ← List.getD_eq_getElem?_getD]
  have h5 : (o ++ [(j : Int)]).take i = o.take i := by rw [List.take_append_of_le_length (by omega)]
  have h6 := atK_snoc (xs := xs) (t := t) hs hj hin (Nat.le_of_lt hi)
  obtain ⟨a, b, c, d⟩ := h
  exact ⟨by rw [h1, h4, h6]; exact a, by rw [h1, h4]; exact b, by rw [h1, h4, h5]; exact c, by rw [h1, h4, h5, h6]; exact d⟩
theorem cls_zero (tick : Int) (x : Item) : cls 0 tick x = x.c := by simp [cls]
theorem runQ_sent {xs : List Item} (hv : validQ xs = true) : ∀ (f : Nat) (o s : List Int) (t : Int), s.length = xs.length → (∀ z ∈ o, ∃ j : Nat, j < xs.length ∧ z = j) → (∀ i, i < o.length → Sent xs o s i) →
    (t = atK xs o s o.length ∨ (atK xs o s o.length ≤ t ∧ t = minQ xs o ∧ o.length < xs.length)) →
    ∀ i, i < (runQ xs 0 f o s t).1.length → Sent xs (runQ xs 0 f o s t).1 (runQ xs 0 f o s t).2 i := by
  intro f
  induction f with
  | zero => intro o s t _ _ h _; exact h
  | succ f ih =>
    intro o s t h1 h4 h ht
    rw [runQ]
    split
    · rename_i hlt
      have hmin := minFrom_spec (o := o) xs (-1) 0 fun j x hx => (validQ_item hv hx).1
      have hmin2 : ∀ (j : Nat) (x : Item), xs[j]? = some x → hasI o j = false → 0 ≤ minQ xs o ∧ minQ xs o ≤ x.a := fun j x hx ho => by
        have := hmin.2.2 j x hx (by rwa [Nat.zero_add])
        exact this
      have hmin3 : ∃ (j : Nat) (x : Item), xs[j]? = some x ∧ hasI o j = false ∧ minQ xs o = x.a := by
        rcases hmin.1 with h0 | ⟨j, x, hx, ho, e⟩
        · obtain ⟨i, hi, ho⟩ := exists_left hlt
          have := hmin2 i xs[i] (List.getElem?_eq_getElem hi) ho
          unfold minQ at this
          omega
        · exact ⟨j, x, hx, by rwa [Nat.zero_add] at ho, e⟩
      split
      · rename_i hk
        obtain ⟨j, b, e, hjn, hj, hoj, hba, _⟩ := round_sent hlt hk
        have hle := bestQ_least xs o 0 t
        rw [e] at hle ⊢
        simp only [Int.toNat_natCast, List.getD_eq_getElem?_getD, hj, Option.getD_some]
        have hnot : (j : Int) ∉ o := hasI_false.1 hoj
        have hin : ∀ z ∈ o, 0 ≤ z := fun z hz => by obtain ⟨q, _, rfl⟩ := h4 z hz; omega
        have e1 : (o ++ [(j : Int)]).getD o.length 0 = (j : Int) := by simp [List.getD]
        have e2 : (s.set j t).getD j 0 = t := by rw [List.getD_eq_getElem?_getD, List.getElem?_set_self (by omega)]; rfl
        have e3 : xs.getD j z3 = b := by rw [List.getD_eq_getElem?_getD, hj]; rfl
        have e4 : (o ++ [(j : Int)]).take o.length = o := by simp
        have e5 := atK_snoc (xs := xs) (s := s) (t := t) (by omega) hnot hin (Nat.le_refl o.length)
        refine ih _ _ _ (by simpa using h1) ?_ ?_ ?_
        · intro z hz
          rcases List.mem_append.1 hz with h' | h'
          · exact h4 z h'
          · simp at h'; exact ⟨j, hjn, h'⟩
        · intro i hi
          simp only [List.length_append, List.length_singleton] at hi
          by_cases hio : i < o.length
          · exact (h i hio).snoc (by omega) hnot hin hio
          · obtain rfl : i = o.length := by omega
            have hat : atK xs o s o.length ≤ t := by rcases ht with ht | ht <;> omega
            refine ⟨?_, ?_, ?_, ?_⟩
            · rw [e5, e1, Int.toNat_natCast, e2]; exact hat
            · rw [e1, Int.toNat_natCast, e2, e3]; exact hba
            · rw [e1, Int.toNat_natCast, e2, e3, e4]
              intro q y hy hoq hc
              obtain ⟨b2, _, hb2, hbt⟩ := hle q y (List.getElem?_eq_some_iff.1 hy).1 hy hoq hc.1
              simp only [Int.toNat_natCast, hj] at hb2
              injection hb2 with hb2
              subst hb2
              simp only [better, cls_zero, Bool.or_eq_false_iff, Bool.and_eq_false_iff, decide_eq_false_iff_not] at hbt
              omega
            · rw [e1, Int.toNat_natCast, e2, e4, e5]
              obtain ⟨q, y, hy, hoq, em⟩ := hmin3
              refine ⟨q, y, hy, hoq, ?_, fun j' y' hy' ho' => by rw [← em]; exact (hmin2 j' y' hy' ho').2⟩
              rcases ht with ht | ht
              · have := (hmin2 j b hj hoj).2
                omega
              · omega
        · left
          rw [List.length_append, List.length_singleton]
          simp only [atK]
          rw [e1, Int.toNat_natCast, e2, e3]
      · rename_i hk
        have hi := round_idle hv hlt (Int.lt_of_not_ge hk)
        refine ih _ _ _ h1 h4 h (.inr ⟨?_, rfl, hlt⟩)
        obtain ⟨q, y, hy, hoq, em⟩ := hmin3
        rcases bestQ_none (Int.lt_of_not_ge hk) hy with h' | h'
        · rw [hoq] at h'; cases h'
        · rcases ht with ht | ht <;> omega
    · exact h
theorem orderQ_sent {xs : List Item} (hv : validQ xs = true) : ∀ i, i < xs.length → Sent xs (orderQ xs 0) (startsQ xs 0) i := fun i hi =>
  runQ_sent hv (2 * xs.length) [] (List.replicate xs.length 0) 0 (by simp) (fun z hz => by simp at hz) (fun i hi => by simp at hi) (.inl rfl) i (by
    have := (orderQ_all (age := 0) hv).2.2
    unfold orderQ servedQ at this
    rw [this]; exact hi)

/-- the ticks of the first i that are sent -/
def workK (xs : List Item) (o : List Int) : Nat → Int
  | 0 => 0
  | i + 1 => workK xs o i + (xs.getD (o.getD i 0).toNat z3).t
theorem at_work {xs : List Item} (hv : validQ xs = true) : ∀ i, i ≤ xs.length → workK xs (orderQ xs 0) i ≤ atK xs (orderQ xs 0) (startsQ xs 0) i := by
  intro i
  induction i with
  | zero => intro _; simp [workK, atK]
  | succ i ih =>
    intro hi
    have h1 := ih (by omega)
    have h2 := (orderQ_sent hv i (by omega)).late
    simp only [workK, atK]
    omega
theorem perm_sum {l l' : List Int} (h : l.Perm l') (f : Int → Int) : (l.map f).sum = (l'.map f).sum := by
  induction h with
  | nil => rfl
  | cons x _ ih => simp [ih]
  | swap x y l => simp; omega
  | trans _ _ h1 h2 => rw [h1, h2]
theorem order_perm {n : Nat} {o : List Int} (hn : o.Nodup) (hm : ∀ z ∈ o, ∃ j : Nat, j < n ∧ z = j) (hl : o.length = n) : o.Perm ((List.range n).map (fun (j : Nat) => (j : Int))) := by
  rw [List.perm_ext_iff_of_nodup hn]
  · intro a
    constructor
    · intro ha
      obtain ⟨j, hj, rfl⟩ := hm a ha
      exact List.mem_map.2 ⟨j, List.mem_range.2 hj, rfl⟩
    · intro ha
      obtain ⟨j, hj, rfl⟩ := List.mem_map.1 ha
      exact all_places hn hm hl j (List.mem_range.1 hj)
  · have h := List.nodup_range (n := n)
    exact List.Pairwise.map (fun (j : Nat) => (j : Int)) (fun a b hne e => hne (Int.ofNat.inj e)) h
end Go.Proofs.Ytfhlooegeklpaaa
