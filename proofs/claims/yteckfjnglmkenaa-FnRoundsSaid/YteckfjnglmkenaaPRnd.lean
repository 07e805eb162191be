/-
  The nearest round and the shortest one go through all points; no order is shorter: in plain Lean.
-/
import Derived.Test.YteckfjnglmkenaaPShortP
namespace Go.Proofs.Yteckfjnglmkenaa

theorem nearK_perm (css : List (List Int)) : ∀ (k : Nat) (j : Int) (l : List Int), l.length = k → (nearK css k j l).Perm l := by
  intro k
  induction k with
  | zero =>
    intro j l h
    have : l = [] := List.eq_nil_of_length_eq_zero h
    subst this
    exact List.Perm.refl _
  | succ k ih =>
    intro j l h
    obtain ⟨z, h1, h2⟩ := minOf_none (nearC css j) (l := l) (fun e => by subst e; simp at h)
    rw [nearK_step h1]
    exact ((ih z (l.erase z) (by rw [List.length_erase_of_mem h2]; omega)).cons z).trans (List.perm_cons_erase h2).symm
theorem near_perm {css : List (List Int)} {ps : List Int} (h : codeS css ps = 0) : (nearF css ps).1.Perm ps := by
  simp only [nearF, h, if_true]
  exact nearK_perm css _ _ _ rfl

/-- a state of the search is no longer than another one -/
def leS (l : Int) : RSt → Prop | none => True | some (_, l') => l ≤ l'
/-- what is found: an order behind what is done, or what was found before; and no order is shorter -/
theorem ordG_best (css : List (List Int)) : ∀ (m : Nat) (left rd : List Int) (st : RSt), left.length = m →
    ∃ b l, ordG (leafR css) m left rd st = some (b, l) ∧ leS l st ∧ (some (b, l) = st ∨ (l = lenR css b ∧ ∃ q, q.Perm left ∧ b = rd ++ q)) ∧ ∀ q : List Int, q.Perm left → l ≤ lenR css (rd ++ q) := by
  intro m
  induction m with
  | zero =>
    intro left rd st h
    have hl : left = [] := List.eq_nil_of_length_eq_zero h
    subst hl
    have hq : ∀ q : List Int, q.Perm [] → q = [] := fun q hq => hq.eq_nil
    simp only [ordG, leafR]
    cases st with
    | none =>
      refine ⟨rd, lenR css rd, rfl, trivial, .inr ⟨rfl, [], List.Perm.refl _, by simp⟩, fun q hp => ?_⟩
      rw [hq q hp, List.append_nil]; exact Int.le_refl _
    | some p =>
      obtain ⟨b, l⟩ := p
      by_cases hc : lenR css rd < l
      · refine ⟨rd, lenR css rd, by simp [lessR, hc], Int.le_of_lt hc, .inr ⟨rfl, [], List.Perm.refl _, by simp⟩, fun q hp => ?_⟩
        rw [hq q hp, List.append_nil]; exact Int.le_refl _
      · refine ⟨b, l, by simp [lessR, hc], Int.le_refl _, .inl rfl, fun q hp => ?_⟩
        rw [hq q hp, List.append_nil]; omega
  | succ m ih =>
    intro left rd st h
    suffices key : ∀ k, 1 ≤ k → k ≤ left.length → ∃ b l, ordK (leafR css) m left rd st k = some (b, l) ∧ leS l st ∧ (some (b, l) = st ∨ (l = lenR css b ∧ ∃ q, q.Perm left ∧ b = rd ++ q)) ∧
        ∀ (i : Nat) (x : Int) (q : List Int), i < k → left[i]? = some x → q.Perm (left.erase x) → l ≤ lenR css (rd ++ x :: q) by
      obtain ⟨b, l, e, h1, h2, h3⟩ := key left.length (by omega) (Nat.le_refl _)
      rw [ordK_all (Nat.le_refl _)] at e
      refine ⟨b, l, e, h1, h2, fun q hq => ?_⟩
      cases q with
      | nil => have := hq.length_eq; simp at this; omega
      | cons x q =>
        have hx : x ∈ left := hq.subset (by simp)
        obtain ⟨i, hi⟩ := List.mem_iff_getElem?.1 hx
        refine h3 i x q (List.getElem?_eq_some_iff.1 hi).1 hi ?_
        exact (List.cons_perm_iff_perm_erase.1 hq).2
    intro k
    induction k with
    | zero => intro h0; omega
    | succ k ihk =>
      intro _ hk
      have hx : left[k]? = some left[k] := List.getElem?_eq_getElem (by omega)
      have hm := List.mem_of_getElem? hx
      rw [ordK_succ hx]
      generalize left[k] = x at hx hm
      obtain ⟨b, l, e, h1, h2, h3⟩ := ih (left.erase x) (rd ++ [x]) (ordK (leafR css) m left rd st k) (by rw [List.length_erase_of_mem hm]; omega)
      have h2' : some (b, l) = ordK (leafR css) m left rd st k ∨ (l = lenR css b ∧ ∃ q, q.Perm left ∧ b = rd ++ q) := by
        rcases h2 with h2 | ⟨h2, q, hq, e2⟩
        · exact .inl h2
        · exact .inr ⟨h2, x :: q, (hq.cons x).trans (List.perm_cons_erase hm).symm, by rw [e2]; simp⟩
      have h3' : ∀ q : List Int, q.Perm (left.erase x) → l ≤ lenR css (rd ++ x :: q) := fun q hq => by
        have := h3 q hq
        rwa [List.append_assoc, List.singleton_append] at this
      rcases Nat.eq_zero_or_pos k with h0 | h0
      · subst h0
        have e0 : ordK (leafR css) m left rd st 0 = st := rfl
        rw [e0] at h1 h2' e
        refine ⟨b, l, e, h1, h2', fun i y q hi hy hq => ?_⟩
        obtain rfl : i = 0 := by omega
        rw [hx] at hy
        injection hy with hy
        subst hy
        exact h3' q hq
      · obtain ⟨b0, l0, e0, g1, g2, g3⟩ := ihk h0 (by omega)
        rw [e0] at h1 h2'
        have hll : l ≤ l0 := h1
        refine ⟨b, l, e, ?_, ?_, fun i y q hi hy hq => ?_⟩
        · cases st with
          | none => trivial
          | some p => obtain ⟨b9, l9⟩ := p; have : l0 ≤ l9 := g1; exact Int.le_trans hll this
        · rcases h2' with h2' | h2'
          · injection h2' with h2'
            injection h2' with q1 q2
            subst q1 q2
            exact g2
          · exact .inr h2'
        · by_cases hik : i = k
          · subst hik
            rw [hx] at hy
            injection hy with hy
            subst hy
            exact h3' q hq
          · exact Int.le_trans hll (g3 i y q (by omega) hy hq)
/-- the shortest round: an order of the points, and none is shorter -/
theorem short_best {css : List (List Int)} {ps : List Int} (h : codeS css ps = 0) (h7 : ps.length ≤ 7) :
    ∃ b l, shortF css ps = (b, l, 0) ∧ b.Perm ps ∧ l = lenR css b ∧ ∀ q : List Int, q.Perm ps → l ≤ lenR css q := by
  obtain ⟨b, l, e, _, h2, h3⟩ := ordG_best css ps.length ps [] none rfl
  refine ⟨b, l, ?_, ?_, ?_, fun q hq => by simpa using h3 q hq⟩
  · unfold shortF
    rw [if_pos h, if_neg (by omega), e]
  · rcases h2 with h2 | ⟨_, q, hq, e2⟩
    · cases h2
    · rw [e2, List.nil_append]; exact hq
  · rcases h2 with h2 | ⟨h2, _⟩
    · cases h2
    · exact h2
theorem short_code {css : List (List Int)} {ps : List Int} (h : (shortF css ps).2.2 = 0) : codeS css ps = 0 ∧ ps.length ≤ 7 := by
  unfold shortF at h
  split at h
  · rename_i hc
    split at h
    · cases h
    · exact ⟨hc, by omega⟩
  · rename_i hc
    exact absurd h hc
/-- the length of a round of valid points -/
theorem lenF_ok {css : List (List Int)} {ps q : List Int} (h : codeS css ps = 0) (hq : q.Perm ps) : lenF css q = (lenR css q, 0) := by
  have h1 := (codeS_zero h).1
  have h2 := codeS_in h
  have h3 := codeS_len h
  have h4 : q.any (fun x => !inR x 0 ((css.length : Int) - 1)) = false := by
    rw [List.any_eq_false]
    intro x hx
    have := h2 x (hq.subset hx)
    simp [inR]
    omega
  have h5 := hq.length_eq
  simp only [lenF, h1, h4, if_true]
  simp
  omega
end Go.Proofs.Yteckfjnglmkenaa
