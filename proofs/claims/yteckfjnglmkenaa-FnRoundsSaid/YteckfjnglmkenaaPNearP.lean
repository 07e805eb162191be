/-
  The nearest round as a plain function, and what both sides keep of it. No condition.
-/
import Derived.Test.YteckfjnglmkenaaPLen
import Derived.Test.YteckfjnglmkenaaPRise
namespace Go.Proofs.Yteckfjnglmkenaa

/-- the first of some numbers at which f is least -/
def minOf (f : Int → Int) : Option Int → List Int → Option Int
  | b, [] => b
  | none, x :: r => minOf f (some x) r
  | some y, x :: r => if f x < f y then minOf f (some x) r else minOf f (some y) r
theorem minOf_some (f : Int → Int) : ∀ (l : List Int) (y : Int), ∃ z, minOf f (some y) l = some z ∧ (z = y ∨ z ∈ l) := by
  intro l
  induction l with
  | nil => intro y; exact ⟨y, rfl, .inl rfl⟩
  | cons x r ih =>
    intro y
    simp only [minOf]
    split
    · obtain ⟨z, h1, h2⟩ := ih x
      exact ⟨z, h1, .inr (by rcases h2 with rfl | h2 <;> simp [*])⟩
    · obtain ⟨z, h1, h2⟩ := ih y
      exact ⟨z, h1, by rcases h2 with rfl | h2 <;> simp [*]⟩
theorem minOf_none (f : Int → Int) {l : List Int} (h : l ≠ []) : ∃ z, minOf f none l = some z ∧ z ∈ l := by
  cases l with
  | nil => exact absurd rfl h
  | cons x r =>
    obtain ⟨z, h1, h2⟩ := minOf_some f r x
    exact ⟨z, h1, by rcases h2 with rfl | h2 <;> simp [*]⟩
def nearC (css : List (List Int)) (j : Int) (x : Int) : Int := cAt css j.toNat x.toNat
/-- each time the nearest of those that are left -/
def nearK (css : List (List Int)) : Nat → Int → List Int → List Int
  | 0, _, _ => []
  | k + 1, j, left => match minOf (nearC css j) none left with
    | none => []
    | some b => b :: nearK css k b (left.erase b)
def codeS (css : List (List Int)) (ps : List Int) : Int := if validP css then if riseF 1 ((css.length : Int) - 1) none ps then 0 else 2 else 1
def nearF (css : List (List Int)) (ps : List Int) : List Int × Int := if codeS css ps = 0 then (nearK css ps.length 0 ps, 0) else ([], codeS css ps)
theorem nearK_len (css : List (List Int)) : ∀ (k : Nat) (j : Int) (l : List Int), (nearK css k j l).length ≤ k := by
  intro k
  induction k with
  | zero => intro j l; simp [nearK]
  | succ k ih =>
    intro j l
    simp only [nearK]
    split
    · simp
    · have := ih (by assumption) (l.erase (by assumption)); simp; omega
theorem nearK_step {css : List (List Int)} {k : Nat} {j b : Int} {l : List Int} (h : minOf (nearC css j) none l = some b) : nearK css (k + 1) j l = b :: nearK css k b (l.erase b) := by
  simp only [nearK, h]
theorem codeS_zero {css : List (List Int)} {ps : List Int} (h : codeS css ps = 0) : validP css = true ∧ riseF 1 ((css.length : Int) - 1) none ps = true := by
  unfold codeS at h
  split at h
  · split at h
    · exact ⟨by assumption, by assumption⟩
    · cases h
  · cases h
theorem riseF_lt {lo hi : Int} : ∀ (xs : List Int) (q : Option Int), riseF lo hi q xs = true → xs.Pairwise (· < ·) ∧ ∀ y, q = some y → ∀ x ∈ xs, y < x := by
  intro xs
  induction xs with
  | nil => intro q _; exact ⟨List.Pairwise.nil, fun y _ x hx => by simp at hx⟩
  | cons x r ih =>
    intro q h
    simp only [riseF, Bool.and_eq_true] at h
    obtain ⟨⟨_, h1⟩, h2⟩ := h
    obtain ⟨h3, h4⟩ := ih _ h2
    refine ⟨List.Pairwise.cons (fun z hz => h4 x rfl z hz) h3, fun y hy z hz => ?_⟩
    subst hy
    simp [linkI] at h1
    rcases List.mem_cons.1 hz with rfl | hz
    · exact h1
    · have := h4 x rfl z hz; omega
theorem nodup_of_lt {xs : List Int} (h : xs.Pairwise (· < ·)) : xs.Nodup := h.imp (fun {a b} hab => by omega)
theorem codeS_nodup {css : List (List Int)} {ps : List Int} (h : codeS css ps = 0) : ps.Nodup := nodup_of_lt (riseF_lt _ _ (codeS_zero h).2).1
theorem codeS_in {css : List (List Int)} {ps : List Int} (h : codeS css ps = 0) : ∀ x ∈ ps, 1 ≤ x ∧ x ≤ (css.length : Int) - 1 := riseF_mem _ _ (codeS_zero h).2

theorem codeS_len {css : List (List Int)} {ps : List Int} (h : codeS css ps = 0) : ps.length ≤ 30 := by
  have h1 := validP_len (codeS_zero h).1
  have := pigeon css.length ps (codeS_nodup h) (fun x hx => by have := codeS_in h x hx; omega)
  omega
theorem nearF_len (css : List (List Int)) (ps : List Int) : (nearF css ps).1.length ≤ 2000000 := by
  unfold nearF
  split
  · rename_i h
    have := codeS_len h
    have := nearK_len css ps.length 0 ps
    simp only
    omega
  · simp

/-- the inner loop's state: the first k looked at -/
theorem minOf_less {f : Int → Int} {l : List Int} {k : Nat} {x y : Int} {R : Option Int} (he : R = minOf f (some y) (l.drop k)) (hx : l[k]? = some x) (h : f x < f y) : R = minOf f (some x) (l.drop (k + 1)) := by
  rw [he, drop_at hx, minOf, if_pos h]
theorem minOf_more {f : Int → Int} {l : List Int} {k : Nat} {x y : Int} {R : Option Int} (he : R = minOf f (some y) (l.drop k)) (hx : l[k]? = some x) (h : ¬ f x < f y) : R = minOf f (some y) (l.drop (k + 1)) := by
  rw [he, drop_at hx, minOf, if_neg h]
theorem minOf_first {f : Int → Int} {l : List Int} {x : Int} (hx : l[0]? = some x) : minOf f none l = minOf f (some x) (l.drop 0) := by
  cases l with
  | nil => simp at hx
  | cons y r =>
    simp at hx
    subst hx
    simp [minOf]
/-- what is left: those that are not yet in the round -/
def leftI (ps out : List Int) : List Int := ps.filter fun x => !hasI out x
theorem leftI_nil (ps : List Int) : leftI ps [] = ps := by
  unfold leftI
  rw [List.filter_eq_self]
  intro x _
  rfl
theorem leftI_snoc {ps out : List Int} (hn : ps.Nodup) (b : Int) : leftI ps (out ++ [b]) = (leftI ps out).erase b := by
  unfold leftI
  rw [List.Nodup.erase_eq_filter (List.Pairwise.filter _ hn), List.filter_filter]
  apply List.filter_congr
  intro x _
  simp only [hasI, List.any_append, List.any_cons, List.any_nil, Bool.or_false, Bool.not_or]
  rw [Bool.and_comm]
  congr 1
  by_cases h : b = x
  · subst h; simp
  · have h1 : (b == x) = false := by simpa using h
    have h2 : (x != b) = true := by simpa using (fun e => h e.symm)
    rw [h1, h2]
    rfl
theorem nearC_snoc {ps out : List Int} {k : Nat} {x : Int} (hx : ps[k]? = some x) (f : Int → Int) (b : Option Int) : minOf f b (leftI (ps.drop k) out) = if hasI out x then minOf f b (leftI (ps.drop (k + 1)) out) else minOf f b (x :: leftI (ps.drop (k + 1)) out) := by
  rw [drop_at hx, leftI, List.filter_cons]
  cases hasI out x <;> rfl
theorem erase_at : ∀ {l : List Int}, l.Nodup → ∀ {i : Nat} {x : Int}, l[i]? = some x → l.erase x = l.eraseIdx i := by
  intro l
  induction l with
  | nil => intro _ i x h; simp at h
  | cons y r ih =>
    intro hn i x h
    obtain ⟨h1, h2⟩ := List.nodup_cons.1 hn
    cases i with
    | zero => simp at h; subst h; simp
    | succ i =>
      have h' : r[i]? = some x := by simpa using h
      have hne : y ≠ x := fun e => h1 (by rw [e]; exact List.mem_of_getElem? h')
      have hb : (y == x) = false := by simpa using hne
      rw [List.erase_cons, hb, List.eraseIdx_cons_succ, ← ih h2 h']
      rfl
end Go.Proofs.Yteckfjnglmkenaa
