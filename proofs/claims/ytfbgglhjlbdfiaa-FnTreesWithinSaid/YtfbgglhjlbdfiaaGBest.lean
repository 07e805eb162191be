/-
  Cheapest trees, as plain functions: all trees in order, and the walk that leaves dear ones out. No condition.
-/
import Derived.Test.YtfbgglhjlbdfiaaGMove2
namespace Go.Proofs.Ytfbgglhjlbdfiaa

abbrev BSt := Option (List Int × Int)
def betterB (c : Int) : BSt → Bool | none => true | some (_, l) => decide (c < l)
/-- one tree: taken if it is allowed and cheaper -/
def leafB (css : List (List Int)) (ok : List Int → Bool) (ps : List Int) (st : BSt) : BSt := if ok ps && betterB (costG css ps) st then some (ps, costG css ps) else st
def allB (css : List (List Int)) (ok : List Int → Bool) : Nat → List Int → BSt → BSt
  | 0, ps, st => leafB css ok ps st
  | m + 1, ps, st => (List.range css.length).foldl (fun st (p : Nat) => allB css ok m (ps ++ [(p : Int)]) st) st
def rowB (css : List (List Int)) (ok : List Int → Bool) (m : Nat) (ps : List Int) (st : BSt) (k : Nat) : BSt := (List.range k).foldl (fun st (p : Nat) => allB css ok m (ps ++ [(p : Int)]) st) st
theorem rowB_succ (css : List (List Int)) (ok : List Int → Bool) (m : Nat) (ps : List Int) (st : BSt) (k : Nat) : rowB css ok m ps st (k + 1) = allB css ok m (ps ++ [(k : Int)]) (rowB css ok m ps st k) := by
  simp [rowB, List.range_succ]
theorem allB_succ (css : List (List Int)) (ok : List Int → Bool) (m : Nat) (ps : List Int) (st : BSt) : allB css ok (m + 1) ps st = rowB css ok m ps st css.length := rfl

def cutB (sum : Int) : BSt → Bool | none => false | some (_, l) => decide (l ≤ sum)
/-- the walk: a sum that is too great is left, and so is a place that is its own parent -/
def walkB (css : List (List Int)) (ok : List Int → Bool) : Nat → List Int → Int → BSt → BSt
  | 0, ps, sum, st => if cutB sum st then st else if ok ps then some (ps, sum) else st
  | m + 1, ps, sum, st => if cutB sum st then st else (List.range css.length).foldl (fun st (p : Nat) => if p = ps.length + 1 then st else walkB css ok m (ps ++ [(p : Int)]) (sum + cAt css (ps.length + 1) p) st) st
def wrowB (css : List (List Int)) (ok : List Int → Bool) (m : Nat) (ps : List Int) (sum : Int) (st : BSt) (k : Nat) : BSt :=
  (List.range k).foldl (fun st (p : Nat) => if p = ps.length + 1 then st else walkB css ok m (ps ++ [(p : Int)]) (sum + cAt css (ps.length + 1) p) st) st
theorem wrowB_succ (css : List (List Int)) (ok : List Int → Bool) (m : Nat) (ps : List Int) (sum : Int) (st : BSt) (k : Nat) :
    wrowB css ok m ps sum st (k + 1) = if k = ps.length + 1 then wrowB css ok m ps sum st k else walkB css ok m (ps ++ [(k : Int)]) (sum + cAt css (ps.length + 1) k) (wrowB css ok m ps sum st k) := by
  simp [wrowB, List.range_succ]

theorem costG_snoc (css : List (List Int)) (ps : List Int) (p : Nat) : costG css (ps ++ [(p : Int)]) = costG css ps + cAt css (ps.length + 1) p := by
  rw [costG_K, costG_K, List.length_append, List.length_singleton, costK_succ]
  congr 1
  · unfold costK
    congr 1
    apply List.map_congr_left
    intro i hi
    have : i < ps.length := by simpa using hi
    simp [List.getD, List.getElem?_append_left this]
  · simp [List.getD]

/-- nothing cheaper is found below what is as dear already -/
theorem allB_dear {css : List (List Int)} {ok : List Int → Bool} (hv : validC css = true) : ∀ (m : Nat) (ps : List Int) (b : List Int) (l : Int), ps.length + m + 1 = css.length → l ≤ costG css ps → allB css ok m ps (some (b, l)) = some (b, l) := by
  intro m
  induction m with
  | zero =>
    intro ps b l _ hl
    simp [allB, leafB, betterB]
    intros; omega
  | succ m ih =>
    intro ps b l hlen hl
    rw [allB_succ]
    suffices h : ∀ k, k ≤ css.length → rowB css ok m ps (some (b, l)) k = some (b, l) from h _ (Nat.le_refl _)
    intro k
    induction k with
    | zero => intro _; rfl
    | succ k ihk =>
      intro hk
      rw [rowB_succ, ihk (by omega)]
      refine ih _ _ _ (by simp; omega) ?_
      rw [costG_snoc]
      have := cAt_in hv (i := ps.length + 1) (k := k) (by omega) (by omega)
      omega
theorem up_self {ps : List Int} {i : Nat} (h : ps[i]? = some ((i : Int) + 1)) : ∀ f, upF ps f ((i : Int) + 1) = none := by
  intro f
  induction f with
  | zero => simp [upF]; omega
  | succ f ih =>
    rw [upF_step _ _ (by omega), show ((i : Int) + 1 - 1).toNat = i by omega, List.getD, h]
    simp only [Option.getD_some]
    rw [ih]
    rfl
/-- a place that is its own parent makes no tree -/
theorem allB_self {css : List (List Int)} {ok : List Int → Bool} (hok : ∀ ps, ok ps = true → isTree ps = true) : ∀ (m : Nat) (ps : List Int) (i : Nat) (st : BSt), ps[i]? = some ((i : Int) + 1) → allB css ok m ps st = st := by
  intro m
  induction m with
  | zero =>
    intro ps i st h
    have : ok ps = false := by
      cases ho : ok ps with
      | false => rfl
      | true =>
        have h1 := hok ps ho
        rw [isTree_bad (List.getElem?_eq_some_iff.1 h).1 (up_self h _)] at h1
        cases h1
    simp [allB, leafB, this]
  | succ m ih =>
    intro ps i st h
    rw [allB_succ]
    suffices h' : ∀ k, rowB css ok m ps st k = st from h' _
    intro k
    induction k with
    | zero => rfl
    | succ k ihk =>
      rw [rowB_succ, ihk]
      exact ih _ i _ (by rw [List.getElem?_append_left (List.getElem?_eq_some_iff.1 h).1]; exact h)
/-- both walks end in the same tree -/
theorem walkB_all {css : List (List Int)} {ok : List Int → Bool} (hv : validC css = true) (hok : ∀ ps, ok ps = true → isTree ps = true) : ∀ (m : Nat) (ps : List Int) (st : BSt), ps.length + m + 1 = css.length → walkB css ok m ps (costG css ps) st = allB css ok m ps st := by
  intro m
  induction m with
  | zero =>
    intro ps st _
    cases st with
    | none => simp [walkB, allB, leafB, cutB, betterB]
    | some p =>
      obtain ⟨b, l⟩ := p
      simp only [walkB, allB, leafB, cutB, betterB]
      by_cases h : l ≤ costG css ps
      · simp [h, show ¬ costG css ps < l by omega]
      · simp [h, show costG css ps < l by omega]
  | succ m ih =>
    intro ps st hlen
    cases hc : cutB (costG css ps) st with
    | true =>
      cases st with
      | none => simp [cutB] at hc
      | some p =>
        obtain ⟨b, l⟩ := p
        simp [cutB] at hc
        rw [allB_dear hv _ _ _ _ hlen hc]
        simp [walkB, cutB, hc]
    | false =>
      have e : walkB css ok (m + 1) ps (costG css ps) st = wrowB css ok m ps (costG css ps) st css.length := by
        rw [walkB, hc]; rfl
      rw [e, allB_succ]
      suffices h : ∀ k, k ≤ css.length → wrowB css ok m ps (costG css ps) st k = rowB css ok m ps st k from h _ (Nat.le_refl _)
      intro k
      induction k with
      | zero => intro _; rfl
      | succ k ihk =>
        intro hk
        rw [wrowB_succ, rowB_succ, ihk (by omega)]
        split
        · rename_i hkp
          rw [allB_self hok m (ps ++ [(k : Int)]) ps.length]
          rw [hkp]
          simp
        · rw [← costG_snoc]
          exact ih _ _ (by simp; omega)
/-- what is found is not lost -/
theorem allB_some {css : List (List Int)} {ok : List Int → Bool} : ∀ (m : Nat) (ps : List Int) (st : BSt), st ≠ none → allB css ok m ps st ≠ none := by
  intro m
  induction m with
  | zero =>
    intro ps st h
    simp only [allB, leafB]
    split
    · simp
    · exact h
  | succ m ih =>
    intro ps st h
    rw [allB_succ]
    suffices h' : ∀ k, rowB css ok m ps st k ≠ none from h' _
    intro k
    induction k with
    | zero => exact h
    | succ k ihk => rw [rowB_succ]; exact ih _ _ ihk
/-- the tree in which all places hang on 0 is found, if it is allowed -/
theorem allB_star {css : List (List Int)} {ok : List Int → Bool} (hn : 1 ≤ css.length) : ∀ (m j : Nat) (st : BSt), ok (List.replicate (j + m) 0) = true → allB css ok m (List.replicate j 0) st ≠ none := by
  intro m
  induction m with
  | zero =>
    intro j st h
    simp only [allB, leafB]
    split
    · simp
    · rename_i hh
      rw [Nat.add_zero] at h
      rw [h, Bool.true_and] at hh
      intro e
      subst e
      simp [betterB] at hh
  | succ m ih =>
    intro j st h
    rw [allB_succ]
    suffices h' : ∀ k, 1 ≤ k → rowB css ok m (List.replicate j 0) st k ≠ none from h' _ hn
    intro k hk
    induction k with
    | zero => omega
    | succ k ihk =>
      rw [rowB_succ]
      by_cases h0 : k = 0
      · subst h0
        have : List.replicate j (0 : Int) ++ [((0 : Nat) : Int)] = List.replicate (j + 1) 0 := by rw [List.replicate_succ']; rfl
        rw [this]
        exact ih (j + 1) _ (by rw [show j + 1 + m = j + (m + 1) by omega]; exact h)
      · exact allB_some _ _ _ (ihk (by omega))
theorem up_star {k : Nat} {p : Nat} (hp : p < k) : upF (List.replicate k 0) (List.replicate k (0 : Int)).length ((p : Int) + 1) = some 1 := by
  obtain ⟨f, hf⟩ : ∃ f, (List.replicate k (0 : Int)).length = f + 1 := ⟨k - 1, by simp; omega⟩
  rw [hf, upF_step _ _ (by omega), show ((p : Int) + 1 - 1).toNat = p by omega, List.getD, List.getElem?_replicate, if_pos hp]
  simp [upF_zero]
theorem isTree_star (k : Nat) : isTree (List.replicate k 0) = true := isTree_good (fun i hi => by rw [up_star (by simpa using hi)]; simp)
theorem depL_star (k : Nat) : depL (List.replicate k 0) = List.replicate k 1 := by
  apply List.ext_getElem
  · simp [depL]
  · intro i h1 h2
    simp [depL] at h1 ⊢
    unfold upV
    rw [up_star h1]
    rfl
end Go.Proofs.Ytfbgglhjlbdfiaa
