/-
  The shortest round as a plain function: all orders of points, and the walk that leaves long ones out. No condition.
-/
import Derived.Test.YteckfjnglmkenaaPNearP
namespace Go.Proofs.Yteckfjnglmkenaa

abbrev RSt := Option (List Int × Int)
def lessR (c : Int) : RSt → Bool | none => true | some (_, l) => decide (c < l)
def leafR (css : List (List Int)) (ps : List Int) (st : RSt) : RSt := if lessR (lenR css ps) st then some (ps, lenR css ps) else st
/-- all orders of what is left, behind what is done -/
def ordG (leaf : List Int → RSt → RSt) : Nat → List Int → List Int → RSt → RSt
  | 0, _, rd, st => leaf rd st
  | m + 1, left, rd, st => left.foldl (fun st x => ordG leaf m (left.erase x) (rd ++ [x]) st) st
/-- the node's loop: the first k taken -/
def ordK (leaf : List Int → RSt → RSt) (m : Nat) (left rd : List Int) (st : RSt) (k : Nat) : RSt := (left.take k).foldl (fun st x => ordG leaf m (left.erase x) (rd ++ [x]) st) st
theorem ordK_succ {leaf : List Int → RSt → RSt} {m : Nat} {left rd : List Int} {st : RSt} {k : Nat} {x : Int} (h : left[k]? = some x) : ordK leaf m left rd st (k + 1) = ordG leaf m (left.erase x) (rd ++ [x]) (ordK leaf m left rd st k) := by
  simp [ordK, take_at h]
theorem ordK_all {leaf : List Int → RSt → RSt} {m : Nat} {left rd : List Int} {st : RSt} {k : Nat} (h : left.length ≤ k) : ordK leaf m left rd st k = ordG leaf (m + 1) left rd st := by
  simp [ordK, ordG, List.take_of_length_le h]

def cutR (sum : Int) : RSt → Bool | none => false | some (_, l) => decide (l ≤ sum)
/-- the reference's walk: a sum that is too great is left -/
def walkR (css : List (List Int)) : Nat → List Int → List Int → Int → Int → RSt → RSt
  | 0, _, rd, sum, j, st => if cutR sum st then st else if lessR (sum + cAt css j.toNat 0) st then some (rd, sum + cAt css j.toNat 0) else st
  | m + 1, left, rd, sum, j, st => if cutR sum st then st else left.foldl (fun st x => walkR css m (left.erase x) (rd ++ [x]) (sum + cAt css j.toNat x.toNat) x st) st
def wrowR (css : List (List Int)) (m : Nat) (left rd : List Int) (sum j : Int) (st : RSt) (k : Nat) : RSt :=
  (left.take k).foldl (fun st x => walkR css m (left.erase x) (rd ++ [x]) (sum + cAt css j.toNat x.toNat) x st) st
theorem wrowR_succ {css : List (List Int)} {m : Nat} {left rd : List Int} {sum j : Int} {st : RSt} {k : Nat} {x : Int} (h : left[k]? = some x) :
    wrowR css m left rd sum j st (k + 1) = walkR css m (left.erase x) (rd ++ [x]) (sum + cAt css j.toNat x.toNat) x (wrowR css m left rd sum j st k) := by
  simp [wrowR, take_at h]
theorem wrowR_all {css : List (List Int)} {m : Nat} {left rd : List Int} {sum j : Int} {st : RSt} {k : Nat} (h : left.length ≤ k) (hc : cutR sum st = false) : wrowR css m left rd sum j st k = walkR css (m + 1) left rd sum j st := by
  simp [wrowR, walkR, List.take_of_length_le h, hc]

/-- the length so far, and where it ends -/
def sumR (css : List (List Int)) (ps : List Int) : Int := sumK css ps ps.length
def endR (ps : List Int) : Int := endK ps ps.length
theorem endR_snoc (ps : List Int) (x : Int) : endR (ps ++ [x]) = x := by simp [endR, endK]
theorem sumK_take {css : List (List Int)} {ps qs : List Int} : ∀ k, k ≤ ps.length → sumK css (ps ++ qs) k = sumK css ps k := by
  intro k
  induction k with
  | zero => intro _; rfl
  | succ k ih =>
    intro hk
    simp only [sumK]
    rw [ih (by omega)]
    have h1 : (ps ++ qs).getD k 0 = ps.getD k 0 := by simp [List.getD, List.getElem?_append_left (show k < ps.length by omega)]
    have h2 : endK (ps ++ qs) k = endK ps k := by
      unfold endK
      split
      · rfl
      · simp [List.getD, List.getElem?_append_left (show k - 1 < ps.length by omega)]
    rw [h1, h2]
theorem endK_app (ps : List Int) (x : Int) : endK (ps ++ [x]) ps.length = endR ps := by
  unfold endR endK
  split
  · rfl
  · simp [List.getD, List.getElem?_append_left (show ps.length - 1 < ps.length by omega)]
theorem sumR_snoc (css : List (List Int)) (ps : List Int) (x : Int) : sumR css (ps ++ [x]) = sumR css ps + cAt css (endR ps).toNat x.toNat := by
  unfold sumR
  rw [List.length_append, List.length_singleton]
  simp only [sumK]
  rw [sumK_take _ (Nat.le_refl _), endK_app]
  simp [List.getD]
theorem lenR_eq (css : List (List Int)) (ps : List Int) : lenR css ps = sumR css ps + cAt css (endR ps).toNat 0 := rfl

theorem endR_in {n : Nat} {ps : List Int} (h : inQ n ps) (hn : 1 ≤ n) : 0 ≤ endR ps ∧ endR ps < n := endK_in h hn _
theorem sumR_in {css : List (List Int)} (hv : validP css = true) {ps : List Int} (h : inQ css.length ps) : 0 ≤ sumR css ps ∧ sumR css ps ≤ 1000 * ps.length := sumK_in hv h _ (Nat.le_refl _)
theorem inQ_snoc {n : Nat} {ps : List Int} {x : Int} (h : inQ n ps) (hx : 0 ≤ x ∧ x < n) : inQ n (ps ++ [x]) := fun y hy => by
  rcases List.mem_append.1 hy with h1 | h1
  · exact h y h1
  · simp at h1; subst h1; exact hx
theorem inQ_erase {n : Nat} {ps : List Int} (h : inQ n ps) (x : Int) : inQ n (ps.erase x) := fun y hy => h y (List.mem_of_mem_erase hy)
/-- nothing shorter is found behind what is as long already -/
theorem ordG_long {css : List (List Int)} (hv : validP css = true) : ∀ (m : Nat) (left rd : List Int) (b : List Int) (l : Int), inQ css.length left → inQ css.length rd → l ≤ sumR css rd → ordG (leafR css) m left rd (some (b, l)) = some (b, l) := by
  have hn := (validP_len hv).1
  intro m
  induction m with
  | zero =>
    intro left rd b l _ hr hl
    have h1 := endR_in hr hn
    have h2 := cAt_in hv (endR rd).toNat 0 (by omega) (by omega)
    have h3 : ¬ lenR css rd < l := by rw [lenR_eq]; omega
    simp [ordG, leafR, lessR, h3]
  | succ m ih =>
    intro left rd b l hq hr hl
    suffices h : ∀ k, ordK (leafR css) m left rd (some (b, l)) k = some (b, l) by
      rw [← ordK_all (Nat.le_refl _)]; exact h _
    intro k
    induction k with
    | zero => rfl
    | succ k ihk =>
      cases hx : left[k]? with
      | none =>
        have := List.getElem?_eq_none_iff.1 hx
        rw [ordK_all (k := k + 1) (by omega), ← ordK_all this]
        exact ihk
      | some x =>
        rw [ordK_succ hx, ihk]
        have hxq := hq x (List.mem_of_getElem? hx)
        refine ih _ _ _ _ (inQ_erase hq x) (inQ_snoc hr hxq) ?_
        rw [sumR_snoc]
        have h1 := endR_in hr hn
        have h2 := cAt_in hv (endR rd).toNat x.toNat (by omega) (by omega)
        omega
/-- both walks end in the same round -/
theorem walkR_all {css : List (List Int)} (hv : validP css = true) : ∀ (m : Nat) (left rd : List Int) (st : RSt), inQ css.length left → inQ css.length rd → walkR css m left rd (sumR css rd) (endR rd) st = ordG (leafR css) m left rd st := by
  have hn := (validP_len hv).1
  intro m
  induction m with
  | zero =>
    intro left rd st hq hr
    cases hc : cutR (sumR css rd) st with
    | true =>
      cases st with
      | none => simp [cutR] at hc
      | some p =>
        obtain ⟨b, l⟩ := p
        simp only [cutR, decide_eq_true_eq] at hc
        rw [ordG_long hv 0 left rd b l hq hr hc]
        simp [walkR, cutR, hc]
    | false => simp only [walkR, hc, ordG, leafR, lenR_eq]; rfl
  | succ m ih =>
    intro left rd st hq hr
    cases hc : cutR (sumR css rd) st with
    | true =>
      cases st with
      | none => simp [cutR] at hc
      | some p =>
        obtain ⟨b, l⟩ := p
        simp only [cutR, decide_eq_true_eq] at hc
        rw [ordG_long hv _ left rd b l hq hr hc]
        simp [walkR, cutR, hc]
    | false =>
      rw [← wrowR_all (Nat.le_refl _) hc, ← ordK_all (Nat.le_refl _)]
      suffices h : ∀ k, wrowR css m left rd (sumR css rd) (endR rd) st k = ordK (leafR css) m left rd st k from h _
      intro k
      induction k with
      | zero => rfl
      | succ k ihk =>
        cases hx : left[k]? with
        | none =>
          have := List.getElem?_eq_none_iff.1 hx
          rw [ordK_all (by omega), wrowR_all (by omega) hc, ← ordK_all this, ← wrowR_all this hc, ihk]
        | some x =>
          have hxq := hq x (List.mem_of_getElem? hx)
          rw [ordK_succ hx, wrowR_succ hx, ihk]
          have := ih (left.erase x) (rd ++ [x]) (ordK (leafR css) m left rd st k) (inQ_erase hq x) (inQ_snoc hr hxq)
          rw [sumR_snoc, endR_snoc] at this
          exact this

/-- orders of places and orders of what stands at them -/
theorem ordG_map {leaf : List Int → RSt → RSt} {g : Int → Int} : ∀ (m : Nat) (left rd : List Int) (st : RSt), (∀ x ∈ left, ∀ y ∈ left, g x = g y → x = y) →
    ordG (fun rd st => leaf (rd.map g) st) m left rd st = ordG leaf m (left.map g) (rd.map g) st := by
  intro m
  induction m with
  | zero => intro left rd st _; rfl
  | succ m ih =>
    intro left rd st hg
    simp only [ordG]
    rw [List.foldl_map]
    have key : ∀ (l : List Int) (st : RSt), (∀ x ∈ l, x ∈ left) → l.foldl (fun st x => ordG (fun rd st => leaf (rd.map g) st) m (left.erase x) (rd ++ [x]) st) st = l.foldl (fun st x => ordG leaf m ((left.map g).erase (g x)) (rd.map g ++ [g x]) st) st := by
      intro l
      induction l with
      | nil => intro st _; rfl
      | cons x r ihl =>
        intro st hl
        simp only [List.foldl_cons]
        have hxm := hl x (by simp)
        have e : (left.map g).erase (g x) = (left.erase x).map g := by
          clear ih ihl hl
          induction left with
          | nil => simp at hxm
          | cons y s ihs =>
            by_cases hyx : y = x
            · subst hyx; simp
            · have hgy : g y ≠ g x := fun e => hyx (hg y (by simp) x hxm e)
              have h1 : (y == x) = false := by simpa using hyx
              have h2 : (g y == g x) = false := by simpa using hgy
              rw [List.map_cons, List.erase_cons, h2, List.erase_cons, h1]
              simp only [Bool.false_eq_true, if_false, List.map_cons]
              rw [ihs (fun a ha b hb => hg a (by simp [ha]) b (by simp [hb])) (by
                rcases List.mem_cons.1 hxm with h | h
                · exact absurd h.symm hyx
                · exact h)]
        rw [ih _ _ _ (fun a ha b hb => hg a (List.mem_of_mem_erase ha) b (List.mem_of_mem_erase hb)), List.map_append, ← e]
        exact ihl _ (fun y hy => hl y (by simp [hy]))
    exact key left st (fun x hx => hx)
/-- something is found -/
theorem ordG_some {css : List (List Int)} : ∀ (m : Nat) (left rd : List Int) (st : RSt), (st ≠ none ∨ left.length = m) → ordG (leafR css) m left rd st ≠ none := by
  intro m
  induction m with
  | zero =>
    intro left rd st h
    simp only [ordG, leafR]
    cases st with
    | none => simp [lessR]
    | some p => split <;> simp
  | succ m ih =>
    intro left rd st h
    suffices h' : ∀ k, (st ≠ none ∨ (left.length = m + 1 ∧ 1 ≤ k)) → ordK (leafR css) m left rd st k ≠ none by
      rw [← ordK_all (Nat.le_refl _)]
      exact h' _ (by rcases h with h | h; exact .inl h; exact .inr ⟨h, by omega⟩)
    intro k
    induction k with
    | zero =>
      intro h
      rcases h with h | h
      · exact h
      · omega
    | succ k ihk =>
      intro h
      cases hx : left[k]? with
      | none =>
        have h0 := List.getElem?_eq_none_iff.1 hx
        rw [ordK_all (k := k + 1) (by omega), ← ordK_all h0]
        exact ihk (by rcases h with h | h; exact .inl h; exact .inr ⟨h.1, by omega⟩)
      | some x =>
        rw [ordK_succ hx]
        have hl := (List.getElem?_eq_some_iff.1 hx).1
        have hm := List.mem_of_getElem? hx
        refine ih _ _ _ ?_
        rcases h with h | h
        · exact .inl (ihk (.inl h))
        · right; rw [List.length_erase_of_mem hm]; omega
def shortF (css : List (List Int)) (ps : List Int) : List Int × Int × Int :=
  if codeS css ps = 0 then if 7 < ps.length then ([], 0, 5) else (match ordG (leafR css) ps.length ps [] none with | some q => (q.1, q.2, 0) | none => ([], 0, 0)) else ([], 0, codeS css ps)
end Go.Proofs.Yteckfjnglmkenaa
