/-
  Trees within a limit: a greater limit costs no more; so it is with depths: in plain Lean. No condition.
-/
import Derived.Test.YtfbgglhjlbdfiaaGBestP
namespace Go.Proofs.Ytfbgglhjlbdfiaa

theorem okW_tree {ds : List Int} {most : Int} {t : List Int} (h : okW ds most t = true) : isTree t = true ∧ ∀ x ∈ loadK t ds t.length, x ≤ most := by
  simp only [okW, Bool.and_eq_true, List.all_eq_true, decide_eq_true_eq] at h
  exact h
theorem okW_mk {ds : List Int} {most : Int} {t : List Int} (h : isTree t = true) (g : ∀ x ∈ loadK t ds t.length, x ≤ most) : okW ds most t = true := by
  simp only [okW, Bool.and_eq_true, List.all_eq_true, decide_eq_true_eq]
  exact ⟨h, g⟩
theorem okD_tree {d : Int} {t : List Int} (h : okD d t = true) : isTree t = true ∧ ∀ x ∈ depL t, x ≤ d := by
  simp only [okD, Bool.and_eq_true, List.all_eq_true, decide_eq_true_eq] at h
  exact h
theorem okD_mk {d : Int} {t : List Int} (h : isTree t = true) (g : ∀ x ∈ depL t, x ≤ d) : okD d t = true := by
  simp only [okD, Bool.and_eq_true, List.all_eq_true, decide_eq_true_eq]
  exact ⟨h, g⟩
/-- a best one of a kind -/
structure Best (css : List (List Int)) (ok : List Int → Bool) (b : List Int) (l : Int) : Prop where
  good : ok b = true
  cost : l = costG css b
  len : b.length + 1 = css.length
  in' : inN b css.length
  least : ∀ t : List Int, t.length + 1 = css.length → inN t css.length → ok t = true → l ≤ costG css t
theorem best_or {css : List (List Int)} (ok : List Int → Bool) (hn : 0 < css.length) :
    allB css ok (css.length - 1) [] none = none ∨ ∃ b l, allB css ok (css.length - 1) [] none = some (b, l) ∧ Best css ok b l := by
  cases h : allB css ok (css.length - 1) [] none with
  | none => exact .inl rfl
  | some q =>
    obtain ⟨b, l⟩ := q
    obtain ⟨h1, h2, h3, h4⟩ := best_is h
    simp only at h1 h2 h3 h4
    refine .inr ⟨b, l, rfl, h1, h2, by omega, h4, fun t hl hi ho => ?_⟩
    obtain ⟨b', l', e, _, _, _, _, hall⟩ := best_of (by omega) hi ho
    rw [h] at e
    injection e with e
    injection e with e1 e2
    subst e2
    exact hall t (by omega) hi ho
theorem best_no {css : List (List Int)} {ok : List Int → Bool} (h : allB css ok (css.length - 1) [] none = none) {t : List Int} (hl : t.length + 1 = css.length) (hi : inN t css.length) : ok t = false := by
  cases ho : ok t with
  | false => rfl
  | true =>
    obtain ⟨b, l, e, _⟩ := best_of (by omega) hi ho
    rw [h] at e
    cases e
theorem within_form {css : List (List Int)} {ds : List Int} {most : Int} (hv : validC css = true) (hd : demOk css ds = true) (h0 : 0 ≤ most) (h1 : most ≤ 6000) :
    (withinF css ds most = ([], 0, 3) ∧ ∀ t : List Int, t.length + 1 = css.length → inN t css.length → okW ds most t = false) ∨
    ∃ b l, withinF css ds most = (b, l, 0) ∧ Best css (okW ds most) b l := by
  have hl := validC_len hv
  have hr : inR most 0 6000 = true := by simp [inR]; omega
  rcases best_or (css := css) (okW ds most) (by omega) with h | ⟨b, l, h, hb⟩
  · refine .inl ⟨by simp [withinF, hv, hd, hr, h], fun t ht hi => best_no h ht hi⟩
  · exact .inr ⟨b, l, by simp [withinF, hv, hd, hr, h, bestB, leastB], hb⟩
theorem star_len {css : List (List Int)} (hv : validC css = true) : (List.replicate (css.length - 1) (0 : Int)).length + 1 = css.length ∧ inN (List.replicate (css.length - 1) 0) css.length := by
  have hl := validC_len hv
  refine ⟨by simp; omega, fun x hx => ?_⟩
  have := List.eq_of_mem_replicate hx
  omega
theorem star_dep (m : Nat) : ∀ x ∈ depL (List.replicate m 0), x ≤ 1 := by
  intro x hx
  simp only [depL, List.mem_map, List.mem_range, List.length_replicate] at hx
  obtain ⟨i, hi, rfl⟩ := hx
  have hz : (List.replicate m (0 : Int))[i]? = some 0 := by rw [List.getElem?_replicate, if_pos hi]
  have := (dep_at (isTree_star m) (fun x hx => by have := List.eq_of_mem_replicate hx; omega) hz).1 rfl
  omega
theorem shallow_form {css : List (List Int)} {d : Int} (hv : validC css = true) (h0 : 1 ≤ d) (h1 : d ≤ 6) :
    ∃ b l, shallowF css d = (b, l, 0) ∧ Best css (okD d) b l := by
  have hl := validC_len hv
  have hr : inR d 1 6 = true := by simp [inR]; omega
  obtain ⟨s1, s2⟩ := star_len hv
  rcases best_or (css := css) (okD d) (by omega) with h | ⟨b, l, h, hb⟩
  · have := best_no h s1 s2
    rw [okD_mk (isTree_star _) (fun x hx => by have := star_dep _ x hx; omega)] at this
    cases this
  · exact ⟨b, l, by simp [shallowF, hv, hr, h, bestB, leastB], hb⟩
theorem cheap_form {css : List (List Int)} (hv : validC css = true) : ∃ b l, cheapF css = (b, l, 0) ∧ Best css isTree b l := by
  have hl := validC_len hv
  obtain ⟨s1, s2⟩ := star_len hv
  rcases best_or (css := css) isTree (by omega) with h | ⟨b, l, h, hb⟩
  · have := best_no h s1 s2
    rw [isTree_star] at this
    cases this
  · exact ⟨b, l, by simp [cheapF, hv, h, bestB, leastB], hb⟩
theorem Best.le {css : List (List Int)} {ok ok' : List Int → Bool} {b b' : List Int} {l l' : Int} (h : Best css ok b l) (g : Best css ok' b' l') (hi : ok b' = true) : l ≤ l' := by
  have := h.least b' g.len g.in' hi
  rw [g.cost]
  exact this
theorem Best.code {css : List (List Int)} {ok : List Int → Bool} {b : List Int} {l : Int} (hv : validC css = true) (h : Best css ok b l) (ht : isTree b = true) : codeG css b = 0 :=
  codeG_of hv h.len h.in' ht
theorem Best.inP {css : List (List Int)} {ok : List Int → Bool} {b : List Int} {l : Int} (h : Best css ok b l) : inP b := fun x hx => by
  have h1 := h.in' x hx
  have h2 := h.len
  omega
theorem Best.bnd {css : List (List Int)} {ok : List Int → Bool} {b : List Int} {l : Int} (hv : validC css = true) (h : Best css ok b l) : 0 ≤ l ∧ l ≤ 60000 := by
  rw [h.cost]
  exact costG_in hv h.in' (by have := h.len; omega)
theorem depL_len (ps : List Int) : (depL ps).length = ps.length := by simp [depL]
theorem depL_lt {css : List (List Int)} {ok : List Int → Bool} {b : List Int} {l : Int} (hv : validC css = true) (h : Best css ok b l) : ∀ x ∈ depL b, x ≤ 6 := fun x hx => by
  have h1 := depL_le hx
  have h2 := h.len
  have h3 := validC_len hv
  omega
end Go.Proofs.Ytfbgglhjlbdfiaa
