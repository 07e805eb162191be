/-
  The plain laws of points: due days, visits of one day more, points that were done. No condition.
-/
import Derived.Test.YtehjfajmnciiaaaDoorDPts
import Derived.Test.YtehjfajmnciiaaaDoorPVis
import Derived.Test.YtehjfajmnciiaaaDoorPDone2
namespace Go.Proofs.YtehjfajmnciiaaaDoor
open Go.RowKit

theorem dueK_mem (xs : List Point) (day : Int) : ∀ (k : Nat) (z : Int), z ∈ dueK xs day k ↔ ∃ i : Nat, i < k ∧ z = i ∧ dueD (pAt xs i) ≤ day := by
  intro k
  induction k with
  | zero => intro z; simp [dueK]
  | succ k ih =>
    intro z
    have e : xs.getD k ⟨0, 0⟩ = pAt xs k := rfl
    simp only [dueK, e]
    by_cases h : dueD (pAt xs k) ≤ day
    · rw [if_pos h, List.mem_append, ih, List.mem_singleton]
      constructor
      · rintro (⟨i, h1, h2, h3⟩ | h1)
        · exact ⟨i, by omega, h2, h3⟩
        · exact ⟨k, by omega, h1, h⟩
      · rintro ⟨i, h1, h2, h3⟩
        rcases Nat.lt_or_ge i k with h4 | h4
        · exact .inl ⟨i, h4, h2, h3⟩
        · exact .inr (by rw [h2]; congr 1; omega)
    · rw [if_neg h, ih]
      constructor
      · rintro ⟨i, h1, h2, h3⟩; exact ⟨i, by omega, h2, h3⟩
      · rintro ⟨i, h1, h2, h3⟩
        rcases Nat.lt_or_ge i k with h4 | h4
        · exact ⟨i, h4, h2, h3⟩
        · obtain rfl : i = k := by omega
          exact absurd h3 h
/-- a place stands in the list of what is due just where its day has come -/
theorem due_law {xs : List Point} {day : Int} (h : codeP xs day = 0) {i : Nat} (hi : i < xs.length) : hasI (dueF xs day).1 i = decide (dueD (pAt xs i) ≤ day) := by
  rw [Bool.eq_iff_iff, hasI_iff, decide_eq_true_eq]
  simp only [dueF, h, if_true, dueK_mem]
  constructor
  · rintro ⟨j, h1, h2, h3⟩
    obtain rfl : i = j := by omega
    exact h3
  · intro h1; exact ⟨i, hi, rfl, h1⟩
theorem minK_le (d : Int) (xs : List Point) : ∀ (k i : Nat), i < k → minK d xs k ≤ dueD (pAt xs i) := by
  intro k
  induction k with
  | zero => intro i h; omega
  | succ k ih =>
    intro i h
    simp only [minK]
    rcases Nat.lt_or_ge i k with h4 | h4
    · have := ih i h4; omega
    · obtain rfl : i = k := by omega
      omega
/-- no point is due before the least day -/
theorem next_law {xs : List Point} (h : validPts xs = true) {i : Nat} (hi : i < xs.length) : (nextF xs).1 ≤ dueD (pAt xs i) := by
  simp only [nextF, h, if_true, if_neg (show ¬ xs.length = 0 by omega)]
  exact minK_le _ _ _ _ hi
theorem day_law {xs : List Point} (h : validPts xs = true) {i : Nat} (hi : i < xs.length) : dayF xs i = (dueD (pAt xs i), 0) := by
  have hr : inR (i : Int) 0 ((xs.length : Int) - 1) = true := by simp [inR]; omega
  simp only [dayF, h, if_true, hr, Int.toNat_natCast]
theorem pAt_ok {xs : List Point} (h : validPts xs = true) {i : Nat} (hi : i < xs.length) : 1 ≤ (pAt xs i).i ∧ (pAt xs i).i ≤ 1000 ∧ 0 ≤ (pAt xs i).l ∧ (pAt xs i).l ≤ 100000 := by
  have hx : xs[i]? = some xs[i] := List.getElem?_eq_getElem hi
  rw [pAt_of hx]
  exact okPoint_at h hx

/-- one day more makes one visit more at most -/
theorem step_quo {b a : Int} (hb : 1 ≤ b) : max 0 (a - 1) / b ≤ max 0 a / b ∧ max 0 a / b ≤ max 0 (a - 1) / b + 1 := by
  have h0 : max 0 (a - 1) ≤ max 0 a ∧ max 0 a ≤ max 0 (a - 1) + 1 := by omega
  refine ⟨Int.ediv_le_ediv (by omega) h0.1, ?_⟩
  have h1 : max 0 a / b ≤ (max 0 (a - 1) + 1) / b := Int.ediv_le_ediv (by omega) h0.2
  have h2 : (max 0 (a - 1) + 1) / b ≤ (max 0 (a - 1) + 1 * b) / b := Int.ediv_le_ediv (by omega) (by omega)
  rw [Int.add_mul_ediv_right _ _ (by omega)] at h2
  omega
theorem vis_step {x : Point} {fr to : Int} (hx : 1 ≤ x.i) : visV (fr + 1) to x ≤ visV fr to x ∧ visV fr to x ≤ visV (fr + 1) to x + 1 := by
  have := step_quo (a := fr - x.l) hx
  have e1 : fr + 1 - 1 - x.l = fr - x.l := by omega
  have e2 : fr - 1 - x.l = fr - x.l - 1 := by omega
  simp only [visV, e1, e2]
  omega
theorem vis_code {xs : List Point} {fr to : Int} (h : (visF xs fr to).2 = 0) : validPts xs = true ∧ (visF xs fr to).1 = xs.map (visV fr to) ∧ 0 ≤ fr ∧ to ≤ 100000 := by
  unfold visF at h ⊢
  by_cases hc : codeP xs fr = 0
  · rw [if_pos hc] at h ⊢
    have hv := codeP_zero hc
    by_cases hr : inR to fr 100000 = true
    · rw [if_pos hr]
      have : fr ≤ to ∧ to ≤ 100000 := by simpa [inR] using hr
      exact ⟨hv.1, rfl, hv.2.1, this.2⟩
    · rw [if_neg hr] at h
      simp at h
  · rw [if_neg hc] at h
    exact absurd h hc
/-- the visits of one day less -/
theorem vis_law {xs : List Point} {fr to : Int} (h : (visF xs fr to).2 = 0) (hl : fr < to) : visF xs (fr + 1) to = (xs.map (visV (fr + 1) to), 0) := by
  obtain ⟨h1, h2, h3, h4⟩ := vis_code h
  have hc : codeP xs (fr + 1) = 0 := by
    have : inR (fr + 1) 0 100000 = true := by simp [inR]; omega
    simp [codeP, h1, this]
  have hr : inR to (fr + 1) 100000 = true := by simp [inR]; omega
  simp [visF, hc, hr]
theorem vis_at {xs : List Point} {fr to : Int} (h : validPts xs = true) {i : Nat} {u v : Int} (hu : (xs.map (visV fr to))[i]? = some u) (hv : (xs.map (visV (fr + 1) to))[i]? = some v) : v ≤ u ∧ u ≤ v + 1 := by
  rw [List.getElem?_map] at hu hv
  cases hx : xs[i]? with
  | none => rw [hx] at hu; simp at hu
  | some x =>
    rw [hx] at hu hv
    simp only [Option.map_some, Option.some.injEq] at hu hv
    subst hu hv
    exact vis_step (okPoint_at h hx).1
theorem vis_bd {xs : List Point} {fr to : Int} (h : validPts xs = true) (h0 : 0 ≤ fr) (h1 : to ≤ 100000) (h2 : fr ≤ 100001) {i : Nat} {u : Int} (hu : (xs.map (visV fr to))[i]? = some u) : -100001 ≤ u ∧ u ≤ 100001 := by
  rw [List.getElem?_map] at hu
  cases hx : xs[i]? with
  | none => rw [hx] at hu; simp at hu
  | some x =>
    rw [hx] at hu
    simp only [Option.map_some, Option.some.injEq] at hu
    subst hu
    have hp := okPoint_at h hx
    have a := max_quo (a := to - x.l) (b := x.i) (by omega) hp.1
    have b := max_quo (a := fr - 1 - x.l) (b := x.i) (by omega) hp.1
    simp only [visV]
    omega

/-- what holds of a place behind some that were done: once it has the day, it keeps it -/
theorem doneK_keep {day : Int} : ∀ (ks : List Int) (l l' : List Point), doneK day ks l = some l' → ∀ j : Nat, (pAt l' j).i = (pAt l j).i ∧ ((pAt l j).l = day → (pAt l' j).l = day) := by
  intro ks
  induction ks with
  | nil =>
    intro l l' h j
    simp only [doneK, Option.some.injEq] at h
    subst h
    exact ⟨rfl, id⟩
  | cons k r ih =>
    intro l l' h j
    simp only [doneK] at h
    split at h
    · cases h
    · have h2 := ih _ _ h j
      have e : l.getD k.toNat ⟨0, 0⟩ = pAt l k.toNat := rfl
      rw [e] at h2
      by_cases hj : k.toNat = j
      · subst hj
        by_cases hb : k.toNat < l.length
        · have e2 : pAt (l.set k.toNat ⟨(pAt l k.toNat).i, day⟩) k.toNat = ⟨(pAt l k.toNat).i, day⟩ := by
            simp [pAt, List.getElem?_set_self hb]
          rw [e2] at h2
          exact ⟨h2.1, fun _ => h2.2 rfl⟩
        · rw [List.set_eq_of_length_le (by omega)] at h2
          exact h2
      · have e2 : pAt (l.set k.toNat ⟨(pAt l k.toNat).i, day⟩) j = pAt l j := by simp [pAt, List.getElem?_set_ne hj]
        rw [e2] at h2
        exact h2
theorem doneK_mem {day : Int} : ∀ (ks : List Int) (l l' : List Point), doneK day ks l = some l' → (∀ k ∈ ks, 0 ≤ k ∧ k.toNat < l.length) → ∀ k ∈ ks, (pAt l' k.toNat).l = day := by
  intro ks
  induction ks with
  | nil => intro l l' h hk k hm; simp at hm
  | cons k r ih =>
    intro l l' h hk q hq
    simp only [doneK] at h
    split at h
    · cases h
    · have e : l.getD k.toNat ⟨0, 0⟩ = pAt l k.toNat := rfl
      rw [e] at h
      rcases List.mem_cons.1 hq with rfl | hq
      · have hb := (hk q (by simp)).2
        refine (doneK_keep _ _ _ h q.toNat).2 ?_
        simp [pAt, List.getElem?_set_self hb]
      · exact ih _ _ h (fun z hz => by have := hk z (by simp [hz]); simpa using this) q hq
theorem doneK_valid {day : Int} (hd : 0 ≤ day ∧ day ≤ 100000) : ∀ (ks : List Int) (l l' : List Point), doneK day ks l = some l' → validPts l = true → validPts l' = true := by
  intro ks
  induction ks with
  | nil =>
    intro l l' h hv
    simp only [doneK, Option.some.injEq] at h
    subst h
    exact hv
  | cons k r ih =>
    intro l l' h hv
    simp only [doneK] at h
    split at h
    · cases h
    · refine ih _ _ h ?_
      have e : l.getD k.toNat ⟨0, 0⟩ = pAt l k.toNat := rfl
      rw [e]
      by_cases hb : k.toNat < l.length
      · have hp := pAt_ok hv hb
        simp only [validPts, Bool.and_eq_true, decide_eq_true_eq, List.all_eq_true, List.length_set] at hv ⊢
        refine ⟨hv.1, fun x hx => ?_⟩
        rcases List.mem_or_eq_of_mem_set hx with h1 | h1
        · exact hv.2 x h1
        · subst h1
          simp [okPoint, inR]
          omega
      · rw [List.set_eq_of_length_le (by omega)]
        exact hv
/-- points that are done are due an interval later -/
theorem done_law {xs : List Point} {ks : List Int} {day : Int} (h : (doneF xs ks day).2 = 0) :
    validPts (doneF xs ks day).1 = true ∧ (doneF xs ks day).1.length = xs.length ∧ validPts xs = true ∧ 0 ≤ day ∧ day ≤ 100000 ∧ ∀ k ∈ ks, ∃ j : Nat, k = j ∧ j < xs.length ∧ dueD (pAt (doneF xs ks day).1 j) = day + (pAt xs j).i := by
  unfold doneF at h ⊢
  by_cases hc : codeP xs day = 0
  · rw [if_pos hc] at h ⊢
    have hv := codeP_zero hc
    by_cases hr : riseF 0 ((xs.length : Int) - 1) none ks = true
    · rw [if_pos hr] at h ⊢
      have hm := riseF_mem ks none hr
      cases hd : doneK day ks xs with
      | none => rw [hd] at h; simp at h
      | some l =>
        simp only
        have hl := doneK_len _ _ _ hd
        refine ⟨doneK_valid hv.2 _ _ _ hd hv.1, hl, hv.1, hv.2.1, hv.2.2, fun k hk => ?_⟩
        have hb := hm k hk
        have hj : k.toNat < xs.length := by omega
        refine ⟨k.toNat, by omega, hj, ?_⟩
        have h1 := doneK_mem _ _ _ hd (fun z hz => by have := hm z hz; omega) k hk
        have h2 := (doneK_keep _ _ _ hd k.toNat).1
        simp only [dueD, h1, h2]
    · rw [if_neg hr] at h
      simp at h
  · rw [if_neg hc] at h
    exact absurd h hc
end Go.Proofs.YtehjfajmnciiaaaDoor
