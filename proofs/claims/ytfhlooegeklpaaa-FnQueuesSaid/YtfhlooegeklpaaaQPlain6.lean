/-
  The end of a queue and its work, in plain Lean.
-/
import Derived.Test.YtfhlooegeklpaaaQPlain4
import Derived.Test.YtfhlooegeklpaaaQPlain5
namespace Go.Proofs.Ytfhlooegeklpaaa

theorem endQ_spec : ∀ (ps : List (Item × Int)) (e : Int), e ≤ endQ e ps ∧ (∀ p ∈ ps, p.2 + p.1.t ≤ endQ e ps) ∧ (endQ e ps = e ∨ ∃ p ∈ ps, endQ e ps = p.2 + p.1.t)
  | [], e => ⟨Int.le_refl _, fun p hp => (by cases hp), .inl rfl⟩
  | q :: r, e => by
    obtain ⟨h1, h2, h3⟩ := endQ_spec r (max e (q.2 + q.1.t))
    rw [endQ]
    refine ⟨by omega, fun p hp => ?_, ?_⟩
    · rcases List.mem_cons.1 hp with h | h
      · subst h; omega
      · exact h2 p h
    · rcases h3 with h3 | ⟨p, hp, h3⟩
      · rcases Int.le_total e (q.2 + q.1.t) with h | h
        · exact .inr ⟨q, by simp, by omega⟩
        · exact .inl (by omega)
      · exact .inr ⟨p, by simp [hp], h3⟩
theorem workQ_sum : ∀ (ps : List (Item × Int)) (e : Int), workQ e ps = e + (ps.map fun p => p.1.t).sum
  | [], e => by simp [workQ]
  | q :: r, e => by rw [workQ, workQ_sum r]; simp; omega
/-- what is sent at place i of the order -/
theorem order_at {xs : List Item} (hv : validQ xs = true) {i : Nat} (hi : i < xs.length) :
    ∃ (k : Nat) (x : Item) (s : Int), (orderQ xs 0)[i]? = some (k : Int) ∧ k < xs.length ∧ xs[k]? = some x ∧ (startsQ xs 0)[k]? = some s ∧ (orderQ xs 0).getD i 0 = (k : Int) ∧ xs.getD k z3 = x ∧ (startsQ xs 0).getD k 0 = s := by
  obtain ⟨_, hm, hl⟩ := orderQ_all (age := 0) hv
  have h1 : (orderQ xs 0)[i]? = some (orderQ xs 0)[i] := List.getElem?_eq_getElem (by omega)
  obtain ⟨k, hk, e⟩ := hm _ (List.mem_of_getElem? h1)
  obtain ⟨s, hs, _⟩ := starts_at hv hk
  rw [e] at h1
  exact ⟨k, xs[k], s, h1, hk, List.getElem?_eq_getElem hk, hs, by simp [List.getD, h1], by simp [List.getD, List.getElem?_eq_getElem hk], by simp [List.getD, hs]⟩
theorem atK_succ {xs : List Item} {o s : List Int} {i k : Nat} {x : Item} {z : Int} (h1 : o.getD i 0 = (k : Int)) (h2 : xs.getD k z3 = x) (h3 : s.getD k 0 = z) : atK xs o s (i + 1) = z + x.t := by
  simp only [atK, h1, Int.toNat_natCast, h2, h3]
theorem workK_succ {xs : List Item} {o : List Int} {i k : Nat} {x : Item} (h1 : o.getD i 0 = (k : Int)) (h2 : xs.getD k z3 = x) : workK xs o (i + 1) = workK xs o i + x.t := by
  simp only [workK, h1, Int.toNat_natCast, h2]
theorem atK_mono {xs : List Item} (hv : validQ xs = true) : ∀ (d i : Nat), i + d ≤ xs.length → atK xs (orderQ xs 0) (startsQ xs 0) i ≤ atK xs (orderQ xs 0) (startsQ xs 0) (i + d) := by
  intro d
  induction d with
  | zero => intro i _; exact Int.le_refl _
  | succ d ih =>
    intro i hi
    have h1 := ih i (by omega)
    obtain ⟨k, x, s, _, _, hx, _, e1, e2, e3⟩ := order_at hv (show i + d < xs.length by omega)
    have h2 := (orderQ_sent hv (i + d) (by omega)).late
    rw [e1, Int.toNat_natCast, e3] at h2
    have h3 := validQ_item hv hx
    rw [← Nat.add_assoc, atK_succ e1 e2 e3]
    omega
theorem at_end {xs : List Item} (hv : validQ xs = true) (hn : 0 < xs.length) : atK xs (orderQ xs 0) (startsQ xs 0) xs.length = endQ 0 (pairsQ xs) := by
  obtain ⟨h1, h2, h3⟩ := endQ_spec (pairsQ xs) 0
  obtain ⟨hd, hm, hl⟩ := orderQ_all (age := 0) hv
  have hle : atK xs (orderQ xs 0) (startsQ xs 0) xs.length ≤ endQ 0 (pairsQ xs) := by
    obtain ⟨k, x, s, _, _, hx, hs, e1, e2, e3⟩ := order_at hv (show xs.length - 1 < xs.length by omega)
    have h4 := h2 _ (List.mem_of_getElem? (pairsQ_at hx hs))
    have h5 := atK_succ e1 e2 e3
    rw [show xs.length - 1 + 1 = xs.length by omega] at h5
    rw [h5]; exact h4
  have hall : ∀ p ∈ pairsQ xs, p.2 + p.1.t ≤ atK xs (orderQ xs 0) (startsQ xs 0) xs.length := by
    intro p hp
    obtain ⟨k, hk⟩ := List.mem_iff_getElem?.1 hp
    have hk0 := hk
    unfold pairsQ at hk
    rw [List.getElem?_zip_eq_some] at hk
    have hkl := (List.getElem?_eq_some_iff.1 hk.1).1
    have hin := all_places hd hm hl k hkl
    obtain ⟨i, hi⟩ := List.mem_iff_getElem?.1 hin
    have hil : i < xs.length := by have := (List.getElem?_eq_some_iff.1 hi).1; omega
    have e1 : (orderQ xs 0).getD i 0 = (k : Int) := by simp [List.getD, hi]
    have e2 : xs.getD k z3 = p.1 := by simp [List.getD, hk.1]
    have e3 : (startsQ xs 0).getD k 0 = p.2 := by simp [List.getD, hk.2]
    rw [← atK_succ e1 e2 e3]
    have := atK_mono hv (xs.length - (i + 1)) (i + 1) (by omega)
    rwa [show i + 1 + (xs.length - (i + 1)) = xs.length by omega] at this
  rcases h3 with h3 | ⟨p, hp, h3⟩
  · have h4 : 0 ≤ atK xs (orderQ xs 0) (startsQ xs 0) xs.length := by
      have := atK_mono hv xs.length 0 (by omega)
      rwa [Nat.zero_add] at this
    omega
  · have := hall p hp; omega
theorem workK_take {xs : List Item} {o : List Int} : ∀ i, i ≤ o.length → workK xs o i = ((o.take i).map fun z => (xs.getD z.toNat z3).t).sum := by
  intro i
  induction i with
  | zero => intro _; simp [workK]
  | succ i ih =>
    intro hi
    have h1 : o[i]? = some o[i] := List.getElem?_eq_getElem (by omega)
    rw [take_at h1, workK, ih (by omega), List.map_append, List.sum_append]
    congr 1
    simp [List.getD, h1]
theorem work_end {xs : List Item} (hv : validQ xs = true) : workK xs (orderQ xs 0) xs.length = workQ 0 (pairsQ xs) := by
  obtain ⟨hd, hm, hl⟩ := orderQ_all (age := 0) hv
  rw [workK_take _ (by omega), List.take_of_length_le (by omega), perm_sum (order_perm hd hm hl) _, workQ_sum, Int.zero_add]
  congr 1
  apply List.ext_getElem
  · simp [pairsQ_len hv]
  · intro i h1 h2
    simp only [List.length_map, List.length_range] at h1
    have hs : i < (startsQ xs 0).length := by rw [(startsQ_inv hv).1]; exact h1
    simp [pairsQ, List.getD, List.getElem?_eq_getElem h1]
theorem idle_end {xs : List Item} (hv : validQ xs = true) (hn : 0 < xs.length) : idleRes xs = atK xs (orderQ xs 0) (startsQ xs 0) xs.length - workK xs (orderQ xs 0) xs.length := by
  rw [at_end hv hn, work_end hv]
  simp [idleRes, hv]
theorem idle_pos {xs : List Item} (hv : validQ xs = true) : 0 ≤ idleRes xs := by
  rcases Nat.eq_zero_or_pos xs.length with h | h
  · have : xs = [] := List.eq_nil_of_length_eq_zero h
    subst this
    decide
  · rw [idle_end hv h]
    have := at_work hv xs.length (Nat.le_refl _)
    omega
end Go.Proofs.Ytfhlooegeklpaaa
