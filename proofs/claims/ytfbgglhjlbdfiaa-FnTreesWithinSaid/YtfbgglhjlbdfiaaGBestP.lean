/-
  The cheapest tree is no dearer than any other; loads and depths of a tree; a move: in plain Lean. No condition.
-/
import Derived.Test.YtfbgglhjlbdfiaaGWith
import Derived.Test.YtfbgglhjlbdfiaaLHelp
import Derived.Test.YtfbgglhjlbdfiaaGDraw
namespace Go.Proofs.Ytfbgglhjlbdfiaa

def GoodB (css : List (List Int)) (ok : List Int → Bool) (ps : List Int) (m : Nat) (q : List Int × Int) : Prop :=
  ok q.1 = true ∧ q.2 = costG css q.1 ∧ ∃ qs : List Int, qs.length = m ∧ inN qs css.length ∧ q.1 = ps ++ qs
theorem allB_best (css : List (List Int)) (ok : List Int → Bool) : ∀ (m : Nat) (ps : List Int) (st : BSt),
    (∀ q0, st = some q0 → ∃ q, allB css ok m ps st = some q ∧ q.2 ≤ q0.2) ∧
    (∀ qs : List Int, qs.length = m → inN qs css.length → ok (ps ++ qs) = true → ∃ q, allB css ok m ps st = some q ∧ q.2 ≤ costG css (ps ++ qs)) ∧
    (∀ q, allB css ok m ps st = some q → st = some q ∨ GoodB css ok ps m q) := by
  intro m
  induction m with
  | zero =>
    intro ps st
    simp only [allB, leafB]
    refine ⟨fun q0 h => ?_, fun qs hl _ ho => ?_, fun q h => ?_⟩
    · subst h
      split
      · rename_i hc
        simp only [betterB, Bool.and_eq_true, decide_eq_true_eq] at hc
        exact ⟨_, rfl, Int.le_of_lt hc.2⟩
      · exact ⟨_, rfl, Int.le_refl _⟩
    · obtain rfl := List.eq_nil_of_length_eq_zero hl
      rw [List.append_nil] at ho ⊢
      rw [ho]
      cases st with
      | none => exact ⟨_, rfl, Int.le_refl _⟩
      | some p =>
        obtain ⟨b, l⟩ := p
        by_cases hc : costG css ps < l
        · exact ⟨(ps, costG css ps), by simp [betterB, hc], Int.le_refl _⟩
        · exact ⟨(b, l), by simp [betterB, hc], by simp only; omega⟩
    · split at h
      · rename_i hc
        injection h with h
        subst h
        simp only [Bool.and_eq_true] at hc
        exact .inr ⟨hc.1, rfl, [], rfl, fun x hx => by simp at hx, by simp⟩
      · exact .inl h
  | succ m ih =>
    intro ps st
    rw [allB_succ]
    suffices key : ∀ k, k ≤ css.length → (∀ q0, st = some q0 → ∃ q, rowB css ok m ps st k = some q ∧ q.2 ≤ q0.2) ∧
        (∀ (p : Nat) (qs : List Int), p < k → qs.length = m → inN qs css.length → ok (ps ++ (p : Int) :: qs) = true → ∃ q, rowB css ok m ps st k = some q ∧ q.2 ≤ costG css (ps ++ (p : Int) :: qs)) ∧
        (∀ q, rowB css ok m ps st k = some q → st = some q ∨ GoodB css ok ps (m + 1) q) by
      obtain ⟨h1, h2, h3⟩ := key css.length (Nat.le_refl _)
      refine ⟨h1, fun qs hl hin ho => ?_, h3⟩
      cases qs with
      | nil => simp at hl
      | cons z qs =>
        have hz := hin z (by simp)
        obtain ⟨p, rfl⟩ : ∃ p : Nat, z = (p : Int) := ⟨z.toNat, by omega⟩
        exact h2 p qs (by omega) (by simpa using hl) (fun x hx => hin x (by simp [hx])) ho
    intro k
    induction k with
    | zero => exact fun _ => ⟨fun q0 h => ⟨q0, h, Int.le_refl _⟩, fun p qs hp => by omega, fun q h => .inl h⟩
    | succ k ihk =>
      intro hk
      obtain ⟨g1, g2, g3⟩ := ihk (by omega)
      rw [rowB_succ]
      obtain ⟨f1, f2, f3⟩ := ih (ps ++ [(k : Int)]) (rowB css ok m ps st k)
      have step : ∀ q1, rowB css ok m ps st k = some q1 → ∃ q, allB css ok m (ps ++ [(k : Int)]) (rowB css ok m ps st k) = some q ∧ q.2 ≤ q1.2 := f1
      refine ⟨fun q0 h => ?_, fun p qs hp hl hin ho => ?_, fun q h => ?_⟩
      · obtain ⟨q1, e1, l1⟩ := g1 q0 h
        obtain ⟨q, e, l⟩ := step q1 e1
        exact ⟨q, e, Int.le_trans l l1⟩
      · by_cases hpk : p = k
        · subst hpk
          have e : ps ++ (p : Int) :: qs = (ps ++ [(p : Int)]) ++ qs := by simp
          rw [e] at ho ⊢
          exact f2 qs hl hin ho
        · obtain ⟨q1, e1, l1⟩ := g2 p qs (by omega) hl hin ho
          obtain ⟨q, e, l⟩ := step q1 e1
          exact ⟨q, e, Int.le_trans l l1⟩
      · rcases f3 q h with h | ⟨h1, h2, qs, h3, h4, h5⟩
        · exact g3 q h
        · refine .inr ⟨h1, h2, (k : Int) :: qs, by simp [h3], fun x hx => ?_, by rw [h5]; simp⟩
          rcases List.mem_cons.1 hx with rfl | hx
          · exact ⟨by omega, by omega⟩
          · exact h4 x hx
/-- the best of all: one of them, and no other is cheaper -/
theorem best_of {css : List (List Int)} {ok : List Int → Bool} {t : List Int} (hl : t.length = css.length - 1) (hn : inN t css.length) (ho : ok t = true) :
    ∃ b l, allB css ok (css.length - 1) [] none = some (b, l) ∧ ok b = true ∧ l = costG css b ∧ b.length = css.length - 1 ∧ inN b css.length ∧
      ∀ t : List Int, t.length = css.length - 1 → inN t css.length → ok t = true → l ≤ costG css t := by
  obtain ⟨_, h2, h3⟩ := allB_best css ok (css.length - 1) [] none
  obtain ⟨⟨b, l⟩, e, _⟩ := h2 t hl hn ho
  rcases h3 _ e with h | ⟨g1, g2, qs, g3, g4, g5⟩
  · cases h
  · simp only [List.nil_append] at g1 g2 g5
    subst g5
    refine ⟨_, l, e, g1, g2, g3, g4, fun t hl hn ho => ?_⟩
    obtain ⟨q, e2, l2⟩ := h2 t hl hn ho
    rw [e] at e2
    injection e2 with e2
    subst e2
    exact l2
/-- what is found is one of them -/
theorem best_is {css : List (List Int)} {ok : List Int → Bool} {q : List Int × Int} (h : allB css ok (css.length - 1) [] none = some q) :
    ok q.1 = true ∧ q.2 = costG css q.1 ∧ q.1.length = css.length - 1 ∧ inN q.1 css.length := by
  rcases (allB_best css ok (css.length - 1) [] none).2.2 q h with h | ⟨g1, g2, qs, g3, g4, g5⟩
  · cases h
  · simp only [List.nil_append] at g5
    exact ⟨g1, g2, by rw [g5]; exact g3, by rw [g5]; exact g4⟩

/-- parents that come before their places make a tree -/
theorem treeIn_up {ps : List Int} (h : treeIn ps) : ∀ (f : Nat) (p : Int), 0 ≤ p → p ≤ (f : Nat) → p ≤ (ps.length : Nat) → (upF ps f p).isSome = true := by
  intro f
  induction f with
  | zero =>
    intro p h0 h1 _
    obtain rfl : p = 0 := by omega
    rfl
  | succ f ih =>
    intro p h0 h1 h2
    by_cases hp : p = 0
    · subst hp; rw [upF_zero]; rfl
    · have hx : ps[(p - 1).toNat]? = some (ps[(p - 1).toNat]'(by omega)) := List.getElem?_eq_getElem (by omega)
      obtain ⟨z0, z1⟩ := h _ _ hx
      rw [upF_step _ _ hp, List.getD, hx]
      simp only [Option.getD_some, Option.isSome_map]
      exact ih _ z0 (by omega) (by omega)
theorem treeIn_tree {ps : List Int} (h : treeIn ps) : isTree ps = true :=
  isTree_good fun i hi => by
    have := treeIn_up h ps.length ((i : Int) + 1) (by omega) (by omega) (by omega)
    intro e
    rw [e] at this
    cases this
theorem treeIn_inN {ps : List Int} (h : treeIn ps) {n : Nat} (hl : ps.length < n) : inN ps n := fun x hx => by
  obtain ⟨j, hj⟩ := List.mem_iff_getElem?.1 hx
  have h1 := (List.getElem?_eq_some_iff.1 hj).1
  have := h j x hj
  omega
theorem codeG_of {css : List (List Int)} {ps : List Int} (hv : validC css = true) (hl : ps.length + 1 = css.length) (hp : inN ps css.length) (ht : isTree ps = true) : codeG css ps = 0 := by
  simp [codeG, parC_of hv hl hp, ht]

/-- the depth of a place, from that of its parent -/
theorem dep_at {ps : List Int} (ht : isTree ps = true) (_hp : inP ps) {i : Nat} {z : Int} (hz : ps[i]? = some z) :
    (z = 0 → upV ps ((i : Int) + 1) = 1) ∧ (z ≠ 0 → upV ps ((i : Int) + 1) = upV ps z + 1) ∧ 1 ≤ upV ps ((i : Int) + 1) ∧ upV ps ((i : Int) + 1) ≤ ps.length := by
  have hi := (List.getElem?_eq_some_iff.1 hz).1
  obtain ⟨d, hd, hu⟩ := isTree_up ht hi
  obtain ⟨d', e, hu', _⟩ := addUp_step (o := []) (x := 0) rfl (j := i) rfl hz hu
  have e1 : upV ps ((i : Int) + 1) = (d : Int) := by unfold upV; rw [hu]
  refine ⟨fun h => ?_, fun h => ?_, by omega, by omega⟩
  · subst h
    rw [upF_zero] at hu'
    injection hu' with hu'
    omega
  · have e2 : upV ps z = (d' : Int) := by unfold upV; rw [hu']
    omega

/-- sums along a list -/
def topK (ps o : List Int) : Nat → Int
  | 0 => 0
  | i + 1 => topK ps o i + if ps.getD i 0 = 0 then o.getD i 0 else 0
def allK (o : List Int) : Nat → Int
  | 0 => 0
  | i + 1 => allK o i + o.getD i 0
def wK (ps ds : List Int) : Nat → Int
  | 0 => 0
  | i + 1 => wK ps ds i + ds.getD i 0 * upV ps ((i : Int) + 1)
theorem allK_sum (o : List Int) : ∀ k, k ≤ o.length → allK o k = sumI (o.take k) := by
  intro k
  induction k with
  | zero => intro _; rfl
  | succ k ih =>
    intro hk
    have hx : o[k]? = some o[k] := List.getElem?_eq_getElem (by omega)
    rw [take_at hx, sumI_snoc, ← ih (by omega), allK, List.getD, hx]
    rfl
theorem allK_all (o : List Int) : allK o o.length = sumI o := by rw [allK_sum o _ (Nat.le_refl _), List.take_length]
theorem topK_set (ps o : List Int) {j : Nat} {v y : Int} (hj : o[j]? = some v) : ∀ n, topK ps (o.set j y) n = topK ps o n + if j < n ∧ ps.getD j 0 = 0 then y - v else 0 := by
  intro n
  have hl := (List.getElem?_eq_some_iff.1 hj).1
  induction n with
  | zero => simp [topK]
  | succ n ih =>
    simp only [topK, ih]
    by_cases hn : j = n
    · subst hn
      have e1 : (o.set j y).getD j 0 = y := by simp [List.getD, List.getElem?_set_self hl]
      have e2 : o.getD j 0 = v := by simp [List.getD, hj]
      rw [e1, e2]
      by_cases hp : ps.getD j 0 = 0
      · rw [if_pos hp, if_pos hp, if_neg (by omega), if_pos ⟨by omega, hp⟩]; omega
      · rw [if_neg hp, if_neg hp, if_neg (by omega), if_neg (fun h => hp h.2)]
    · have e1 : (o.set j y).getD n 0 = o.getD n 0 := by simp [List.getD, List.getElem?_set_ne hn]
      have hcc : (j < n + 1 ∧ ps.getD j 0 = 0) = (j < n ∧ ps.getD j 0 = 0) := by apply propext; constructor <;> (intro h; exact ⟨by omega, h.2⟩)
      rw [e1]
      simp only [hcc]
      exact Int.add_right_comm _ _ _
theorem allK_set (o : List Int) {j : Nat} {v y : Int} (hj : o[j]? = some v) : ∀ n, allK (o.set j y) n = allK o n + if j < n then y - v else 0 := by
  intro n
  have hl := (List.getElem?_eq_some_iff.1 hj).1
  induction n with
  | zero => simp [allK]
  | succ n ih =>
    simp only [allK, ih]
    by_cases hn : j = n
    · subst hn
      have e1 : (o.set j y).getD j 0 = y := by simp [List.getD, List.getElem?_set_self hl]
      have e2 : o.getD j 0 = v := by simp [List.getD, hj]
      rw [e1, e2, if_neg (by omega), if_pos (by omega)]
      omega
    · have e1 : (o.set j y).getD n 0 = o.getD n 0 := by simp [List.getD, List.getElem?_set_ne hn]
      rw [e1]
      by_cases hc : j < n
      · rw [if_pos hc, if_pos (by omega)]; omega
      · rw [if_neg hc, if_neg (by omega)]; omega
/-- a load on the way up: once at the top, once for each tube, and nowhere less -/
theorem addUp_sums {ps : List Int} (hp : inP ps) (x : Int) (hx : 0 ≤ x) : ∀ (f : Nat) (q : Int) (d : Nat) (o : List Int), upF ps f q = some d → 0 ≤ q → q ≤ (ps.length : Nat) → o.length = ps.length → (∀ y ∈ o, 0 ≤ y) →
    topK ps (addUp ps f q x o) ps.length = topK ps o ps.length + (if q = 0 then 0 else x) ∧ allK (addUp ps f q x o) ps.length = allK o ps.length + x * d ∧ ∀ y ∈ addUp ps f q x o, 0 ≤ y := by
  intro f
  induction f with
  | zero =>
    intro q d o hu h0 h1 hl ho
    have hq : q = 0 := by
      simp only [upF] at hu
      split at hu
      · assumption
      · cases hu
    subst hq
    rw [upF_zero] at hu
    injection hu with hu
    subst hu
    rw [addUp_zero]
    simp only [if_true]
    exact ⟨by omega, by simp, ho⟩
  | succ f ih =>
    intro q d o hu h0 h1 hl ho
    by_cases hq : q = 0
    · subst hq
      rw [upF_zero] at hu
      injection hu with hu
      subst hu
      rw [addUp_zero]
      simp only [if_true]
      exact ⟨by omega, by simp, ho⟩
    · rw [upF_step _ _ hq] at hu
      obtain ⟨d', hd, rfl⟩ := Option.map_eq_some_iff.1 hu
      rw [addUp, if_neg hq, if_neg hq]
      have hj : (q - 1).toNat < o.length := by omega
      have hv : o[(q - 1).toNat]? = some o[(q - 1).toNat] := List.getElem?_eq_getElem hj
      have hg : o.getD (q - 1).toNat 0 = o[(q - 1).toNat] := by rw [List.getD, hv]; rfl
      rw [hg]
      obtain ⟨z0, z1⟩ := inP_at hp (q - 1).toNat
      have hvv := ho _ (List.mem_of_getElem? hv)
      obtain ⟨e1, e2, e3⟩ := ih _ d' (o.set (q - 1).toNat (o[(q - 1).toNat] + x)) hd z0 z1 (by rw [List.length_set]; exact hl) (fun y hy => by
        rcases List.mem_or_eq_of_mem_set hy with h | h
        · exact ho y h
        · omega)
      refine ⟨?_, ?_, e3⟩
      · rw [e1, topK_set ps o hv]
        by_cases hz : ps.getD (q - 1).toNat 0 = 0
        · rw [if_pos hz, if_pos ⟨by omega, hz⟩]; omega
        · rw [if_neg hz, if_neg (fun h => hz h.2)]; omega
      · rw [e2, allK_set o hv, if_pos (by omega), show ((d' + 1 : Nat) : Int) = (d' : Int) + 1 by omega, Int.mul_add]
        omega
theorem load_sums {ps ds : List Int} (hp : inP ps) (ht : isTree ps = true) (hl : ds.length = ps.length) (hd : ∀ z ∈ ds, 0 ≤ z) : ∀ k, k ≤ ps.length →
    topK ps (loadK ps ds k) ps.length = allK ds k ∧ allK (loadK ps ds k) ps.length = wK ps ds k ∧ ∀ y ∈ loadK ps ds k, 0 ≤ y := by
  intro k
  induction k with
  | zero =>
    intro _
    have h1 : ∀ n, topK ps (List.replicate ps.length 0) n = 0 := by
      intro n
      induction n with
      | zero => rfl
      | succ n ih =>
        rw [topK, ih]
        have : (List.replicate ps.length (0 : Int)).getD n 0 = 0 := by
          rw [List.getD, List.getElem?_replicate]; split <;> rfl
        rw [this]; split <;> rfl
    have h2 : ∀ n, allK (List.replicate ps.length 0) n = 0 := by
      intro n
      induction n with
      | zero => rfl
      | succ n ih =>
        rw [allK, ih]
        have : (List.replicate ps.length (0 : Int)).getD n 0 = 0 := by
          rw [List.getD, List.getElem?_replicate]; split <;> rfl
        rw [this]; rfl
    exact ⟨h1 _, h2 _, fun y hy => by have := List.eq_of_mem_replicate hy; omega⟩
  | succ k ih =>
    intro hk
    obtain ⟨g1, g2, g3⟩ := ih (by omega)
    obtain ⟨d, _, hu⟩ := isTree_up ht (i := k) (by omega)
    have hx : ds[k]? = some (ds[k]'(by omega)) := List.getElem?_eq_getElem (by omega)
    have hg : ds.getD k 0 = ds[k]'(by omega) := by rw [List.getD, hx]; rfl
    obtain ⟨e1, e2, e3⟩ := addUp_sums hp (ds.getD k 0) (by rw [hg]; exact hd _ (List.mem_of_getElem? hx)) ps.length ((k : Int) + 1) d (loadK ps ds k) hu (by omega) (by omega) (loadK_len _ _ _) g3
    have eu : upV ps ((k : Int) + 1) = (d : Int) := by unfold upV; rw [hu]
    refine ⟨?_, ?_, e3⟩
    · rw [loadK, e1, g1, if_neg (by omega)]; rfl
    · rw [loadK, e2, g2, wK, eu]
theorem wK_bd {ps ds : List Int} (hd : ∀ (j : Nat) (z : Int), ds[j]? = some z → 0 ≤ z ∧ z ≤ 11) (hl : ds.length = ps.length) (h6 : ps.length ≤ 5) (hdep : ∀ i, i < ps.length → 1 ≤ upV ps ((i : Int) + 1) ∧ upV ps ((i : Int) + 1) ≤ ps.length) : ∀ k, k ≤ ps.length → 0 ≤ wK ps ds k ∧ wK ps ds k ≤ 55 * k := by
  intro k
  induction k with
  | zero => intro _; simp [wK]
  | succ k ih =>
    intro hk
    obtain ⟨g1, g2⟩ := ih (by omega)
    have hx : ds[k]? = some (ds[k]'(by omega)) := List.getElem?_eq_getElem (by omega)
    have hg : ds.getD k 0 = ds[k]'(by omega) := by rw [List.getD, hx]; rfl
    obtain ⟨z0, z1⟩ := hd _ _ hx
    obtain ⟨u0, u1⟩ := hdep k (by omega)
    have m0 := Int.mul_nonneg z0 (Int.le_trans (by omega) u0)
    have m1 : (ds[k]'(by omega)) * upV ps ((k : Int) + 1) ≤ 11 * 5 := Int.mul_le_mul z1 (by omega) (by omega) (by omega)
    rw [wK, hg]
    omega
theorem topK_le {ps o : List Int} (h : ∀ y ∈ o, 0 ≤ y) : ∀ k, 0 ≤ topK ps o k ∧ topK ps o k ≤ allK o k := by
  intro k
  induction k with
  | zero => simp [topK, allK]
  | succ k ih =>
    have hg : 0 ≤ o.getD k 0 := by
      rw [List.getD]
      cases hx : o[k]? with
      | none => simp
      | some y => exact h y (List.mem_of_getElem? hx)
    simp only [topK, allK]
    split <;> omega
theorem allK_mono {o : List Int} (h : ∀ y ∈ o, 0 ≤ y) : ∀ (d k : Nat), allK o k ≤ allK o (k + d) := by
  intro d k
  induction d with
  | zero => exact Int.le_refl _
  | succ d ih =>
    have hg : 0 ≤ o.getD (k + d) 0 := by
      rw [List.getD]
      cases hx : o[k + d]? with
      | none => simp
      | some y => exact h y (List.mem_of_getElem? hx)
    rw [show k + (d + 1) = (k + d) + 1 by omega, allK]
    omega

/-- the best move: one that makes the tree cheaper, or none -/
theorem moveAll_ok (css : List (List Int)) (ps : List Int) : ∀ k, k ≤ ps.length →
    (moveAll css ps k).2.2 ≤ costG css ps ∧ (moveAll css ps k = (0, 0, costG css ps) ∨ ∃ i p : Nat, i < ps.length ∧ p < css.length ∧ moveAll css ps k = ((i : Int) + 1, (p : Int), costG css (ps.set i p)) ∧ isTree (ps.set i p) = true ∧ costG css (ps.set i p) < costG css ps) := by
  intro k
  induction k with
  | zero => exact fun _ => ⟨Int.le_refl _, .inl rfl⟩
  | succ k ih =>
    intro hk
    have hrow : ∀ m, m ≤ css.length → (moveRow css ps k (moveAll css ps k) m).2.2 ≤ costG css ps ∧ (moveRow css ps k (moveAll css ps k) m = (0, 0, costG css ps) ∨ ∃ i p : Nat, i < ps.length ∧ p < css.length ∧ moveRow css ps k (moveAll css ps k) m = ((i : Int) + 1, (p : Int), costG css (ps.set i p)) ∧ isTree (ps.set i p) = true ∧ costG css (ps.set i p) < costG css ps) := by
      intro m
      induction m with
      | zero => exact fun _ => ih (by omega)
      | succ m ihm =>
        intro hm
        obtain ⟨g1, g2⟩ := ihm (by omega)
        rw [moveRow, stepM]
        split
        · rename_i hc
          exact ⟨by simp only; omega, .inr ⟨k, m, by omega, by omega, rfl, hc.1, by omega⟩⟩
        · exact ⟨g1, g2⟩
    exact hrow css.length (Nat.le_refl _)
theorem move_ok {css : List (List Int)} {ps : List Int} (hc : codeG css ps = 0) :
    moveF css ps = (0, 0, 3) ∨ ∃ i p : Nat, i < ps.length ∧ p < css.length ∧ moveF css ps = ((i : Int) + 1, (p : Int), 0) ∧ isTree (ps.set i p) = true ∧ costG css (ps.set i p) < costG css ps := by
  rcases (moveAll_ok css ps ps.length (Nat.le_refl _)).2 with h | ⟨i, p, h1, h2, h3, h4, h5⟩
  · exact .inl (by simp [moveF, hc, h])
  · refine .inr ⟨i, p, h1, h2, ?_, h4, h5⟩
    rw [moveF, if_pos hc, h3, if_neg (by simp only; omega)]
end Go.Proofs.Ytfbgglhjlbdfiaa
