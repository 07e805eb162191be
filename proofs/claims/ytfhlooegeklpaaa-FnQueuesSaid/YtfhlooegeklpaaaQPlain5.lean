/-
  Drawn queues: waiting hardly counts, the longest queue, the waits, in plain Lean.
-/
import Derived.Test.YtfhlooegeklpaaaQMean3
import Derived.Test.YtfhlooegeklpaaaLHelp
namespace Go.Proofs.Ytfhlooegeklpaaa

/-- an item as it is drawn -/
def smallI (x : Item) : Bool := inR x.a 0 39 && (inR x.t 1 9 && inR x.c 0 3)
def smallQ (xs : List Item) : Bool := decide (xs.length ≤ 8) && xs.all smallI
theorem smallI_bounds {x : Item} (h : smallI x = true) : 0 ≤ x.a ∧ x.a ≤ 39 ∧ 1 ≤ x.t ∧ x.t ≤ 9 ∧ 0 ≤ x.c ∧ x.c ≤ 3 := by
  simp only [smallI, inR, Bool.and_eq_true, decide_eq_true_eq] at h; omega
theorem smallQ_at {xs : List Item} (h : smallQ xs = true) {i : Nat} {x : Item} (hx : xs[i]? = some x) : 0 ≤ x.a ∧ x.a ≤ 39 ∧ 1 ≤ x.t ∧ x.t ≤ 9 ∧ 0 ≤ x.c ∧ x.c ≤ 3 := by
  simp only [smallQ, Bool.and_eq_true, List.all_eq_true] at h
  exact smallI_bounds (h.2 x (List.mem_of_getElem? hx))
theorem smallQ_len {xs : List Item} (h : smallQ xs = true) : xs.length ≤ 8 := by
  simp only [smallQ, Bool.and_eq_true, decide_eq_true_eq] at h; exact h.1
theorem smallQ_valid {xs : List Item} (h : smallQ xs = true) : validQ xs = true := by
  have hl := smallQ_len h
  simp only [smallQ, Bool.and_eq_true, List.all_eq_true] at h
  simp only [validQ, Bool.and_eq_true, decide_eq_true_eq, List.all_eq_true]
  refine ⟨by omega, fun x hx => ?_⟩
  have := smallI_bounds (h.2 x hx)
  simp only [okItem, inR, Bool.and_eq_true, decide_eq_true_eq]; omega

theorem cls_small {t : Int} {x : Item} (h1 : x.a ≤ t) (h2 : t - x.a < 10000) (h3 : 0 ≤ x.c) : cls 10000 t x = cls 0 t x := by
  have h4 : (t - x.a) / 10000 = 0 := Int.ediv_eq_zero_of_lt (by omega) h2
  unfold cls
  rw [if_neg (by omega), if_pos rfl, h4]
  omega
theorem stepBest_small {xs : List Item} (hs : smallQ xs = true) {o : List Int} {t best : Int} (ht : t ≤ 9999) {i : Nat} {x : Item} (hx : xs[i]? = some x) (hf : Found xs o t best) :
    stepBest xs o 10000 t best i x = stepBest xs o 0 t best i x := by
  have bx := smallQ_at hs hx
  unfold stepBest
  by_cases h1 : (hasI o i || decide (t < x.a)) = true
  · rw [if_pos h1, if_pos h1]
  · rw [if_neg h1, if_neg h1]
    simp only [Bool.or_eq_true, decide_eq_true_eq, not_or] at h1
    by_cases h2 : best < 0
    · rw [if_pos h2, if_pos h2]
    · rw [if_neg h2, if_neg h2]
      rcases hf with hf | ⟨j, b, e, hj, _, hb⟩
      · exact absurd hf h2
      · subst e
        simp only [Int.toNat_natCast, hj]
        have bb := smallQ_at hs hj
        have e1 := cls_small (t := t) (x := x) (by omega) (by omega) (by omega)
        have e2 := cls_small (t := t) (x := b) hb (by omega) (by omega)
        have e3 : better 10000 t x b = better 0 t x b := by simp only [better, e1, e2]
        rw [e3]
theorem bestFrom_small {xs : List Item} (hs : smallQ xs = true) {o : List Int} {t : Int} (ht : t ≤ 9999) (r : List Item) : ∀ (best : Int) (i : Nat), Found xs o t best → xs.drop i = r →
    bestFrom xs o 10000 t best i r = bestFrom xs o 0 t best i r := by
  induction r with
  | nil => intro best i _ _; rfl
  | cons x r ih =>
    intro best i hf hd
    have hx : xs[i]? = some x := by have := congrArg (·[0]?) hd; simpa using this
    have hd2 : xs.drop (i + 1) = r := by have := congrArg List.tail hd; simpa using this
    rw [bestFrom, bestFrom, stepBest_small hs ht hx hf]
    exact ih _ _ (hf.step hx) hd2
theorem bestQ_small {xs : List Item} (hs : smallQ xs = true) {o : List Int} {t : Int} (ht : t ≤ 9999) : bestQ xs o 10000 t = bestQ xs o 0 t :=
  bestFrom_small hs ht xs (-1) 0 (.inl (by omega)) rfl
theorem minQ_small {xs : List Item} (hs : smallQ xs = true) {o : List Int} : minQ xs o ≤ 39 := by
  have h := minFrom_spec (o := o) xs (-1) 0 fun j x hx => (smallQ_at hs hx).1
  unfold minQ
  rcases h.1 with e | ⟨j, x, hx, _, e⟩
  · omega
  · have := smallQ_at hs hx; omega
theorem runQ_small {xs : List Item} (hs : smallQ xs = true) : ∀ (f : Nat) (o s : List Int) (t : Int), o.length ≤ xs.length → t ≤ 40 + 9 * o.length → runQ xs 10000 f o s t = runQ xs 0 f o s t := by
  have hl := smallQ_len hs
  intro f
  induction f with
  | zero => intro o s t _ _; rfl
  | succ f ih =>
    intro o s t ho ht
    rw [runQ, runQ, bestQ_small hs (by omega)]
    split
    · rename_i hlt
      split
      · rename_i hk
        obtain ⟨j, b, e, hjn, hj, _, _, _⟩ := round_sent hlt hk
        have := smallQ_at hs hj
        rw [e, Int.toNat_natCast, List.getD_eq_getElem?_getD, hj, Option.getD_some]
        exact ih _ _ _ (by simp; omega) (by simp; omega)
      · exact ih _ _ _ ho (by have := minQ_small hs (o := o); omega)
    · rfl
theorem aged_small {xs : List Item} (hs : smallQ xs = true) : agedRes xs 10000 = orderRes xs := by
  simp only [agedRes, orderRes, smallQ_valid hs, Bool.true_and, if_true]
  rw [if_pos (by decide)]
  unfold orderQ servedQ
  rw [runQ_small hs _ _ _ _ (by simp) (by simp)]

theorem cntQ_bd {tick : Int} : ∀ (ps : List (Item × Int)) (c : Int), c ≤ cntQ tick c ps ∧ cntQ tick c ps ≤ c + ps.length
  | [], c => by simp [cntQ]
  | p :: r, c => by
    have h := cntQ_bd (tick := tick) r (if p.1.a ≤ tick ∧ tick < p.2 then c + 1 else c)
    rw [cntQ, List.length_cons]
    generalize cntQ tick (if p.1.a ≤ tick ∧ tick < p.2 then c + 1 else c) r = q at h ⊢
    split at h <;> constructor <;> omega
theorem cntQ_pos {tick : Int} : ∀ (ps : List (Item × Int)) (c : Int), (∃ p ∈ ps, p.1.a ≤ tick ∧ tick < p.2) → c < cntQ tick c ps
  | [], c, h => by obtain ⟨p, hp, _⟩ := h; cases hp
  | p :: r, c, h => by
    obtain ⟨q, hq, hc⟩ := h
    rw [cntQ]
    by_cases hp : p.1.a ≤ tick ∧ tick < p.2
    · rw [if_pos hp]; have := (cntQ_bd (tick := tick) r (c + 1)).1; omega
    · rw [if_neg hp]
      refine cntQ_pos r c ⟨q, ?_, hc⟩
      rcases List.mem_cons.1 hq with e | e
      · subst e; exact absurd hc hp
      · exact e
theorem cntQ_zero {tick : Int} : ∀ (ps : List (Item × Int)) (c : Int), (∀ p ∈ ps, ¬ (p.1.a ≤ tick ∧ tick < p.2)) → cntQ tick c ps = c
  | [], c, _ => rfl
  | p :: r, c, h => by
    rw [cntQ, if_neg (h p (by simp))]
    exact cntQ_zero r c fun q hq => h q (by simp [hq])
theorem longFrom_bd {ps : List (Item × Int)} : ∀ (xs : List Item) (m : Int), m ≤ longFrom ps m xs ∧ (m ≤ ps.length → longFrom ps m xs ≤ ps.length) ∧ ∀ x ∈ xs, cntQ x.a 0 ps ≤ longFrom ps m xs
  | [], m => ⟨Int.le_refl _, fun h => h, fun x hx => by cases hx⟩
  | y :: r, m => by
    have h := longFrom_bd (ps := ps) r (max m (cntQ y.a 0 ps))
    have hc := cntQ_bd (tick := y.a) ps 0
    rw [longFrom]
    refine ⟨by omega, fun hm => h.2.1 (by omega), fun x hx => ?_⟩
    rcases List.mem_cons.1 hx with e | e
    · subst e; omega
    · exact h.2.2 x e
theorem longFrom_zero {ps : List (Item × Int)} : ∀ (xs : List Item), (∀ x ∈ xs, cntQ x.a 0 ps = 0) → longFrom ps 0 xs = 0
  | [], _ => rfl
  | y :: r, h => by
    rw [longFrom, h y (by simp)]
    exact longFrom_zero r fun x hx => h x (by simp [hx])
theorem longRes_bd {xs : List Item} (hv : validQ xs = true) : 0 ≤ longRes xs ∧ longRes xs ≤ xs.length := by
  have h := longFrom_bd (ps := pairsQ xs) xs 0
  have hl := pairsQ_len hv
  simp only [longRes, hv, if_true]
  rw [← hl]
  exact ⟨h.1, h.2.1 (by omega)⟩
theorem pairs_late {xs : List Item} (hv : validQ xs = true) {p : Item × Int} (hp : p ∈ pairsQ xs) : p.1 ∈ xs ∧ p.1.a ≤ p.2 := by
  obtain ⟨k, hk⟩ := List.mem_iff_getElem?.1 hp
  unfold pairsQ at hk
  rw [List.getElem?_zip_eq_some] at hk
  exact ⟨List.mem_of_getElem? hk.1, startsQ_late hv hk.1 hk.2⟩
theorem sumI_zero : ∀ {l : List Int}, (∀ z ∈ l, 0 ≤ z) → (0 ≤ sumI l ∧ (sumI l = 0 ↔ ∀ z ∈ l, z = 0))
  | [], _ => by simp [sumI]
  | x :: r, h => by
    have h1 := sumI_zero (l := r) fun z hz => h z (by simp [hz])
    have h2 := h x (by simp)
    simp only [sumI, List.mem_cons, forall_eq_or_imp]
    refine ⟨by omega, ?_⟩
    rw [← h1.2]
    constructor
    · intro e; omega
    · intro e; omega
/-- the longest queue is empty just where none waits -/
theorem long_wait {xs : List Item} (hv : validQ xs = true) : decide (longRes xs = 0) = decide (sumI (waitsQ xs) = 0) := by
  have hw : ∀ z ∈ waitsQ xs, 0 ≤ z := fun z hz => by
    obtain ⟨p, hp, rfl⟩ := List.mem_map.1 hz
    have := (pairs_late hv hp).2
    unfold waitQ; omega
  have h0 := (sumI_zero hw).2
  simp only [longRes, hv, if_true]
  rw [Bool.eq_iff_iff, decide_eq_true_eq, decide_eq_true_eq, h0]
  constructor
  · intro e z hz
    obtain ⟨p, hp, rfl⟩ := List.mem_map.1 hz
    have hl := pairs_late hv hp
    rcases Int.lt_or_le p.1.a p.2 with hlt | hge
    · exfalso
      have h1 := cntQ_pos (tick := p.1.a) (pairsQ xs) 0 ⟨p, hp, by omega⟩
      have h2 := (longFrom_bd (ps := pairsQ xs) xs 0).2.2 p.1 hl.1
      omega
    · unfold waitQ; omega
  · intro hz
    refine longFrom_zero xs fun x hx => cntQ_zero _ _ fun p hp hc => ?_
    have := hz (waitQ p) (List.mem_map.2 ⟨p, hp, rfl⟩)
    unfold waitQ at this
    omega
theorem clS_bd {cl : Int} {xs : List Item} {ws : List Int} (h : ∀ (k : Nat) (z : Int), ws[k]? = some z → 0 ≤ z ∧ z ≤ 22000) : ∀ k, 0 ≤ (clS cl xs ws k).1 ∧ (clS cl xs ws k).1 ≤ 22000 * k ∧ (clS cl xs ws k).2 ≤ k
  | 0 => by simp [clS]
  | k + 1 => by
    have ih := clS_bd (cl := cl) (xs := xs) h k
    rw [clS]
    split
    · rename_i x z hx hz
      have := h k z hz
      split
      · simp only; omega
      · omega
    · omega
/-- a fraction in lowest terms -/
theorem lowF_ok {a : Int} {c : Nat} (ha : 0 ≤ a) (hc : 0 < c) : 1 ≤ (lowF a c).2 ∧ (lowF a c).2 ≤ c ∧ (lowF a c).1 * c = a * (lowF a c).2 ∧ 0 ≤ (lowF a c).1 ∧ (lowF a c).1 ≤ a := by
  have hg0 : 0 < Int.gcd a c := by
    rcases Nat.eq_zero_or_pos (Int.gcd a c) with h | h
    · have := Int.gcd_eq_zero_iff.1 h; omega
    · exact h
  have d1 := Int.gcd_dvd_left (a := a) (b := (c : Int))
  have d2 := Int.gcd_dvd_right (a := a) (b := (c : Int))
  unfold lowF
  simp only
  generalize Int.gcd a c = g at *
  obtain ⟨p, hp⟩ := d1
  obtain ⟨q, hq⟩ := d2
  have hgi : (g : Int) ≠ 0 := by omega
  rw [hp, hq, Int.mul_tdiv_cancel_left p hgi, Int.mul_tdiv_cancel_left q hgi]
  have hgp : (0 : Int) < g := by omega
  have hq0 : 0 < q := by
    rcases Int.lt_or_le 0 q with h | h
    · exact h
    · have := Int.mul_le_mul_of_nonneg_left h (Int.le_of_lt hgp); rw [Int.mul_zero] at this; omega
  have hp0 : 0 ≤ p := by
    rcases Int.lt_or_le p 0 with h | h
    · have := Int.mul_lt_mul_of_pos_left h hgp; rw [Int.mul_zero] at this; omega
    · exact h
  refine ⟨by omega, ?_, ?_, hp0, ?_⟩
  · have := Int.mul_le_mul_of_nonneg_right (show (1 : Int) ≤ g by omega) (Int.le_of_lt hq0); omega
  · rw [Int.mul_left_comm, Int.mul_comm p, Int.mul_assoc, Int.mul_comm p q]
  · have := Int.mul_le_mul_of_nonneg_right (show (1 : Int) ≤ g by omega) hp0; omega
end Go.Proofs.Ytfhlooegeklpaaa
