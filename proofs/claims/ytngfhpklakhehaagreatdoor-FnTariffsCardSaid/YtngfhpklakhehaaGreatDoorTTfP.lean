/-
  Prices: the heaviest and the farthest carrier within a price; prices never fall with the distance. No condition.
-/
import Derived.Test.YtngfhpklakhehaaGreatDoorTPriceFor
import Derived.Test.YtngfhpklakhehaaGreatDoorTWithin
import Derived.Test.YtngfhpklakhehaaGreatDoorTHeavS
namespace Go.Proofs.YtngfhpklakhehaaGreatDoor
open Go.RowKit

theorem upTo_ediv {a : Int} (h : 0 ≤ a) : upTo a = (a + 99) / 100 := Int.tdiv_eq_ediv_of_nonneg (by omega)
theorem upTo_mono {a b : Int} (h0 : 0 ≤ a) (h : a ≤ b) : upTo a ≤ upTo b := by rw [upTo_ediv h0, upTo_ediv (by omega)]; omega
theorem upTo_pos {a : Int} (h0 : 0 ≤ a) : 0 ≤ upTo a := by rw [upTo_ediv h0]; omega
theorem upTo_le {a e : Int} (h0 : 0 ≤ a) (he : 0 ≤ e) : a ≤ upTo (a * (100 + e)) := by
  have h1 : a * 100 ≤ a * (100 + e) := Int.mul_le_mul_of_nonneg_left (by omega) h0
  rw [upTo_ediv (by omega)]
  omega
theorem whole_pos {x : Step} {h e g : Int} {bb : Bool} (hx : 0 ≤ x.p) (hh : 0 ≤ h) (he : 0 ≤ e) (hg : 0 ≤ g) : 0 ≤ wholeP x h e g bb := by
  have h1 : 0 ≤ h * upTo g := Int.mul_nonneg hh (upTo_pos hg)
  unfold wholeP
  split
  · exact upTo_pos (Int.mul_nonneg (by omega) (by omega))
  · omega
theorem whole_mono {x : Step} {h e g g' : Int} {bb : Bool} (hx : 0 ≤ x.p) (hh : 0 ≤ h) (he : 0 ≤ e) (hg : 0 ≤ g) (hgg : g ≤ g') : wholeP x h e g bb ≤ wholeP x h e g' bb := by
  have h1 : h * upTo g ≤ h * upTo g' := Int.mul_le_mul_of_nonneg_left (upTo_mono hg hgg) hh
  have h2 : 0 ≤ h * upTo g := Int.mul_nonneg hh (upTo_pos hg)
  unfold wholeP
  split
  · exact upTo_mono (Int.mul_nonneg (by omega) (by omega)) (Int.mul_le_mul_of_nonneg_right (by omega) (by omega))
  · omega
theorem whole_slow {x : Step} {h e g : Int} {bb : Bool} (hx : 0 ≤ x.p) (hh : 0 ≤ h) (he : 0 ≤ e) (hg : 0 ≤ g) : wholeP x h e g false ≤ wholeP x h e g bb := by
  have h2 : 0 ≤ h * upTo g := Int.mul_nonneg hh (upTo_pos hg)
  cases bb with
  | false => exact Int.le_refl _
  | true =>
    have := upTo_le (a := x.p + h * upTo g) (e := e) (by omega) he
    simpa [wholeP] using this
theorem validS {xs : List Step} {h e : Int} (hv : validT ⟨xs, h, e⟩ = true) : (∀ x ∈ xs, (1 ≤ x.g ∧ x.g ≤ 5000) ∧ 0 ≤ x.p) ∧ xs.Pairwise (fun a b => a.g < b.g) ∧ 0 ≤ h ∧ 0 ≤ e := by
  simp only [validT, Bool.and_eq_true] at hv
  obtain ⟨⟨⟨h1, _⟩, h3⟩, h4⟩ := hv
  simp only [inR, Bool.and_eq_true, decide_eq_true_eq] at h3 h4
  refine ⟨?_, (stepsFrom_less h1).2, h3.1, h4.1⟩
  have key : ∀ (l : List Step) (q : Option Step), stepsFrom q l = true → ∀ x ∈ l, (1 ≤ x.g ∧ x.g ≤ 5000) ∧ 0 ≤ x.p := by
    intro l
    induction l with
    | nil => intro q _ x hx; simp at hx
    | cons y r ih =>
      intro q hq x hx
      simp only [stepsFrom, Bool.and_eq_true] at hq
      rcases List.mem_cons.1 hx with rfl | hx
      · have := hq.1.1
        simp only [okStep, inR, Bool.and_eq_true, decide_eq_true_eq] at this
        exact ⟨this.1, this.2.1⟩
      · exact ih _ hq.2 x hx
  exact key _ _ h1
theorem price_code {xs : List Step} {h e m g z : Int} {bb : Bool} (hp : priceF xs h e m g bb = (z, 0)) :
    validT ⟨xs, h, e⟩ = true ∧ (0 ≤ m ∧ m ≤ 5000) ∧ (0 ≤ g ∧ g ≤ 20000) ∧ ∃ x ∈ xs, xs.find? (fun x => decide (m ≤ x.g)) = some x ∧ z = wholeP x h e g bb := by
  unfold priceF at hp
  cases hv : validT ⟨xs, h, e⟩ with
  | false => rw [hv] at hp; simp at hp
  | true =>
    rw [hv, if_pos rfl] at hp
    by_cases hr : (inR m 0 5000 && inR g 0 20000) = true
    · rw [if_pos hr] at hp
      simp only [Bool.and_eq_true, inR_iff] at hr
      refine ⟨rfl, hr.1, hr.2, ?_⟩
      cases hf : xs.find? (fun x => decide (m ≤ x.g)) with
      | none => simp [costOf, hf] at hp
      | some x =>
        simp only [costOf, hf, Option.map_some, Prod.mk.injEq, and_true] at hp
        exact ⟨x, List.mem_of_find?_eq_some hf, rfl, hp.symm⟩
    · rw [if_neg hr] at hp
      simp at hp
theorem price_of {xs : List Step} {h e m g : Int} {bb : Bool} {x : Step} (hv : validT ⟨xs, h, e⟩ = true) (hm : 0 ≤ m ∧ m ≤ 5000) (hg : 0 ≤ g ∧ g ≤ 20000) (hf : xs.find? (fun x => decide (m ≤ x.g)) = some x) :
    priceF xs h e m g bb = (wholeP x h e g bb, 0) := by
  have hr : (inR m 0 5000 && inR g 0 20000) = true := by rw [Bool.and_eq_true, inR_iff, inR_iff]; exact ⟨hm, hg⟩
  rw [priceF, hv, if_pos rfl, if_pos hr, costOf, hf]
  rfl
/-- a price does not fall with the distance, and is not less than that of a slow carrier -/
theorem price_law {xs : List Step} {h e m g z : Int} {bb : Bool} (hp : priceF xs h e m g bb = (z, 0)) :
    0 ≤ z ∧ (0 ≤ g ∧ g ≤ 20000) ∧ (g < 20000 → ∃ c, priceF xs h e m (g + 1) bb = (c, 0) ∧ z ≤ c) ∧ ∃ c, priceF xs h e m g false = (c, 0) ∧ c ≤ z := by
  obtain ⟨hv, hm, hg, x, hx, hf, rfl⟩ := price_code hp
  obtain ⟨h1, _, h3, h4⟩ := validS hv
  have hxp := (h1 x hx).2
  exact ⟨whole_pos hxp h3 h4 hg.1, hg, fun hl => ⟨_, price_of hv hm ⟨by omega, by omega⟩ hf, whole_mono hxp h3 h4 hg.1 (by omega)⟩, _, price_of hv hm hg hf, whole_slow hxp h3 h4 hg.1⟩
theorem heavAt_spec {xs : List Step} {h e g p : Int} {bb : Bool} {w : Int} : ∀ k, heavAt xs h e g p bb k = (w, 0) → ∃ i x, xs[i]? = some x ∧ x.g = w ∧ wholeP x h e g bb ≤ p ∧ ∀ j y, i < j → j < k → xs[j]? = some y → p < wholeP y h e g bb := by
  intro k
  induction k with
  | zero => intro hk; simp [heavAt] at hk
  | succ k ih =>
    intro hk
    rw [heavAt] at hk
    cases hx : xs[k]? with
    | none => rw [hx] at hk; simp at hk
    | some x =>
      rw [hx] at hk
      simp only at hk
      by_cases hw : wholeP x h e g bb ≤ p
      · rw [if_pos hw] at hk
        simp only [Prod.mk.injEq, and_true] at hk
        exact ⟨k, x, hx, hk, hw, fun j y h1 h2 _ => by omega⟩
      · rw [if_neg hw] at hk
        obtain ⟨i, y, h1, h2, h3, h4⟩ := ih hk
        refine ⟨i, y, h1, h2, h3, fun j z hj1 hj2 hz => ?_⟩
        rcases Nat.lt_or_ge j k with hjk | hjk
        · exact h4 j z hj1 hjk hz
        · obtain rfl : j = k := by omega
          rw [hx] at hz
          simp only [Option.some.injEq] at hz
          subst hz
          omega
theorem pair_lt {xs : List Step} (hp : xs.Pairwise (fun a b => a.g < b.g)) {i j : Nat} {x y : Step} (hi : xs[i]? = some x) (hj : xs[j]? = some y) (hij : i < j) : x.g < y.g := by
  obtain ⟨h1, rfl⟩ := List.getElem?_eq_some_iff.1 hi
  obtain ⟨h2, rfl⟩ := List.getElem?_eq_some_iff.1 hj
  exact List.pairwise_iff_getElem.1 hp i j h1 h2 hij
/-- the heaviest carrier costs no more than told, one gram more does -/
theorem heav_law {xs : List Step} {h e g p w : Int} {bb : Bool} (hh : heavF xs h e g p bb = (w, 0)) :
    (0 ≤ w ∧ w ≤ 5000) ∧ (∃ c, priceF xs h e w g bb = (c, 0) ∧ c ≤ p) ∧ ∀ c, priceF xs h e (w + 1) g bb = (c, 0) → p < c := by
  unfold heavF at hh
  cases hv : validT ⟨xs, h, e⟩ with
  | false => rw [hv] at hh; simp at hh
  | true =>
    rw [hv, if_pos rfl] at hh
    by_cases hr : (inR g 0 20000 && inR p 0 1000000000) = true
    · rw [if_pos hr] at hh
      simp only [Bool.and_eq_true, inR_iff] at hr
      obtain ⟨i, x, h1, rfl, h3, h4⟩ := heavAt_spec _ hh
      obtain ⟨hs, hpw, _, _⟩ := validS hv
      have hx := (hs x (List.mem_of_getElem? h1)).1
      refine ⟨by omega, ⟨_, price_of hv (by omega) hr.1 (find_self hpw h1), h3⟩, fun c hc => ?_⟩
      obtain ⟨_, _, _, y, hy, hf, rfl⟩ := price_code hc
      have hyg : x.g + 1 ≤ y.g := by simpa using List.find?_some hf
      obtain ⟨j, hj⟩ := List.mem_iff_getElem?.1 hy
      have hjl := (List.getElem?_eq_some_iff.1 hj).1
      rcases Nat.lt_trichotomy i j with hij | hij | hij
      · exact h4 j y hij hjl hj
      · subst hij
        rw [h1] at hj
        simp only [Option.some.injEq] at hj
        subst hj
        omega
      · have := pair_lt hpw hj h1 hij
        omega
    · rw [if_neg hr] at hh
      simp at hh
theorem farAt_spec {x : Step} {h e p m : Int} {bb : Bool} : ∀ k : Nat, farAt x h e p bb k = (m, 0) → ∃ i : Nat, i < k ∧ m = 100 * (i : Int) ∧ wholeP x h e (100 * (i : Int)) bb ≤ p ∧ ∀ j : Nat, i < j → j < k → p < wholeP x h e (100 * (j : Int)) bb := by
  intro k
  induction k with
  | zero => intro hk; simp [farAt] at hk
  | succ k ih =>
    intro hk
    rw [farAt] at hk
    by_cases hw : wholeP x h e (100 * (k : Int)) bb ≤ p
    · rw [if_pos hw] at hk
      simp only [Prod.mk.injEq, and_true] at hk
      exact ⟨k, by omega, hk.symm, hw, fun j h1 h2 => by omega⟩
    · rw [if_neg hw] at hk
      obtain ⟨i, h1, h2, h3, h4⟩ := ih hk
      refine ⟨i, by omega, h2, h3, fun j hj1 hj2 => ?_⟩
      rcases Nat.lt_or_ge j k with hjk | hjk
      · exact h4 j hj1 hjk
      · obtain rfl : j = k := by omega
        omega
/-- the farthest carrier costs no more than told, one metre more does -/
theorem far_law {xs : List Step} {h e m p d : Int} {bb : Bool} (hh : farF xs h e m p bb = (d, 0)) :
    (0 ≤ d ∧ d ≤ 20000) ∧ (∃ c, priceF xs h e m d bb = (c, 0) ∧ c ≤ p) ∧ (d < 20000 → ∃ c, priceF xs h e m (d + 1) bb = (c, 0) ∧ p < c) := by
  unfold farF at hh
  cases hv : validT ⟨xs, h, e⟩ with
  | false => rw [hv] at hh; simp at hh
  | true =>
    rw [hv, if_pos rfl] at hh
    by_cases hr : (inR m 0 5000 && inR p 0 1000000000) = true
    · rw [if_pos hr] at hh
      simp only [Bool.and_eq_true, inR_iff] at hr
      cases hf : xs.find? (fun x => decide (m ≤ x.g)) with
      | none => rw [hf] at hh; simp at hh
      | some x =>
        rw [hf] at hh
        obtain ⟨i, h1, rfl, h3, h4⟩ := farAt_spec _ hh
        refine ⟨by omega, ⟨_, price_of hv hr.1 (by omega) hf, h3⟩, fun hd => ⟨_, price_of hv hr.1 (by omega) hf, ?_⟩⟩
        have h5 := h4 (i + 1) (by omega) (by omega)
        have e1 : upTo (100 * (i : Int) + 1) = upTo (100 * ((i + 1 : Nat) : Int)) := by rw [upTo_ediv (by omega), upTo_ediv (by omega)]; omega
        have e2 : wholeP x h e (100 * (i : Int) + 1) bb = wholeP x h e (100 * ((i + 1 : Nat) : Int)) bb := by simp only [wholeP, e1]
        rw [e2]
        exact h5
    · rw [if_neg hr] at hh
      simp at hh
end Go.Proofs.YtngfhpklakhehaaGreatDoor
