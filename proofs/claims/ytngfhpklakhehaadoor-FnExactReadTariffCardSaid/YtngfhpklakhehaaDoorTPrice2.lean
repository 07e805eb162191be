/-
  What a carrier costs: the price, and PriceFor. No condition.
-/
import Derived.Test.YtngfhpklakhehaaDoorTPrice
import Derived.Deep.RegionHeld3
namespace Go.Proofs.YtngfhpklakhehaaDoor
open Go.RowKit
set_option maxHeartbeats 400000

theorem stepsFrom_ok {xs : List Step} {q : Option Step} (h : stepsFrom q xs = true) : ∀ x ∈ xs, okStep x = true := by
  induction xs generalizing q with
  | nil => intro x hx; simp at hx
  | cons y r ih =>
    simp only [stepsFrom, Bool.and_eq_true] at h
    intro x hx
    rcases List.mem_cons.1 hx with rfl | hx
    · exact h.1.1
    · exact ih h.2 x hx
theorem inR_iff {a lo hi : Int} : inR a lo hi = true ↔ lo ≤ a ∧ a ≤ hi := by simp [inR]
theorem validT_parts {xs : List Step} {h e : Int} (hv : validT ⟨xs, h, e⟩ = true) : (∀ x ∈ xs, (1 ≤ x.g ∧ x.g ≤ 5000) ∧ 0 ≤ x.p ∧ x.p ≤ 100000) ∧ 1 ≤ xs.length ∧ xs.length ≤ 8 ∧ 0 ≤ h ∧ h ≤ 100000 ∧ 0 ≤ e ∧ e ≤ 1000 := by
  simp only [validT, Bool.and_eq_true, inR_iff] at hv
  obtain ⟨⟨⟨h1, h2⟩, h3⟩, h4⟩ := hv
  refine ⟨fun x hx => ?_, by omega, by omega, h3.1, h3.2, h4.1, h4.2⟩
  have := stepsFrom_ok h1 x hx
  simpa only [okStep, Bool.and_eq_true, inR_iff] using this

theorem mul_in {a b p q : Int} (h0 : 0 ≤ a) (h1 : a ≤ p) (h2 : 0 ≤ b) (h3 : b ≤ q) : 0 ≤ a * b ∧ a * b ≤ p * q :=
  ⟨Int.mul_nonneg h0 h2, Int.mul_le_mul h1 h3 h2 (by omega)⟩
/-- the parts of a price and their bounds -/
theorem whole_in {x : Step} {h e g : Int} (hp0 : 0 ≤ x.p) (hp1 : x.p ≤ 100000) (h0 : 0 ≤ h) (h1 : h ≤ 100000) (e0 : 0 ≤ e) (e1 : e ≤ 1000) (g0 : 0 ≤ g) (g1 : g ≤ 20000) :
    (0 ≤ upTo g ∧ upTo g ≤ 200) ∧ (0 ≤ h * upTo g ∧ h * upTo g ≤ 20000000) ∧ (0 ≤ (x.p + h * upTo g) * (100 + e) ∧ (x.p + h * upTo g) * (100 + e) ≤ 22110000000) ∧
      (0 ≤ upTo ((x.p + h * upTo g) * (100 + e)) ∧ upTo ((x.p + h * upTo g) * (100 + e)) ≤ 221100000) := by
  have q1 := upTo_in (a := g) (b := 200) g0 (by omega)
  have q2 := mul_in h0 h1 q1.1 q1.2
  have q3 := mul_in (a := x.p + h * upTo g) (b := 100 + e) (p := 20100000) (q := 1100) (by omega) (by omega) (by omega) (by omega)
  exact ⟨q1, by omega, by omega, upTo_in q3.1 (by omega)⟩
theorem whole_bound {x : Step} {h e g : Int} (b : Bool) (hp0 : 0 ≤ x.p) (hp1 : x.p ≤ 100000) (h0 : 0 ≤ h) (h1 : h ≤ 100000) (e0 : 0 ≤ e) (e1 : e ≤ 1000) (g0 : 0 ≤ g) (g1 : g ≤ 20000) :
    0 ≤ wholeP x h e g b ∧ wholeP x h e g b ≤ 221100000 := by
  obtain ⟨q1, q2, q3, q4⟩ := whole_in hp0 hp1 h0 h1 e0 e1 g0 g1
  unfold wholeP
  split <;> omega

def costOf (xs : List Step) (h e m g : Int) (bb : Bool) : Option Int := (xs.find? fun x => decide (m ≤ x.g)).map fun x => wholeP x h e g bb
theorem find_at {m : Int} {xs : List Step} {k0 : Nat} :
    (stepAt m xs k0 = -1 ∧ xs.find? (fun x => decide (m ≤ x.g)) = none) ∨ ∃ j x, xs[j]? = some x ∧ stepAt m xs k0 = ((k0 + j : Nat) : Int) ∧ xs.find? (fun x => decide (m ≤ x.g)) = some x := by
  induction xs generalizing k0 with
  | nil => exact .inl ⟨rfl, rfl⟩
  | cons x r ih =>
    unfold stepAt
    by_cases hm : m ≤ x.g
    · exact .inr ⟨0, x, rfl, by rw [if_pos hm]; rfl, by simp [hm]⟩
    · rw [if_neg hm]
      rcases ih (k0 := k0 + 1) with ⟨h, h2⟩ | ⟨j, y, hj, h, h2⟩
      · exact .inl ⟨h, by simp [hm, h2]⟩
      · exact .inr ⟨j + 1, y, hj, by rw [h]; congr 1; omega, by simp [hm, h2]⟩
/-- a price and whether there is one, as the program's method gives them -/
def costV (o : Option Int) : Value := .tuple #[.int .i64 (o.getD 0), .bool o.isSome]
end Go.Proofs.YtngfhpklakhehaaDoor
