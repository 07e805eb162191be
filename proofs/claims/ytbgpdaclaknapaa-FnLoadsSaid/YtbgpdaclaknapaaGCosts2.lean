/-
  Valid tables of costs: the program's side; the statement on ValidCosts. No condition.
-/
import Derived.Test.YtbgpdaclaknapaaGCosts
import Derived.Test.YtbgpdaclaknapaaGOpen
namespace Go.Proofs.Ytbgpdaclaknapaa
open Go.RowKit
set_option maxHeartbeats 400000

def rowOk (css : List (List Int)) (i : Nat) : Prop := (∀ row : List Int, css[i]? = some row → row.length = css.length) ∧ cAt css i i = 0 ∧ ∀ q, q < i → (1 ≤ cAt css i q ∧ cAt css i q ≤ 10000) ∧ cAt css i q = cAt css q i
theorem validC_rowOk {css : List (List Int)} {i : Nat} (hi : i < css.length) (h : ¬ rowOk css i) : validC css = false :=
  validC_false fun hv => h ⟨fun row hr => by
    have := hv.2.1 i hi
    rwa [List.getD, hr] at this, (hv.2.2 i hi i hi).1 rfl, fun q hq => ⟨(hv.2.2 i hi q (by omega)).2.1 (by omega), (hv.2.2 i hi q (by omega)).2.2⟩⟩
theorem validC_rows {css : List (List Int)} (hn : inR css.length 2 6 = true) (h : ∀ i, i < css.length → rowOk css i) : validC css = true := by
  rw [← hn]
  refine validC_of (fun i row hr => (h i (List.getElem?_eq_some_iff.1 hr).1).1 row hr) fun i hi k hk => ⟨fun e => ?_, fun e => ?_, ?_⟩
  · subst e; exact (h i hi).2.1
  · rcases Nat.lt_or_gt_of_ne e with hik | hik
    · have := (h k hk).2.2 i hik
      rw [← this.2]; exact this.1
    · exact ((h i hi).2.2 k hik).1
  · rcases Nat.lt_trichotomy i k with hik | rfl | hik
    · exact ((h k hk).2.2 i hik).2.symm
    · rfl
    · exact ((h i hi).2.2 k hik).2
end Go.Proofs.Ytbgpdaclaknapaa
