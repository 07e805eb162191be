/-
  Regions that draw their order and hold calls that make memory, but store nothing: walked once, in the order of the text. No condition.
-/
import Derived.Test.YtngfhpklakhehaaGreatDoorBase
namespace Go.Proofs.YtngfhpklakhehaaGreatDoor
open Go.RowKit

/-- the worlds in which all that lay in W lies untouched -/
structure After (W : World) where
  w : World
  below : Below W.heap.size W w
instance (W : World) : Nonempty (After W) := ⟨⟨W, Below.refl _ _⟩⟩
theorem wp_after {P : Program} {id : Nat} {Q : Exit → Act → World → Prop} {a : Act} {w : World} {l : List Oper} (hm : P.follows .mixedOrders = true) (hB : Region.lexB .any l.toArray = true)
    (h : wpQuiet P l.toArray (fun w' => ∃ i : After w, w' = i.w) (fun a' => ∀ w', (∃ i : After w, w' = i.w) → Q .normal a' w') l a) : (Code.region id l.toArray true).wp P Q a w :=
  wp_region_quiet (C := fun w' => ∃ i : After w, w' = i.w) hm hB ⟨⟨w.drew, (Below.refl _ _).drew⟩, rfl⟩ (by simpa using h)
theorem Calls.after {P : Program} {f : FuncId} {args : Array Value} {W : World} {i : After W} {v : Value} (h : Calls P f args i.w fun e w' => e = .returned v ∧ Below i.w.heap.size i.w w') :
    Calls P f args i.w fun e w'' => e = .returned v ∧ ∃ j : After W, w'' = j.w :=
  h.mono fun _ _ ⟨he, hb⟩ => ⟨he, ⟨_, i.below.trans (hb.mono i.below.size)⟩, rfl⟩
theorem Calls.after_same {P : Program} {f : FuncId} {args : Array Value} {W : World} {i : After W} {v : Value} (h : Calls P f args i.w fun e w' => e = .returned v ∧ w' = i.w) :
    Calls P f args i.w fun e w'' => e = .returned v ∧ ∃ j : After W, w'' = j.w :=
  h.mono fun _ _ ⟨he, hb⟩ => ⟨he, i, hb⟩
theorem After.cell {W : World} {p : Addr} {v : Value} (h : W.cell? p = some v) (i : After W) : i.w.cell? p = some v := below_cell h i.below
end Go.Proofs.YtngfhpklakhehaaGreatDoor
