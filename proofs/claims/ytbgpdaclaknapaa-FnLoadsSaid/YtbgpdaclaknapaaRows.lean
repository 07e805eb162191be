/-
  No cell of these rows narrows 'for every input' (looked for: loops, veiled, ifaces, maps, wideKeys, modest, calm, conditions, laid).
  DERIVED. THE GIVEN ROWS OF THIS SEAT. 3 by the template 'for every input the law returns true; each argument reads behind the call as it read before'; 0 by the template 'total and deterministic' (their statements: YtbgpdaclaknapaaTotals.lean).
  GIVEN WITH THE SEED: the statements are not yours to turn. If you find one false, say at which input.
  Laid BY PROGRAM, IN A SANDBOX (cutbox-rows.mjs): the forced cells as the released guide's own fill.sh prints them over the translation 5b285d20d30a3a73… (all of the seat's roots in one cut). By AI agents, Wed Nov 11 2026. No macro, syntax, notation, axiom, sorry.
-/
import Derived.Test.YtbgpdaclaknapaaChecked
import GoSem.Claim
import GoSem.ClaimJoined
import GoSem.ClaimMapViews
import Derived.JoinedTies
import Derived.KernelRfl
namespace Go.Proofs.Ytbgpdaclaknapaa
/- THE CELL 'sum', in the pinned program and in every row, IS THE sha256 OF THE DUMP (.gsa) THAT YtbgpdaclaknapaaProg.lean LOADS. Nothing in Lean hashes anything: it is a label: what it is worth is what the hold of that sum in a sandbox is worth. -/
noncomputable def Try.pinned : Pinned := { name := "ytbgpdaclaknapaa", sum := "5b285d20d30a3a73998a6857a75fff2cba509387ec32a127d170b486f4e27610", checked := Try.checked }
namespace Rows
def none {H : Type} : Left H := { results := [], args := [] }

/-- 'laws.FnExactHeaviestWithin': WHATEVER THE INPUT: true; the input reads as it did. -/
def fnExactHeaviestWithinSpec : ChangeSpec := { name := "fnExactHeaviestWithin", fn := fun _ => fun
  | [d1, d2, d3, d4] => { results := [.lit (.bool true)], args := [d1, d2, d3, d4] }
  | _ => none }
def fnExactHeaviestWithinRow : OpenClaim := { program := "ytbgpdaclaknapaa", sum := "5b285d20d30a3a73998a6857a75fff2cba509387ec32a127d170b486f4e27610", func := "loop.example/g01046/laws.FnExactHeaviestWithin", spec := "fnExactHeaviestWithin", unfollowed := true, recurses := true, apart := false }
def FnExactHeaviestWithinSaid : Prop := fnExactHeaviestWithinRow.holds Try.pinned (OpenSpec.ofChange fnExactHeaviestWithinSpec)

/-- ITS FALSE NEIGHBOUR: 'it returns false'. Refute it at one input. -/
def fnExactHeaviestWithinWrong : ChangeSpec := { name := "fnExactHeaviestWithin", fn := fun _ => fun
  | [d1, d2, d3, d4] => { results := [.lit (.bool false)], args := [d1, d2, d3, d4] }
  | _ => none }
def FnExactHeaviestWithinWrongFalsely : Prop := fnExactHeaviestWithinRow.holds Try.pinned (OpenSpec.ofChange fnExactHeaviestWithinWrong)

/-- 'laws.FnExactCheapestTariff': WHATEVER THE INPUT: true; the input reads as it did. -/
def fnExactCheapestTariffSpec : ChangeSpec := { name := "fnExactCheapestTariff", fn := fun _ => fun
  | [d1, d2, d3] => { results := [.lit (.bool true)], args := [d1, d2, d3] }
  | _ => none }
def fnExactCheapestTariffRow : OpenClaim := { program := "ytbgpdaclaknapaa", sum := "5b285d20d30a3a73998a6857a75fff2cba509387ec32a127d170b486f4e27610", func := "loop.example/g01046/laws.FnExactCheapestTariff", spec := "fnExactCheapestTariff", unfollowed := true, recurses := true, apart := false }
def FnExactCheapestTariffSaid : Prop := fnExactCheapestTariffRow.holds Try.pinned (OpenSpec.ofChange fnExactCheapestTariffSpec)

/-- ITS FALSE NEIGHBOUR: 'it returns false'. Refute it at one input. -/
def fnExactCheapestTariffWrong : ChangeSpec := { name := "fnExactCheapestTariff", fn := fun _ => fun
  | [d1, d2, d3] => { results := [.lit (.bool false)], args := [d1, d2, d3] }
  | _ => none }
def FnExactCheapestTariffWrongFalsely : Prop := fnExactCheapestTariffRow.holds Try.pinned (OpenSpec.ofChange fnExactCheapestTariffWrong)

/-- 'laws.FnLoads': WHATEVER THE INPUT: true; the input reads as it did. -/
def fnLoadsSpec : ChangeSpec := { name := "fnLoads", fn := fun _ => fun
  | [d] => { results := [.lit (.bool true)], args := [d] }
  | _ => none }
def fnLoadsRow : OpenClaim := { program := "ytbgpdaclaknapaa", sum := "5b285d20d30a3a73998a6857a75fff2cba509387ec32a127d170b486f4e27610", func := "loop.example/g01046/laws.FnLoads", spec := "fnLoads", unfollowed := true, recurses := true, apart := false }
def FnLoadsSaid : Prop := fnLoadsRow.holds Try.pinned (OpenSpec.ofChange fnLoadsSpec)

/-- ITS FALSE NEIGHBOUR: 'it returns false'. Refute it at one input. -/
def fnLoadsWrong : ChangeSpec := { name := "fnLoads", fn := fun _ => fun
  | [d] => { results := [.lit (.bool false)], args := [d] }
  | _ => none }
def FnLoadsWrongFalsely : Prop := fnLoadsRow.holds Try.pinned (OpenSpec.ofChange fnLoadsWrong)

/- THE SECOND FORM. 'bulk': how many values and letters a reading holds, each counted each time it is reached (what is shared counts as often as it is met; a slice's spare places count too). A statement '..UptoSaid' is the law's where the arguments, and the package variables that the reading takes, are together of bulk at most 1048576: NARROWER than '..Said'. Prove '..Said' where nothing that the law and all that it calls make is longer than what came in: it says more and counts as full. Else prove '..UptoSaid'. A law counts once. -/
mutual
def uptoBulk {H : Type} : DataW H → Nat
  | .lit (.string bytes) => bytes.length + 1
  | .lit _ => 1
  | .nil => 1
  | .ptr d => uptoBulk d + 1
  | .slice elems spare => uptoBulkAll elems + uptoBulkAll spare + 1
  | .agg parts => uptoBulkAll parts + 1
  | .iface _ d => uptoBulk d + 1
  | .map entries => uptoBulkEntries entries + 1
  | .held _ => 1
def uptoBulkAll {H : Type} : List (DataW H) → Nat
  | [] => 0
  | d :: r => uptoBulk d + uptoBulkAll r
def uptoBulkEntries {H : Type} : List (Lit × DataW H) → Nat
  | [] => 0
  | x :: r => uptoBulkEntry x + uptoBulkEntries r
def uptoBulkEntry {H : Type} : Lit × DataW H → Nat
  | (.string bytes, d) => bytes.length + uptoBulk d + 1
  | (_, d) => uptoBulk d + 1
 end
def uptoSmall : (H : Type) → List (DataW H) → Bool := fun _ ds => decide (uptoBulkAll ds ≤ 1048576)
def OpenSpec.upto (s : _root_.Go.ChangeSpec) : _root_.Go.OpenSpec := { _root_.Go.OpenSpec.ofChange s with cond := some uptoSmall }

/-- 'laws.FnExactHeaviestWithin', WHERE WHAT IT READS IS OF BULK AT MOST 1048576: true; the input reads as it did. -/
def fnExactHeaviestWithinUptoRow : OpenClaim := { program := "ytbgpdaclaknapaa", sum := "5b285d20d30a3a73998a6857a75fff2cba509387ec32a127d170b486f4e27610", func := "loop.example/g01046/laws.FnExactHeaviestWithin", spec := "fnExactHeaviestWithin", unfollowed := true, recurses := true, apart := false, narrowed := true }
def FnExactHeaviestWithinUptoSaid : Prop := fnExactHeaviestWithinUptoRow.holds Try.pinned (OpenSpec.upto fnExactHeaviestWithinSpec)

/-- 'laws.FnExactCheapestTariff', WHERE WHAT IT READS IS OF BULK AT MOST 1048576: true; the input reads as it did. -/
def fnExactCheapestTariffUptoRow : OpenClaim := { program := "ytbgpdaclaknapaa", sum := "5b285d20d30a3a73998a6857a75fff2cba509387ec32a127d170b486f4e27610", func := "loop.example/g01046/laws.FnExactCheapestTariff", spec := "fnExactCheapestTariff", unfollowed := true, recurses := true, apart := false, narrowed := true }
def FnExactCheapestTariffUptoSaid : Prop := fnExactCheapestTariffUptoRow.holds Try.pinned (OpenSpec.upto fnExactCheapestTariffSpec)

/-- 'laws.FnLoads', WHERE WHAT IT READS IS OF BULK AT MOST 1048576: true; the input reads as it did. -/
def fnLoadsUptoRow : OpenClaim := { program := "ytbgpdaclaknapaa", sum := "5b285d20d30a3a73998a6857a75fff2cba509387ec32a127d170b486f4e27610", func := "loop.example/g01046/laws.FnLoads", spec := "fnLoads", unfollowed := true, recurses := true, apart := false, narrowed := true }
def FnLoadsUptoSaid : Prop := fnLoadsUptoRow.holds Try.pinned (OpenSpec.upto fnLoadsSpec)

end Rows
end Go.Proofs.Ytbgpdaclaknapaa
