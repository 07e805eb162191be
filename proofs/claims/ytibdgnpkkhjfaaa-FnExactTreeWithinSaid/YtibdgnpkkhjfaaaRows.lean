/-
  No cell of these rows narrows 'for every input' (looked for: loops, veiled, ifaces, maps, wideKeys, modest, calm, conditions, laid).
  DERIVED. THE GIVEN ROWS OF THIS SEAT. 11 by the template 'for every input the law returns true; each argument reads behind the call as it read before'; 0 by the template 'total and deterministic' (their statements: YtibdgnpkkhjfaaaTotals.lean).
  GIVEN WITH THE SEED: the statements are not yours to turn. If you find one false, say at which input.
  Laid BY PROGRAM, IN A SANDBOX (cutbox-rows.mjs): the forced cells as the released guide's own fill.sh prints them over the translation c76e82faf86840ec… (all of the seat's roots in one cut). By AI agents, Wed Nov 11 2026. No macro, syntax, notation, axiom, sorry.
-/
import Derived.Test.YtibdgnpkkhjfaaaChecked
import GoSem.Claim
import GoSem.ClaimJoined
import GoSem.ClaimMapViews
import Derived.JoinedTies
import Derived.KernelRfl
namespace Go.Proofs.Ytibdgnpkkhjfaaa
/- THE CELL 'sum', in the pinned program and in every row, IS THE sha256 OF THE DUMP (.gsa) THAT YtibdgnpkkhjfaaaProg.lean LOADS. Nothing in Lean hashes anything: it is a label: what it is worth is what the hold of that sum in a sandbox is worth. -/
noncomputable def Try.pinned : Pinned := { name := "ytibdgnpkkhjfaaa", sum := "c76e82faf86840ecf470ce7c12d151e446e3c9fcc1825851fa602f350a5e31c2", checked := Try.checked }
namespace Rows
def none {H : Type} : Left H := { results := [], args := [] }

/-- 'laws.FnExactValidCosts': WHATEVER THE INPUT: true; the input reads as it did. -/
def fnExactValidCostsSpec : ChangeSpec := { name := "fnExactValidCosts", fn := fun _ => fun
  | [d] => { results := [.lit (.bool true)], args := [d] }
  | _ => none }
def fnExactValidCostsRow : OpenClaim := { program := "ytibdgnpkkhjfaaa", sum := "c76e82faf86840ecf470ce7c12d151e446e3c9fcc1825851fa602f350a5e31c2", func := "loop.example/g01046/laws.FnExactValidCosts", spec := "fnExactValidCosts", apart := false }
def FnExactValidCostsSaid : Prop := fnExactValidCostsRow.holds Try.pinned (OpenSpec.ofChange fnExactValidCostsSpec)

/-- ITS FALSE NEIGHBOUR: 'it returns false'. Refute it at one input. -/
def fnExactValidCostsWrong : ChangeSpec := { name := "fnExactValidCosts", fn := fun _ => fun
  | [d] => { results := [.lit (.bool false)], args := [d] }
  | _ => none }
def FnExactValidCostsWrongFalsely : Prop := fnExactValidCostsRow.holds Try.pinned (OpenSpec.ofChange fnExactValidCostsWrong)

/-- 'laws.FnExactIsTree': WHATEVER THE INPUT: true; the input reads as it did. -/
def fnExactIsTreeSpec : ChangeSpec := { name := "fnExactIsTree", fn := fun _ => fun
  | [d1, d2] => { results := [.lit (.bool true)], args := [d1, d2] }
  | _ => none }
def fnExactIsTreeRow : OpenClaim := { program := "ytibdgnpkkhjfaaa", sum := "c76e82faf86840ecf470ce7c12d151e446e3c9fcc1825851fa602f350a5e31c2", func := "loop.example/g01046/laws.FnExactIsTree", spec := "fnExactIsTree", unfollowed := true, recurses := true, apart := false }
def FnExactIsTreeSaid : Prop := fnExactIsTreeRow.holds Try.pinned (OpenSpec.ofChange fnExactIsTreeSpec)

/-- ITS FALSE NEIGHBOUR: 'it returns false'. Refute it at one input. -/
def fnExactIsTreeWrong : ChangeSpec := { name := "fnExactIsTree", fn := fun _ => fun
  | [d1, d2] => { results := [.lit (.bool false)], args := [d1, d2] }
  | _ => none }
def FnExactIsTreeWrongFalsely : Prop := fnExactIsTreeRow.holds Try.pinned (OpenSpec.ofChange fnExactIsTreeWrong)

/-- 'laws.FnExactTreeCost': WHATEVER THE INPUT: true; the input reads as it did. -/
def fnExactTreeCostSpec : ChangeSpec := { name := "fnExactTreeCost", fn := fun _ => fun
  | [d1, d2] => { results := [.lit (.bool true)], args := [d1, d2] }
  | _ => none }
def fnExactTreeCostRow : OpenClaim := { program := "ytibdgnpkkhjfaaa", sum := "c76e82faf86840ecf470ce7c12d151e446e3c9fcc1825851fa602f350a5e31c2", func := "loop.example/g01046/laws.FnExactTreeCost", spec := "fnExactTreeCost", unfollowed := true, recurses := true, apart := false }
def FnExactTreeCostSaid : Prop := fnExactTreeCostRow.holds Try.pinned (OpenSpec.ofChange fnExactTreeCostSpec)

/-- ITS FALSE NEIGHBOUR: 'it returns false'. Refute it at one input. -/
def fnExactTreeCostWrong : ChangeSpec := { name := "fnExactTreeCost", fn := fun _ => fun
  | [d1, d2] => { results := [.lit (.bool false)], args := [d1, d2] }
  | _ => none }
def FnExactTreeCostWrongFalsely : Prop := fnExactTreeCostRow.holds Try.pinned (OpenSpec.ofChange fnExactTreeCostWrong)

/-- 'laws.FnExactDepthsOf': WHATEVER THE INPUT: true; the input reads as it did. -/
def fnExactDepthsOfSpec : ChangeSpec := { name := "fnExactDepthsOf", fn := fun _ => fun
  | [d1, d2] => { results := [.lit (.bool true)], args := [d1, d2] }
  | _ => none }
def fnExactDepthsOfRow : OpenClaim := { program := "ytibdgnpkkhjfaaa", sum := "c76e82faf86840ecf470ce7c12d151e446e3c9fcc1825851fa602f350a5e31c2", func := "loop.example/g01046/laws.FnExactDepthsOf", spec := "fnExactDepthsOf", unfollowed := true, recurses := true, apart := false }
def FnExactDepthsOfSaid : Prop := fnExactDepthsOfRow.holds Try.pinned (OpenSpec.ofChange fnExactDepthsOfSpec)

/-- ITS FALSE NEIGHBOUR: 'it returns false'. Refute it at one input. -/
def fnExactDepthsOfWrong : ChangeSpec := { name := "fnExactDepthsOf", fn := fun _ => fun
  | [d1, d2] => { results := [.lit (.bool false)], args := [d1, d2] }
  | _ => none }
def FnExactDepthsOfWrongFalsely : Prop := fnExactDepthsOfRow.holds Try.pinned (OpenSpec.ofChange fnExactDepthsOfWrong)

/-- 'laws.FnExactBestMove': WHATEVER THE INPUT: true; the input reads as it did. -/
def fnExactBestMoveSpec : ChangeSpec := { name := "fnExactBestMove", fn := fun _ => fun
  | [d1, d2] => { results := [.lit (.bool true)], args := [d1, d2] }
  | _ => none }
def fnExactBestMoveRow : OpenClaim := { program := "ytibdgnpkkhjfaaa", sum := "c76e82faf86840ecf470ce7c12d151e446e3c9fcc1825851fa602f350a5e31c2", func := "loop.example/g01046/laws.FnExactBestMove", spec := "fnExactBestMove", unfollowed := true, recurses := true, apart := false }
def FnExactBestMoveSaid : Prop := fnExactBestMoveRow.holds Try.pinned (OpenSpec.ofChange fnExactBestMoveSpec)

/-- ITS FALSE NEIGHBOUR: 'it returns false'. Refute it at one input. -/
def fnExactBestMoveWrong : ChangeSpec := { name := "fnExactBestMove", fn := fun _ => fun
  | [d1, d2] => { results := [.lit (.bool false)], args := [d1, d2] }
  | _ => none }
def FnExactBestMoveWrongFalsely : Prop := fnExactBestMoveRow.holds Try.pinned (OpenSpec.ofChange fnExactBestMoveWrong)

/-- 'laws.FnExactLoadsOf': WHATEVER THE INPUT: true; the input reads as it did. -/
def fnExactLoadsOfSpec : ChangeSpec := { name := "fnExactLoadsOf", fn := fun _ => fun
  | [d1, d2, d3] => { results := [.lit (.bool true)], args := [d1, d2, d3] }
  | _ => none }
def fnExactLoadsOfRow : OpenClaim := { program := "ytibdgnpkkhjfaaa", sum := "c76e82faf86840ecf470ce7c12d151e446e3c9fcc1825851fa602f350a5e31c2", func := "loop.example/g01046/laws.FnExactLoadsOf", spec := "fnExactLoadsOf", unfollowed := true, recurses := true, apart := false }
def FnExactLoadsOfSaid : Prop := fnExactLoadsOfRow.holds Try.pinned (OpenSpec.ofChange fnExactLoadsOfSpec)

/-- ITS FALSE NEIGHBOUR: 'it returns false'. Refute it at one input. -/
def fnExactLoadsOfWrong : ChangeSpec := { name := "fnExactLoadsOf", fn := fun _ => fun
  | [d1, d2, d3] => { results := [.lit (.bool false)], args := [d1, d2, d3] }
  | _ => none }
def FnExactLoadsOfWrongFalsely : Prop := fnExactLoadsOfRow.holds Try.pinned (OpenSpec.ofChange fnExactLoadsOfWrong)

/-- 'laws.FnExactCheapestTree': WHATEVER THE INPUT: true; the input reads as it did. -/
def fnExactCheapestTreeSpec : ChangeSpec := { name := "fnExactCheapestTree", fn := fun _ => fun
  | [d] => { results := [.lit (.bool true)], args := [d] }
  | _ => none }
def fnExactCheapestTreeRow : OpenClaim := { program := "ytibdgnpkkhjfaaa", sum := "c76e82faf86840ecf470ce7c12d151e446e3c9fcc1825851fa602f350a5e31c2", func := "loop.example/g01046/laws.FnExactCheapestTree", spec := "fnExactCheapestTree", unfollowed := true, recurses := true, apart := false }
def FnExactCheapestTreeSaid : Prop := fnExactCheapestTreeRow.holds Try.pinned (OpenSpec.ofChange fnExactCheapestTreeSpec)

/-- ITS FALSE NEIGHBOUR: 'it returns false'. Refute it at one input. -/
def fnExactCheapestTreeWrong : ChangeSpec := { name := "fnExactCheapestTree", fn := fun _ => fun
  | [d] => { results := [.lit (.bool false)], args := [d] }
  | _ => none }
def FnExactCheapestTreeWrongFalsely : Prop := fnExactCheapestTreeRow.holds Try.pinned (OpenSpec.ofChange fnExactCheapestTreeWrong)

/-- 'laws.FnExactShallowTree': WHATEVER THE INPUT: true; the input reads as it did. -/
def fnExactShallowTreeSpec : ChangeSpec := { name := "fnExactShallowTree", fn := fun _ => fun
  | [d1, d2] => { results := [.lit (.bool true)], args := [d1, d2] }
  | _ => none }
def fnExactShallowTreeRow : OpenClaim := { program := "ytibdgnpkkhjfaaa", sum := "c76e82faf86840ecf470ce7c12d151e446e3c9fcc1825851fa602f350a5e31c2", func := "loop.example/g01046/laws.FnExactShallowTree", spec := "fnExactShallowTree", unfollowed := true, recurses := true, apart := false }
def FnExactShallowTreeSaid : Prop := fnExactShallowTreeRow.holds Try.pinned (OpenSpec.ofChange fnExactShallowTreeSpec)

/-- ITS FALSE NEIGHBOUR: 'it returns false'. Refute it at one input. -/
def fnExactShallowTreeWrong : ChangeSpec := { name := "fnExactShallowTree", fn := fun _ => fun
  | [d1, d2] => { results := [.lit (.bool false)], args := [d1, d2] }
  | _ => none }
def FnExactShallowTreeWrongFalsely : Prop := fnExactShallowTreeRow.holds Try.pinned (OpenSpec.ofChange fnExactShallowTreeWrong)

/-- 'laws.FnExactTreeWithin': WHATEVER THE INPUT: true; the input reads as it did. -/
def fnExactTreeWithinSpec : ChangeSpec := { name := "fnExactTreeWithin", fn := fun _ => fun
  | [d1, d2, d3] => { results := [.lit (.bool true)], args := [d1, d2, d3] }
  | _ => none }
def fnExactTreeWithinRow : OpenClaim := { program := "ytibdgnpkkhjfaaa", sum := "c76e82faf86840ecf470ce7c12d151e446e3c9fcc1825851fa602f350a5e31c2", func := "loop.example/g01046/laws.FnExactTreeWithin", spec := "fnExactTreeWithin", unfollowed := true, recurses := true, apart := false }
def FnExactTreeWithinSaid : Prop := fnExactTreeWithinRow.holds Try.pinned (OpenSpec.ofChange fnExactTreeWithinSpec)

/-- ITS FALSE NEIGHBOUR: 'it returns false'. Refute it at one input. -/
def fnExactTreeWithinWrong : ChangeSpec := { name := "fnExactTreeWithin", fn := fun _ => fun
  | [d1, d2, d3] => { results := [.lit (.bool false)], args := [d1, d2, d3] }
  | _ => none }
def FnExactTreeWithinWrongFalsely : Prop := fnExactTreeWithinRow.holds Try.pinned (OpenSpec.ofChange fnExactTreeWithinWrong)

/-- 'laws.FnTrees': WHATEVER THE INPUT: true; the input reads as it did. -/
def fnTreesSpec : ChangeSpec := { name := "fnTrees", fn := fun _ => fun
  | [d1, d2] => { results := [.lit (.bool true)], args := [d1, d2] }
  | _ => none }
def fnTreesRow : OpenClaim := { program := "ytibdgnpkkhjfaaa", sum := "c76e82faf86840ecf470ce7c12d151e446e3c9fcc1825851fa602f350a5e31c2", func := "loop.example/g01046/laws.FnTrees", spec := "fnTrees", unfollowed := true, recurses := true, apart := false }
def FnTreesSaid : Prop := fnTreesRow.holds Try.pinned (OpenSpec.ofChange fnTreesSpec)

/-- ITS FALSE NEIGHBOUR: 'it returns false'. Refute it at one input. -/
def fnTreesWrong : ChangeSpec := { name := "fnTrees", fn := fun _ => fun
  | [d1, d2] => { results := [.lit (.bool false)], args := [d1, d2] }
  | _ => none }
def FnTreesWrongFalsely : Prop := fnTreesRow.holds Try.pinned (OpenSpec.ofChange fnTreesWrong)

/-- 'laws.FnTreesWithin': WHATEVER THE INPUT: true; the input reads as it did. -/
def fnTreesWithinSpec : ChangeSpec := { name := "fnTreesWithin", fn := fun _ => fun
  | [d1, d2] => { results := [.lit (.bool true)], args := [d1, d2] }
  | _ => none }
def fnTreesWithinRow : OpenClaim := { program := "ytibdgnpkkhjfaaa", sum := "c76e82faf86840ecf470ce7c12d151e446e3c9fcc1825851fa602f350a5e31c2", func := "loop.example/g01046/laws.FnTreesWithin", spec := "fnTreesWithin", unfollowed := true, recurses := true, apart := false }
def FnTreesWithinSaid : Prop := fnTreesWithinRow.holds Try.pinned (OpenSpec.ofChange fnTreesWithinSpec)

/-- ITS FALSE NEIGHBOUR: 'it returns false'. Refute it at one input. -/
def fnTreesWithinWrong : ChangeSpec := { name := "fnTreesWithin", fn := fun _ => fun
  | [d1, d2] => { results := [.lit (.bool false)], args := [d1, d2] }
  | _ => none }
def FnTreesWithinWrongFalsely : Prop := fnTreesWithinRow.holds Try.pinned (OpenSpec.ofChange fnTreesWithinWrong)

/- THE SECOND FORM. 'bulk': how many values and letters a reading holds, each counted each time it is reached (what is shared counts as often as it is met; a slice's spare places count too). A statement '..UptoSaid' is the law's where the arguments, and the package variables that the reading takes, are together of bulk at most 1048576: NARROWER than '..Said'. Prove '..Said' where nothing that the law and all that it calls make is longer than what came in: it says more and counts as full. Else prove '..UptoSaid'. A law counts once. -/
mutual
def uptoBulk {H : Type} : DataW H → Nat
  | .lit (.string bytes) => bytes.length + 1
  | .lit _ => 1
  | .nil => 1
  | .ptr d => uptoBulk d + 1
  | .slice elems spare => uptoBulkAll elems + uptoBulkAll spare + 1
  | .agg parts => uptoBulkAll parts + 1
  | .iface _ d => uptoBulk d + 1
  | .map entries => uptoBulkEntries entries + 1
  | .held _ => 1
def uptoBulkAll {H : Type} : List (DataW H) → Nat
  | [] => 0
  | d :: r => uptoBulk d + uptoBulkAll r
def uptoBulkEntries {H : Type} : List (Lit × DataW H) → Nat
  | [] => 0
  | x :: r => uptoBulkEntry x + uptoBulkEntries r
def uptoBulkEntry {H : Type} : Lit × DataW H → Nat
  | (.string bytes, d) => bytes.length + uptoBulk d + 1
  | (_, d) => uptoBulk d + 1
 end
def uptoSmall : (H : Type) → List (DataW H) → Bool := fun _ ds => decide (uptoBulkAll ds ≤ 1048576)
def OpenSpec.upto (s : _root_.Go.ChangeSpec) : _root_.Go.OpenSpec := { _root_.Go.OpenSpec.ofChange s with cond := some uptoSmall }

/-- 'laws.FnExactValidCosts', WHERE WHAT IT READS IS OF BULK AT MOST 1048576: true; the input reads as it did. -/
def fnExactValidCostsUptoRow : OpenClaim := { program := "ytibdgnpkkhjfaaa", sum := "c76e82faf86840ecf470ce7c12d151e446e3c9fcc1825851fa602f350a5e31c2", func := "loop.example/g01046/laws.FnExactValidCosts", spec := "fnExactValidCosts", apart := false, narrowed := true }
def FnExactValidCostsUptoSaid : Prop := fnExactValidCostsUptoRow.holds Try.pinned (OpenSpec.upto fnExactValidCostsSpec)

/-- 'laws.FnExactIsTree', WHERE WHAT IT READS IS OF BULK AT MOST 1048576: true; the input reads as it did. -/
def fnExactIsTreeUptoRow : OpenClaim := { program := "ytibdgnpkkhjfaaa", sum := "c76e82faf86840ecf470ce7c12d151e446e3c9fcc1825851fa602f350a5e31c2", func := "loop.example/g01046/laws.FnExactIsTree", spec := "fnExactIsTree", unfollowed := true, recurses := true, apart := false, narrowed := true }
def FnExactIsTreeUptoSaid : Prop := fnExactIsTreeUptoRow.holds Try.pinned (OpenSpec.upto fnExactIsTreeSpec)

/-- 'laws.FnExactTreeCost', WHERE WHAT IT READS IS OF BULK AT MOST 1048576: true; the input reads as it did. -/
def fnExactTreeCostUptoRow : OpenClaim := { program := "ytibdgnpkkhjfaaa", sum := "c76e82faf86840ecf470ce7c12d151e446e3c9fcc1825851fa602f350a5e31c2", func := "loop.example/g01046/laws.FnExactTreeCost", spec := "fnExactTreeCost", unfollowed := true, recurses := true, apart := false, narrowed := true }
def FnExactTreeCostUptoSaid : Prop := fnExactTreeCostUptoRow.holds Try.pinned (OpenSpec.upto fnExactTreeCostSpec)

/-- 'laws.FnExactDepthsOf', WHERE WHAT IT READS IS OF BULK AT MOST 1048576: true; the input reads as it did. -/
def fnExactDepthsOfUptoRow : OpenClaim := { program := "ytibdgnpkkhjfaaa", sum := "c76e82faf86840ecf470ce7c12d151e446e3c9fcc1825851fa602f350a5e31c2", func := "loop.example/g01046/laws.FnExactDepthsOf", spec := "fnExactDepthsOf", unfollowed := true, recurses := true, apart := false, narrowed := true }
def FnExactDepthsOfUptoSaid : Prop := fnExactDepthsOfUptoRow.holds Try.pinned (OpenSpec.upto fnExactDepthsOfSpec)

/-- 'laws.FnExactBestMove', WHERE WHAT IT READS IS OF BULK AT MOST 1048576: true; the input reads as it did. -/
def fnExactBestMoveUptoRow : OpenClaim := { program := "ytibdgnpkkhjfaaa", sum := "c76e82faf86840ecf470ce7c12d151e446e3c9fcc1825851fa602f350a5e31c2", func := "loop.example/g01046/laws.FnExactBestMove", spec := "fnExactBestMove", unfollowed := true, recurses := true, apart := false, narrowed := true }
def FnExactBestMoveUptoSaid : Prop := fnExactBestMoveUptoRow.holds Try.pinned (OpenSpec.upto fnExactBestMoveSpec)

/-- 'laws.FnExactLoadsOf', WHERE WHAT IT READS IS OF BULK AT MOST 1048576: true; the input reads as it did. -/
def fnExactLoadsOfUptoRow : OpenClaim := { program := "ytibdgnpkkhjfaaa", sum := "c76e82faf86840ecf470ce7c12d151e446e3c9fcc1825851fa602f350a5e31c2", func := "loop.example/g01046/laws.FnExactLoadsOf", spec := "fnExactLoadsOf", unfollowed := true, recurses := true, apart := false, narrowed := true }
def FnExactLoadsOfUptoSaid : Prop := fnExactLoadsOfUptoRow.holds Try.pinned (OpenSpec.upto fnExactLoadsOfSpec)

/-- 'laws.FnExactCheapestTree', WHERE WHAT IT READS IS OF BULK AT MOST 1048576: true; the input reads as it did. -/
def fnExactCheapestTreeUptoRow : OpenClaim := { program := "ytibdgnpkkhjfaaa", sum := "c76e82faf86840ecf470ce7c12d151e446e3c9fcc1825851fa602f350a5e31c2", func := "loop.example/g01046/laws.FnExactCheapestTree", spec := "fnExactCheapestTree", unfollowed := true, recurses := true, apart := false, narrowed := true }
def FnExactCheapestTreeUptoSaid : Prop := fnExactCheapestTreeUptoRow.holds Try.pinned (OpenSpec.upto fnExactCheapestTreeSpec)

/-- 'laws.FnExactShallowTree', WHERE WHAT IT READS IS OF BULK AT MOST 1048576: true; the input reads as it did. -/
def fnExactShallowTreeUptoRow : OpenClaim := { program := "ytibdgnpkkhjfaaa", sum := "c76e82faf86840ecf470ce7c12d151e446e3c9fcc1825851fa602f350a5e31c2", func := "loop.example/g01046/laws.FnExactShallowTree", spec := "fnExactShallowTree", unfollowed := true, recurses := true, apart := false, narrowed := true }
def FnExactShallowTreeUptoSaid : Prop := fnExactShallowTreeUptoRow.holds Try.pinned (OpenSpec.upto fnExactShallowTreeSpec)

/-- 'laws.FnExactTreeWithin', WHERE WHAT IT READS IS OF BULK AT MOST 1048576: true; the input reads as it did. -/
def fnExactTreeWithinUptoRow : OpenClaim := { program := "ytibdgnpkkhjfaaa", sum := "c76e82faf86840ecf470ce7c12d151e446e3c9fcc1825851fa602f350a5e31c2", func := "loop.example/g01046/laws.FnExactTreeWithin", spec := "fnExactTreeWithin", unfollowed := true, recurses := true, apart := false, narrowed := true }
def FnExactTreeWithinUptoSaid : Prop := fnExactTreeWithinUptoRow.holds Try.pinned (OpenSpec.upto fnExactTreeWithinSpec)

/-- 'laws.FnTrees', WHERE WHAT IT READS IS OF BULK AT MOST 1048576: true; the input reads as it did. -/
def fnTreesUptoRow : OpenClaim := { program := "ytibdgnpkkhjfaaa", sum := "c76e82faf86840ecf470ce7c12d151e446e3c9fcc1825851fa602f350a5e31c2", func := "loop.example/g01046/laws.FnTrees", spec := "fnTrees", unfollowed := true, recurses := true, apart := false, narrowed := true }
def FnTreesUptoSaid : Prop := fnTreesUptoRow.holds Try.pinned (OpenSpec.upto fnTreesSpec)

/-- 'laws.FnTreesWithin', WHERE WHAT IT READS IS OF BULK AT MOST 1048576: true; the input reads as it did. -/
def fnTreesWithinUptoRow : OpenClaim := { program := "ytibdgnpkkhjfaaa", sum := "c76e82faf86840ecf470ce7c12d151e446e3c9fcc1825851fa602f350a5e31c2", func := "loop.example/g01046/laws.FnTreesWithin", spec := "fnTreesWithin", unfollowed := true, recurses := true, apart := false, narrowed := true }
def FnTreesWithinUptoSaid : Prop := fnTreesWithinUptoRow.holds Try.pinned (OpenSpec.upto fnTreesWithinSpec)

end Rows
end Go.Proofs.Ytibdgnpkkhjfaaa
