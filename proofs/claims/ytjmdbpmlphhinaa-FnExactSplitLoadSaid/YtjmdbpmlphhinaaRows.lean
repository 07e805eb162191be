/-
  No cell of these rows narrows 'for every input' (looked for: loops, veiled, ifaces, maps, wideKeys, modest, calm, conditions, laid).
  DERIVED. THE GIVEN ROWS OF THIS SEAT. 9 by the template 'for every input the law returns true; each argument reads behind the call as it read before'; 0 by the template 'total and deterministic' (their statements: YtjmdbpmlphhinaaTotals.lean).
  GIVEN WITH THE SEED: the statements are not yours to turn. If you find one false, say at which input.
  Laid BY PROGRAM, IN A SANDBOX (cutbox-rows.mjs): the forced cells as the released guide's own fill.sh prints them over the translation 04d65b0f7fd45c44… (all of the seat's roots in one cut). By AI agents, Wed Nov 11 2026. No macro, syntax, notation, axiom, sorry.
-/
import Derived.Test.YtjmdbpmlphhinaaChecked
import GoSem.Claim
import GoSem.ClaimJoined
import GoSem.ClaimMapViews
import Derived.JoinedTies
import Derived.KernelRfl
namespace Go.Proofs.Ytjmdbpmlphhinaa
/- THE CELL 'sum', in the pinned program and in every row, IS THE sha256 OF THE DUMP (.gsa) THAT YtjmdbpmlphhinaaProg.lean LOADS. Nothing in Lean hashes anything: it is a label: what it is worth is what the hold of that sum in a sandbox is worth. -/
noncomputable def Try.pinned : Pinned := { name := "ytjmdbpmlphhinaa", sum := "04d65b0f7fd45c44cb6634df527fb13c0a0cb5cdcb8480fce1fb1b043029e4f8", checked := Try.checked }
namespace Rows
def none {H : Type} : Left H := { results := [], args := [] }

/-- 'laws.FnExactValidTariff': WHATEVER THE INPUT: true; the input reads as it did. -/
def fnExactValidTariffSpec : ChangeSpec := { name := "fnExactValidTariff", fn := fun _ => fun
  | [d] => { results := [.lit (.bool true)], args := [d] }
  | _ => none }
def fnExactValidTariffRow : OpenClaim := { program := "ytjmdbpmlphhinaa", sum := "04d65b0f7fd45c44cb6634df527fb13c0a0cb5cdcb8480fce1fb1b043029e4f8", func := "loop.example/g01046/laws.FnExactValidTariff", spec := "fnExactValidTariff", apart := false }
def FnExactValidTariffSaid : Prop := fnExactValidTariffRow.holds Try.pinned (OpenSpec.ofChange fnExactValidTariffSpec)

/-- ITS FALSE NEIGHBOUR: 'it returns false'. Refute it at one input. -/
def fnExactValidTariffWrong : ChangeSpec := { name := "fnExactValidTariff", fn := fun _ => fun
  | [d] => { results := [.lit (.bool false)], args := [d] }
  | _ => none }
def FnExactValidTariffWrongFalsely : Prop := fnExactValidTariffRow.holds Try.pinned (OpenSpec.ofChange fnExactValidTariffWrong)

/-- 'laws.FnExactSameTariff': WHATEVER THE INPUT: true; the input reads as it did. -/
def fnExactSameTariffSpec : ChangeSpec := { name := "fnExactSameTariff", fn := fun _ => fun
  | [d1, d2] => { results := [.lit (.bool true)], args := [d1, d2] }
  | _ => none }
def fnExactSameTariffRow : OpenClaim := { program := "ytjmdbpmlphhinaa", sum := "04d65b0f7fd45c44cb6634df527fb13c0a0cb5cdcb8480fce1fb1b043029e4f8", func := "loop.example/g01046/laws.FnExactSameTariff", spec := "fnExactSameTariff", apart := false }
def FnExactSameTariffSaid : Prop := fnExactSameTariffRow.holds Try.pinned (OpenSpec.ofChange fnExactSameTariffSpec)

/-- ITS FALSE NEIGHBOUR: 'it returns false'. Refute it at one input. -/
def fnExactSameTariffWrong : ChangeSpec := { name := "fnExactSameTariff", fn := fun _ => fun
  | [d1, d2] => { results := [.lit (.bool false)], args := [d1, d2] }
  | _ => none }
def FnExactSameTariffWrongFalsely : Prop := fnExactSameTariffRow.holds Try.pinned (OpenSpec.ofChange fnExactSameTariffWrong)

/-- 'laws.FnExactRaiseTariff': WHATEVER THE INPUT: true; the input reads as it did. -/
def fnExactRaiseTariffSpec : ChangeSpec := { name := "fnExactRaiseTariff", fn := fun _ => fun
  | [d1, d2] => { results := [.lit (.bool true)], args := [d1, d2] }
  | _ => none }
def fnExactRaiseTariffRow : OpenClaim := { program := "ytjmdbpmlphhinaa", sum := "04d65b0f7fd45c44cb6634df527fb13c0a0cb5cdcb8480fce1fb1b043029e4f8", func := "loop.example/g01046/laws.FnExactRaiseTariff", spec := "fnExactRaiseTariff", unfollowed := true, recurses := true, apart := false }
def FnExactRaiseTariffSaid : Prop := fnExactRaiseTariffRow.holds Try.pinned (OpenSpec.ofChange fnExactRaiseTariffSpec)

/-- ITS FALSE NEIGHBOUR: 'it returns false'. Refute it at one input. -/
def fnExactRaiseTariffWrong : ChangeSpec := { name := "fnExactRaiseTariff", fn := fun _ => fun
  | [d1, d2] => { results := [.lit (.bool false)], args := [d1, d2] }
  | _ => none }
def FnExactRaiseTariffWrongFalsely : Prop := fnExactRaiseTariffRow.holds Try.pinned (OpenSpec.ofChange fnExactRaiseTariffWrong)

/-- 'laws.FnExactPriceFor': WHATEVER THE INPUT: true; the input reads as it did. -/
def fnExactPriceForSpec : ChangeSpec := { name := "fnExactPriceFor", fn := fun _ => fun
  | [d1, d2, d3, d4] => { results := [.lit (.bool true)], args := [d1, d2, d3, d4] }
  | _ => none }
def fnExactPriceForRow : OpenClaim := { program := "ytjmdbpmlphhinaa", sum := "04d65b0f7fd45c44cb6634df527fb13c0a0cb5cdcb8480fce1fb1b043029e4f8", func := "loop.example/g01046/laws.FnExactPriceFor", spec := "fnExactPriceFor", unfollowed := true, recurses := true, apart := false }
def FnExactPriceForSaid : Prop := fnExactPriceForRow.holds Try.pinned (OpenSpec.ofChange fnExactPriceForSpec)

/-- ITS FALSE NEIGHBOUR: 'it returns false'. Refute it at one input. -/
def fnExactPriceForWrong : ChangeSpec := { name := "fnExactPriceFor", fn := fun _ => fun
  | [d1, d2, d3, d4] => { results := [.lit (.bool false)], args := [d1, d2, d3, d4] }
  | _ => none }
def FnExactPriceForWrongFalsely : Prop := fnExactPriceForRow.holds Try.pinned (OpenSpec.ofChange fnExactPriceForWrong)

/-- 'laws.FnExactHeaviestWithin': WHATEVER THE INPUT: true; the input reads as it did. -/
def fnExactHeaviestWithinSpec : ChangeSpec := { name := "fnExactHeaviestWithin", fn := fun _ => fun
  | [d1, d2, d3, d4] => { results := [.lit (.bool true)], args := [d1, d2, d3, d4] }
  | _ => none }
def fnExactHeaviestWithinRow : OpenClaim := { program := "ytjmdbpmlphhinaa", sum := "04d65b0f7fd45c44cb6634df527fb13c0a0cb5cdcb8480fce1fb1b043029e4f8", func := "loop.example/g01046/laws.FnExactHeaviestWithin", spec := "fnExactHeaviestWithin", unfollowed := true, recurses := true, apart := false }
def FnExactHeaviestWithinSaid : Prop := fnExactHeaviestWithinRow.holds Try.pinned (OpenSpec.ofChange fnExactHeaviestWithinSpec)

/-- ITS FALSE NEIGHBOUR: 'it returns false'. Refute it at one input. -/
def fnExactHeaviestWithinWrong : ChangeSpec := { name := "fnExactHeaviestWithin", fn := fun _ => fun
  | [d1, d2, d3, d4] => { results := [.lit (.bool false)], args := [d1, d2, d3, d4] }
  | _ => none }
def FnExactHeaviestWithinWrongFalsely : Prop := fnExactHeaviestWithinRow.holds Try.pinned (OpenSpec.ofChange fnExactHeaviestWithinWrong)

/-- 'laws.FnExactFarthestWithin': WHATEVER THE INPUT: true; the input reads as it did. -/
def fnExactFarthestWithinSpec : ChangeSpec := { name := "fnExactFarthestWithin", fn := fun _ => fun
  | [d1, d2, d3, d4] => { results := [.lit (.bool true)], args := [d1, d2, d3, d4] }
  | _ => none }
def fnExactFarthestWithinRow : OpenClaim := { program := "ytjmdbpmlphhinaa", sum := "04d65b0f7fd45c44cb6634df527fb13c0a0cb5cdcb8480fce1fb1b043029e4f8", func := "loop.example/g01046/laws.FnExactFarthestWithin", spec := "fnExactFarthestWithin", unfollowed := true, recurses := true, apart := false }
def FnExactFarthestWithinSaid : Prop := fnExactFarthestWithinRow.holds Try.pinned (OpenSpec.ofChange fnExactFarthestWithinSpec)

/-- ITS FALSE NEIGHBOUR: 'it returns false'. Refute it at one input. -/
def fnExactFarthestWithinWrong : ChangeSpec := { name := "fnExactFarthestWithin", fn := fun _ => fun
  | [d1, d2, d3, d4] => { results := [.lit (.bool false)], args := [d1, d2, d3, d4] }
  | _ => none }
def FnExactFarthestWithinWrongFalsely : Prop := fnExactFarthestWithinRow.holds Try.pinned (OpenSpec.ofChange fnExactFarthestWithinWrong)

/-- 'laws.FnExactSplitLoad': WHATEVER THE INPUT: true; the input reads as it did. -/
def fnExactSplitLoadSpec : ChangeSpec := { name := "fnExactSplitLoad", fn := fun _ => fun
  | [d1, d2, d3] => { results := [.lit (.bool true)], args := [d1, d2, d3] }
  | _ => none }
def fnExactSplitLoadRow : OpenClaim := { program := "ytjmdbpmlphhinaa", sum := "04d65b0f7fd45c44cb6634df527fb13c0a0cb5cdcb8480fce1fb1b043029e4f8", func := "loop.example/g01046/laws.FnExactSplitLoad", spec := "fnExactSplitLoad", unfollowed := true, recurses := true, apart := false }
def FnExactSplitLoadSaid : Prop := fnExactSplitLoadRow.holds Try.pinned (OpenSpec.ofChange fnExactSplitLoadSpec)

/-- ITS FALSE NEIGHBOUR: 'it returns false'. Refute it at one input. -/
def fnExactSplitLoadWrong : ChangeSpec := { name := "fnExactSplitLoad", fn := fun _ => fun
  | [d1, d2, d3] => { results := [.lit (.bool false)], args := [d1, d2, d3] }
  | _ => none }
def FnExactSplitLoadWrongFalsely : Prop := fnExactSplitLoadRow.holds Try.pinned (OpenSpec.ofChange fnExactSplitLoadWrong)

/-- 'laws.FnExactCheapestTariff': WHATEVER THE INPUT: true; the input reads as it did. -/
def fnExactCheapestTariffSpec : ChangeSpec := { name := "fnExactCheapestTariff", fn := fun _ => fun
  | [d1, d2, d3] => { results := [.lit (.bool true)], args := [d1, d2, d3] }
  | _ => none }
def fnExactCheapestTariffRow : OpenClaim := { program := "ytjmdbpmlphhinaa", sum := "04d65b0f7fd45c44cb6634df527fb13c0a0cb5cdcb8480fce1fb1b043029e4f8", func := "loop.example/g01046/laws.FnExactCheapestTariff", spec := "fnExactCheapestTariff", unfollowed := true, recurses := true, apart := false }
def FnExactCheapestTariffSaid : Prop := fnExactCheapestTariffRow.holds Try.pinned (OpenSpec.ofChange fnExactCheapestTariffSpec)

/-- ITS FALSE NEIGHBOUR: 'it returns false'. Refute it at one input. -/
def fnExactCheapestTariffWrong : ChangeSpec := { name := "fnExactCheapestTariff", fn := fun _ => fun
  | [d1, d2, d3] => { results := [.lit (.bool false)], args := [d1, d2, d3] }
  | _ => none }
def FnExactCheapestTariffWrongFalsely : Prop := fnExactCheapestTariffRow.holds Try.pinned (OpenSpec.ofChange fnExactCheapestTariffWrong)

/-- 'laws.FnLoads': WHATEVER THE INPUT: true; the input reads as it did. -/
def fnLoadsSpec : ChangeSpec := { name := "fnLoads", fn := fun _ => fun
  | [d] => { results := [.lit (.bool true)], args := [d] }
  | _ => none }
def fnLoadsRow : OpenClaim := { program := "ytjmdbpmlphhinaa", sum := "04d65b0f7fd45c44cb6634df527fb13c0a0cb5cdcb8480fce1fb1b043029e4f8", func := "loop.example/g01046/laws.FnLoads", spec := "fnLoads", unfollowed := true, recurses := true, apart := false }
def FnLoadsSaid : Prop := fnLoadsRow.holds Try.pinned (OpenSpec.ofChange fnLoadsSpec)

/-- ITS FALSE NEIGHBOUR: 'it returns false'. Refute it at one input. -/
def fnLoadsWrong : ChangeSpec := { name := "fnLoads", fn := fun _ => fun
  | [d] => { results := [.lit (.bool false)], args := [d] }
  | _ => none }
def FnLoadsWrongFalsely : Prop := fnLoadsRow.holds Try.pinned (OpenSpec.ofChange fnLoadsWrong)

/- THE SECOND FORM. 'bulk': how many values and letters a reading holds, each counted each time it is reached (what is shared counts as often as it is met; a slice's spare places count too). A statement '..UptoSaid' is the law's where the arguments, and the package variables that the reading takes, are together of bulk at most 1048576: NARROWER than '..Said'. Prove '..Said' where nothing that the law and all that it calls make is longer than what came in: it says more and counts as full. Else prove '..UptoSaid'. A law counts once. -/
mutual
def uptoBulk {H : Type} : DataW H → Nat
  | .lit (.string bytes) => bytes.length + 1
  | .lit _ => 1
  | .nil => 1
  | .ptr d => uptoBulk d + 1
  | .slice elems spare => uptoBulkAll elems + uptoBulkAll spare + 1
  | .agg parts => uptoBulkAll parts + 1
  | .iface _ d => uptoBulk d + 1
  | .map entries => uptoBulkEntries entries + 1
  | .held _ => 1
def uptoBulkAll {H : Type} : List (DataW H) → Nat
  | [] => 0
  | d :: r => uptoBulk d + uptoBulkAll r
def uptoBulkEntries {H : Type} : List (Lit × DataW H) → Nat
  | [] => 0
  | x :: r => uptoBulkEntry x + uptoBulkEntries r
def uptoBulkEntry {H : Type} : Lit × DataW H → Nat
  | (.string bytes, d) => bytes.length + uptoBulk d + 1
  | (_, d) => uptoBulk d + 1
 end
def uptoSmall : (H : Type) → List (DataW H) → Bool := fun _ ds => decide (uptoBulkAll ds ≤ 1048576)
def OpenSpec.upto (s : _root_.Go.ChangeSpec) : _root_.Go.OpenSpec := { _root_.Go.OpenSpec.ofChange s with cond := some uptoSmall }

/-- 'laws.FnExactValidTariff', WHERE WHAT IT READS IS OF BULK AT MOST 1048576: true; the input reads as it did. -/
def fnExactValidTariffUptoRow : OpenClaim := { program := "ytjmdbpmlphhinaa", sum := "04d65b0f7fd45c44cb6634df527fb13c0a0cb5cdcb8480fce1fb1b043029e4f8", func := "loop.example/g01046/laws.FnExactValidTariff", spec := "fnExactValidTariff", apart := false, narrowed := true }
def FnExactValidTariffUptoSaid : Prop := fnExactValidTariffUptoRow.holds Try.pinned (OpenSpec.upto fnExactValidTariffSpec)

/-- 'laws.FnExactSameTariff', WHERE WHAT IT READS IS OF BULK AT MOST 1048576: true; the input reads as it did. -/
def fnExactSameTariffUptoRow : OpenClaim := { program := "ytjmdbpmlphhinaa", sum := "04d65b0f7fd45c44cb6634df527fb13c0a0cb5cdcb8480fce1fb1b043029e4f8", func := "loop.example/g01046/laws.FnExactSameTariff", spec := "fnExactSameTariff", apart := false, narrowed := true }
def FnExactSameTariffUptoSaid : Prop := fnExactSameTariffUptoRow.holds Try.pinned (OpenSpec.upto fnExactSameTariffSpec)

/-- 'laws.FnExactRaiseTariff', WHERE WHAT IT READS IS OF BULK AT MOST 1048576: true; the input reads as it did. -/
def fnExactRaiseTariffUptoRow : OpenClaim := { program := "ytjmdbpmlphhinaa", sum := "04d65b0f7fd45c44cb6634df527fb13c0a0cb5cdcb8480fce1fb1b043029e4f8", func := "loop.example/g01046/laws.FnExactRaiseTariff", spec := "fnExactRaiseTariff", unfollowed := true, recurses := true, apart := false, narrowed := true }
def FnExactRaiseTariffUptoSaid : Prop := fnExactRaiseTariffUptoRow.holds Try.pinned (OpenSpec.upto fnExactRaiseTariffSpec)

/-- 'laws.FnExactPriceFor', WHERE WHAT IT READS IS OF BULK AT MOST 1048576: true; the input reads as it did. -/
def fnExactPriceForUptoRow : OpenClaim := { program := "ytjmdbpmlphhinaa", sum := "04d65b0f7fd45c44cb6634df527fb13c0a0cb5cdcb8480fce1fb1b043029e4f8", func := "loop.example/g01046/laws.FnExactPriceFor", spec := "fnExactPriceFor", unfollowed := true, recurses := true, apart := false, narrowed := true }
def FnExactPriceForUptoSaid : Prop := fnExactPriceForUptoRow.holds Try.pinned (OpenSpec.upto fnExactPriceForSpec)

/-- 'laws.FnExactHeaviestWithin', WHERE WHAT IT READS IS OF BULK AT MOST 1048576: true; the input reads as it did. -/
def fnExactHeaviestWithinUptoRow : OpenClaim := { program := "ytjmdbpmlphhinaa", sum := "04d65b0f7fd45c44cb6634df527fb13c0a0cb5cdcb8480fce1fb1b043029e4f8", func := "loop.example/g01046/laws.FnExactHeaviestWithin", spec := "fnExactHeaviestWithin", unfollowed := true, recurses := true, apart := false, narrowed := true }
def FnExactHeaviestWithinUptoSaid : Prop := fnExactHeaviestWithinUptoRow.holds Try.pinned (OpenSpec.upto fnExactHeaviestWithinSpec)

/-- 'laws.FnExactFarthestWithin', WHERE WHAT IT READS IS OF BULK AT MOST 1048576: true; the input reads as it did. -/
def fnExactFarthestWithinUptoRow : OpenClaim := { program := "ytjmdbpmlphhinaa", sum := "04d65b0f7fd45c44cb6634df527fb13c0a0cb5cdcb8480fce1fb1b043029e4f8", func := "loop.example/g01046/laws.FnExactFarthestWithin", spec := "fnExactFarthestWithin", unfollowed := true, recurses := true, apart := false, narrowed := true }
def FnExactFarthestWithinUptoSaid : Prop := fnExactFarthestWithinUptoRow.holds Try.pinned (OpenSpec.upto fnExactFarthestWithinSpec)

/-- 'laws.FnExactSplitLoad', WHERE WHAT IT READS IS OF BULK AT MOST 1048576: true; the input reads as it did. -/
def fnExactSplitLoadUptoRow : OpenClaim := { program := "ytjmdbpmlphhinaa", sum := "04d65b0f7fd45c44cb6634df527fb13c0a0cb5cdcb8480fce1fb1b043029e4f8", func := "loop.example/g01046/laws.FnExactSplitLoad", spec := "fnExactSplitLoad", unfollowed := true, recurses := true, apart := false, narrowed := true }
def FnExactSplitLoadUptoSaid : Prop := fnExactSplitLoadUptoRow.holds Try.pinned (OpenSpec.upto fnExactSplitLoadSpec)

/-- 'laws.FnExactCheapestTariff', WHERE WHAT IT READS IS OF BULK AT MOST 1048576: true; the input reads as it did. -/
def fnExactCheapestTariffUptoRow : OpenClaim := { program := "ytjmdbpmlphhinaa", sum := "04d65b0f7fd45c44cb6634df527fb13c0a0cb5cdcb8480fce1fb1b043029e4f8", func := "loop.example/g01046/laws.FnExactCheapestTariff", spec := "fnExactCheapestTariff", unfollowed := true, recurses := true, apart := false, narrowed := true }
def FnExactCheapestTariffUptoSaid : Prop := fnExactCheapestTariffUptoRow.holds Try.pinned (OpenSpec.upto fnExactCheapestTariffSpec)

/-- 'laws.FnLoads', WHERE WHAT IT READS IS OF BULK AT MOST 1048576: true; the input reads as it did. -/
def fnLoadsUptoRow : OpenClaim := { program := "ytjmdbpmlphhinaa", sum := "04d65b0f7fd45c44cb6634df527fb13c0a0cb5cdcb8480fce1fb1b043029e4f8", func := "loop.example/g01046/laws.FnLoads", spec := "fnLoads", unfollowed := true, recurses := true, apart := false, narrowed := true }
def FnLoadsUptoSaid : Prop := fnLoadsUptoRow.holds Try.pinned (OpenSpec.upto fnLoadsSpec)

end Rows
end Go.Proofs.Ytjmdbpmlphhinaa
