/-
  No cell of these rows narrows 'for every input' (looked for: loops, veiled, ifaces, maps, wideKeys, modest, calm, conditions, laid).
  DERIVED. THE GIVEN ROWS OF THIS SEAT. 11 by the template 'for every input the law returns true; each argument reads behind the call as it read before'; 0 by the template 'total and deterministic' (their statements: YtfmlcoefohlanaaTotals.lean).
  GIVEN WITH THE SEED: the statements are not yours to turn. If you find one false, say at which input.
  Laid BY PROGRAM, IN A SANDBOX (cutbox-rows.mjs): the forced cells as the released guide's own fill.sh prints them over the translation dee80ef21de7fd9b… (all of the seat's roots in one cut). By AI agents, Wed Nov 11 2026. No macro, syntax, notation, axiom, sorry.
-/
import Derived.Test.YtfmlcoefohlanaaChecked
import GoSem.Claim
import GoSem.ClaimJoined
import GoSem.ClaimMapViews
import Derived.JoinedTies
import Derived.KernelRfl
namespace Go.Proofs.Ytfmlcoefohlanaa
/- THE CELL 'sum', in the pinned program and in every row, IS THE sha256 OF THE DUMP (.gsa) THAT YtfmlcoefohlanaaProg.lean LOADS. Nothing in Lean hashes anything: it is a label: what it is worth is what the hold of that sum in a sandbox is worth. -/
noncomputable def Try.pinned : Pinned := { name := "ytfmlcoefohlanaa", sum := "dee80ef21de7fd9bd59058ae39ef913b7ef7984ba4d13f1b248f84d86b46a9b1", checked := Try.checked }
namespace Rows
def none {H : Type} : Left H := { results := [], args := [] }

/-- 'laws.FnExactValidQueue': WHATEVER THE INPUT: true; the input reads as it did. -/
def fnExactValidQueueSpec : ChangeSpec := { name := "fnExactValidQueue", fn := fun _ => fun
  | [d] => { results := [.lit (.bool true)], args := [d] }
  | _ => none }
def fnExactValidQueueRow : OpenClaim := { program := "ytfmlcoefohlanaa", sum := "dee80ef21de7fd9bd59058ae39ef913b7ef7984ba4d13f1b248f84d86b46a9b1", func := "loop.example/g01046/laws.FnExactValidQueue", spec := "fnExactValidQueue", unfollowed := true, recurses := true, apart := false }
def FnExactValidQueueSaid : Prop := fnExactValidQueueRow.holds Try.pinned (OpenSpec.ofChange fnExactValidQueueSpec)

/-- ITS FALSE NEIGHBOUR: 'it returns false'. Refute it at one input. -/
def fnExactValidQueueWrong : ChangeSpec := { name := "fnExactValidQueue", fn := fun _ => fun
  | [d] => { results := [.lit (.bool false)], args := [d] }
  | _ => none }
def FnExactValidQueueWrongFalsely : Prop := fnExactValidQueueRow.holds Try.pinned (OpenSpec.ofChange fnExactValidQueueWrong)

/-- 'laws.FnQueues': WHATEVER THE INPUT: true; the input reads as it did. -/
def fnQueuesSpec : ChangeSpec := { name := "fnQueues", fn := fun _ => fun
  | [d] => { results := [.lit (.bool true)], args := [d] }
  | _ => none }
def fnQueuesRow : OpenClaim := { program := "ytfmlcoefohlanaa", sum := "dee80ef21de7fd9bd59058ae39ef913b7ef7984ba4d13f1b248f84d86b46a9b1", func := "loop.example/g01046/laws.FnQueues", spec := "fnQueues", unfollowed := true, recurses := true, apart := false }
def FnQueuesSaid : Prop := fnQueuesRow.holds Try.pinned (OpenSpec.ofChange fnQueuesSpec)

/-- ITS FALSE NEIGHBOUR: 'it returns false'. Refute it at one input. -/
def fnQueuesWrong : ChangeSpec := { name := "fnQueues", fn := fun _ => fun
  | [d] => { results := [.lit (.bool false)], args := [d] }
  | _ => none }
def FnQueuesWrongFalsely : Prop := fnQueuesRow.holds Try.pinned (OpenSpec.ofChange fnQueuesWrong)

/-- 'laws.FnAged': WHATEVER THE INPUT: true; the input reads as it did. -/
def fnAgedSpec : ChangeSpec := { name := "fnAged", fn := fun _ => fun
  | [d] => { results := [.lit (.bool true)], args := [d] }
  | _ => none }
def fnAgedRow : OpenClaim := { program := "ytfmlcoefohlanaa", sum := "dee80ef21de7fd9bd59058ae39ef913b7ef7984ba4d13f1b248f84d86b46a9b1", func := "loop.example/g01046/laws.FnAged", spec := "fnAged", unfollowed := true, recurses := true, apart := false }
def FnAgedSaid : Prop := fnAgedRow.holds Try.pinned (OpenSpec.ofChange fnAgedSpec)

/-- ITS FALSE NEIGHBOUR: 'it returns false'. Refute it at one input. -/
def fnAgedWrong : ChangeSpec := { name := "fnAged", fn := fun _ => fun
  | [d] => { results := [.lit (.bool false)], args := [d] }
  | _ => none }
def FnAgedWrongFalsely : Prop := fnAgedRow.holds Try.pinned (OpenSpec.ofChange fnAgedWrong)

/-- 'laws.FnExactIdleTicks': WHATEVER THE INPUT: true; the input reads as it did. -/
def fnExactIdleTicksSpec : ChangeSpec := { name := "fnExactIdleTicks", fn := fun _ => fun
  | [d] => { results := [.lit (.bool true)], args := [d] }
  | _ => none }
def fnExactIdleTicksRow : OpenClaim := { program := "ytfmlcoefohlanaa", sum := "dee80ef21de7fd9bd59058ae39ef913b7ef7984ba4d13f1b248f84d86b46a9b1", func := "loop.example/g01046/laws.FnExactIdleTicks", spec := "fnExactIdleTicks", unfollowed := true, recurses := true, apart := false }
def FnExactIdleTicksSaid : Prop := fnExactIdleTicksRow.holds Try.pinned (OpenSpec.ofChange fnExactIdleTicksSpec)

/-- ITS FALSE NEIGHBOUR: 'it returns false'. Refute it at one input. -/
def fnExactIdleTicksWrong : ChangeSpec := { name := "fnExactIdleTicks", fn := fun _ => fun
  | [d] => { results := [.lit (.bool false)], args := [d] }
  | _ => none }
def FnExactIdleTicksWrongFalsely : Prop := fnExactIdleTicksRow.holds Try.pinned (OpenSpec.ofChange fnExactIdleTicksWrong)

/-- 'laws.FnExactLongestQueue': WHATEVER THE INPUT: true; the input reads as it did. -/
def fnExactLongestQueueSpec : ChangeSpec := { name := "fnExactLongestQueue", fn := fun _ => fun
  | [d] => { results := [.lit (.bool true)], args := [d] }
  | _ => none }
def fnExactLongestQueueRow : OpenClaim := { program := "ytfmlcoefohlanaa", sum := "dee80ef21de7fd9bd59058ae39ef913b7ef7984ba4d13f1b248f84d86b46a9b1", func := "loop.example/g01046/laws.FnExactLongestQueue", spec := "fnExactLongestQueue", unfollowed := true, recurses := true, apart := false }
def FnExactLongestQueueSaid : Prop := fnExactLongestQueueRow.holds Try.pinned (OpenSpec.ofChange fnExactLongestQueueSpec)

/-- ITS FALSE NEIGHBOUR: 'it returns false'. Refute it at one input. -/
def fnExactLongestQueueWrong : ChangeSpec := { name := "fnExactLongestQueue", fn := fun _ => fun
  | [d] => { results := [.lit (.bool false)], args := [d] }
  | _ => none }
def FnExactLongestQueueWrongFalsely : Prop := fnExactLongestQueueRow.holds Try.pinned (OpenSpec.ofChange fnExactLongestQueueWrong)

/-- 'laws.FnExactServedOrder': WHATEVER THE INPUT: true; the input reads as it did. -/
def fnExactServedOrderSpec : ChangeSpec := { name := "fnExactServedOrder", fn := fun _ => fun
  | [d] => { results := [.lit (.bool true)], args := [d] }
  | _ => none }
def fnExactServedOrderRow : OpenClaim := { program := "ytfmlcoefohlanaa", sum := "dee80ef21de7fd9bd59058ae39ef913b7ef7984ba4d13f1b248f84d86b46a9b1", func := "loop.example/g01046/laws.FnExactServedOrder", spec := "fnExactServedOrder", unfollowed := true, recurses := true, apart := false }
def FnExactServedOrderSaid : Prop := fnExactServedOrderRow.holds Try.pinned (OpenSpec.ofChange fnExactServedOrderSpec)

/-- ITS FALSE NEIGHBOUR: 'it returns false'. Refute it at one input. -/
def fnExactServedOrderWrong : ChangeSpec := { name := "fnExactServedOrder", fn := fun _ => fun
  | [d] => { results := [.lit (.bool false)], args := [d] }
  | _ => none }
def FnExactServedOrderWrongFalsely : Prop := fnExactServedOrderRow.holds Try.pinned (OpenSpec.ofChange fnExactServedOrderWrong)

/-- 'laws.FnExactStartsOfQueue': WHATEVER THE INPUT: true; the input reads as it did. -/
def fnExactStartsOfQueueSpec : ChangeSpec := { name := "fnExactStartsOfQueue", fn := fun _ => fun
  | [d] => { results := [.lit (.bool true)], args := [d] }
  | _ => none }
def fnExactStartsOfQueueRow : OpenClaim := { program := "ytfmlcoefohlanaa", sum := "dee80ef21de7fd9bd59058ae39ef913b7ef7984ba4d13f1b248f84d86b46a9b1", func := "loop.example/g01046/laws.FnExactStartsOfQueue", spec := "fnExactStartsOfQueue", unfollowed := true, recurses := true, apart := false }
def FnExactStartsOfQueueSaid : Prop := fnExactStartsOfQueueRow.holds Try.pinned (OpenSpec.ofChange fnExactStartsOfQueueSpec)

/-- ITS FALSE NEIGHBOUR: 'it returns false'. Refute it at one input. -/
def fnExactStartsOfQueueWrong : ChangeSpec := { name := "fnExactStartsOfQueue", fn := fun _ => fun
  | [d] => { results := [.lit (.bool false)], args := [d] }
  | _ => none }
def FnExactStartsOfQueueWrongFalsely : Prop := fnExactStartsOfQueueRow.holds Try.pinned (OpenSpec.ofChange fnExactStartsOfQueueWrong)

/-- 'laws.FnExactAgedOrder': WHATEVER THE INPUT: true; the input reads as it did. -/
def fnExactAgedOrderSpec : ChangeSpec := { name := "fnExactAgedOrder", fn := fun _ => fun
  | [d1, d2] => { results := [.lit (.bool true)], args := [d1, d2] }
  | _ => none }
def fnExactAgedOrderRow : OpenClaim := { program := "ytfmlcoefohlanaa", sum := "dee80ef21de7fd9bd59058ae39ef913b7ef7984ba4d13f1b248f84d86b46a9b1", func := "loop.example/g01046/laws.FnExactAgedOrder", spec := "fnExactAgedOrder", unfollowed := true, recurses := true, apart := false }
def FnExactAgedOrderSaid : Prop := fnExactAgedOrderRow.holds Try.pinned (OpenSpec.ofChange fnExactAgedOrderSpec)

/-- ITS FALSE NEIGHBOUR: 'it returns false'. Refute it at one input. -/
def fnExactAgedOrderWrong : ChangeSpec := { name := "fnExactAgedOrder", fn := fun _ => fun
  | [d1, d2] => { results := [.lit (.bool false)], args := [d1, d2] }
  | _ => none }
def FnExactAgedOrderWrongFalsely : Prop := fnExactAgedOrderRow.holds Try.pinned (OpenSpec.ofChange fnExactAgedOrderWrong)

/-- 'laws.FnExactWaitsOfQueue': WHATEVER THE INPUT: true; the input reads as it did. -/
def fnExactWaitsOfQueueSpec : ChangeSpec := { name := "fnExactWaitsOfQueue", fn := fun _ => fun
  | [d] => { results := [.lit (.bool true)], args := [d] }
  | _ => none }
def fnExactWaitsOfQueueRow : OpenClaim := { program := "ytfmlcoefohlanaa", sum := "dee80ef21de7fd9bd59058ae39ef913b7ef7984ba4d13f1b248f84d86b46a9b1", func := "loop.example/g01046/laws.FnExactWaitsOfQueue", spec := "fnExactWaitsOfQueue", unfollowed := true, recurses := true, apart := false }
def FnExactWaitsOfQueueSaid : Prop := fnExactWaitsOfQueueRow.holds Try.pinned (OpenSpec.ofChange fnExactWaitsOfQueueSpec)

/-- ITS FALSE NEIGHBOUR: 'it returns false'. Refute it at one input. -/
def fnExactWaitsOfQueueWrong : ChangeSpec := { name := "fnExactWaitsOfQueue", fn := fun _ => fun
  | [d] => { results := [.lit (.bool false)], args := [d] }
  | _ => none }
def FnExactWaitsOfQueueWrongFalsely : Prop := fnExactWaitsOfQueueRow.holds Try.pinned (OpenSpec.ofChange fnExactWaitsOfQueueWrong)

/-- 'laws.FnExactOvertaken': WHATEVER THE INPUT: true; the input reads as it did. -/
def fnExactOvertakenSpec : ChangeSpec := { name := "fnExactOvertaken", fn := fun _ => fun
  | [d] => { results := [.lit (.bool true)], args := [d] }
  | _ => none }
def fnExactOvertakenRow : OpenClaim := { program := "ytfmlcoefohlanaa", sum := "dee80ef21de7fd9bd59058ae39ef913b7ef7984ba4d13f1b248f84d86b46a9b1", func := "loop.example/g01046/laws.FnExactOvertaken", spec := "fnExactOvertaken", unfollowed := true, recurses := true, apart := false }
def FnExactOvertakenSaid : Prop := fnExactOvertakenRow.holds Try.pinned (OpenSpec.ofChange fnExactOvertakenSpec)

/-- ITS FALSE NEIGHBOUR: 'it returns false'. Refute it at one input. -/
def fnExactOvertakenWrong : ChangeSpec := { name := "fnExactOvertaken", fn := fun _ => fun
  | [d] => { results := [.lit (.bool false)], args := [d] }
  | _ => none }
def FnExactOvertakenWrongFalsely : Prop := fnExactOvertakenRow.holds Try.pinned (OpenSpec.ofChange fnExactOvertakenWrong)

/-- 'laws.FnExactMeanWait': WHATEVER THE INPUT: true; the input reads as it did. -/
def fnExactMeanWaitSpec : ChangeSpec := { name := "fnExactMeanWait", fn := fun _ => fun
  | [d1, d2] => { results := [.lit (.bool true)], args := [d1, d2] }
  | _ => none }
def fnExactMeanWaitRow : OpenClaim := { program := "ytfmlcoefohlanaa", sum := "dee80ef21de7fd9bd59058ae39ef913b7ef7984ba4d13f1b248f84d86b46a9b1", func := "loop.example/g01046/laws.FnExactMeanWait", spec := "fnExactMeanWait", unfollowed := true, recurses := true, apart := false }
def FnExactMeanWaitSaid : Prop := fnExactMeanWaitRow.holds Try.pinned (OpenSpec.ofChange fnExactMeanWaitSpec)

/-- ITS FALSE NEIGHBOUR: 'it returns false'. Refute it at one input. -/
def fnExactMeanWaitWrong : ChangeSpec := { name := "fnExactMeanWait", fn := fun _ => fun
  | [d1, d2] => { results := [.lit (.bool false)], args := [d1, d2] }
  | _ => none }
def FnExactMeanWaitWrongFalsely : Prop := fnExactMeanWaitRow.holds Try.pinned (OpenSpec.ofChange fnExactMeanWaitWrong)

/- THE SECOND FORM. 'bulk': how many values and letters a reading holds, each counted each time it is reached (what is shared counts as often as it is met; a slice's spare places count too). A statement '..UptoSaid' is the law's where the arguments, and the package variables that the reading takes, are together of bulk at most 1048576: NARROWER than '..Said'. Prove '..Said' where nothing that the law and all that it calls make is longer than what came in: it says more and counts as full. Else prove '..UptoSaid'. A law counts once. -/
mutual
def uptoBulk {H : Type} : DataW H → Nat
  | .lit (.string bytes) => bytes.length + 1
  | .lit _ => 1
  | .nil => 1
  | .ptr d => uptoBulk d + 1
  | .slice elems spare => uptoBulkAll elems + uptoBulkAll spare + 1
  | .agg parts => uptoBulkAll parts + 1
  | .iface _ d => uptoBulk d + 1
  | .map entries => uptoBulkEntries entries + 1
  | .held _ => 1
def uptoBulkAll {H : Type} : List (DataW H) → Nat
  | [] => 0
  | d :: r => uptoBulk d + uptoBulkAll r
def uptoBulkEntries {H : Type} : List (Lit × DataW H) → Nat
  | [] => 0
  | x :: r => uptoBulkEntry x + uptoBulkEntries r
def uptoBulkEntry {H : Type} : Lit × DataW H → Nat
  | (.string bytes, d) => bytes.length + uptoBulk d + 1
  | (_, d) => uptoBulk d + 1
 end
def uptoSmall : (H : Type) → List (DataW H) → Bool := fun _ ds => decide (uptoBulkAll ds ≤ 1048576)
def OpenSpec.upto (s : _root_.Go.ChangeSpec) : _root_.Go.OpenSpec := { _root_.Go.OpenSpec.ofChange s with cond := some uptoSmall }

/-- 'laws.FnExactValidQueue', WHERE WHAT IT READS IS OF BULK AT MOST 1048576: true; the input reads as it did. -/
def fnExactValidQueueUptoRow : OpenClaim := { program := "ytfmlcoefohlanaa", sum := "dee80ef21de7fd9bd59058ae39ef913b7ef7984ba4d13f1b248f84d86b46a9b1", func := "loop.example/g01046/laws.FnExactValidQueue", spec := "fnExactValidQueue", unfollowed := true, recurses := true, apart := false, narrowed := true }
def FnExactValidQueueUptoSaid : Prop := fnExactValidQueueUptoRow.holds Try.pinned (OpenSpec.upto fnExactValidQueueSpec)

/-- 'laws.FnQueues', WHERE WHAT IT READS IS OF BULK AT MOST 1048576: true; the input reads as it did. -/
def fnQueuesUptoRow : OpenClaim := { program := "ytfmlcoefohlanaa", sum := "dee80ef21de7fd9bd59058ae39ef913b7ef7984ba4d13f1b248f84d86b46a9b1", func := "loop.example/g01046/laws.FnQueues", spec := "fnQueues", unfollowed := true, recurses := true, apart := false, narrowed := true }
def FnQueuesUptoSaid : Prop := fnQueuesUptoRow.holds Try.pinned (OpenSpec.upto fnQueuesSpec)

/-- 'laws.FnAged', WHERE WHAT IT READS IS OF BULK AT MOST 1048576: true; the input reads as it did. -/
def fnAgedUptoRow : OpenClaim := { program := "ytfmlcoefohlanaa", sum := "dee80ef21de7fd9bd59058ae39ef913b7ef7984ba4d13f1b248f84d86b46a9b1", func := "loop.example/g01046/laws.FnAged", spec := "fnAged", unfollowed := true, recurses := true, apart := false, narrowed := true }
def FnAgedUptoSaid : Prop := fnAgedUptoRow.holds Try.pinned (OpenSpec.upto fnAgedSpec)

/-- 'laws.FnExactIdleTicks', WHERE WHAT IT READS IS OF BULK AT MOST 1048576: true; the input reads as it did. -/
def fnExactIdleTicksUptoRow : OpenClaim := { program := "ytfmlcoefohlanaa", sum := "dee80ef21de7fd9bd59058ae39ef913b7ef7984ba4d13f1b248f84d86b46a9b1", func := "loop.example/g01046/laws.FnExactIdleTicks", spec := "fnExactIdleTicks", unfollowed := true, recurses := true, apart := false, narrowed := true }
def FnExactIdleTicksUptoSaid : Prop := fnExactIdleTicksUptoRow.holds Try.pinned (OpenSpec.upto fnExactIdleTicksSpec)

/-- 'laws.FnExactLongestQueue', WHERE WHAT IT READS IS OF BULK AT MOST 1048576: true; the input reads as it did. -/
def fnExactLongestQueueUptoRow : OpenClaim := { program := "ytfmlcoefohlanaa", sum := "dee80ef21de7fd9bd59058ae39ef913b7ef7984ba4d13f1b248f84d86b46a9b1", func := "loop.example/g01046/laws.FnExactLongestQueue", spec := "fnExactLongestQueue", unfollowed := true, recurses := true, apart := false, narrowed := true }
def FnExactLongestQueueUptoSaid : Prop := fnExactLongestQueueUptoRow.holds Try.pinned (OpenSpec.upto fnExactLongestQueueSpec)

/-- 'laws.FnExactServedOrder', WHERE WHAT IT READS IS OF BULK AT MOST 1048576: true; the input reads as it did. -/
def fnExactServedOrderUptoRow : OpenClaim := { program := "ytfmlcoefohlanaa", sum := "dee80ef21de7fd9bd59058ae39ef913b7ef7984ba4d13f1b248f84d86b46a9b1", func := "loop.example/g01046/laws.FnExactServedOrder", spec := "fnExactServedOrder", unfollowed := true, recurses := true, apart := false, narrowed := true }
def FnExactServedOrderUptoSaid : Prop := fnExactServedOrderUptoRow.holds Try.pinned (OpenSpec.upto fnExactServedOrderSpec)

/-- 'laws.FnExactStartsOfQueue', WHERE WHAT IT READS IS OF BULK AT MOST 1048576: true; the input reads as it did. -/
def fnExactStartsOfQueueUptoRow : OpenClaim := { program := "ytfmlcoefohlanaa", sum := "dee80ef21de7fd9bd59058ae39ef913b7ef7984ba4d13f1b248f84d86b46a9b1", func := "loop.example/g01046/laws.FnExactStartsOfQueue", spec := "fnExactStartsOfQueue", unfollowed := true, recurses := true, apart := false, narrowed := true }
def FnExactStartsOfQueueUptoSaid : Prop := fnExactStartsOfQueueUptoRow.holds Try.pinned (OpenSpec.upto fnExactStartsOfQueueSpec)

/-- 'laws.FnExactAgedOrder', WHERE WHAT IT READS IS OF BULK AT MOST 1048576: true; the input reads as it did. -/
def fnExactAgedOrderUptoRow : OpenClaim := { program := "ytfmlcoefohlanaa", sum := "dee80ef21de7fd9bd59058ae39ef913b7ef7984ba4d13f1b248f84d86b46a9b1", func := "loop.example/g01046/laws.FnExactAgedOrder", spec := "fnExactAgedOrder", unfollowed := true, recurses := true, apart := false, narrowed := true }
def FnExactAgedOrderUptoSaid : Prop := fnExactAgedOrderUptoRow.holds Try.pinned (OpenSpec.upto fnExactAgedOrderSpec)

/-- 'laws.FnExactWaitsOfQueue', WHERE WHAT IT READS IS OF BULK AT MOST 1048576: true; the input reads as it did. -/
def fnExactWaitsOfQueueUptoRow : OpenClaim := { program := "ytfmlcoefohlanaa", sum := "dee80ef21de7fd9bd59058ae39ef913b7ef7984ba4d13f1b248f84d86b46a9b1", func := "loop.example/g01046/laws.FnExactWaitsOfQueue", spec := "fnExactWaitsOfQueue", unfollowed := true, recurses := true, apart := false, narrowed := true }
def FnExactWaitsOfQueueUptoSaid : Prop := fnExactWaitsOfQueueUptoRow.holds Try.pinned (OpenSpec.upto fnExactWaitsOfQueueSpec)

/-- 'laws.FnExactOvertaken', WHERE WHAT IT READS IS OF BULK AT MOST 1048576: true; the input reads as it did. -/
def fnExactOvertakenUptoRow : OpenClaim := { program := "ytfmlcoefohlanaa", sum := "dee80ef21de7fd9bd59058ae39ef913b7ef7984ba4d13f1b248f84d86b46a9b1", func := "loop.example/g01046/laws.FnExactOvertaken", spec := "fnExactOvertaken", unfollowed := true, recurses := true, apart := false, narrowed := true }
def FnExactOvertakenUptoSaid : Prop := fnExactOvertakenUptoRow.holds Try.pinned (OpenSpec.upto fnExactOvertakenSpec)

/-- 'laws.FnExactMeanWait', WHERE WHAT IT READS IS OF BULK AT MOST 1048576: true; the input reads as it did. -/
def fnExactMeanWaitUptoRow : OpenClaim := { program := "ytfmlcoefohlanaa", sum := "dee80ef21de7fd9bd59058ae39ef913b7ef7984ba4d13f1b248f84d86b46a9b1", func := "loop.example/g01046/laws.FnExactMeanWait", spec := "fnExactMeanWait", unfollowed := true, recurses := true, apart := false, narrowed := true }
def FnExactMeanWaitUptoSaid : Prop := fnExactMeanWaitUptoRow.holds Try.pinned (OpenSpec.upto fnExactMeanWaitSpec)

end Rows
end Go.Proofs.Ytfmlcoefohlanaa
