/-
  No cell of these rows narrows 'for every input' (looked for: loops, veiled, ifaces, maps, wideKeys, modest, calm, conditions, laid).
  DERIVED. THE GIVEN ROWS OF THIS SEAT. 9 by the template 'for every input the law returns true; each argument reads behind the call as it read before'; 0 by the template 'total and deterministic' (their statements: YthlnkniofpapmaaTotals.lean).
  GIVEN WITH THE SEED: the statements are not yours to turn. If you find one false, say at which input.
  Laid BY PROGRAM, IN A SANDBOX (cutbox-rows.mjs): the forced cells as the released guide's own fill.sh prints them over the translation 0ad0e843198cce19… (all of the seat's roots in one cut). By AI agents, Wed Nov 11 2026. No macro, syntax, notation, axiom, sorry.
-/
import Derived.Test.YthlnkniofpapmaaChecked
import GoSem.Claim
import GoSem.ClaimJoined
import GoSem.ClaimMapViews
import Derived.JoinedTies
import Derived.KernelRfl
namespace Go.Proofs.Ythlnkniofpapmaa
/- THE CELL 'sum', in the pinned program and in every row, IS THE sha256 OF THE DUMP (.gsa) THAT YthlnkniofpapmaaProg.lean LOADS. Nothing in Lean hashes anything: it is a label: what it is worth is what the hold of that sum in a sandbox is worth. -/
noncomputable def Try.pinned : Pinned := { name := "ythlnkniofpapmaa", sum := "0ad0e843198cce19726e85394fec3e9b92b33183c36915919800d9a677150fb5", checked := Try.checked }
namespace Rows
def none {H : Type} : Left H := { results := [], args := [] }

/-- 'laws.FnExactValidScheme': WHATEVER THE INPUT: true; the input reads as it did. -/
def fnExactValidSchemeSpec : ChangeSpec := { name := "fnExactValidScheme", fn := fun _ => fun
  | [d] => { results := [.lit (.bool true)], args := [d] }
  | _ => none }
def fnExactValidSchemeRow : OpenClaim := { program := "ythlnkniofpapmaa", sum := "0ad0e843198cce19726e85394fec3e9b92b33183c36915919800d9a677150fb5", func := "loop.example/g01046/laws.FnExactValidScheme", spec := "fnExactValidScheme", unfollowed := true, recurses := true, apart := false }
def FnExactValidSchemeSaid : Prop := fnExactValidSchemeRow.holds Try.pinned (OpenSpec.ofChange fnExactValidSchemeSpec)

/-- ITS FALSE NEIGHBOUR: 'it returns false'. Refute it at one input. -/
def fnExactValidSchemeWrong : ChangeSpec := { name := "fnExactValidScheme", fn := fun _ => fun
  | [d] => { results := [.lit (.bool false)], args := [d] }
  | _ => none }
def FnExactValidSchemeWrongFalsely : Prop := fnExactValidSchemeRow.holds Try.pinned (OpenSpec.ofChange fnExactValidSchemeWrong)

/-- 'laws.FnExactMetresOf': WHATEVER THE INPUT: true; the input reads as it did. -/
def fnExactMetresOfSpec : ChangeSpec := { name := "fnExactMetresOf", fn := fun _ => fun
  | [d] => { results := [.lit (.bool true)], args := [d] }
  | _ => none }
def fnExactMetresOfRow : OpenClaim := { program := "ythlnkniofpapmaa", sum := "0ad0e843198cce19726e85394fec3e9b92b33183c36915919800d9a677150fb5", func := "loop.example/g01046/laws.FnExactMetresOf", spec := "fnExactMetresOf", unfollowed := true, recurses := true, apart := false }
def FnExactMetresOfSaid : Prop := fnExactMetresOfRow.holds Try.pinned (OpenSpec.ofChange fnExactMetresOfSpec)

/-- ITS FALSE NEIGHBOUR: 'it returns false'. Refute it at one input. -/
def fnExactMetresOfWrong : ChangeSpec := { name := "fnExactMetresOf", fn := fun _ => fun
  | [d] => { results := [.lit (.bool false)], args := [d] }
  | _ => none }
def FnExactMetresOfWrongFalsely : Prop := fnExactMetresOfRow.holds Try.pinned (OpenSpec.ofChange fnExactMetresOfWrong)

/-- 'laws.FnExactOneWays': WHATEVER THE INPUT: true; the input reads as it did. -/
def fnExactOneWaysSpec : ChangeSpec := { name := "fnExactOneWays", fn := fun _ => fun
  | [d] => { results := [.lit (.bool true)], args := [d] }
  | _ => none }
def fnExactOneWaysRow : OpenClaim := { program := "ythlnkniofpapmaa", sum := "0ad0e843198cce19726e85394fec3e9b92b33183c36915919800d9a677150fb5", func := "loop.example/g01046/laws.FnExactOneWays", spec := "fnExactOneWays", unfollowed := true, recurses := true, apart := false }
def FnExactOneWaysSaid : Prop := fnExactOneWaysRow.holds Try.pinned (OpenSpec.ofChange fnExactOneWaysSpec)

/-- ITS FALSE NEIGHBOUR: 'it returns false'. Refute it at one input. -/
def fnExactOneWaysWrong : ChangeSpec := { name := "fnExactOneWays", fn := fun _ => fun
  | [d] => { results := [.lit (.bool false)], args := [d] }
  | _ => none }
def FnExactOneWaysWrongFalsely : Prop := fnExactOneWaysRow.holds Try.pinned (OpenSpec.ofChange fnExactOneWaysWrong)

/-- 'laws.FnExactDeadEnds': WHATEVER THE INPUT: true; the input reads as it did. -/
def fnExactDeadEndsSpec : ChangeSpec := { name := "fnExactDeadEnds", fn := fun _ => fun
  | [d] => { results := [.lit (.bool true)], args := [d] }
  | _ => none }
def fnExactDeadEndsRow : OpenClaim := { program := "ythlnkniofpapmaa", sum := "0ad0e843198cce19726e85394fec3e9b92b33183c36915919800d9a677150fb5", func := "loop.example/g01046/laws.FnExactDeadEnds", spec := "fnExactDeadEnds", unfollowed := true, recurses := true, apart := false }
def FnExactDeadEndsSaid : Prop := fnExactDeadEndsRow.holds Try.pinned (OpenSpec.ofChange fnExactDeadEndsSpec)

/-- ITS FALSE NEIGHBOUR: 'it returns false'. Refute it at one input. -/
def fnExactDeadEndsWrong : ChangeSpec := { name := "fnExactDeadEnds", fn := fun _ => fun
  | [d] => { results := [.lit (.bool false)], args := [d] }
  | _ => none }
def FnExactDeadEndsWrongFalsely : Prop := fnExactDeadEndsRow.holds Try.pinned (OpenSpec.ofChange fnExactDeadEndsWrong)

/-- 'laws.FnExactLonelyStations': WHATEVER THE INPUT: true; the input reads as it did. -/
def fnExactLonelyStationsSpec : ChangeSpec := { name := "fnExactLonelyStations", fn := fun _ => fun
  | [d] => { results := [.lit (.bool true)], args := [d] }
  | _ => none }
def fnExactLonelyStationsRow : OpenClaim := { program := "ythlnkniofpapmaa", sum := "0ad0e843198cce19726e85394fec3e9b92b33183c36915919800d9a677150fb5", func := "loop.example/g01046/laws.FnExactLonelyStations", spec := "fnExactLonelyStations", unfollowed := true, recurses := true, apart := false }
def FnExactLonelyStationsSaid : Prop := fnExactLonelyStationsRow.holds Try.pinned (OpenSpec.ofChange fnExactLonelyStationsSpec)

/-- ITS FALSE NEIGHBOUR: 'it returns false'. Refute it at one input. -/
def fnExactLonelyStationsWrong : ChangeSpec := { name := "fnExactLonelyStations", fn := fun _ => fun
  | [d] => { results := [.lit (.bool false)], args := [d] }
  | _ => none }
def FnExactLonelyStationsWrongFalsely : Prop := fnExactLonelyStationsRow.holds Try.pinned (OpenSpec.ofChange fnExactLonelyStationsWrong)

/-- 'laws.FnExactWaysFromName': WHATEVER THE INPUT: true; the input reads as it did. -/
def fnExactWaysFromNameSpec : ChangeSpec := { name := "fnExactWaysFromName", fn := fun _ => fun
  | [d1, d2] => { results := [.lit (.bool true)], args := [d1, d2] }
  | _ => none }
def fnExactWaysFromNameRow : OpenClaim := { program := "ythlnkniofpapmaa", sum := "0ad0e843198cce19726e85394fec3e9b92b33183c36915919800d9a677150fb5", func := "loop.example/g01046/laws.FnExactWaysFromName", spec := "fnExactWaysFromName", unfollowed := true, recurses := true, apart := false }
def FnExactWaysFromNameSaid : Prop := fnExactWaysFromNameRow.holds Try.pinned (OpenSpec.ofChange fnExactWaysFromNameSpec)

/-- ITS FALSE NEIGHBOUR: 'it returns false'. Refute it at one input. -/
def fnExactWaysFromNameWrong : ChangeSpec := { name := "fnExactWaysFromName", fn := fun _ => fun
  | [d1, d2] => { results := [.lit (.bool false)], args := [d1, d2] }
  | _ => none }
def FnExactWaysFromNameWrongFalsely : Prop := fnExactWaysFromNameRow.holds Try.pinned (OpenSpec.ofChange fnExactWaysFromNameWrong)

/-- 'laws.FnExactDropStation': WHATEVER THE INPUT: true; the input reads as it did. -/
def fnExactDropStationSpec : ChangeSpec := { name := "fnExactDropStation", fn := fun _ => fun
  | [d1, d2] => { results := [.lit (.bool true)], args := [d1, d2] }
  | _ => none }
def fnExactDropStationRow : OpenClaim := { program := "ythlnkniofpapmaa", sum := "0ad0e843198cce19726e85394fec3e9b92b33183c36915919800d9a677150fb5", func := "loop.example/g01046/laws.FnExactDropStation", spec := "fnExactDropStation", unfollowed := true, recurses := true, apart := false }
def FnExactDropStationSaid : Prop := fnExactDropStationRow.holds Try.pinned (OpenSpec.ofChange fnExactDropStationSpec)

/-- ITS FALSE NEIGHBOUR: 'it returns false'. Refute it at one input. -/
def fnExactDropStationWrong : ChangeSpec := { name := "fnExactDropStation", fn := fun _ => fun
  | [d1, d2] => { results := [.lit (.bool false)], args := [d1, d2] }
  | _ => none }
def FnExactDropStationWrongFalsely : Prop := fnExactDropStationRow.holds Try.pinned (OpenSpec.ofChange fnExactDropStationWrong)

/-- 'laws.FnExactRenameStation': WHATEVER THE INPUT: true; the input reads as it did. -/
def fnExactRenameStationSpec : ChangeSpec := { name := "fnExactRenameStation", fn := fun _ => fun
  | [d1, d2, d3] => { results := [.lit (.bool true)], args := [d1, d2, d3] }
  | _ => none }
def fnExactRenameStationRow : OpenClaim := { program := "ythlnkniofpapmaa", sum := "0ad0e843198cce19726e85394fec3e9b92b33183c36915919800d9a677150fb5", func := "loop.example/g01046/laws.FnExactRenameStation", spec := "fnExactRenameStation", unfollowed := true, recurses := true, apart := false }
def FnExactRenameStationSaid : Prop := fnExactRenameStationRow.holds Try.pinned (OpenSpec.ofChange fnExactRenameStationSpec)

/-- ITS FALSE NEIGHBOUR: 'it returns false'. Refute it at one input. -/
def fnExactRenameStationWrong : ChangeSpec := { name := "fnExactRenameStation", fn := fun _ => fun
  | [d1, d2, d3] => { results := [.lit (.bool false)], args := [d1, d2, d3] }
  | _ => none }
def FnExactRenameStationWrongFalsely : Prop := fnExactRenameStationRow.holds Try.pinned (OpenSpec.ofChange fnExactRenameStationWrong)

/-- 'laws.FnStationsNamed': WHATEVER THE INPUT: true; the input reads as it did. -/
def fnStationsNamedSpec : ChangeSpec := { name := "fnStationsNamed", fn := fun _ => fun
  | [d] => { results := [.lit (.bool true)], args := [d] }
  | _ => none }
def fnStationsNamedRow : OpenClaim := { program := "ythlnkniofpapmaa", sum := "0ad0e843198cce19726e85394fec3e9b92b33183c36915919800d9a677150fb5", func := "loop.example/g01046/laws.FnStationsNamed", spec := "fnStationsNamed", unfollowed := true, recurses := true, apart := false }
def FnStationsNamedSaid : Prop := fnStationsNamedRow.holds Try.pinned (OpenSpec.ofChange fnStationsNamedSpec)

/-- ITS FALSE NEIGHBOUR: 'it returns false'. Refute it at one input. -/
def fnStationsNamedWrong : ChangeSpec := { name := "fnStationsNamed", fn := fun _ => fun
  | [d] => { results := [.lit (.bool false)], args := [d] }
  | _ => none }
def FnStationsNamedWrongFalsely : Prop := fnStationsNamedRow.holds Try.pinned (OpenSpec.ofChange fnStationsNamedWrong)

/- THE SECOND FORM. 'bulk': how many values and letters a reading holds, each counted each time it is reached (what is shared counts as often as it is met; a slice's spare places count too). A statement '..UptoSaid' is the law's where the arguments, and the package variables that the reading takes, are together of bulk at most 1048576: NARROWER than '..Said'. Prove '..Said' where nothing that the law and all that it calls make is longer than what came in: it says more and counts as full. Else prove '..UptoSaid'. A law counts once. -/
mutual
def uptoBulk {H : Type} : DataW H → Nat
  | .lit (.string bytes) => bytes.length + 1
  | .lit _ => 1
  | .nil => 1
  | .ptr d => uptoBulk d + 1
  | .slice elems spare => uptoBulkAll elems + uptoBulkAll spare + 1
  | .agg parts => uptoBulkAll parts + 1
  | .iface _ d => uptoBulk d + 1
  | .map entries => uptoBulkEntries entries + 1
  | .held _ => 1
def uptoBulkAll {H : Type} : List (DataW H) → Nat
  | [] => 0
  | d :: r => uptoBulk d + uptoBulkAll r
def uptoBulkEntries {H : Type} : List (Lit × DataW H) → Nat
  | [] => 0
  | x :: r => uptoBulkEntry x + uptoBulkEntries r
def uptoBulkEntry {H : Type} : Lit × DataW H → Nat
  | (.string bytes, d) => bytes.length + uptoBulk d + 1
  | (_, d) => uptoBulk d + 1
 end
def uptoSmall : (H : Type) → List (DataW H) → Bool := fun _ ds => decide (uptoBulkAll ds ≤ 1048576)
def OpenSpec.upto (s : _root_.Go.ChangeSpec) : _root_.Go.OpenSpec := { _root_.Go.OpenSpec.ofChange s with cond := some uptoSmall }

/-- 'laws.FnExactValidScheme', WHERE WHAT IT READS IS OF BULK AT MOST 1048576: true; the input reads as it did. -/
def fnExactValidSchemeUptoRow : OpenClaim := { program := "ythlnkniofpapmaa", sum := "0ad0e843198cce19726e85394fec3e9b92b33183c36915919800d9a677150fb5", func := "loop.example/g01046/laws.FnExactValidScheme", spec := "fnExactValidScheme", unfollowed := true, recurses := true, apart := false, narrowed := true }
def FnExactValidSchemeUptoSaid : Prop := fnExactValidSchemeUptoRow.holds Try.pinned (OpenSpec.upto fnExactValidSchemeSpec)

/-- 'laws.FnExactMetresOf', WHERE WHAT IT READS IS OF BULK AT MOST 1048576: true; the input reads as it did. -/
def fnExactMetresOfUptoRow : OpenClaim := { program := "ythlnkniofpapmaa", sum := "0ad0e843198cce19726e85394fec3e9b92b33183c36915919800d9a677150fb5", func := "loop.example/g01046/laws.FnExactMetresOf", spec := "fnExactMetresOf", unfollowed := true, recurses := true, apart := false, narrowed := true }
def FnExactMetresOfUptoSaid : Prop := fnExactMetresOfUptoRow.holds Try.pinned (OpenSpec.upto fnExactMetresOfSpec)

/-- 'laws.FnExactOneWays', WHERE WHAT IT READS IS OF BULK AT MOST 1048576: true; the input reads as it did. -/
def fnExactOneWaysUptoRow : OpenClaim := { program := "ythlnkniofpapmaa", sum := "0ad0e843198cce19726e85394fec3e9b92b33183c36915919800d9a677150fb5", func := "loop.example/g01046/laws.FnExactOneWays", spec := "fnExactOneWays", unfollowed := true, recurses := true, apart := false, narrowed := true }
def FnExactOneWaysUptoSaid : Prop := fnExactOneWaysUptoRow.holds Try.pinned (OpenSpec.upto fnExactOneWaysSpec)

/-- 'laws.FnExactDeadEnds', WHERE WHAT IT READS IS OF BULK AT MOST 1048576: true; the input reads as it did. -/
def fnExactDeadEndsUptoRow : OpenClaim := { program := "ythlnkniofpapmaa", sum := "0ad0e843198cce19726e85394fec3e9b92b33183c36915919800d9a677150fb5", func := "loop.example/g01046/laws.FnExactDeadEnds", spec := "fnExactDeadEnds", unfollowed := true, recurses := true, apart := false, narrowed := true }
def FnExactDeadEndsUptoSaid : Prop := fnExactDeadEndsUptoRow.holds Try.pinned (OpenSpec.upto fnExactDeadEndsSpec)

/-- 'laws.FnExactLonelyStations', WHERE WHAT IT READS IS OF BULK AT MOST 1048576: true; the input reads as it did. -/
def fnExactLonelyStationsUptoRow : OpenClaim := { program := "ythlnkniofpapmaa", sum := "0ad0e843198cce19726e85394fec3e9b92b33183c36915919800d9a677150fb5", func := "loop.example/g01046/laws.FnExactLonelyStations", spec := "fnExactLonelyStations", unfollowed := true, recurses := true, apart := false, narrowed := true }
def FnExactLonelyStationsUptoSaid : Prop := fnExactLonelyStationsUptoRow.holds Try.pinned (OpenSpec.upto fnExactLonelyStationsSpec)

/-- 'laws.FnExactWaysFromName', WHERE WHAT IT READS IS OF BULK AT MOST 1048576: true; the input reads as it did. -/
def fnExactWaysFromNameUptoRow : OpenClaim := { program := "ythlnkniofpapmaa", sum := "0ad0e843198cce19726e85394fec3e9b92b33183c36915919800d9a677150fb5", func := "loop.example/g01046/laws.FnExactWaysFromName", spec := "fnExactWaysFromName", unfollowed := true, recurses := true, apart := false, narrowed := true }
def FnExactWaysFromNameUptoSaid : Prop := fnExactWaysFromNameUptoRow.holds Try.pinned (OpenSpec.upto fnExactWaysFromNameSpec)

/-- 'laws.FnExactDropStation', WHERE WHAT IT READS IS OF BULK AT MOST 1048576: true; the input reads as it did. -/
def fnExactDropStationUptoRow : OpenClaim := { program := "ythlnkniofpapmaa", sum := "0ad0e843198cce19726e85394fec3e9b92b33183c36915919800d9a677150fb5", func := "loop.example/g01046/laws.FnExactDropStation", spec := "fnExactDropStation", unfollowed := true, recurses := true, apart := false, narrowed := true }
def FnExactDropStationUptoSaid : Prop := fnExactDropStationUptoRow.holds Try.pinned (OpenSpec.upto fnExactDropStationSpec)

/-- 'laws.FnExactRenameStation', WHERE WHAT IT READS IS OF BULK AT MOST 1048576: true; the input reads as it did. -/
def fnExactRenameStationUptoRow : OpenClaim := { program := "ythlnkniofpapmaa", sum := "0ad0e843198cce19726e85394fec3e9b92b33183c36915919800d9a677150fb5", func := "loop.example/g01046/laws.FnExactRenameStation", spec := "fnExactRenameStation", unfollowed := true, recurses := true, apart := false, narrowed := true }
def FnExactRenameStationUptoSaid : Prop := fnExactRenameStationUptoRow.holds Try.pinned (OpenSpec.upto fnExactRenameStationSpec)

/-- 'laws.FnStationsNamed', WHERE WHAT IT READS IS OF BULK AT MOST 1048576: true; the input reads as it did. -/
def fnStationsNamedUptoRow : OpenClaim := { program := "ythlnkniofpapmaa", sum := "0ad0e843198cce19726e85394fec3e9b92b33183c36915919800d9a677150fb5", func := "loop.example/g01046/laws.FnStationsNamed", spec := "fnStationsNamed", unfollowed := true, recurses := true, apart := false, narrowed := true }
def FnStationsNamedUptoSaid : Prop := fnStationsNamedUptoRow.holds Try.pinned (OpenSpec.upto fnStationsNamedSpec)

end Rows
end Go.Proofs.Ythlnkniofpapmaa
