/-
  ValidScheme, MetresOf: both sides. No condition.
-/
import Derived.Test.YtmanbpobdaamfaaSVal
import Derived.Test.YtmanbpobdaamfaaSValS
namespace Go.Proofs.Ytmanbpobdaamfaa
open Go.RowKit
set_option maxHeartbeats 400000

theorem implValidScheme_any (s : SV) (x : Sch) (w : World) (B : Nat) (hB : B ≤ w.heap.size) (hn : s.n1 ≤ 2000000 ∧ s.n2 ≤ 2000000 ∧ s.n3 ≤ 2000000) (hx : SlX w B s x) (hz : Hid (BigX x)) :
    Calls Try.prog 32 #[s.v] w fun r w' => r = .returned (.bool (validX x)) ∧ Below w.heap.size w w' := implValid_any s x w B hB hn hx hz
end Go.Proofs.Ytmanbpobdaamfaa
