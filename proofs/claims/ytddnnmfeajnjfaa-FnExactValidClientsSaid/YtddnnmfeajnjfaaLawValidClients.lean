/-
  The statement on ValidClients, walked. No condition.
-/
import Derived.Test.YtddnnmfeajnjfaaClients2
namespace Go.Proofs.Ytddnnmfeajnjfaa
open Go.RowKit
set_option maxHeartbeats 400000


set_option maxHeartbeats 2000000 in
set_option maxRecDepth 100000 in
theorem FnExactValidClients_walk (A : Option Addr) (n c : Nat) (xs : List Client) (w : World) (hn : n ≤ 9223372036854775807) (hx : Sl w w.heap.size 5 encClient A n xs) (hz : Hid (∀ x ∈ xs, x.name.size ≤ 9223372036854775807)) :
    Calls Try.prog 4 #[.slice A n c] w fun r w' => r = .returned (.bool true) ∧ Below w.heap.size w w' := by
  have hs1 := szClientS_any A n c xs 1048576 w w.heap.size (Nat.le_refl _) hn (by omega) (by omega) hx hz
  by_cases g1 : (1048576 : Int) < ((n + totClient xs : Nat) : Int)
  · rw [szF_no g1] at hs1
    clear hx
    go_enter Try.func4, Try.ntmps4
    go_wp2_with fail
    refine hs1.mono ?_
    rintro r w1 ⟨rfl, b1⟩
    go_wp2_with fail
    go_ret
    exact ⟨rfl, b1⟩
  have hv : ∃ v, szF 1048576 (n + totClient xs) = v ∧ 0 ≤ v := ⟨_, rfl, by rw [szF_yes (by omega)]; omega⟩
  obtain ⟨v, hv, v0⟩ := hv
  rw [hv] at hs1
  have hnn : n ≤ 2000000 := by omega
  clear hv
  generalize hq : validCs xs = q
  have HS := fun (A : Option Addr) (n c : Nat) (W : World) h1 h2 h3 => by have := specValidClients_any A n c xs W W.heap.size h1 h2 h3 hz; rw [hq] at this; exact this
  have HI := fun (A : Option Addr) (n c : Nat) (W : World) h1 h2 h3 => by have := implValidClients_any A n c xs W W.heap.size h1 h2 h3 hz; rw [hq] at this; exact this
  clear hq
  go_enter Try.func4, Try.ntmps4
  go_wp2_with fail
  refine (hs1).mono ?_
  rintro r w1 ⟨rfl, b1⟩
  have z1 := b1.size
  have e1 := b1
  clear b1
  go_wp2_with fail
  refine (toClientS_any A n c xs _ _ e1.size (by omega) (hx.below e1)).mono ?_
  rintro r w2 ⟨ga, rfl, oa, b2⟩
  have z2 := b2.size
  have e2 := e1.trans (b2.mono e1.size)
  clear b2 e1
  go_wp2_with fail
  refine (HS _ _ _ _ (Nat.le_refl _) (by omega) (own_sl encClient_len (by omega) oa)).mono ?_
  rintro r w3 ⟨rfl, b3⟩
  replace oa := own_below oa b3
  have z3 := b3.size
  have e3 := e2.trans (b3.mono e2.size)
  clear b3 e2
  clear oa
  go_wp2_with fail
  refine (toClientS_any A n c xs _ _ e3.size (by omega) (hx.below e3)).mono ?_
  rintro r w4 ⟨gx, rfl, ox, b4⟩
  have z4 := b4.size
  have e4 := e3.trans (b4.mono e3.size)
  clear b4 e3
  go_wp2_with fail
  refine (HI _ _ _ _ (Nat.le_refl _) (by omega) (own_sl encClient_len (by omega) ox)).mono ?_
  rintro r w5 ⟨rfl, b5⟩
  replace ox := own_below ox b5
  have z5 := b5.size
  have e5 := e4.trans (b5.mono e4.size)
  clear b5 e4
  go_wp2_with fail
  refine (toClientS_any A n c xs _ _ e5.size (by omega) (hx.below e5)).mono ?_
  rintro r w6 ⟨gp, rfl, op, b6⟩
  replace ox := own_below ox b6
  have z6 := b6.size
  have e6 := e5.trans (b6.mono e5.size)
  clear b6 e5
  go_wp2_with fail
  refine (eqClientS_yes _ _ _ _ _ _ _ _ (Nat.le_refl _) _ (by omega) (own_sl encClient_len (by omega) ox) (own_sl encClient_len (by omega) op)).mono ?_
  rintro r w7 ⟨rfl, b7⟩
  replace ox := own_below ox b7
  replace op := own_below op b7
  have z7 := b7.size
  have e7 := e6.trans (b7.mono e6.size)
  clear b7 e6
  clear op
  go_wp2_with fail
  go_ret
  exact ⟨rfl, e7⟩
end Go.Proofs.Ytddnnmfeajnjfaa
