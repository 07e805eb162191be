/-
  The statement on SameClients, walked. No condition.
-/
import Derived.Test.YtddnnmfeajnjfaaClients2
namespace Go.Proofs.Ytddnnmfeajnjfaa
open Go.RowKit
set_option maxHeartbeats 400000


set_option maxHeartbeats 2000000 in
set_option maxRecDepth 100000 in
theorem FnExactSameClients_walk (A : Option Addr) (n c : Nat) (xs : List Client) (A' : Option Addr) (n' c' : Nat) (ys : List Client) (w : World) (hn : n ≤ 9223372036854775807) (hn' : n' ≤ 9223372036854775807) (hx : Sl w w.heap.size 5 encClient A n xs) (hy : Sl w w.heap.size 5 encClient A' n' ys)
    (hz : Hid (∀ x ∈ xs, x.name.size ≤ 9223372036854775807)) (hz' : Hid (∀ x ∈ ys, x.name.size ≤ 9223372036854775807)) :
    Calls Try.prog 3 #[.slice A n c, .slice A' n' c'] w fun r w' => r = .returned (.bool true) ∧ Below w.heap.size w w' := by
  have hs1 := szClientS_any A n c xs 1048576 w w.heap.size (Nat.le_refl _) hn (by omega) (by omega) hx hz
  by_cases g1 : (1048576 : Int) < ((n + totClient xs : Nat) : Int)
  · rw [szF_no g1] at hs1
    clear hx hy
    go_enter Try.func3, Try.ntmps3
    go_wp2_with fail
    refine hs1.mono ?_
    rintro r w1 ⟨rfl, b1⟩
    go_wp2_with fail
    go_ret
    exact ⟨rfl, b1⟩
  have hv : ∃ v, szF 1048576 (n + totClient xs) = v ∧ 0 ≤ v ∧ v ≤ 1048576 := ⟨_, rfl, by rw [szF_yes (by omega)]; omega, by rw [szF_yes (by omega)]; omega⟩
  obtain ⟨v, hv, v0, v1⟩ := hv
  rw [hv] at hs1
  have hs2 := fun W h1 h2 => szClientS_any A' n' c' ys v W w.heap.size h1 hn' v0 v1 h2 hz'
  by_cases g2 : v < ((n' + totClient ys : Nat) : Int)
  · rw [szF_no g2] at hs2
    clear hx hv
    go_enter Try.func3, Try.ntmps3
    go_wp2_with fail
    refine hs1.mono ?_
    rintro r w1 ⟨rfl, b1⟩
    go_wp2_with fail
    refine (hs2 _ b1.size (hy.below b1)).mono ?_
    rintro r w2 ⟨rfl, b2⟩
    go_wp2_with fail
    go_ret
    exact ⟨rfl, b1.trans (b2.mono b1.size)⟩
  have hv2 : ∃ v2, szF v (n' + totClient ys) = v2 ∧ 0 ≤ v2 := ⟨_, rfl, by rw [szF_yes (by omega)]; omega⟩
  obtain ⟨v2, hv2, v3⟩ := hv2
  rw [hv2] at hs2
  have hnn : n ≤ 2000000 := by omega
  have hnn' : n' ≤ 2000000 := by omega
  clear hv hv2
  generalize hq : sameCs xs ys = q
  have HS := fun (A : Option Addr) (n c : Nat) (A' : Option Addr) (n' c' : Nat) (W : World) h1 h2 h3 h4 h5 => by have := specSameClients_any A n c A' n' c' xs ys W W.heap.size h1 h2 h3 h4 h5; rw [hq] at this; exact this
  have HI := fun (A : Option Addr) (n c : Nat) (A' : Option Addr) (n' c' : Nat) (W : World) h1 h2 h3 h4 h5 => by have := implSameClients_any A n c A' n' c' xs ys W W.heap.size h1 h2 h3 h4 h5; rw [hq] at this; exact this
  clear hq
  go_enter Try.func3, Try.ntmps3
  go_wp2_with fail
  refine (hs1).mono ?_
  rintro r w1 ⟨rfl, b1⟩
  have z1 := b1.size
  have e1 := b1
  clear b1
  go_wp2_with fail
  refine (hs2 _ e1.size (hy.below e1)).mono ?_
  rintro r w2 ⟨rfl, b2⟩
  have z2 := b2.size
  have e2 := e1.trans (b2.mono e1.size)
  clear b2 e1
  go_wp2_with fail
  refine (toClientS_any A n c xs _ _ e2.size (by omega) (hx.below e2)).mono ?_
  rintro r w3 ⟨ga, rfl, oa, b3⟩
  have z3 := b3.size
  have e3 := e2.trans (b3.mono e2.size)
  clear b3 e2
  go_wp2_with fail
  refine (toClientS_any A' n' c' ys _ _ e3.size (by omega) (hy.below e3)).mono ?_
  rintro r w4 ⟨gb, rfl, ob, b4⟩
  replace oa := own_below oa b4
  have z4 := b4.size
  have e4 := e3.trans (b4.mono e3.size)
  clear b4 e3
  go_wp2_with fail
  refine (HS _ _ _ _ _ _ _ (Nat.le_refl _) (by omega) (by omega) (own_sl encClient_len (by omega) oa) (own_sl encClient_len (by omega) ob)).mono ?_
  rintro r w5 ⟨rfl, b5⟩
  replace oa := own_below oa b5
  replace ob := own_below ob b5
  have z5 := b5.size
  have e5 := e4.trans (b5.mono e4.size)
  clear b5 e4
  clear oa
  clear ob
  go_wp2_with fail
  refine (toClientS_any A n c xs _ _ e5.size (by omega) (hx.below e5)).mono ?_
  rintro r w6 ⟨gx, rfl, ox, b6⟩
  have z6 := b6.size
  have e6 := e5.trans (b6.mono e5.size)
  clear b6 e5
  go_wp2_with fail
  refine (toClientS_any A' n' c' ys _ _ e6.size (by omega) (hy.below e6)).mono ?_
  rintro r w7 ⟨gy, rfl, oy, b7⟩
  replace ox := own_below ox b7
  have z7 := b7.size
  have e7 := e6.trans (b7.mono e6.size)
  clear b7 e6
  go_wp2_with fail
  refine (HI _ _ _ _ _ _ _ (Nat.le_refl _) (by omega) (by omega) (own_sl encClient_len (by omega) ox) (own_sl encClient_len (by omega) oy)).mono ?_
  rintro r w8 ⟨rfl, b8⟩
  replace ox := own_below ox b8
  replace oy := own_below oy b8
  have z8 := b8.size
  have e8 := e7.trans (b8.mono e7.size)
  clear b8 e7
  go_wp2_with fail
  refine (toClientS_any A n c xs _ _ e8.size (by omega) (hx.below e8)).mono ?_
  rintro r w9 ⟨gp, rfl, op, b9⟩
  replace ox := own_below ox b9
  replace oy := own_below oy b9
  have z9 := b9.size
  have e9 := e8.trans (b9.mono e8.size)
  clear b9 e8
  go_wp2_with fail
  refine (eqClientS_yes _ _ _ _ _ _ _ _ (Nat.le_refl _) _ (by omega) (own_sl encClient_len (by omega) ox) (own_sl encClient_len (by omega) op)).mono ?_
  rintro r w10 ⟨rfl, b10⟩
  replace ox := own_below ox b10
  replace oy := own_below oy b10
  replace op := own_below op b10
  have z10 := b10.size
  have e10 := e9.trans (b10.mono e9.size)
  clear b10 e9
  clear op
  go_wp2_with fail
  refine (toClientS_any A' n' c' ys _ _ e10.size (by omega) (hy.below e10)).mono ?_
  rintro r w11 ⟨gq, rfl, oq, b11⟩
  replace ox := own_below ox b11
  replace oy := own_below oy b11
  have z11 := b11.size
  have e11 := e10.trans (b11.mono e10.size)
  clear b11 e10
  go_wp2_with fail
  refine (eqClientS_yes _ _ _ _ _ _ _ _ (Nat.le_refl _) _ (by omega) (own_sl encClient_len (by omega) oy) (own_sl encClient_len (by omega) oq)).mono ?_
  rintro r w12 ⟨rfl, b12⟩
  replace ox := own_below ox b12
  replace oy := own_below oy b12
  replace oq := own_below oq b12
  have z12 := b12.size
  have e12 := e11.trans (b12.mono e11.size)
  clear b12 e11
  clear oq
  go_wp2_with fail
  go_ret
  exact ⟨rfl, e12⟩
end Go.Proofs.Ytddnnmfeajnjfaa
