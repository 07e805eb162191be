/-
  ShallowTree: the program's side. No condition.
-/
import Derived.Test.YtfbgglhjlbdfiaaGMax
namespace Go.Proofs.Ytfbgglhjlbdfiaa
open Go.RowKit
set_option maxHeartbeats 400000

theorem maxL_all {d x : Int} {l : List Int} : decide (maxL x l ≤ d) = (x :: l).all fun y => decide (y ≤ d) := by
  rw [Bool.eq_iff_iff]
  simp [maxL_le]
/-- the greatest of an own list, not empty -/
theorem max_own {T : Nat} {w : World} {A : Option Addr} {n c lo : Nat} {l : List Int} (h : w.ownsRow lo T 1 (.slice A n c) n (l.flatMap encI)) (h0 : 0 < n) : ∃ x xs, l = x :: xs ∧ Sl w w.heap.size 1 encI A n (x :: xs) := by
  have hs := own_sl encI_len (by omega) h
  cases l with
  | nil => have := hs.len; simp at this; omega
  | cons x xs => exact ⟨x, xs, rfl, hs⟩
theorem allow66 (args : Array Value) (W : World) : (callFunc 40 args).run Try.prog W = .ok (.enter 40 args) W := by go_simp
theorem allowD_any (A : Option Addr) (n c : Nat) (ps : List Int) (d : Int) (g : Nat) (w : World) (hd : w.cell? ⟨g, 0, none⟩ = some (.int .i64 d)) (h0 : 0 < n) (hn : n ≤ 6) (hx : Sl w w.heap.size 1 encI A n ps) (hp : inP ps) (ht : isTree ps = true) :
    Calls Try.prog 40 #[.slice A n c, .pointer (some ⟨g, 0, none⟩)] w fun r w' => r = .returned (.bool ((depL ps).all fun x => decide (x ≤ d))) ∧ Below w.heap.size w w' := by
  have hdp := depthsOf_any A n c ps w w.heap.size (Nat.le_refl _) hn hx hp
  rw [depsOut_good ht, ht] at hdp
  have hdl : (depL ps).length = n := by rw [← hx.len]; simp [depL]
  have EA : ∀ x xs, depL ps = x :: xs → Hid (((depL ps).all fun x => decide (x ≤ d)) = decide (maxL x xs ≤ d)) := fun x xs e => by rw [Hid, e, maxL_all]
  clear hx ht hp
  go_enter Try.func40, Try.ntmps40
  go_wp2_with (go_at_call 31; refine hdp.mono ?_; rintro r w1 ⟨A1, n1, c1, rfl, o1, b1⟩)
  obtain rfl : n1 = n := by have := (own_sl encI_len (by omega) o1).len; omega
  obtain ⟨x, xs, e, hs⟩ := max_own o1 h0
  have E := EA x xs e
  have e1 := below_cell hd b1
  have hm := fun W B h => max_any A1 n1 c1 x xs W B (by omega) h
  clear EA hdp o1 e hdl
  go_quiet ((go_at_call 35; exact Calls.quiet_of_same (hm _ _ hs)))
  go_wp2_with fail
  go_ret
  exact ⟨retB E.out.symm, below_drewN b1 nq⟩
set_option maxHeartbeats 2000000 in
theorem implShallowTree_any (A : Option Addr) (n c : Nat) (rs : List Row) (d : Int) (w : World) (B : Nat) (hB : B ≤ w.heap.size) (hn : n + tot rs ≤ 2000000) (hx : SlS w B A n rs) :
    Calls Try.prog 20 #[.slice A n c, .int .i64 d] w (ListPost2 w (shallowF (cont rs) d)) := by
  have hok := implValidCosts_any A n c rs
  have hlc : (cont rs).length = n := by rw [cont_len, hx.len]
  have hi := within_any d 1 6
  cases hv : validC (cont rs) with
  | false =>
    have E : Hid (shallowF (cont rs) d = ([], 0, 1)) := by simp [Hid, shallowF, hv]
    have hok := fun W h => hok W B h hn
    rw [hv] at hok
    clear hv
    go_enter Try.func20, Try.ntmps20
    go_wp2_with (go_at_call 26; refine (hok _ (by simp; omega) (hx.below ((Below.refl _ _).alloc hB _))).mono ?_; rintro r w1 ⟨rfl, b1⟩)
    go_ret3
    exact ListPost2.bad E.out (((Below.refl _ _).alloc (Nat.le_refl _) _).trans (b1.mono (by simp)))
  | true =>
    have hok := fun W h => hok W B h hn
    rw [hv] at hok
    cases hz : inR d 1 6 with
    | false =>
      have E : Hid (shallowF (cont rs) d = ([], 0, 2)) := by simp [Hid, shallowF, hv, hz]
      rw [hz] at hi
      clear hv hz
      go_enter Try.func20, Try.ntmps20
      go_wp2_with (first
        | (go_at_call 26; refine (hok _ (by simp; omega) (hx.below ((Below.refl _ _).alloc hB _))).mono ?_; rintro r w1 ⟨rfl, b1⟩; have hbw := ((Below.refl w.heap.size w).alloc (Nat.le_refl _) (.cells #[.int .i64 d] 2)).trans (b1.mono (by simp)); have e0 := below_cell (p := ⟨w.heap.size, 0, none⟩) (v := .int .i64 d) (by go_simp) b1)
        | (go_at_call 33; refine (hi _).mono ?_; rintro r w1 ⟨rfl, rfl⟩))
      go_ret3
      exact ListPost2.bad E.out hbw
    | true =>
      have hz' : 1 ≤ d := by simp [inR] at hz; omega
      obtain ⟨q, hq⟩ := star_some hv (ok := okD d) (by
        rw [okD, isTree_star, depL_star]
        simp
        exact .inr hz')
      rw [hlc] at hq
      have E : Hid (shallowF (cont rs) d = (q.1, q.2, 0)) := by simp [Hid, shallowF, hv, hz, hlc, hq, bestB, leastB]
      have hch := fun W g h1 h2 (hc : W.cell? ⟨g, 0, none⟩ = some (.int .i64 d)) => cheapestTree_any 40 #[.pointer (some ⟨g, 0, none⟩)] (fun ps => (depL ps).all fun x => decide (x ≤ d)) A n c rs W B h1 h2 hv allow66 (fun W' A' m' c' ps hW hy hp ht => by
        have hz := parC_zero hp
        have h6 := validC_len hv
        have := hy.len
        exact allowD_any A' m' c' ps d g W' (below_cell hc hW) (by omega) (by omega) hy hz.2.2 ht)
      have hch := fun W g h1 h2 hc => by
        have := hch W g h1 h2 hc
        change Calls _ _ _ _ (ListPost2 W (resB (allB (cont rs) (okD d) (n - 1) [] none))) at this
        rw [hq] at this
        exact this
      rw [hz] at hi
      clear hv hlc hq hz
      go_enter Try.func20, Try.ntmps20
      go_wp2_with (first
        | (go_at_call 26; refine (hok _ (by simp; omega) (hx.below ((Below.refl _ _).alloc hB _))).mono ?_; rintro r w1 ⟨rfl, b1⟩; have hbw := ((Below.refl w.heap.size w).alloc (Nat.le_refl _) (.cells #[.int .i64 d] 2)).trans (b1.mono (by simp)); have e0 := below_cell (p := ⟨w.heap.size, 0, none⟩) (v := .int .i64 d) (by go_simp) b1)
        | (go_at_call 33; refine (hi _).mono ?_; rintro r w1 ⟨rfl, rfl⟩)
        | (go_at_call 27; refine (hch _ _ (Nat.le_trans hB hbw.size) (hx.below (hbw.mono hB)) e0).mono ?_; rintro r w2 ⟨A1, n1, c1, rfl, o2, b2⟩))
      go_ret3
      rw [E.out]
      exact ⟨A1, n1, c1, rfl, o2.mono hbw.size, hbw.trans (b2.mono hbw.size)⟩
end Go.Proofs.Ytfbgglhjlbdfiaa
