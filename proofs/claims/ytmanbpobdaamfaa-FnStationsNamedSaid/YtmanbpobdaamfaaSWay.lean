/-
  Schemes: a way in a list; a way is added to a scheme of one's own. No condition.
-/
import Derived.Test.YtmanbpobdaamfaaSAdd
import Derived.Test.YtmanbpobdaamfaaAfter
import Derived.StillTailTactics
namespace Go.Proofs.Ytmanbpobdaamfaa
open Go.RowKit
set_option maxHeartbeats 400000

theorem hasWay1_any (b1 b2 : Nat) (f t x y : ByteArray) (m : Int) (w : World) (k1 : w.cell? ⟨b1, 0, none⟩ = some (.string f)) (k2 : w.cell? ⟨b2, 0, none⟩ = some (.string t)) :
    Calls Try.prog 89 #[.agg #[.string x, .string y, .int .i64 m], .pointer (some ⟨b1, 0, none⟩), .pointer (some ⟨b2, 0, none⟩)] w fun r w' => r = .returned (.bool (wayIs f t ⟨x, y, m⟩)) ∧ Below w.heap.size w w' := by
  have l1 := World.block_lt_of_cell? _ _ k1
  have l2 := World.block_lt_of_cell? _ _ k2
  simp only at l1 l2
  have E := hid (show wayIs f t ⟨x, y, m⟩ = (decide (x = f) && decide (y = t)) from rfl)
  have q1 := bs_eq (x := x) (y := f)
  have q2 := bs_eq (x := y) (y := t)
  generalize decide (x = f) = p1 at q1 E
  generalize decide (y = t) = p2 at q2 E
  cases p1 <;> cases p2
  all_goals go_enter Try.func89, Try.ntmps89
  all_goals go_wp2
  all_goals go_ret
  all_goals exact ⟨retB E.out.symm, (Below.refl _ _).alloc (Nat.le_refl _) _⟩
theorem hasWay_any (gs : Nat) (A : Option Addr) (n c : Nat) (xs : List Way) (f t : ByteArray) (w : World) (B : Nat) (hB : B ≤ w.heap.size) (hn : n ≤ 2000000) (hx : Sl w B 3 encWay A n xs) (k2 : w.cell? ⟨gs, 2, none⟩ = some (.slice A n c)) :
    Calls Try.prog 64 #[.pointer (some ⟨gs, 0, none⟩), .string f, .string t] w fun r w' => r = .returned (.bool (hasW xs f t)) ∧ Below w.heap.size w w' := by
  have eg := enters_of Try.func89 (by kernel_rfl) rfl
  have lt := World.block_lt_of_cell? _ _ k2
  simp only at lt
  obtain ⟨W0, hW0⟩ : ∃ W0, W0 = (w.alloc (.cells #[.string f] 9)).alloc (.cells #[.string t] 9) := ⟨_, rfl⟩
  have b0 : Below w.heap.size w W0 := by rw [hW0]; exact ((Below.refl _ _).alloc (Nat.le_refl _) _).alloc (by simp) _
  have e1 : W0.cell? ⟨w.heap.size, 0, none⟩ = some (.string f) := by rw [hW0]; go_simp
  have e2 : W0.cell? ⟨w.heap.size + 1, 0, none⟩ = some (.string t) := by rw [hW0]; go_simp
  have hc := ContainsFunc_Way 89 #[.pointer (some ⟨w.heap.size, 0, none⟩), .pointer (some ⟨w.heap.size + 1, 0, none⟩)] (wayIs f t) eg A n c xs W0 B (Nat.le_trans hB b0.size) (by omega) (hx.below (b0.mono hB))
    (fun W x y m _ hW => hasWay1_any _ _ f t x y m W (below_cell e1 hW) (below_cell e2 hW))
  have HW := hid hW0
  have E := hid (show hasW xs f t = xs.any (wayIs f t) from rfl)
  generalize xs.any (wayIs f t) = r at hc E
  clear hW0 hx eg
  go_enter Try.func64, Try.ntmps64
  go_wp2_with fail
  rw [← HW.out]
  refine hc.mono ?_
  rintro r w1 ⟨rfl, b1⟩
  go_wp2_with fail
  go_ret
  exact ⟨retB E.out.symm, b0.trans (b1.mono b0.size)⟩
theorem l21Way_any (gs : Nat) (A : Option Addr) (n c : Nat) (xs : List Way) (f t : ByteArray) (w : World) (B : Nat) (hn : n ≤ 2000000) (hx : Sl w B 3 encWay A n xs) (k2 : w.cell? ⟨gs, 2, none⟩ = some (.slice A n c)) :
    Calls Try.prog 65 #[.pointer (some ⟨gs, 0, none⟩), .string f, .string t] w fun r w' => r = .returned (.int .i64 (findFrom (wayIs f t) 0 xs)) ∧ w' = w := by
  go_enter Try.func65, Try.ntmps65
  go_wp2
  go_loop [7] (fun i => ∃ k : Nat, k ≤ n ∧ i = .int .i64 k ∧ Hid (findFrom (wayIs f t) 0 xs = findFrom (wayIs f t) k (xs.drop k))) (fun i => n - (intOf i).toNat)
  case atStart => exact ⟨0, Nat.zero_le _, rfl, hid rfl⟩
  case round =>
    obtain ⟨k, hk, rfl, he⟩ := hrel
    by_cases hlt : k < n
    · obtain ⟨x, y, m, b, off, Hy, rfl, hbB, d0, d1, d2⟩ := hx.atWay hlt
      have he2 := he.out
      rw [drop_at Hy.out, findFrom] at he2
      have e0 : wayIs f t ⟨x, y, m⟩ = (decide (x = f) && decide (y = t)) := rfl
      rw [e0] at he2
      have He2 := hid he2
      have q1 := bs_eq (x := x) (y := f)
      have q2 := bs_eq (x := y) (y := t)
      generalize decide (x = f) = p1 at q1 He2
      generalize decide (y = t) = p2 at q2 He2
      have i0 : (0 : Int) ≤ (k : Int) := by omega
      have i1 : (k : Int) < (n : Int) := by omega
      clear he hx he2 e0
      cases p1 <;> cases p2
      all_goals go_wp2
      all_goals first
        | (go_ret; exact ⟨retI (by rw [He2.out]; rfl), rfl⟩)
        | (have He3 : Hid (findFrom (wayIs f t) 0 xs = findFrom (wayIs f t) (k + 1) (xs.drop (k + 1))) := by rw [He2.out]; rfl
           go_round
           case rel => exact ⟨k + 1, by omega, by go_num, He3⟩
           case measure => simp [intOf]; omega)
    · have : k = n := by omega
      subst this
      have he2 := he.out
      rw [List.drop_of_length_le (by rw [hx.len]; omega), findFrom] at he2
      have He2 := hid he2
      clear he he2
      go_wp2
      go_ret
      exact ⟨retI (by rw [He2.out]), rfl⟩
end Go.Proofs.Ytmanbpobdaamfaa
