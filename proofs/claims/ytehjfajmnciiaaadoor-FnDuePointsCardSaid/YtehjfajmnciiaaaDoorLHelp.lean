/-
  What the laws lean on: lists of numbers compared, summed, looked into. No condition.
-/
import Derived.Test.YtehjfajmnciiaaaDoorBOpen
namespace Go.Proofs.YtehjfajmnciiaaaDoor
open Go.RowKit
set_option maxHeartbeats 400000

/-- the first places of a slice -/
theorem Sl.take {α : Type} {w : World} {B k : Nat} {enc : α → List Value} {A : Option Addr} {n : Nat} {xs : List α} (h : Sl w B k enc A n xs) {m : Nat} (hm : m ≤ n) : Sl w B k enc A m (xs.take m) := by
  refine ⟨by rw [List.length_take_of_le (by rw [h.len]; exact hm)], fun i x hx => ?_⟩
  rw [List.getElem?_take] at hx
  split at hx
  · exact h.2 i x hx
  · cases hx
theorem Sl.intAt {w : World} {B : Nat} {A : Option Addr} {n : Nat} {xs : List Int} (h : Sl w B 1 encI A n xs) {i : Nat} {z : Int} (hx : xs[i]? = some z) : ∃ b off, A = some ⟨b, off, none⟩ ∧ b < B ∧ w.cell? ⟨b, off + i, none⟩ = some (.int .i64 z) := by
  obtain ⟨b, off, e, hb, hc⟩ := h.2 i z hx
  have := hc 0 _ rfl
  simp only [Nat.mul_one, Nat.add_zero] at this
  exact ⟨b, off, e, hb, this⟩

theorem f6ints_yes (A : Option Addr) (n c : Nat) (A' : Option Addr) (n' c' : Nat) (xs : List Int) (w : World) (B : Nat) (hn : n ≤ 2000000) (hx : Sl w B 1 encI A n xs) (hy : Sl w B 1 encI A' n' xs) :
    Calls Tryd.prog 23 #[.slice A n c, .slice A' n' c'] w fun e w' => e = .returned (.bool true) ∧ Below w.heap.size w w' := by
  obtain rfl : n = n' := hx.len.symm.trans hy.len
  go_enter Tryd.func23, Tryd.ntmps23
  go_wp2
  go_loopw [5] (fun i w1 => ∃ k : Nat, k ≤ n ∧ i = .int .i64 k ∧ Below w.heap.size w w1 ∧ ∀ p v, w.cell? p = some v → w1.cell? p = some v) (fun i _ => n - (intOf i).toNat)
  case atStart => exact ⟨0, Nat.zero_le _, rfl, Below.refl _ _, fun p v h => h⟩
  case round =>
    obtain ⟨k, hk, rfl, hb, hkp⟩ := hrel
    by_cases hlt : k < n
    · obtain ⟨x, b, off, Hx, rfl, hbB, c0⟩ := hx.int hlt
      obtain ⟨x', b', off', Hy, rfl, hbB', c0'⟩ := hy.int hlt
      obtain rfl : x = x' := by have := Hx.out.symm.trans Hy.out; simpa using this
      replace c0 := hkp _ _ c0
      replace c0' := hkp _ _ c0'
      have HK := hid hkp
      have i0 : (0 : Int) ≤ (k : Int) := by omega
      have i1 : (k : Int) < (n : Int) := by omega
      clear hx hy hkp
      go_wp2
      go_quiet (fail)
      go_wp2
      have hb2 := below_drewN hb nq
      go_roundw
      all_goals first | exact ⟨k + 1, by omega, by go_num, hb2, HK.out⟩ | exact ⟨⟨k + 1, by omega, by go_num, hb2, HK.out⟩, by simp [intOf]; omega⟩ | (simp [intOf]; omega)
    · go_wp2
      go_ret
      exact ⟨rfl, hb⟩

/-- the sum of numbers -/
def sumI : List Int → Int
  | [] => 0
  | x :: r => x + sumI r
theorem sumI_snoc : ∀ (l : List Int) (x : Int), sumI (l ++ [x]) = sumI l + x
  | [], x => by simp [sumI]
  | y :: r, x => by simp only [List.cons_append, sumI, sumI_snoc r x]; omega
theorem sumI_in {M : Int} : ∀ (l : List Int), (∀ z ∈ l, -M ≤ z ∧ z ≤ M) → -(M * l.length) ≤ sumI l ∧ sumI l ≤ M * l.length
  | [], _ => by simp [sumI]
  | y :: r, h => by
    have h1 := sumI_in r fun z hz => h z (by simp [hz])
    have h2 := h y (by simp)
    have e : M * ((r.length + 1 : Nat) : Int) = M * (r.length : Int) + M := by rw [Int.natCast_add, Int.mul_add]; simp
    rw [sumI, List.length_cons, e]
    omega
theorem f6has_any (A : Option Addr) (n c : Nat) (o : List Int) (z : Int) (w : World) (B : Nat) (hn : n ≤ 2000000) (hx : Sl w B 1 encI A n o) :
    Calls Tryd.prog 30 #[.slice A n c, .int .i64 z] w fun e w' => e = .returned (.bool (hasI o z)) ∧ w' = w := by
  go_enter Tryd.func30, Tryd.ntmps30
  go_wp2
  go_loop [5] (fun i => ∃ k : Nat, k ≤ n ∧ i = .int .i64 k ∧ Hid (hasI o z = hasI (o.drop k) z)) (fun i => n - (intOf i).toNat)
  case atStart => exact ⟨0, Nat.zero_le _, rfl, hid rfl⟩
  case round =>
    obtain ⟨k, hk, rfl, he⟩ := hrel
    by_cases hlt : k < n
    · obtain ⟨x, b, off, Hx, rfl, hbB, c0⟩ := hx.int hlt
      have he2 := he.out
      rw [drop_at Hx.out] at he2
      clear hx he
      by_cases hz : x = z
      · have He : Hid (hasI o z = true) := by rw [he2]; simp [Hid, hasI, hz]
        clear he2
        subst hz
        go_wp2
        go_ret
        exact ⟨retB He.out.symm, rfl⟩
      · have He : Hid (hasI o z = hasI (o.drop (k + 1)) z) := by rw [he2]; simp [Hid, hasI, hz]
        clear he2
        have hz2 : (x == z) = false := by simpa using hz
        go_wp2
        go_round
        case rel => exact ⟨k + 1, by omega, by go_num, He⟩
        case measure => simp [intOf]; omega
    · have : k = n := by omega
      subst this
      have he2 := he.out
      rw [List.drop_of_length_le (by rw [hx.len]; omega)] at he2
      have He := hid he2
      clear he he2
      go_wp2
      go_ret
      exact ⟨retB (by rw [He.out]; rfl), rfl⟩
end Go.Proofs.YtehjfajmnciiaaaDoor
