/-
  What the laws lean on: lists of numbers compared, summed, looked into. No condition.
-/
import Derived.Test.YtfbgglhjlbdfiaaBOpen
namespace Go.Proofs.Ytfbgglhjlbdfiaa
open Go.RowKit
set_option maxHeartbeats 400000

/-- the first places of a slice -/
theorem Sl.take {α : Type} {w : World} {B k : Nat} {enc : α → List Value} {A : Option Addr} {n : Nat} {xs : List α} (h : Sl w B k enc A n xs) {m : Nat} (hm : m ≤ n) : Sl w B k enc A m (xs.take m) := by
  refine ⟨by rw [List.length_take_of_le (by rw [h.len]; exact hm)], fun i x hx => ?_⟩
  rw [List.getElem?_take] at hx
  split at hx
  · exact h.2 i x hx
  · cases hx
theorem Sl.intAt {w : World} {B : Nat} {A : Option Addr} {n : Nat} {xs : List Int} (h : Sl w B 1 encI A n xs) {i : Nat} {z : Int} (hx : xs[i]? = some z) : ∃ b off, A = some ⟨b, off, none⟩ ∧ b < B ∧ w.cell? ⟨b, off + i, none⟩ = some (.int .i64 z) := by
  obtain ⟨b, off, e, hb, hc⟩ := h.2 i z hx
  have := hc 0 _ rfl
  simp only [Nat.mul_one, Nat.add_zero] at this
  exact ⟨b, off, e, hb, this⟩


/-- the sum of numbers -/
def sumI : List Int → Int
  | [] => 0
  | x :: r => x + sumI r
theorem sumI_snoc : ∀ (l : List Int) (x : Int), sumI (l ++ [x]) = sumI l + x
  | [], x => by simp [sumI]
  | y :: r, x => by simp only [List.cons_append, sumI, sumI_snoc r x]; omega
theorem sumI_in {M : Int} : ∀ (l : List Int), (∀ z ∈ l, -M ≤ z ∧ z ≤ M) → -(M * l.length) ≤ sumI l ∧ sumI l ≤ M * l.length
  | [], _ => by simp [sumI]
  | y :: r, h => by
    have h1 := sumI_in r fun z hz => h z (by simp [hz])
    have h2 := h y (by simp)
    have e : M * ((r.length + 1 : Nat) : Int) = M * (r.length : Int) + M := by rw [Int.natCast_add, Int.mul_add]; simp
    rw [sumI, List.length_cons, e]
    omega
theorem a2Sum_any (A : Option Addr) (n c : Nat) (xs : List Int) (w : World) (B : Nat) (hn : n ≤ 1000) (hz : ∀ z ∈ xs, -1000000 ≤ z ∧ z ≤ 1000000) (hx : Sl w B 1 encI A n xs) :
    Calls Try.prog 14 #[.slice A n c] w fun e w' => e = .returned (.int .i64 (sumI xs)) ∧ w' = w := by
  have Hz := hid hz
  clear hz
  go_enter Try.func14, Try.ntmps14
  go_wp2
  go_loop [3, 4] (fun s i => ∃ (k : Nat) (q : Int), k ≤ n ∧ i = .int .i64 k ∧ s = .int .i64 q ∧ Hid (q = sumI (xs.take k))) (fun _ i => n - (intOf i).toNat)
  case atStart => exact ⟨0, 0, Nat.zero_le _, rfl, rfl, hid rfl⟩
  case round =>
    obtain ⟨k, q, hk, rfl, rfl, hq⟩ := hrel
    by_cases hlt : k < n
    · obtain ⟨x, b, off, Hx, rfl, hbB, c0⟩ := hx.int hlt
      have hb := sumI_in (M := 1000000) (xs.take k) fun z hz => Hz.out z (List.mem_of_mem_take hz)
      have hx2 := Hz.out x (List.mem_of_getElem? Hx.out)
      have hl : (xs.take k).length = k := List.length_take_of_le (by rw [hx.len]; omega)
      rw [hl, ← hq.out] at hb
      have hq2 : Hid (q + x = sumI (xs.take (k + 1))) := by rw [Hid, take_at Hx.out, sumI_snoc, ← hq.out]
      clear hx hl hq
      go_wp2
      go_round
      case rel => exact ⟨k + 1, q + x, by omega, by go_num, rfl, hq2⟩
      case measure => simp [intOf]; omega
    · have hkn : k = n := by omega
      have hq2 := hq.out
      rw [List.take_of_length_le (by rw [hx.len]; omega)] at hq2
      have HQ := hid hq2
      clear hx hq hq2
      go_wp2
      go_ret
      exact ⟨retI HQ.out, rfl⟩
end Go.Proofs.Ytfbgglhjlbdfiaa
