/-
  Strings and lists of strings: how they read, their copies, comparisons, sizes and marks. No condition.
-/
import Derived.Test.YtngfhpklakhehaaGreatDoorInt
import Derived.Test.YtngfhpklakhehaaGreatDoorOpen
import Derived.Deep.Strs
namespace Go.Proofs.YtngfhpklakhehaaGreatDoor
open Go.RowKit Go.ChangeShapes Go.WideShapes Go.ChangeAt Go.Deep
set_option maxHeartbeats 400000

def encS (s : ByteArray) : List Value := [.string s]
theorem encS_len (s : ByteArray) : (encS s).length = 1 := rfl
theorem Sl.str {w : World} {B : Nat} {A : Option Addr} {n : Nat} {xs : List ByteArray} (h : Sl w B 1 encS A n xs) {i : Nat} (hi : i < n) :
    ∃ z b off, Hid (xs[i]? = some z) ∧ A = some ⟨b, off, none⟩ ∧ b < B ∧ w.cell? ⟨b, off + i, none⟩ = some (.string z) := by
  obtain ⟨z, b, off, hx, e, hb, hc⟩ := h.at_ hi
  have := hc 0 _ rfl
  simp only [Nat.mul_one, Nat.add_zero] at this
  exact ⟨z, b, off, hx, e, hb, this⟩
/-- the bytes of some strings together -/
def totS (xs : List ByteArray) : Nat := (xs.map ByteArray.size).sum
theorem totS_take {xs : List ByteArray} {k : Nat} {z : ByteArray} (h : xs[k]? = some z) : totS (xs.take (k + 1)) = totS (xs.take k) + z.size := by
  rw [take_at h]; simp [totS]
theorem totS_mem {xs : List ByteArray} {z : ByteArray} (h : z ∈ xs) : z.size ≤ totS xs := by
  induction xs with
  | nil => simp at h
  | cons x l ih =>
    simp only [totS, List.map_cons, List.sum_cons]
    rcases List.mem_cons.1 h with rfl | h
    · omega
    · have := ih h
      simp only [totS] at this
      omega
theorem totS_le {xs : List ByteArray} {k : Nat} : totS (xs.take k) ≤ totS xs := by
  induction xs generalizing k with
  | nil => simp
  | cons x l ih =>
    cases k with
    | zero => simp [totS]
    | succ k =>
      have := @ih k
      simp only [totS, List.take_succ_cons, List.map_cons, List.sum_cons] at this ⊢
      omega
theorem bs_eq {x y : ByteArray} : (x.toList == y.toList) = decide (x = y) := by
  rw [ByteArray.toList_eq, ByteArray.toList_eq]
  by_cases h : x = y
  · subst h; simp
  · have h2 : x.data.toList ≠ y.data.toList := fun e => h (by
      obtain ⟨⟨a⟩⟩ := x
      obtain ⟨⟨b⟩⟩ := y
      simp only at e
      rw [e])
    rw [decide_eq_false h]
    simpa using h2
theorem bs_ne {x y : ByteArray} (h : x ≠ y) : (x.toList == y.toList) = false := by rw [bs_eq]; simpa using h
theorem bs_in {x y : ByteArray} (h : x = y) : (x.toList == y.toList) = true := by rw [bs_eq]; simpa using h
def strAt (w : World) (a : Addr) : ByteArray := match w.cell? a with | some (.string z) => z | _ => ByteArray.empty
theorem strAt_of {w : World} {a : Addr} {z : ByteArray} (h : w.cell? a = some (.string z)) : strAt w a = z := by unfold strAt; rw [h]
theorem Span0 {w w' : World} (h : Below w.heap.size w w') (row : Option Nat) : w.grownBy w' row := ⟨h.os, h.tape, h.output, h.size, fun i hi _ => h.block i hi⟩
/-- what is left of a measure: -1 if it does not do -/
def szF (left : Int) (n : Nat) : Int := if left < n then -1 else left - n
theorem szF_yes {left : Int} {n : Nat} (h : (n : Int) ≤ left) : szF left n = left - n := by unfold szF; rw [if_neg (by omega)]
theorem szF_no {left : Int} {n : Nat} (h : left < (n : Int)) : szF left n = -1 := by unfold szF; rw [if_pos h]

/-- the digits of a mark -/
def digs : Nat → Nat → List UInt8
  | 0, _ => []
  | f + 1, k => if k = 0 then [] else digs f (k / 10) ++ [UInt8.ofNat (48 + k % 10)]
theorem digs_more : ∀ (f k g : Nat), k ≤ f → k ≤ g → digs f k = digs g k := by
  intro f
  induction f with
  | zero => intro k g h _; obtain rfl : k = 0 := (by omega); cases g <;> simp [digs]
  | succ f ih =>
    intro k g h h2
    cases g with
    | zero => obtain rfl : k = 0 := (by omega); simp [digs]
    | succ g =>
      simp only [digs]
      split
      · rfl
      · rw [ih (k / 10) g (by omega) (by omega)]
def mtxt (k : Int) : ByteArray := if k ≤ 0 then ⟨#[109, 48]⟩ else ⟨(109 :: digs k.toNat k.toNat).toArray⟩

end Go.Proofs.YtngfhpklakhehaaGreatDoor
