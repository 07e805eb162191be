/-
  Decimal numerals: the program's and the reference's. No condition.
-/
import Derived.Test.YtngfhpklakhehaaGreatDoorGRow
import Derived.Test.YtngfhpklakhehaaGreatDoorKLay
import Derived.Lib.AppendIntMem
import Derived.Lib.ItoaMem
import Derived.Lib.ItoaLen
namespace Go.Proofs.YtngfhpklakhehaaGreatDoor
open Go.RowKit
set_option maxHeartbeats 400000

abbrev TabW (w : World) : Prop := Lib.TabIs Tryz.prog w "internal/strconv.uint64pow10" .u64 Lib.pow10Tab
theorem TabW.below {w w' : World} (h : TabW w) (hb : Below w.heap.size w w') : TabW w' := Lib.tabBelow_of_tabIs h w' hb
def itoaV (n : Int) : Value := .string ⟨(Lib.itoa n).toArray⟩
theorem Decimal_any (n : Int) (w : World) (h0 : -9223372036854775808 ≤ n) (h1 : n ≤ 9223372036854775807) (htab : TabW w) :
    Calls Tryz.prog 39 #[.int .i64 n] w fun e w' => e = .returned (itoaV n) ∧ Below w.heap.size w w' := by
  have hc : Calls Tryz.prog 60 #[.int .i64 n, .int .i64 10] w fun e w' => e = .returned (.string ⟨(Lib.itoa n).toArray⟩) ∧ ∃ k os, w' = Sort.grow (w.drewN k) os := Any.strconv_FormatInt_10 Tryz.lays173 n h0 h1 w htab
  go_enter Tryz.func39, Tryz.ntmps39
  go_wp2_with fail
  refine hc.mono ?_
  rintro e w' ⟨rfl, k, os, rfl⟩
  have hb := Lib.below_grow w.heap.size w (Nat.le_refl _) k os
  clear hc
  go_wp2_with fail
  go_ret
  exact ⟨rfl, hb⟩
/-- the digits of a number, none for 0 -/
def dgs (u : Nat) : List UInt8 := if u = 0 then [] else Lib.decDigits u
theorem dgs_step {u : Nat} (h : u ≠ 0) : dgs u = dgs (u / 10) ++ [UInt8.ofNat (48 + u % 10)] := by
  unfold dgs
  rw [if_neg h]
  by_cases hu : u < 10
  · rw [if_pos (by omega), Lib.decDigits_one hu, Nat.mod_eq_of_lt hu]; rfl
  · rw [if_neg (by omega)]
    conv => lhs; unfold Lib.decDigits
    rw [dif_neg hu]
theorem dgs_len {n : Int} (h0 : -9223372036854775808 ≤ n) (h1 : n ≤ 9223372036854775807) : (dgs n.natAbs).length ≤ 21 := by
  have := Lib.itoa_length_le n h0 h1
  unfold dgs
  split
  · simp
  · unfold Lib.itoa at this
    split at this
    · simp at this; omega
    · rw [show n.toNat = n.natAbs by omega] at this; exact this
theorem itoa_dgs {n : Int} (h : n ≠ 0) : Lib.itoa n = if n < 0 then 45 :: dgs n.natAbs else dgs n.natAbs := by
  unfold Lib.itoa dgs
  rw [if_neg (show ¬ n.natAbs = 0 by omega)]
  split
  · rfl
  · rw [show n.toNat = n.natAbs by omega]
def encU (b : UInt8) : List Value := [.int .u8 b.toNat]
theorem encU_len (b : UInt8) : (encU b).length = 1 := rfl
theorem encU_cells (l : List UInt8) : l.flatMap encU = Lib.byteCells l := by
  induction l with
  | nil => rfl
  | cons b l ih => rw [List.flatMap_cons, ih]; rfl
end Go.Proofs.YtngfhpklakhehaaGreatDoor
