/-
  Points as text: the program's function, the reference's, the statement, walked. No condition but the table that lies laid.
-/
import Derived.Test.YtehjfajmnciiaaaDoorKDec2
import Derived.Test.YtehjfajmnciiaaaDoorBasic
import Derived.Test.YtehjfajmnciiaaaDoorPPts
import Derived.Deep.RegionHeld3
namespace Go.Proofs.YtehjfajmnciiaaaDoor
open Go.RowKit
set_option maxHeartbeats 400000

/-- a point as text -/
def pointF (a t : Int) : ByteArray := if okPoint ⟨a, t⟩ then ((⟨#[101, 118, 101, 114, 121, 32]⟩ ++ ⟨(Lib.itoa a).toArray⟩) ++ ⟨#[32, 100, 97, 121, 115, 44, 32, 108, 97, 115, 116, 32, 111, 110, 32]⟩) ++ ⟨(Lib.itoa t).toArray⟩ else ⟨#[]⟩
theorem okPoint_in {a t : Int} (h : okPoint ⟨a, t⟩ = true) : (0 ≤ a ∧ a ≤ 100000) ∧ 0 ≤ t ∧ t ≤ 100000 := by
  simp [okPoint, inR] at h
  omega
theorem itoa_sz {n : Int} (h0 : 0 ≤ n) (h1 : n ≤ 100000) : (⟨(Lib.itoa n).toArray⟩ : ByteArray).size ≤ 21 := by
  have := Lib.itoa_length_le n (by omega) (by omega)
  simpa [ByteArray.size] using this
set_option maxHeartbeats 4000000 in
set_option maxRecDepth 100000 in
theorem implPointText_any (a t : Int) (w : World) (htab : TabW w) :
    Calls Tryd.prog 26 #[.agg #[.int .i64 a, .int .i64 t]] w fun e w' => e = .returned (.string (pointF a t)) ∧ Below w.heap.size w w' := by
  have hv := fun W => validPoint_any a t W
  cases h1 : okPoint ⟨a, t⟩ with
  | false =>
    have E : Hid (pointF a t = ⟨#[]⟩) := by simp [Hid, pointF, h1]
    rw [h1] at hv
    clear h1
    go_enter Tryd.func26, Tryd.ntmps26
    go_wp2_with fail
    refine (hv _).mono ?_
    rintro r w1 ⟨rfl, b1⟩
    have e1 : Below w.heap.size w w1 := ((Below.refl _ _).alloc (Nat.le_refl _) _).trans (b1.mono (by simp))
    clear b1
    go_wp2_with fail
    go_ret
    rw [E.out]
    exact ⟨rfl, e1⟩
  | true =>
    have E : Hid (pointF a t = ((⟨#[101, 118, 101, 114, 121, 32]⟩ ++ ⟨(Lib.itoa a).toArray⟩) ++ ⟨#[32, 100, 97, 121, 115, 44, 32, 108, 97, 115, 116, 32, 111, 110, 32]⟩) ++ ⟨(Lib.itoa t).toArray⟩) := by simp only [Hid, pointF, h1, if_true]
    obtain ⟨⟨a0, a1⟩, t0, t1⟩ := okPoint_in h1
    have za := itoa_sz a0 a1
    have zt := itoa_sz t0 t1
    have cA := fun W hW => Decimal_any a W (by omega) (by omega) hW
    have cB := fun W hW => Decimal_any t W (by omega) (by omega) hW
    unfold itoaV at cA cB
    generalize (⟨(Lib.itoa a).toArray⟩ : ByteArray) = sa at cA E za
    generalize (⟨(Lib.itoa t).toArray⟩ : ByteArray) = sb at cB E zt
    rw [h1] at hv
    clear h1 a0 a1 t0 t1
    go_enter Tryd.func26, Tryd.ntmps26
    go_wp2_with fail
    refine (hv _).mono ?_
    rintro r w0 ⟨rfl, b1⟩
    have hb0 : Below w.heap.size w w0 := ((Below.refl _ _).alloc (Nat.le_refl _) _).trans (b1.mono (by simp))
    have k0 : w0.cell? ⟨w.heap.size, 0, none⟩ = some (.int .i64 a) := below_cell (by go_simp) b1
    have k1 : w0.cell? ⟨w.heap.size, 1, none⟩ = some (.int .i64 t) := below_cell (by go_simp) b1
    have lt0 : w.heap.size < w0.heap.size := World.block_lt_of_cell? _ _ k0
    have htb := htab.below hb0
    replace cA := fun W (hW : Below w0.heap.size w0 W) => cA W (htb.below hW)
    replace cB := fun W (hW : Below w0.heap.size w0 W) => cB W (htb.below hW)
    have hcur : Below w0.heap.size w0 w0.drew := (Below.refl _ _).drew
    have hs1 : (9223372036854775807 < 6 + sa.size) = False := by simp; omega
    have hs2 : (9223372036854775807 < 6 + sa.size + 15) = False := by simp; omega
    have hs3 : (9223372036854775807 < 6 + sa.size + 15 + sb.size) = False := by simp; omega
    clear b1 htab htb hv
    go_wp2_with fail
    go_region_held3 (fun W => W.cell? ⟨w.heap.size, 0, none⟩ = some (.int .i64 a) ∧ W.cell? ⟨w.heap.size, 1, none⟩ = some (.int .i64 t))
      (first
        | (go_keep; done)
        | (go_split_ands; exact ⟨below_cell k0 hcur, below_cell k1 hcur⟩))
      (first
        | (go_at_call 55; (with_reducible refine (cA _ hcur).mono ?_); rintro r wa ⟨rfl, ba⟩; replace hcur := hcur.trans (ba.mono hcur.size))
        | (go_at_call 55; (with_reducible refine (cB _ hcur).mono ?_); rintro r wb ⟨rfl, bb⟩; replace hcur := hcur.trans (bb.mono hcur.size)))
    all_goals have hb7 := hb0.trans (hcur.mono hb0.size)
    all_goals clear hs1 hs2 hs3 cA cB
    all_goals (try go_wp2_with fail)
    all_goals go_ret
    all_goals rw [E.out]
    all_goals exact ⟨rfl, hb7⟩
set_option maxHeartbeats 4000000 in
set_option maxRecDepth 100000 in
theorem specPointText_any (a t : Int) (w : World) :
    Calls Tryd.prog 27 #[.agg #[.int .i64 a, .int .i64 t]] w fun e w' => e = .returned (.string (pointF a t)) ∧ Below w.heap.size w w' := by
  obtain ⟨w0, hw0⟩ : ∃ w0, w0 = (w.alloc (.cells #[.int .i64 a, .int .i64 t] 42)).alloc (.cells #[.int .i64 a, .int .i64 t] 42) := ⟨_, rfl⟩
  have hb0 : Below w.heap.size w w0 := by rw [hw0]; exact ((Below.refl _ _).alloc (Nat.le_refl _) _).alloc (by simp) _
  have k0 : w0.cell? ⟨w.heap.size, 0, none⟩ = some (.int .i64 a) := by rw [hw0]; go_simp
  have k1 : w0.cell? ⟨w.heap.size, 1, none⟩ = some (.int .i64 t) := by rw [hw0]; go_simp
  have lt0 : w.heap.size < w0.heap.size := World.block_lt_of_cell? _ _ k0
  have o0 : w0.ownsRow w.heap.size 42 2 (.slice (some ⟨w.heap.size + 1, 0, none⟩) 1 1) 1 ([(⟨a, t⟩ : Point)].flatMap encPoint) := by
    have := World.ownsRow_lit (base := w.heap.size) (e := 42) (size := 2) (w.alloc (.cells #[.int .i64 a, .int .i64 t] 42)) #[.int .i64 a, .int .i64 t] 1 (by simp) (by simp [maxLen]) (by simp)
    rw [hw0]
    simpa [encPoint] using this
  have hv := l19Ok_any (some ⟨w.heap.size + 1, 0, none⟩) 1 1 [⟨a, t⟩] w0 w0.heap.size (Nat.le_refl _) (by omega) (own_sl encPoint_len (by omega) o0)
  have hvp : validPts [⟨a, t⟩] = okPoint ⟨a, t⟩ := by simp [validPts]
  rw [hvp] at hv
  cases h1 : okPoint ⟨a, t⟩ with
  | false =>
    have E : Hid (pointF a t = ⟨#[]⟩) := by simp [Hid, pointF, h1]
    rw [h1] at hv
    clear h1 hvp o0 k0 k1 lt0
    subst hw0
    go_enter Tryd.func27, Tryd.ntmps27
    go_wp2_with fail
    refine hv.mono ?_
    rintro r w1 ⟨rfl, rfl⟩
    clear hv
    go_wp2_with fail
    go_ret
    rw [E.out]
    exact ⟨rfl, hb0⟩
  | true =>
    have E : Hid (pointF a t = ((⟨#[101, 118, 101, 114, 121, 32]⟩ ++ ⟨(Lib.itoa a).toArray⟩) ++ ⟨#[32, 100, 97, 121, 115, 44, 32, 108, 97, 115, 116, 32, 111, 110, 32]⟩) ++ ⟨(Lib.itoa t).toArray⟩) := by simp only [Hid, pointF, h1, if_true]
    obtain ⟨⟨a0, a1⟩, t0, t1⟩ := okPoint_in h1
    have za := itoa_sz a0 a1
    have zt := itoa_sz t0 t1
    have cA := fun W => l01Dec_any a W (by omega) (by omega)
    have cB := fun W => l01Dec_any t W (by omega) (by omega)
    unfold itoaV at cA cB
    generalize (⟨(Lib.itoa a).toArray⟩ : ByteArray) = sa at cA E za
    generalize (⟨(Lib.itoa t).toArray⟩ : ByteArray) = sb at cB E zt
    rw [h1] at hv
    have HW0 := hid hw0
    rw [hw0] at hv
    clear h1 a0 a1 t0 t1 hvp o0 hw0
    have hs1 : (9223372036854775807 < 6 + sa.size) = False := by simp; omega
    have hs2 : (9223372036854775807 < 6 + sa.size + 15) = False := by simp; omega
    have hs3 : (9223372036854775807 < 6 + sa.size + 15 + sb.size) = False := by simp; omega
    go_enter Tryd.func27, Tryd.ntmps27
    go_wp2_with fail
    refine hv.mono ?_
    rintro r w1 ⟨rfl, e⟩
    rw [← HW0.out] at e
    replace e := e.symm
    subst e
    clear hv HW0
    have hcur : Below w0.heap.size w0 w0.drew := (Below.refl _ _).drew
    go_wp2_with fail
    go_region_held3 (fun W => W.cell? ⟨w.heap.size, 0, none⟩ = some (.int .i64 a) ∧ W.cell? ⟨w.heap.size, 1, none⟩ = some (.int .i64 t))
      (first
        | (go_keep; done)
        | (go_split_ands; exact ⟨below_cell k0 hcur, below_cell k1 hcur⟩))
      (first
        | (go_at_call 56; (with_reducible refine (cA _).mono ?_); rintro r wa ⟨rfl, ba⟩; replace hcur := hcur.trans (ba.mono hcur.size))
        | (go_at_call 56; (with_reducible refine (cB _).mono ?_); rintro r wb ⟨rfl, bb⟩; replace hcur := hcur.trans (bb.mono hcur.size)))
    all_goals have hb7 := hb0.trans (hcur.mono hb0.size)
    all_goals clear hs1 hs2 hs3 cA cB
    all_goals (try go_wp2_with fail)
    all_goals go_ret
    all_goals rw [E.out]
    all_goals exact ⟨rfl, hb7⟩
end Go.Proofs.YtehjfajmnciiaaaDoor
