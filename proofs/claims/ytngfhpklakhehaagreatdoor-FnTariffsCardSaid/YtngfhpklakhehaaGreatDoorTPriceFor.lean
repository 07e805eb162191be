/-
  PriceFor: the program's function and the reference's. No condition.
-/
import Derived.Test.YtngfhpklakhehaaGreatDoorTPrice2
namespace Go.Proofs.YtngfhpklakhehaaGreatDoor
open Go.RowKit
set_option maxHeartbeats 400000

def priceF (xs : List Step) (h e m g : Int) (bb : Bool) : Int × Int :=
  if validT ⟨xs, h, e⟩ then if inR m 0 5000 && inR g 0 20000 then match costOf xs h e m g bb with | none => (0, 5) | some z => (z, 0) else (0, 2) else (0, 1)
def tripI (p : Int × Int × Int) : Value := .tuple #[.int .i64 p.1, .int .i64 p.2.1, .int .i64 p.2.2]
def pairI (p : Int × Int) : Value := .tuple #[.int .i64 p.1, .int .i64 p.2]
set_option maxHeartbeats 1000000 in
theorem specPriceFor_any (A : Option Addr) (n c : Nat) (xs : List Step) (h e m g : Int) (bb : Bool) (w : World) (B : Nat) (hB : B ≤ w.heap.size) (hn : n ≤ 2000000) (hx : Sl w B 2 encStep A n xs) :
    Calls Tryz.prog 7 #[.agg #[.slice A n c, .int .i64 h, .int .i64 e], .int .i64 m, .int .i64 g, .bool bb] w fun r w' => r = .returned (pairI (priceF xs h e m g bb)) ∧ Below w.heap.size w w' := by
  have hol := hx.len
  obtain ⟨wa, hwa⟩ : ∃ wa, wa = (w.alloc (.cells #[.slice A n c, .int .i64 h, .int .i64 e] 26)) := ⟨_, rfl⟩
  have hbw : Below w.heap.size w wa := by rw [hwa]; exact ((Below.refl _ _).alloc (Nat.le_refl _) _)
  have k0 : wa.cell? ⟨w.heap.size, 0, none⟩ = some (.slice A n c) := by rw [hwa]; go_simp
  have k1 : wa.cell? ⟨w.heap.size, 1, none⟩ = some (.int .i64 h) := by rw [hwa]; go_simp
  have k2 : wa.cell? ⟨w.heap.size, 2, none⟩ = some (.int .i64 e) := by rw [hwa]; go_simp
  have hc := l23Ok_any w.heap.size 0 A n c xs h e wa B (Nat.le_trans hB hbw.size) hn (hx.below (hbw.mono hB)) k0 k1 k2
  cases hv : validT ⟨xs, h, e⟩ with
  | false =>
    have E : Hid (priceF xs h e m g bb = (0, 1)) := by simp [Hid, priceF, hv]
    rw [hv] at hc
    clear hx hv k0 k1 k2
    subst hwa
    go_enter Tryz.func7, Tryz.ntmps7
    go_wp2_with (go_at_call 32; refine hc.mono ?_; rintro r w1 ⟨rfl, b1⟩)
    go_ret2
    rw [E.out]
    exact ⟨rfl, hbw.trans (b1.mono hbw.size)⟩
  | true =>
    rw [hv] at hc
    have Hv := hid hv
    cases hz : inR m 0 5000 && inR g 0 20000 with
    | false =>
      have E : Hid (priceF xs h e m g bb = (0, 2)) := by simp only [Hid, priceF, hv, hz]; rfl
      have hs := l23Size_any m g
      rw [hz] at hs
      clear hx hv k0 k1 k2 hz
      subst hwa
      go_enter Tryz.func7, Tryz.ntmps7
      go_wp2_with (first
        | (go_at_call 32; refine hc.mono ?_; rintro r w1 ⟨rfl, b1⟩)
        | (go_at_call 33; refine (hs _).mono ?_; rintro r w2 ⟨rfl, rfl⟩))
      go_ret2
      rw [E.out]
      exact ⟨rfl, hbw.trans (b1.mono hbw.size)⟩
    | true =>
      have E : Hid (priceF xs h e m g bb = match costOf xs h e m g bb with | none => (0, 5) | some z => (z, 0)) := by simp only [Hid, priceF, hv, hz]; rfl
      have hs := l23Size_any m g
      rw [hz] at hs
      obtain ⟨hss, hl0, hl1, h0, h1, e0, e1⟩ := validT_parts hv
      obtain ⟨_, g0, g1⟩ : (0 ≤ m ∧ m ≤ 5000) ∧ 0 ≤ g ∧ g ≤ 20000 := by simpa only [Bool.and_eq_true, inR_iff] using hz
      have hst := fun W h1 h2 h3 => l23Step_any w.heap.size 0 A n c xs m W B h1 hn h2 h3
      clear hv hz
      have Hss := hid hss
      clear hss
      rcases find_at (m := m) (xs := xs) (k0 := 0) with ⟨q1, q2⟩ | ⟨j, ⟨xg, xp⟩, hj, q1, q2⟩
      · have E2 : Hid (priceF xs h e m g bb = (0, 5)) := by rw [Hid, E.out]; simp [costOf, q2]
        rw [q1] at hst
        clear E q1 q2
        have hwq := hid hwa
        have hx2 := hx.below (hbw.mono hB)
        clear hx
        have hBz := Nat.le_trans hB hbw.size
        subst hwa
        go_enter Tryz.func7, Tryz.ntmps7
        go_wp2_with (first
          | (go_at_call 32; refine hc.mono ?_; rintro r w1 ⟨rfl, b1⟩)
          | (go_at_call 33; refine (hs _).mono ?_; rintro r w2 ⟨rfl, rfl⟩)
          | (go_at_call 34; refine (hst _ (Nat.le_trans hBz b1.size) (hx2.below (b1.mono hBz)) (below_cell k0 b1)).mono ?_; rintro r w2 ⟨rfl, rfl⟩))
        go_ret2
        rw [E2.out]
        exact ⟨rfl, hbw.trans (b1.mono hbw.size)⟩
      · have E2 : Hid (priceF xs h e m g bb = (wholeP ⟨xg, xp⟩ h e g bb, 0)) := by rw [Hid, E.out]; simp [costOf, q2]
        rw [q1] at hst
        obtain ⟨⟨_, _⟩, p0, p1⟩ := Hss.out _ (List.mem_of_getElem? hj)
        have hwh := fun W h1' h2 h3 h4 h5 => l23Whole_any w.heap.size 0 A n c xs h e g j ⟨xg, xp⟩ bb W B h1' hn h2 hj p0 p1 h0 h1 e0 e1 g0 g1 h3 h4 h5
        rw [Nat.zero_add] at hst
        have hwq := hid hwa
        have hx2 := hx.below (hbw.mono hB)
        have hBz := Nat.le_trans hB hbw.size
        have hjn : j < n := by rw [← hol]; exact (List.getElem?_eq_some_iff.1 hj).1
        clear E q1 q2 hx hj
        subst hwa
        go_enter Tryz.func7, Tryz.ntmps7
        go_wp2_with (first
          | (go_at_call 32; refine hc.mono ?_; rintro r w1 ⟨rfl, b1⟩)
          | (go_at_call 33; refine (hs _).mono ?_; rintro r w2 ⟨rfl, rfl⟩)
          | (go_at_call 34; refine (hst _ (Nat.le_trans hBz b1.size) (hx2.below (b1.mono hBz)) (below_cell k0 b1)).mono ?_; rintro r w2 ⟨rfl, rfl⟩)
          | (go_at_call 35; refine (hwh _ (Nat.le_trans hBz b1.size) (hx2.below (b1.mono hBz)) (below_cell k0 b1) (below_cell k1 b1) (below_cell k2 b1)).mono ?_; rintro r w3 ⟨rfl, b3⟩))
        go_ret2
        rw [E2.out]
        exact ⟨rfl, hbw.trans ((b1.mono hbw.size).trans (b3.mono (Nat.le_trans hbw.size b1.size)))⟩
set_option maxHeartbeats 1000000 in
theorem implPriceFor_any (A : Option Addr) (n c : Nat) (xs : List Step) (h e m g : Int) (bb : Bool) (w : World) (B : Nat) (hB : B ≤ w.heap.size) (hn : n ≤ 2000000) (hx : Sl w B 2 encStep A n xs) :
    Calls Tryz.prog 6 #[.agg #[.slice A n c, .int .i64 h, .int .i64 e], .int .i64 m, .int .i64 g, .bool bb] w fun r w' => r = .returned (pairI (priceF xs h e m g bb)) ∧ Below w.heap.size w w' := by
  obtain ⟨wa, hwa⟩ : ∃ wa, wa = (w.alloc (.cells #[.slice A n c, .int .i64 h, .int .i64 e] 26)) := ⟨_, rfl⟩
  have hbw : Below w.heap.size w wa := by rw [hwa]; exact ((Below.refl _ _).alloc (Nat.le_refl _) _)
  have k0 : wa.cell? ⟨w.heap.size, 0, none⟩ = some (.slice A n c) := by rw [hwa]; go_simp
  have k1 : wa.cell? ⟨w.heap.size, 1, none⟩ = some (.int .i64 h) := by rw [hwa]; go_simp
  have k2 : wa.cell? ⟨w.heap.size, 2, none⟩ = some (.int .i64 e) := by rw [hwa]; go_simp
  have hc := tariffCode_any A n c xs h e m g 0 wa B (Nat.le_trans hB hbw.size) hn (hx.below (hbw.mono hB))
  by_cases hq : validT ⟨xs, h, e⟩ = true ∧ (inR m 0 5000 && inR g 0 20000) = true
  · obtain ⟨hv, hz⟩ := hq
    have ec : codeT (validT ⟨xs, h, e⟩) m g 0 = 0 := by
      have hz2 := hz
      simp only [Bool.and_eq_true] at hz2
      simp only [codeT, hv, hz2.1, hz2.2]; rfl
    rw [ec] at hc
    obtain ⟨_, g0, g1⟩ : (0 ≤ m ∧ m ≤ 5000) ∧ 0 ≤ g ∧ g ≤ 20000 := by simpa only [Bool.and_eq_true, inR_iff] using hz
    have E : Hid (priceF xs h e m g bb = match costOf xs h e m g bb with | none => (0, 5) | some z => (z, 0)) := by simp only [Hid, priceF, hv, hz]; rfl
    have hx2 := hx.below (hbw.mono hB)
    have hBz := Nat.le_trans hB hbw.size
    have hco := fun W h1 h2 => cost_any A n c xs h e m g bb W B h1 hn h2 hv g0 g1
    clear hx hv hz ec
    cases ho : costOf xs h e m g bb with
    | none =>
      have E2 : Hid (priceF xs h e m g bb = (0, 5)) := by rw [Hid, E.out, ho]
      rw [ho] at hco
      simp only [costV, Option.getD, Option.isSome] at hco
      clear E ho
      subst hwa
      go_enter Tryz.func6, Tryz.ntmps6
      go_wp2_with (first
        | (go_at_call 30; refine hc.mono ?_; rintro r w1 ⟨rfl, b1⟩; replace k0 := below_cell k0 b1; replace k1 := below_cell k1 b1; replace k2 := below_cell k2 b1)
        | (go_at_call 31; refine (hco _ (Nat.le_trans hBz b1.size) (hx2.below (b1.mono hBz))).mono ?_; rintro r w2 ⟨rfl, b2⟩))
      go_ret2
      rw [E2.out]
      exact ⟨rfl, hbw.trans ((b1.mono hbw.size).trans (b2.mono (Nat.le_trans hbw.size b1.size)))⟩
    | some z =>
      have E2 : Hid (priceF xs h e m g bb = (z, 0)) := by rw [Hid, E.out, ho]
      rw [ho] at hco
      simp only [costV, Option.getD, Option.isSome] at hco
      clear E ho
      subst hwa
      go_enter Tryz.func6, Tryz.ntmps6
      go_wp2_with (first
        | (go_at_call 30; refine hc.mono ?_; rintro r w1 ⟨rfl, b1⟩; replace k0 := below_cell k0 b1; replace k1 := below_cell k1 b1; replace k2 := below_cell k2 b1)
        | (go_at_call 31; refine (hco _ (Nat.le_trans hBz b1.size) (hx2.below (b1.mono hBz))).mono ?_; rintro r w2 ⟨rfl, b2⟩))
      go_ret2
      rw [E2.out]
      exact ⟨rfl, hbw.trans ((b1.mono hbw.size).trans (b2.mono (Nat.le_trans hbw.size b1.size)))⟩
  · obtain ⟨z, hz, hz0, hp⟩ : ∃ z, codeT (validT ⟨xs, h, e⟩) m g 0 = z ∧ z ≠ 0 ∧ priceF xs h e m g bb = (0, z) := by
      cases hv : validT ⟨xs, h, e⟩ with
      | false => exact ⟨1, rfl, by omega, by simp [priceF, hv]⟩
      | true =>
        have hz : (inR m 0 5000 && inR g 0 20000) = false := by
          cases hz : (inR m 0 5000 && inR g 0 20000) with
          | false => rfl
          | true => exact absurd ⟨hv, hz⟩ hq
        refine ⟨2, ?_, by omega, by simp only [priceF, hv, hz]; rfl⟩
        simp only [codeT, hz]; rfl
    rw [hz] at hc
    have E2 := hid hp
    clear hp hx hq hz
    subst hwa
    go_enter Tryz.func6, Tryz.ntmps6
    go_wp2_with (go_at_call 30; refine hc.mono ?_; rintro r w1 ⟨rfl, b1⟩)
    go_ret2
    rw [E2.out]
    exact ⟨rfl, hbw.trans (b1.mono hbw.size)⟩
end Go.Proofs.YtngfhpklakhehaaGreatDoor
