/-
  The statement on ReadTariff, walked. No condition but what lies laid.
-/
import Derived.Test.YtngfhpklakhehaaDoorRTarI
import Derived.Test.YtngfhpklakhehaaDoorTariff2
import Derived.Test.YtngfhpklakhehaaDoorInt
namespace Go.Proofs.YtngfhpklakhehaaDoor
open Go.RowKit
set_option maxHeartbeats 400000

theorem markTariff_any (lo : Nat) (A : Option Addr) (n c : Nat) (l : List Value) (h e m : Int) (w : World) (hn : n ≤ 2000000) (h0 : 0 ≤ m) (h1 : m ≤ 9000000) (hown : w.ownsRow lo 37 2 (.slice A n c) n l) :
    Calls Tryd.prog 7 #[.agg #[.slice A n c, .int .i64 h, .int .i64 e], .int .i64 m] w fun r w' => r = .returned (.int .i64 (m + 2 * n)) ∧ w'.ownsRow lo 37 2 (.slice A n c) n ((marksStep m n).flatMap encStep) ∧ w.grownBy w' (Value.slice A n c).ownBlock := by
  go_enter Tryd.func7, Tryd.ntmps7
  go_wp2_with (go_at_call 20; refine (markStepS_any lo A n c l m _ hn h0 h1 (hown.alloc _)).mono ?_; rintro r w1 ⟨rfl, o1, g1⟩)
  go_ret
  exact ⟨rfl, o1, (gr_alloc (World.grownBy.refl _ _)).trans g1⟩
theorem heldTariff_any (A : Option Addr) (n c : Nat) (h e m : Int) (w : World) (B : Nat) (hB : B ≤ w.heap.size) (hn : n ≤ 2000000) (h0 : 0 ≤ m) (h1 : m ≤ 9000000) (hx : Sl w B 2 encStep A n (marksStep m n)) :
    Calls Tryd.prog 8 #[.agg #[.slice A n c, .int .i64 h, .int .i64 e], .int .i64 m] w fun r w' => r = .returned (.int .i64 (m + 2 * n)) ∧ Below w.heap.size w w' := by
  go_enter Tryd.func8, Tryd.ntmps8
  go_wp2_with (go_at_call 21; refine (heldStepS_any A n c m _ B hn h0 h1 (hx.alloc hB _)).mono ?_; rintro r w1 ⟨rfl, b1⟩)
  go_ret
  exact ⟨rfl, ((Below.refl _ _).alloc (Nat.le_refl _) _).trans (b1.mono (by simp))⟩
theorem grown_cell {w w' : World} {p : Addr} {v : Value} {row : Option Nat} (h : w.cell? p = some v) (g : w.grownBy w' row) (hp : some p.block ≠ row) : w'.cell? p = some v := g.cell h hp

theorem readT_len (s : List UInt8) : (sOf (readT s)).length ≤ 8 := by
  cases h : readT s with
  | none => exact Nat.zero_le _
  | some t => exact (valid_parts (readT_some h).1).2.2.1
set_option maxHeartbeats 4000000 in
set_option maxRecDepth 100000 in
theorem FnExactReadTariff_walk (s : ByteArray) (w : World) (hs : s.size ≤ 9223372036854775807) (L : LibW w) :
    Calls Tryd.prog 3 #[.string s] w fun r w' => r = .returned (.bool true) ∧ Below w.heap.size w w' := by
  have HS := fun w (hs : s.size ≤ 1048576) => specReadTariff_any s w hs
  have HI := fun w (hs : s.size ≤ 1048576) (L : LibW w) => implReadTariff_any s w hs L
  have hres := readT_len s.data.toList
  unfold TarP at HS HI
  generalize readT s.data.toList = q at HS HI hres
  obtain ⟨res, hr⟩ : ∃ x, x = sOf q := ⟨_, rfl⟩
  obtain ⟨H, hH⟩ : ∃ x, x = hOf q := ⟨_, rfl⟩
  obtain ⟨F, hF⟩ : ∃ x, x = eOf q := ⟨_, rfl⟩
  obtain ⟨z, hz⟩ : ∃ x, x = q.isSome := ⟨_, rfl⟩
  rw [← hr] at hres
  simp only [← hr, ← hH, ← hF, ← hz] at HS HI
  clear hr hH hF hz
  have nz : (!true || z != z) = false := by cases z <;> rfl
  go_enter Tryd.func3, Tryd.ntmps3
  by_cases hb : s.size ≤ 1048576
  · have hb1 : (s.size : Int) ≤ 1048576 := by omega
    replace HS := fun w => HS w hb
    replace HI := fun w => HI w hb
    go_wp2_with fail
    refine (HS w).mono ?_
    rintro r w1 ⟨A1, n1, c1, rfl, p1, b1⟩
    have HM1 := hid (own_len encStep_len (by omega) p1)
    have z1 := b1.size
    have k1 : ∀ b, (Value.slice A1 n1 c1).ownBlock = some b → b < w1.heap.size := fun b hb => (p1.lt b hb).2
    go_wp2_with fail
    have c1a := b1.alloc b1.size (.cells #[.slice A1 n1 c1, .int .i64 H, .int .i64 F] 24)
    refine (HI _ (L.below c1a)).mono ?_
    rintro r w2 ⟨A2, n2, c2, rfl, p2, b2⟩
    have z2 := b2.size
    simp only [World.size_alloc] at z2
    have HM2 := hid (own_len encStep_len (by omega) p2)
    have k2 : ∀ b, (Value.slice A2 n2 c2).ownBlock = some b → w1.heap.size + 1 ≤ b ∧ b < w2.heap.size := fun b hb => by have := p2.lt b hb; simp only [World.size_alloc] at this; exact this
    have B2 : Below w1.heap.size w1 w2 := ((Below.refl _ _).alloc (Nat.le_refl _) (.cells #[.slice A1 n1 c1, .int .i64 H, .int .i64 F] 24)).trans (b2.mono (by simp))
    have u0 : w2.cell? ⟨w1.heap.size, 0, none⟩ = some (.slice A1 n1 c1) := below_cell ((World.cell?_alloc_at _ _ _ _ rfl).trans rfl) b2
    have u1 : w2.cell? ⟨w1.heap.size, 1, none⟩ = some (.int .i64 H) := below_cell ((World.cell?_alloc_at _ _ _ _ rfl).trans rfl) b2
    have u2 : w2.cell? ⟨w1.heap.size, 2, none⟩ = some (.int .i64 F) := below_cell ((World.cell?_alloc_at _ _ _ _ rfl).trans rfl) b2
    have lt_u0 := World.block_lt_of_cell? _ _ u0
    simp only at lt_u0
    have d2 := c1a.trans (b2.mono c1a.size)
    replace p1 := own_below p1 B2
    clear b1 b2 B2 c1a
    go_wp2_with fail
    have d2a := d2.alloc d2.size (.cells #[.slice A2 n2 c2, .int .i64 H, .int .i64 F] 24)
    refine (eqTariff_yes _ _ _ _ _ _ res H F _ _ (Nat.le_refl _) (by rw [HM2.out]; omega) (own_sl encStep_len (by omega) (p2.alloc _)) (own_sl encStep_len (by omega) (p1.alloc _))).mono ?_
    rintro r w3 ⟨rfl, b3⟩
    have z3 := b3.size
    simp only [World.size_alloc] at z3
    have B3 : Below w2.heap.size w2 w3 := ((Below.refl _ _).alloc (Nat.le_refl _) (.cells #[.slice A2 n2 c2, .int .i64 H, .int .i64 F] 24)).trans (b3.mono (by simp))
    replace u0 := below_cell u0 B3; replace u1 := below_cell u1 B3; replace u2 := below_cell u2 B3
    replace lt_u0 := Nat.lt_of_lt_of_le lt_u0 B3.size
    have y0 : w3.cell? ⟨w2.heap.size, 0, none⟩ = some (.slice A2 n2 c2) := below_cell ((World.cell?_alloc_at _ _ _ _ rfl).trans rfl) b3
    have y1 : w3.cell? ⟨w2.heap.size, 1, none⟩ = some (.int .i64 H) := below_cell ((World.cell?_alloc_at _ _ _ _ rfl).trans rfl) b3
    have y2 : w3.cell? ⟨w2.heap.size, 2, none⟩ = some (.int .i64 F) := below_cell ((World.cell?_alloc_at _ _ _ _ rfl).trans rfl) b3
    have lt_y0 := World.block_lt_of_cell? _ _ y0
    simp only at lt_y0
    have c3 := d2a.trans (b3.mono d2a.size)
    replace p1 := own_below p1 B3
    replace p2 := own_below p2 B3
    clear b3 B3 d2 d2a
    go_wp2_with fail
    refine (markTariff_any _ _ _ _ _ _ _ _ _ (by rw [HM2.out]; omega) (by omega) (by omega) p2).mono ?_
    rintro r w4 ⟨rfl, p4, y4⟩
    have z4 := y4.size
    have c4 := grown_below c3 y4 c3.size (fun b hb => by have := k2 b hb; omega)
    replace u0 := grown_cell u0 y4 (fun e => by have := k2 _ e.symm; simp only at this; omega); replace u1 := grown_cell u1 y4 (fun e => by have := k2 _ e.symm; simp only at this; omega); replace u2 := grown_cell u2 y4 (fun e => by have := k2 _ e.symm; simp only at this; omega); replace y0 := grown_cell y0 y4 (fun e => by have := k2 _ e.symm; simp only at this; omega); replace y1 := grown_cell y1 y4 (fun e => by have := k2 _ e.symm; simp only at this; omega); replace y2 := grown_cell y2 y4 (fun e => by have := k2 _ e.symm; simp only at this; omega)
    replace lt_u0 := Nat.lt_of_lt_of_le lt_u0 y4.size; replace lt_y0 := Nat.lt_of_lt_of_le lt_y0 y4.size
    replace p1 := own_keep p1 (v2 := .slice A2 n2 c2) (fun b hb e => by have := k1 b e; have := k2 b hb; omega) y4
    clear y4 c3 p2
    go_wp2_with fail
    refine (heldTariff_any _ _ _ _ _ 1 _ _ (Nat.le_refl _) (by rw [HM2.out]; omega) (by omega) (by omega) (own_sl encStep_len (by omega) p4)).mono ?_
    rintro r w5 ⟨rfl, b5⟩
    have z5 := b5.size
    replace u0 := below_cell u0 b5; replace u1 := below_cell u1 b5; replace u2 := below_cell u2 b5; replace y0 := below_cell y0 b5; replace y1 := below_cell y1 b5; replace y2 := below_cell y2 b5
    replace lt_u0 := Nat.lt_of_lt_of_le lt_u0 b5.size; replace lt_y0 := Nat.lt_of_lt_of_le lt_y0 b5.size
    have c5 := c4.trans (b5.mono c4.size)
    replace p1 := own_below p1 b5
    replace p4 := own_below p4 b5
    clear b5 c4
    go_wp2_with fail
    refine (HI _ (L.below c5)).mono ?_
    rintro r w6 ⟨A6, n6, c6', rfl, p6, b6⟩
    have z6 := b6.size
    have HM6 := hid (own_len encStep_len (by omega) p6)
    replace u0 := below_cell u0 b6; replace u1 := below_cell u1 b6; replace u2 := below_cell u2 b6; replace y0 := below_cell y0 b6; replace y1 := below_cell y1 b6; replace y2 := below_cell y2 b6
    replace lt_u0 := Nat.lt_of_lt_of_le lt_u0 b6.size; replace lt_y0 := Nat.lt_of_lt_of_le lt_y0 b6.size
    have c6 := c5.trans (b6.mono c5.size)
    replace p1 := own_below p1 b6
    replace p4 := own_below p4 b6
    clear b6 c5
    go_wp2_with fail
    have c6a := c6.alloc c6.size (.cells #[.slice A6 n6 c6', .int .i64 H, .int .i64 F] 24)
    refine (eqTariff_yes _ _ _ _ _ _ res H F _ _ (Nat.le_refl _) (by rw [HM6.out]; omega) (own_sl encStep_len (by omega) (p6.alloc _)) (own_sl encStep_len (by omega) (p1.alloc _))).mono ?_
    rintro r w7 ⟨rfl, b7⟩
    have B7 : Below w6.heap.size w6 w7 := ((Below.refl _ _).alloc (Nat.le_refl _) (.cells #[.slice A6 n6 c6', .int .i64 H, .int .i64 F] 24)).trans (b7.mono (by simp))
    replace u0 := below_cell u0 B7; replace u1 := below_cell u1 B7; replace u2 := below_cell u2 B7; replace y0 := below_cell y0 B7; replace y1 := below_cell y1 B7; replace y2 := below_cell y2 B7
    replace lt_u0 := Nat.lt_of_lt_of_le lt_u0 B7.size; replace lt_y0 := Nat.lt_of_lt_of_le lt_y0 B7.size
    have c7 := c6a.trans (b7.mono c6a.size)
    replace p4 := own_below p4 B7
    clear B7 b7 c6 c6a
    go_wp2_with fail
    refine (heldTariff_any _ _ _ _ _ 1 _ _ (Nat.le_refl _) (by rw [HM2.out]; omega) (by omega) (by omega) (own_sl encStep_len (by omega) p4)).mono ?_
    rintro r w8 ⟨rfl, b8⟩
    have c8 := c7.trans (b8.mono c7.size)
    go_wp2_with fail
    go_ret
    exact ⟨rfl, c8⟩
  · have hb1 : (1048576 : Int) < (s.size : Int) := by omega
    go_wp2_with fail
    go_ret
    exact ⟨rfl, Below.refl _ _⟩
end Go.Proofs.YtngfhpklakhehaaDoor
