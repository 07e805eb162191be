/-
  The statement on RaiseTariff, walked. No condition.
-/
import Derived.Test.YtjmdbpmlphhinaaTRaise2
import Derived.Test.YtjmdbpmlphhinaaLawTariff
namespace Go.Proofs.Ytjmdbpmlphhinaa
open Go.RowKit
set_option maxHeartbeats 400000

theorem markTariff_any (lo : Nat) (A : Option Addr) (n c : Nat) (l : List Value) (h e m : Int) (w : World) (hn : n ≤ 2000000) (h0 : 0 ≤ m) (h1 : m ≤ 9000000) (hown : w.ownsRow lo 62 2 (.slice A n c) n l) :
    Calls Try.prog 21 #[.agg #[.slice A n c, .int .i64 h, .int .i64 e], .int .i64 m] w fun r w' => r = .returned (.int .i64 (m + 2 * n)) ∧ w'.ownsRow lo 62 2 (.slice A n c) n ((marksStep m n).flatMap encStep) ∧ w.grownBy w' (Value.slice A n c).ownBlock := by
  go_enter Try.func21, Try.ntmps21
  go_wp2_with (go_at_call 51; refine (markStepS_any lo A n c l m _ hn h0 h1 (hown.alloc _)).mono ?_; rintro r w1 ⟨rfl, o1, g1⟩)
  go_ret
  exact ⟨rfl, o1, (gr_alloc (World.grownBy.refl _ _)).trans g1⟩
theorem heldTariff_any (A : Option Addr) (n c : Nat) (h e m : Int) (w : World) (B : Nat) (hB : B ≤ w.heap.size) (hn : n ≤ 2000000) (h0 : 0 ≤ m) (h1 : m ≤ 9000000) (hx : Sl w B 2 encStep A n (marksStep m n)) :
    Calls Try.prog 22 #[.agg #[.slice A n c, .int .i64 h, .int .i64 e], .int .i64 m] w fun r w' => r = .returned (.int .i64 (m + 2 * n)) ∧ Below w.heap.size w w' := by
  go_enter Try.func22, Try.ntmps22
  go_wp2_with (go_at_call 52; refine (heldStepS_any A n c m _ B hn h0 h1 (hx.alloc hB _)).mono ?_; rintro r w1 ⟨rfl, b1⟩)
  go_ret
  exact ⟨rfl, ((Below.refl _ _).alloc (Nat.le_refl _) _).trans (b1.mono (by simp))⟩
theorem own_len {α : Type} {enc : α → List Value} {k : Nat} (hk : ∀ x, (enc x).length = k) (hk0 : 0 < k) {w : World} {lo T : Nat} {v : Value} {n : Nat} {xs : List α} (h : w.ownsRow lo T k v n (xs.flatMap enc)) : n = xs.length := by
  have hl := h.1
  rw [flatMap_len hk] at hl
  exact (Nat.eq_of_mul_eq_mul_right hk0 hl).symm
theorem raised_len (p : Int) (xs : List Step) : (raisedS p xs).length = xs.length := by simp [raisedS]
theorem raiseT_len (xs : List Step) (h e p : Int) : (raiseT xs h e p).1.length ≤ xs.length := by
  unfold raiseT
  split
  · split
    · split
      · exact Nat.le_of_eq (raised_len _ _)
      · exact Nat.zero_le _
    · exact Nat.zero_le _
  · exact Nat.zero_le _
theorem grown_cell {w w' : World} {p : Addr} {v : Value} {row : Option Nat} (h : w.cell? p = some v) (g : w.grownBy w' row) (hp : some p.block ≠ row) : w'.cell? p = some v := g.cell h hp

set_option maxHeartbeats 4000000 in
set_option maxRecDepth 100000 in
theorem FnExactRaiseTariff_walk (A : Option Addr) (n c : Nat) (xs : List Step) (h e p : Int) (w : World) (hn : n ≤ 9223372036854775807) (hx : Sl w w.heap.size 2 encStep A n xs) :
    Calls Try.prog 5 #[.agg #[.slice A n c, .int .i64 h, .int .i64 e], .int .i64 p] w fun r w' => r = .returned (.bool true) ∧ Below w.heap.size w w' := by
  have HS := fun A n c w B hB hn hx => specRaiseTariff_any A n c xs h e p w B hB hn hx
  have HI := fun A n c w B hB hn hx => implRaiseTariff_any A n c xs h e p w B hB hn hx
  have hres : (raiseT xs h e p).1.length ≤ n := by rw [← hx.len]; exact raiseT_len xs h e p
  generalize raiseT xs h e p = R at HS HI hres
  obtain ⟨res, H, F, z⟩ := R
  replace HS : ∀ (A : Option Addr) (n c : Nat) (w : World) (B : Nat), B ≤ w.heap.size → n ≤ 2000000 → Sl w B 2 encStep A n xs → Calls Try.prog 19 #[.agg #[.slice A n c, .int .i64 h, .int .i64 e], .int .i64 p] w (fun r w' => ∃ A1 n1 c1, r = .returned (.tuple #[.agg #[.slice A1 n1 c1, .int .i64 H, .int .i64 F], .int .i64 z]) ∧ w'.ownsRow w.heap.size 62 2 (.slice A1 n1 c1) n1 (res.flatMap encStep) ∧ Below w.heap.size w w') := HS
  replace HI : ∀ (A : Option Addr) (n c : Nat) (w : World) (B : Nat), B ≤ w.heap.size → n ≤ 2000000 → Sl w B 2 encStep A n xs → Calls Try.prog 20 #[.agg #[.slice A n c, .int .i64 h, .int .i64 e], .int .i64 p] w (fun r w' => ∃ A1 n1 c1, r = .returned (.tuple #[.agg #[.slice A1 n1 c1, .int .i64 H, .int .i64 F], .int .i64 z]) ∧ w'.ownsRow w.heap.size 62 2 (.slice A1 n1 c1) n1 (res.flatMap encStep) ∧ Below w.heap.size w w') := HI
  replace hres : res.length ≤ n := hres
  go_enter Try.func5, Try.ntmps5
  go_wp2_with fail
  refine (szTariff_any _ _ _ _ _ _ _ hn (by omega) (by omega)).mono ?_
  rintro r w0 ⟨rfl, b0⟩
  have c0 : Below w.heap.size w w0 := ((Below.refl _ _).alloc (Nat.le_refl _) _).trans (b0.mono (by simp))
  by_cases hb : n ≤ 1048576
  · have h0 := szStep_small hb
    have t0 : w0.cell? ⟨w.heap.size, 0, none⟩ = some (.slice A n c) := below_cell (by go_simp) b0
    have t1 : w0.cell? ⟨w.heap.size, 1, none⟩ = some (.int .i64 h) := below_cell (by go_simp) b0
    have t2 : w0.cell? ⟨w.heap.size, 2, none⟩ = some (.int .i64 e) := below_cell (by go_simp) b0
    have lt_t0 := World.block_lt_of_cell? _ _ t0
    simp only at lt_t0
    have zw := c0.size
    clear b0
    generalize szStep 1048576 n = left at h0
    go_wp2_with fail
    refine (toTariff_any A n c xs h e _ _ c0.size (by omega) (hx.below c0)).mono ?_
    rintro r w1 ⟨g1, rfl, o1, b1⟩
    replace t0 := below_cell t0 b1; replace t1 := below_cell t1 b1; replace t2 := below_cell t2 b1
    replace lt_t0 := Nat.lt_of_lt_of_le lt_t0 b1.size
    have c1 := c0.trans (b1.mono c0.size)
    have z1 := b1.size
    go_wp2_with fail
    refine (HS _ _ _ _ _ (Nat.le_refl _) (by omega) (own_sl encStep_len (by omega) o1)).mono ?_
    rintro r w2 ⟨A1, n1, c1', rfl, p1, b2⟩
    replace t0 := below_cell t0 b2; replace t1 := below_cell t1 b2; replace t2 := below_cell t2 b2
    replace lt_t0 := Nat.lt_of_lt_of_le lt_t0 b2.size
    have c2 := c1.trans (b2.mono c1.size)
    have z2 := b2.size
    have HM1 := hid (own_len encStep_len (by omega) p1)
    clear o1 b1 c0 c1 b2
    go_wp2_with fail
    have c2a := c2.alloc c2.size (.cells #[.slice A1 n1 c1', .int .i64 H, .int .i64 F] 29)
    refine (toTariff_any A n c xs h e _ _ (by simp; omega) (by omega) (hx.below c2a)).mono ?_
    rintro r w3 ⟨g3, rfl, o3, b3⟩
    have z3 := b3.size
    simp only [World.size_alloc] at z3
    have B3 : Below w2.heap.size w2 w3 := ((Below.refl _ _).alloc (Nat.le_refl _) (.cells #[.slice A1 n1 c1', .int .i64 H, .int .i64 F] 29)).trans (b3.mono (by simp))
    replace t0 := below_cell t0 B3; replace t1 := below_cell t1 B3; replace t2 := below_cell t2 B3
    replace lt_t0 := Nat.lt_of_lt_of_le lt_t0 B3.size
    have u0 : w3.cell? ⟨w2.heap.size, 0, none⟩ = some (.slice A1 n1 c1') := below_cell ((World.cell?_alloc_at _ _ _ _ rfl).trans rfl) b3
    have u1 : w3.cell? ⟨w2.heap.size, 1, none⟩ = some (.int .i64 H) := below_cell ((World.cell?_alloc_at _ _ _ _ rfl).trans rfl) b3
    have u2 : w3.cell? ⟨w2.heap.size, 2, none⟩ = some (.int .i64 F) := below_cell ((World.cell?_alloc_at _ _ _ _ rfl).trans rfl) b3
    have lt_u0 := World.block_lt_of_cell? _ _ u0
    simp only at lt_u0
    have c3 := c2a.trans (b3.mono c2a.size)
    have k3 := own_lt o3
    simp only [World.size_alloc] at k3
    have k1 : ∀ b, (Value.slice A1 n1 c1').ownBlock = some b → b < w2.heap.size := fun b hb => (p1.lt b hb).2
    replace p1 := own_below p1 B3
    clear b3 B3 c2 c2a
    go_wp2_with fail
    have c3a := c3.alloc c3.size (.cells #[.slice (some ⟨g3, 0, none⟩) n n, .int .i64 h, .int .i64 e] 29)
    refine (HI _ _ _ _ _ (by simp) (by omega) ((own_sl encStep_len (by omega) o3).alloc (Nat.le_refl _) _)).mono ?_
    rintro r w4 ⟨A4, n4, c4', rfl, p4, b4⟩
    have z4 := b4.size
    simp only [World.size_alloc] at z4
    have B4 : Below w3.heap.size w3 w4 := ((Below.refl _ _).alloc (Nat.le_refl _) (.cells #[.slice (some ⟨g3, 0, none⟩) n n, .int .i64 h, .int .i64 e] 29)).trans (b4.mono (by simp))
    replace t0 := below_cell t0 B4; replace t1 := below_cell t1 B4; replace t2 := below_cell t2 B4; replace u0 := below_cell u0 B4; replace u1 := below_cell u1 B4; replace u2 := below_cell u2 B4
    replace lt_t0 := Nat.lt_of_lt_of_le lt_t0 B4.size; replace lt_u0 := Nat.lt_of_lt_of_le lt_u0 B4.size
    have x0 : w4.cell? ⟨w3.heap.size, 0, none⟩ = some (.slice (some ⟨g3, 0, none⟩) n n) := below_cell ((World.cell?_alloc_at _ _ _ _ rfl).trans rfl) b4
    have x1 : w4.cell? ⟨w3.heap.size, 1, none⟩ = some (.int .i64 h) := below_cell ((World.cell?_alloc_at _ _ _ _ rfl).trans rfl) b4
    have x2 : w4.cell? ⟨w3.heap.size, 2, none⟩ = some (.int .i64 e) := below_cell ((World.cell?_alloc_at _ _ _ _ rfl).trans rfl) b4
    have lt_x0 := World.block_lt_of_cell? _ _ x0
    simp only at lt_x0
    have c4 := c3a.trans (b4.mono c3a.size)
    have k4 : ∀ b, (Value.slice A4 n4 c4').ownBlock = some b → w3.heap.size + 1 ≤ b ∧ b < w4.heap.size := fun b hb => by have := p4.lt b hb; simp only [World.size_alloc] at this; exact this
    have HM4 := hid (own_len encStep_len (by omega) p4)
    replace p1 := own_below p1 B4
    replace o3 := own_below o3 B4
    clear b4 B4 c3 c3a
    go_wp2_with fail
    have c4a := c4.alloc c4.size (.cells #[.slice A4 n4 c4', .int .i64 H, .int .i64 F] 29)
    refine (eqTariff_yes _ _ _ _ _ _ res H F _ _ (Nat.le_refl _) (by rw [HM4.out]; omega) (own_sl encStep_len (by omega) (p4.alloc _)) (own_sl encStep_len (by omega) (p1.alloc _))).mono ?_
    rintro r w5 ⟨rfl, b5⟩
    have z5 := b5.size
    simp only [World.size_alloc] at z5
    have B5 : Below w4.heap.size w4 w5 := ((Below.refl _ _).alloc (Nat.le_refl _) (.cells #[.slice A4 n4 c4', .int .i64 H, .int .i64 F] 29)).trans (b5.mono (by simp))
    replace t0 := below_cell t0 B5; replace t1 := below_cell t1 B5; replace t2 := below_cell t2 B5; replace u0 := below_cell u0 B5; replace u1 := below_cell u1 B5; replace u2 := below_cell u2 B5; replace x0 := below_cell x0 B5; replace x1 := below_cell x1 B5; replace x2 := below_cell x2 B5
    replace lt_t0 := Nat.lt_of_lt_of_le lt_t0 B5.size; replace lt_u0 := Nat.lt_of_lt_of_le lt_u0 B5.size; replace lt_x0 := Nat.lt_of_lt_of_le lt_x0 B5.size
    have y0 : w5.cell? ⟨w4.heap.size, 0, none⟩ = some (.slice A4 n4 c4') := below_cell ((World.cell?_alloc_at _ _ _ _ rfl).trans rfl) b5
    have y1 : w5.cell? ⟨w4.heap.size, 1, none⟩ = some (.int .i64 H) := below_cell ((World.cell?_alloc_at _ _ _ _ rfl).trans rfl) b5
    have y2 : w5.cell? ⟨w4.heap.size, 2, none⟩ = some (.int .i64 F) := below_cell ((World.cell?_alloc_at _ _ _ _ rfl).trans rfl) b5
    have lt_y0 := World.block_lt_of_cell? _ _ y0
    simp only at lt_y0
    have c5 := c4a.trans (b5.mono c4a.size)
    replace p1 := own_below p1 B5
    replace p4 := own_below p4 B5
    replace o3 := own_below o3 B5
    clear b5 B5 c4 c4a
    go_wp2_with fail
    go_region_held3 (fun W => W.cell? ⟨w.heap.size, 0, none⟩ = some (.slice A n c) ∧ W.cell? ⟨w.heap.size, 1, none⟩ = some (.int .i64 h) ∧ W.cell? ⟨w.heap.size, 2, none⟩ = some (.int .i64 e) ∧ W.cell? ⟨w3.heap.size, 0, none⟩ = some (.slice (some ⟨g3, 0, none⟩) n n) ∧ W.cell? ⟨w3.heap.size, 1, none⟩ = some (.int .i64 h) ∧ W.cell? ⟨w3.heap.size, 2, none⟩ = some (.int .i64 e))
      (first
        | go_keep
        | (go_split_ands; refine ⟨below_cell (by assumption) b7, below_cell (by assumption) b7, below_cell (by assumption) b7, below_cell (by assumption) b7, below_cell (by assumption) b7, below_cell (by assumption) b7⟩)
        | (go_split_ands; refine ⟨below_cell (by assumption) b6, below_cell (by assumption) b6, below_cell (by assumption) b6, below_cell (by assumption) b6, below_cell (by assumption) b6, below_cell (by assumption) b6⟩))
      (first
        | (go_at_call 14; with_reducible refine (toTariff_any A n c xs h e _ _ c5.drew.size (by omega) (hx.below c5.drew)).mono ?_; rintro r w6 ⟨g6, rfl, o6, b6⟩)
        | (go_at_call 16; with_reducible refine (eqTariff_yes _ _ _ _ _ _ xs h e _ _ (Nat.le_refl _) (by omega) (own_sl encStep_len (by omega) (own_below (ow_drew o3) b6)) (own_sl encStep_len (by omega) o6)).mono ?_; rintro r w7 ⟨rfl, b7⟩))
    have B7 : Below w5.heap.size w5 w7 := ((Below.refl _ _).drew.trans b6).trans (b7.mono b6.size)
    have z7 := B7.size
    replace t0 := below_cell t0 B7; replace t1 := below_cell t1 B7; replace t2 := below_cell t2 B7; replace u0 := below_cell u0 B7; replace u1 := below_cell u1 B7; replace u2 := below_cell u2 B7; replace x0 := below_cell x0 B7; replace x1 := below_cell x1 B7; replace x2 := below_cell x2 B7; replace y0 := below_cell y0 B7; replace y1 := below_cell y1 B7; replace y2 := below_cell y2 B7
    replace lt_t0 := Nat.lt_of_lt_of_le lt_t0 B7.size; replace lt_u0 := Nat.lt_of_lt_of_le lt_u0 B7.size; replace lt_x0 := Nat.lt_of_lt_of_le lt_x0 B7.size; replace lt_y0 := Nat.lt_of_lt_of_le lt_y0 B7.size
    have c7 := c5.trans (B7.mono c5.size)
    replace p1 := own_below p1 B7
    replace p4 := own_below p4 B7
    replace o3 := own_below o3 B7
    clear b6 b7 B7 o6 c5
    go_wp2_with fail
    refine (markTariff_any _ _ _ _ _ _ _ _ _ (by omega) (by omega) (by omega) o3).mono ?_
    rintro r w8 ⟨rfl, o8, y8⟩
    have z8 := y8.size
    have c8 := grown_below c7 y8 c7.size (fun b hb => by simp [Value.ownBlock] at hb; omega)
    replace t0 := grown_cell t0 y8 (by simp [Value.ownBlock]; omega); replace t1 := grown_cell t1 y8 (by simp [Value.ownBlock]; omega); replace t2 := grown_cell t2 y8 (by simp [Value.ownBlock]; omega); replace u0 := grown_cell u0 y8 (by simp [Value.ownBlock]; omega); replace u1 := grown_cell u1 y8 (by simp [Value.ownBlock]; omega); replace u2 := grown_cell u2 y8 (by simp [Value.ownBlock]; omega); replace x0 := grown_cell x0 y8 (by simp [Value.ownBlock]; omega); replace x1 := grown_cell x1 y8 (by simp [Value.ownBlock]; omega); replace x2 := grown_cell x2 y8 (by simp [Value.ownBlock]; omega); replace y0 := grown_cell y0 y8 (by simp [Value.ownBlock]; omega); replace y1 := grown_cell y1 y8 (by simp [Value.ownBlock]; omega); replace y2 := grown_cell y2 y8 (by simp [Value.ownBlock]; omega)
    replace lt_t0 := Nat.lt_of_lt_of_le lt_t0 y8.size; replace lt_u0 := Nat.lt_of_lt_of_le lt_u0 y8.size; replace lt_x0 := Nat.lt_of_lt_of_le lt_x0 y8.size; replace lt_y0 := Nat.lt_of_lt_of_le lt_y0 y8.size
    replace p1 := own_keep p1 (v2 := .slice (some ⟨g3, 0, none⟩) n n) (fun b hb e => by have := k1 b e; simp [Value.ownBlock] at hb; omega) y8
    replace p4 := own_keep p4 (v2 := .slice (some ⟨g3, 0, none⟩) n n) (fun b hb e => by have := k4 b e; simp [Value.ownBlock] at hb; omega) y8
    clear y8 o3 o8 c7
    go_wp2_with fail
    refine (eqTariff_yes _ _ _ _ _ _ res H F _ _ (Nat.le_refl _) (by rw [HM4.out]; omega) (own_sl encStep_len (by omega) p4) (own_sl encStep_len (by omega) p1)).mono ?_
    rintro r w9 ⟨rfl, b9⟩
    have z9 := b9.size
    replace t0 := below_cell t0 b9; replace t1 := below_cell t1 b9; replace t2 := below_cell t2 b9; replace u0 := below_cell u0 b9; replace u1 := below_cell u1 b9; replace u2 := below_cell u2 b9; replace x0 := below_cell x0 b9; replace x1 := below_cell x1 b9; replace x2 := below_cell x2 b9; replace y0 := below_cell y0 b9; replace y1 := below_cell y1 b9; replace y2 := below_cell y2 b9
    replace lt_t0 := Nat.lt_of_lt_of_le lt_t0 b9.size; replace lt_u0 := Nat.lt_of_lt_of_le lt_u0 b9.size; replace lt_x0 := Nat.lt_of_lt_of_le lt_x0 b9.size; replace lt_y0 := Nat.lt_of_lt_of_le lt_y0 b9.size
    have c9 := c8.trans (b9.mono c8.size)
    replace p1 := own_below p1 b9
    replace p4 := own_below p4 b9
    clear b9 c8
    go_wp2_with fail
    refine (markTariff_any _ _ _ _ _ _ _ _ _ (by rw [HM4.out]; omega) (by omega) (by omega) p4).mono ?_
    rintro r w10 ⟨rfl, p10, y10⟩
    have z10 := y10.size
    have c10 := grown_below c9 y10 c9.size (fun b hb => by have := k4 b hb; omega)
    replace t0 := grown_cell t0 y10 (fun e => by have := k4 _ e.symm; simp only at this; omega); replace t1 := grown_cell t1 y10 (fun e => by have := k4 _ e.symm; simp only at this; omega); replace t2 := grown_cell t2 y10 (fun e => by have := k4 _ e.symm; simp only at this; omega); replace u0 := grown_cell u0 y10 (fun e => by have := k4 _ e.symm; simp only at this; omega); replace u1 := grown_cell u1 y10 (fun e => by have := k4 _ e.symm; simp only at this; omega); replace u2 := grown_cell u2 y10 (fun e => by have := k4 _ e.symm; simp only at this; omega); replace x0 := grown_cell x0 y10 (fun e => by have := k4 _ e.symm; simp only at this; omega); replace x1 := grown_cell x1 y10 (fun e => by have := k4 _ e.symm; simp only at this; omega); replace x2 := grown_cell x2 y10 (fun e => by have := k4 _ e.symm; simp only at this; omega); replace y0 := grown_cell y0 y10 (fun e => by have := k4 _ e.symm; simp only at this; omega); replace y1 := grown_cell y1 y10 (fun e => by have := k4 _ e.symm; simp only at this; omega); replace y2 := grown_cell y2 y10 (fun e => by have := k4 _ e.symm; simp only at this; omega)
    replace lt_t0 := Nat.lt_of_lt_of_le lt_t0 y10.size; replace lt_u0 := Nat.lt_of_lt_of_le lt_u0 y10.size; replace lt_x0 := Nat.lt_of_lt_of_le lt_x0 y10.size; replace lt_y0 := Nat.lt_of_lt_of_le lt_y0 y10.size
    replace p1 := own_keep p1 (v2 := .slice A4 n4 c4') (fun b hb e => by have := k1 b e; have := k4 b hb; omega) y10
    clear y10 c9 p4
    go_wp2_with fail
    refine (heldTariff_any _ _ _ _ _ 1 _ _ (Nat.le_refl _) (by rw [HM4.out]; omega) (by omega) (by omega) (own_sl encStep_len (by omega) p10)).mono ?_
    rintro r w11 ⟨rfl, b11⟩
    have z11 := b11.size
    replace t0 := below_cell t0 b11; replace t1 := below_cell t1 b11; replace t2 := below_cell t2 b11; replace u0 := below_cell u0 b11; replace u1 := below_cell u1 b11; replace u2 := below_cell u2 b11; replace x0 := below_cell x0 b11; replace x1 := below_cell x1 b11; replace x2 := below_cell x2 b11; replace y0 := below_cell y0 b11; replace y1 := below_cell y1 b11; replace y2 := below_cell y2 b11
    replace lt_t0 := Nat.lt_of_lt_of_le lt_t0 b11.size; replace lt_u0 := Nat.lt_of_lt_of_le lt_u0 b11.size; replace lt_x0 := Nat.lt_of_lt_of_le lt_x0 b11.size; replace lt_y0 := Nat.lt_of_lt_of_le lt_y0 b11.size
    have c11 := c10.trans (b11.mono c10.size)
    replace p1 := own_below p1 b11
    replace p10 := own_below p10 b11
    clear b11 c10
    go_wp2_with fail
    refine (toTariff_any A n c xs h e _ _ c11.size (by omega) (hx.below c11)).mono ?_
    rintro r w12 ⟨g12, rfl, o12, b12⟩
    have z12 := b12.size
    replace t0 := below_cell t0 b12; replace t1 := below_cell t1 b12; replace t2 := below_cell t2 b12; replace u0 := below_cell u0 b12; replace u1 := below_cell u1 b12; replace u2 := below_cell u2 b12; replace x0 := below_cell x0 b12; replace x1 := below_cell x1 b12; replace x2 := below_cell x2 b12; replace y0 := below_cell y0 b12; replace y1 := below_cell y1 b12; replace y2 := below_cell y2 b12
    replace lt_t0 := Nat.lt_of_lt_of_le lt_t0 b12.size; replace lt_u0 := Nat.lt_of_lt_of_le lt_u0 b12.size; replace lt_x0 := Nat.lt_of_lt_of_le lt_x0 b12.size; replace lt_y0 := Nat.lt_of_lt_of_le lt_y0 b12.size
    have c12 := c11.trans (b12.mono c11.size)
    replace p1 := own_below p1 b12
    replace p10 := own_below p10 b12
    clear b12 c11
    go_wp2_with fail
    refine (HI _ _ _ _ _ (Nat.le_refl _) (by omega) (own_sl encStep_len (by omega) o12)).mono ?_
    rintro r w13 ⟨A13, n13, c13', rfl, p13, b13⟩
    have z13 := b13.size
    have HM13 := hid (own_len encStep_len (by omega) p13)
    replace t0 := below_cell t0 b13; replace t1 := below_cell t1 b13; replace t2 := below_cell t2 b13; replace u0 := below_cell u0 b13; replace u1 := below_cell u1 b13; replace u2 := below_cell u2 b13; replace x0 := below_cell x0 b13; replace x1 := below_cell x1 b13; replace x2 := below_cell x2 b13; replace y0 := below_cell y0 b13; replace y1 := below_cell y1 b13; replace y2 := below_cell y2 b13
    replace lt_t0 := Nat.lt_of_lt_of_le lt_t0 b13.size; replace lt_u0 := Nat.lt_of_lt_of_le lt_u0 b13.size; replace lt_x0 := Nat.lt_of_lt_of_le lt_x0 b13.size; replace lt_y0 := Nat.lt_of_lt_of_le lt_y0 b13.size
    have c13 := c12.trans (b13.mono c12.size)
    replace p1 := own_below p1 b13
    replace p10 := own_below p10 b13
    clear b13 c12 o12
    go_wp2_with fail
    have c13a := c13.alloc c13.size (.cells #[.slice A13 n13 c13', .int .i64 H, .int .i64 F] 29)
    refine (eqTariff_yes _ _ _ _ _ _ res H F _ _ (Nat.le_refl _) (by rw [HM13.out]; omega) (own_sl encStep_len (by omega) (p13.alloc _)) (own_sl encStep_len (by omega) (p1.alloc _))).mono ?_
    rintro r w14 ⟨rfl, b14⟩
    have B14 : Below w13.heap.size w13 w14 := ((Below.refl _ _).alloc (Nat.le_refl _) (.cells #[.slice A13 n13 c13', .int .i64 H, .int .i64 F] 29)).trans (b14.mono (by simp))
    replace t0 := below_cell t0 B14; replace t1 := below_cell t1 B14; replace t2 := below_cell t2 B14; replace u0 := below_cell u0 B14; replace u1 := below_cell u1 B14; replace u2 := below_cell u2 B14; replace x0 := below_cell x0 B14; replace x1 := below_cell x1 B14; replace x2 := below_cell x2 B14; replace y0 := below_cell y0 B14; replace y1 := below_cell y1 B14; replace y2 := below_cell y2 B14
    replace lt_t0 := Nat.lt_of_lt_of_le lt_t0 B14.size; replace lt_u0 := Nat.lt_of_lt_of_le lt_u0 B14.size; replace lt_x0 := Nat.lt_of_lt_of_le lt_x0 B14.size; replace lt_y0 := Nat.lt_of_lt_of_le lt_y0 B14.size
    have c14 := c13a.trans (b14.mono c13a.size)
    replace p10 := own_below p10 B14
    clear B14 b14 c13 c13a
    go_wp2_with fail
    refine (heldTariff_any _ _ _ _ _ 1 _ _ (Nat.le_refl _) (by rw [HM4.out]; omega) (by omega) (by omega) (own_sl encStep_len (by omega) p10)).mono ?_
    rintro r w15 ⟨rfl, b15⟩
    have c15 := c14.trans (b15.mono c14.size)
    go_wp2_with fail
    go_ret
    exact ⟨rfl, c15⟩
  · have h0 := szStep_big hb
    go_wp2_with fail
    go_ret
    exact ⟨rfl, c0⟩
end Go.Proofs.Ytjmdbpmlphhinaa
