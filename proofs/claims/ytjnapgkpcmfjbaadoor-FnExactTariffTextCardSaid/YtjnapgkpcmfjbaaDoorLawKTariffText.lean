/-
  The statement on TariffText, walked. No condition but the table that lies laid.
-/
import Derived.Test.YtjnapgkpcmfjbaaDoorKTariff
import Derived.Test.YtjnapgkpcmfjbaaDoorLawTariff
namespace Go.Proofs.YtjnapgkpcmfjbaaDoor
open Go.RowKit
set_option maxHeartbeats 400000

set_option maxHeartbeats 2000000 in
theorem FnExactTariffText_walk (A : Option Addr) (n c : Nat) (xs : List Step) (h e : Int) (w : World) (hn : n ≤ 9223372036854775807) (hx : Sl w w.heap.size 2 encStep A n xs) (htab : TabW w) :
    Calls Tryd.prog 5 #[.agg #[.slice A n c, .int .i64 h, .int .i64 e]] w fun r w' => r = .returned (.bool true) ∧ Below w.heap.size w w' := by
  have HS := fun A n c w B hB hn hx => specTariffText_any A n c xs h e w B hB hn hx
  have HI := fun A n c w B hB hn hx ht => implTariffText_any A n c xs h e w B hB hn hx ht
  generalize tariffF xs h e = R at HS HI
  go_enter Tryd.func5, Tryd.ntmps5
  go_wp2_with fail
  refine (szTariff_any _ _ _ _ _ _ _ hn (by omega) (by omega)).mono ?_
  rintro r w0 ⟨rfl, b0⟩
  have c0 : Below w.heap.size w w0 := ((Below.refl _ _).alloc (Nat.le_refl _) _).trans (b0.mono (by simp))
  by_cases hb : n ≤ 1048576
  · have h0 := szStep_small hb
    have t0 : w0.cell? ⟨w.heap.size, 0, none⟩ = some (.slice A n c) := below_cell (by go_simp) b0
    have t1 : w0.cell? ⟨w.heap.size, 1, none⟩ = some (.int .i64 h) := below_cell (by go_simp) b0
    have t2 : w0.cell? ⟨w.heap.size, 2, none⟩ = some (.int .i64 e) := below_cell (by go_simp) b0
    clear b0
    generalize szStep 1048576 n = left at h0
    go_wp2_with fail
    refine (toTariff_any A n c xs h e _ _ c0.size (by omega) (hx.below c0)).mono ?_
    rintro r w1 ⟨g1, rfl, o1, b1⟩
    replace t0 := below_cell t0 b1; replace t1 := below_cell t1 b1; replace t2 := below_cell t2 b1
    have c1 := c0.trans (b1.mono c0.size)
    go_wp2_with fail
    refine (HS _ _ _ _ _ (Nat.le_refl _) (by omega) (own_sl encStep_len (by omega) o1)).mono ?_
    rintro r w2 ⟨rfl, b2⟩
    replace t0 := below_cell t0 b2; replace t1 := below_cell t1 b2; replace t2 := below_cell t2 b2
    have c2 := c1.trans (b2.mono c1.size)
    have l0 := World.block_lt_of_cell? _ _ t0
    simp only at l0
    go_wp2_with fail
    refine (toTariff_any A n c xs h e _ _ c2.size (by omega) (hx.below c2)).mono ?_
    rintro r w3 ⟨g3, rfl, o3, b3⟩
    replace t0 := below_cell t0 b3; replace t1 := below_cell t1 b3; replace t2 := below_cell t2 b3
    have c3 := c2.trans (b3.mono c2.size)
    replace l0 := Nat.lt_of_lt_of_le l0 b3.size
    go_wp2_with fail
    have c4 := c3.alloc c3.size (.cells #[.slice (some ⟨g3, 0, none⟩) n n, .int .i64 h, .int .i64 e] 41)
    refine (HI _ _ _ _ _ (by simp) (by omega) ((own_sl encStep_len (by omega) o3).alloc (Nat.le_refl _) _) (htab.below c4)).mono ?_
    rintro r w5 ⟨rfl, b5⟩
    have u0 : w5.cell? ⟨w3.heap.size, 0, none⟩ = some (.slice (some ⟨g3, 0, none⟩) n n) := below_cell ((World.cell?_alloc_at _ _ _ _ rfl).trans rfl) b5
    have u1 : w5.cell? ⟨w3.heap.size, 1, none⟩ = some (.int .i64 h) := below_cell ((World.cell?_alloc_at _ _ _ _ rfl).trans rfl) b5
    have u2 : w5.cell? ⟨w3.heap.size, 2, none⟩ = some (.int .i64 e) := below_cell ((World.cell?_alloc_at _ _ _ _ rfl).trans rfl) b5
    replace t0 := below_cell (below_cell t0 ((Below.refl _ _).alloc (Nat.le_refl _) (.cells #[.slice (some ⟨g3, 0, none⟩) n n, .int .i64 h, .int .i64 e] 41))) b5
    replace t1 := below_cell (below_cell t1 ((Below.refl _ _).alloc (Nat.le_refl _) (.cells #[.slice (some ⟨g3, 0, none⟩) n n, .int .i64 h, .int .i64 e] 41))) b5
    replace t2 := below_cell (below_cell t2 ((Below.refl _ _).alloc (Nat.le_refl _) (.cells #[.slice (some ⟨g3, 0, none⟩) n n, .int .i64 h, .int .i64 e] 41))) b5
    replace o3 := own_below (o3.alloc (.cells #[.slice (some ⟨g3, 0, none⟩) n n, .int .i64 h, .int .i64 e] 41)) b5
    have c5 := c4.trans (b5.mono c4.size)
    clear b5 c4 c3 c2 c1 c0 o1 b1 b2 b3 HS HI
    go_wp2_with fail
    go_region_held3 (fun W => W.cell? ⟨w.heap.size, 0, none⟩ = some (.slice A n c) ∧ W.cell? ⟨w.heap.size, 1, none⟩ = some (.int .i64 h) ∧ W.cell? ⟨w.heap.size, 2, none⟩ = some (.int .i64 e) ∧ W.cell? ⟨w3.heap.size, 0, none⟩ = some (.slice (some ⟨g3, 0, none⟩) n n) ∧ W.cell? ⟨w3.heap.size, 1, none⟩ = some (.int .i64 h) ∧ W.cell? ⟨w3.heap.size, 2, none⟩ = some (.int .i64 e))
      (first
        | go_keep
        | (go_split_ands; refine ⟨below_cell (by assumption) b7, below_cell (by assumption) b7, below_cell (by assumption) b7, below_cell (by assumption) b7, below_cell (by assumption) b7, below_cell (by assumption) b7⟩)
        | (go_split_ands; refine ⟨below_cell (by assumption) b6, below_cell (by assumption) b6, below_cell (by assumption) b6, below_cell (by assumption) b6, below_cell (by assumption) b6, below_cell (by assumption) b6⟩))
      (first
        | (go_at_call 15; with_reducible refine (toTariff_any A n c xs h e _ _ c5.drew.size (by omega) (hx.below c5.drew)).mono ?_; rintro r w6 ⟨g6, rfl, o6, b6⟩)
        | (go_at_call 17; with_reducible refine (eqTariff_yes _ _ _ _ _ _ xs h e _ _ (Nat.le_refl _) (by omega) (own_sl encStep_len (by omega) (own_below (ow_drew o3) b6)) (own_sl encStep_len (by omega) o6)).mono ?_; rintro r w7 ⟨rfl, b7⟩))
    have c6 := c5.drew.trans (b6.mono c5.drew.size)
    have c7 := c6.trans (b7.mono c6.size)
    go_wp2_with fail
    go_ret
    exact ⟨rfl, c7⟩
  · have h0 := szStep_big hb
    go_wp2_with fail
    go_ret
    exact ⟨rfl, c0⟩
end Go.Proofs.YtjnapgkpcmfjbaaDoor
