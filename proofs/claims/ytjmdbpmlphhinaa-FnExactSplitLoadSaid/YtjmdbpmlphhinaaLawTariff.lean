/-
  A tariff that comes in as an argument; the statement on ValidTariff, walked. No condition.
-/
import Derived.Test.YtjmdbpmlphhinaaTariff2
import Derived.Lib.SmallJoins
namespace Go.Proofs.Ytjmdbpmlphhinaa
open Go.RowKit Go.ChangeShapes Go.WideShapes Go.ChangeAt Go.Deep Go.Joins
set_option maxHeartbeats 400000

set_option maxRecDepth 100000 in
theorem open_Tariff {H : Type} {enc : TypeId × Value → H} {W : World} {base : Nat} {v : Value} {d : DataW H} {p : List MemPlace} (hv : Value.okWide Try.prog W .any base 24 v)
    (h : DataW.Trod enc Try.prog W 0 (fun _ => true) true 24 v d p) : ∃ A n c xs h e, v = .agg #[.slice A n c, .int .i64 h, .int .i64 e] ∧ n ≤ 9223372036854775807 ∧ Sl W W.heap.size 2 encStep A n xs := by
  obtain ⟨v0, v1, v2, y0, y1, y2, m, rfl, _, _, h0, h1, h2⟩ := open_agg3 Try.underlying24 (by kernel_rfl) (by kernel_rfl) hv h
  obtain ⟨A, n, c, xs, e0, hn, hx⟩ := open_StepS rfl h0
  obtain ⟨z1, e1, _, _⟩ := DataW.trod_int Try.underlying2 h1
  obtain ⟨z2, e2, _, _⟩ := DataW.trod_int Try.underlying2 h2
  simp only [List.cons.injEq, and_true] at e0 e1 e2
  subst e0 e1 e2
  exact ⟨A, n, c, xs, z1, z2, rfl, hn, hx⟩

theorem szStep_small {n : Nat} (h : n ≤ 1048576) : ¬ szStep 1048576 n < 0 := by unfold szStep; split <;> omega
theorem szStep_big {n : Nat} (h : ¬ n ≤ 1048576) : szStep 1048576 n < 0 := by unfold szStep; split <;> omega

theorem FnExactValidTariff_walk (A : Option Addr) (n c : Nat) (xs : List Step) (h e : Int) (w : World) (hn : n ≤ 9223372036854775807) (hx : Sl w w.heap.size 2 encStep A n xs) :
    Calls Try.prog 3 #[.agg #[.slice A n c, .int .i64 h, .int .i64 e]] w fun r w' => r = .returned (.bool true) ∧ Below w.heap.size w w' := by
  go_enter Try.func3, Try.ntmps3
  go_wp2_with fail
  refine (szTariff_any _ _ _ _ _ _ _ hn (by omega) (by omega)).mono ?_
  rintro r w0 ⟨rfl, b0⟩
  by_cases hb : n ≤ 1048576
  · have h0 := szStep_small hb
    have t0 : w0.cell? ⟨w.heap.size, 0, none⟩ = some (.slice A n c) := below_cell ((World.cell?_alloc_at _ _ _ _ rfl).trans rfl) b0
    have t1 : w0.cell? ⟨w.heap.size, 1, none⟩ = some (.int .i64 h) := below_cell ((World.cell?_alloc_at _ _ _ _ rfl).trans rfl) b0
    have t2 : w0.cell? ⟨w.heap.size, 2, none⟩ = some (.int .i64 e) := below_cell ((World.cell?_alloc_at _ _ _ _ rfl).trans rfl) b0
    have c0 : Below w.heap.size w w0 := ((Below.refl _ _).alloc (Nat.le_refl _) _).trans (b0.mono (by simp))
    clear b0
    go_wp2_with fail
    refine (toTariff_any A n c xs h e _ _ c0.size (by omega) (hx.below c0)).mono ?_
    rintro r w1 ⟨g1, rfl, o1, b1⟩
    replace t0 := below_cell t0 b1; replace t1 := below_cell t1 b1; replace t2 := below_cell t2 b1
    have c1 := c0.trans (b1.mono c0.size)
    go_wp2_with fail
    refine (specValidTariff_any _ _ _ xs h e _ _ (Nat.le_refl _) (by omega) (own_sl encStep_len (by omega) o1)).mono ?_
    rintro r w2 ⟨rfl, b2⟩
    replace t0 := below_cell t0 b2; replace t1 := below_cell t1 b2; replace t2 := below_cell t2 b2
    have c2 := c1.trans (b2.mono c1.size)
    go_wp2_with fail
    refine (toTariff_any A n c xs h e _ _ c2.size (by omega) (hx.below c2)).mono ?_
    rintro r w3 ⟨g3, rfl, o3, b3⟩
    replace t0 := below_cell t0 b3; replace t1 := below_cell t1 b3; replace t2 := below_cell t2 b3
    have c3 := c2.trans (b3.mono c2.size)
    have s3 := own_sl encStep_len (by omega) o3
    go_wp2_with fail
    refine (ValidTariff_any _ _ _ xs h e _ _ (by simp) (by omega) (s3.alloc (Nat.le_refl _) _)).mono ?_
    rintro r w5 ⟨rfl, b5⟩
    have c4 := c3.alloc c3.size (.cells #[.slice (some ⟨g3, 0, none⟩) n n, .int .i64 h, .int .i64 e] 29)
    have c5 := c4.trans (b5.mono c4.size)
    have o5 := own_below (o3.alloc (.cells #[.slice (some ⟨g3, 0, none⟩) n n, .int .i64 h, .int .i64 e] 29)) b5
    have u0 : w5.cell? ⟨w3.heap.size, 0, none⟩ = some (.slice (some ⟨g3, 0, none⟩) n n) := below_cell ((World.cell?_alloc_at _ _ _ _ rfl).trans rfl) b5
    have u1 : w5.cell? ⟨w3.heap.size, 1, none⟩ = some (.int .i64 h) := below_cell ((World.cell?_alloc_at _ _ _ _ rfl).trans rfl) b5
    have u2 : w5.cell? ⟨w3.heap.size, 2, none⟩ = some (.int .i64 e) := below_cell ((World.cell?_alloc_at _ _ _ _ rfl).trans rfl) b5
    have b35 : Below w3.heap.size w3 w5 := ((Below.refl _ _).alloc (Nat.le_refl _) _).trans (b5.mono (by simp))
    replace t0 := below_cell t0 b35; replace t1 := below_cell t1 b35; replace t2 := below_cell t2 b35
    clear b5 b35 s3 o3 c4 c3 c2 c1 c0 o1 b1 b2 b3
    go_wp2_with fail
    go_region_held3 (fun W => W.cell? ⟨w.heap.size, 0, none⟩ = some (.slice A n c) ∧ W.cell? ⟨w.heap.size, 1, none⟩ = some (.int .i64 h) ∧ W.cell? ⟨w.heap.size, 2, none⟩ = some (.int .i64 e) ∧
        W.cell? ⟨w3.heap.size, 0, none⟩ = some (.slice (some ⟨g3, 0, none⟩) n n) ∧ W.cell? ⟨w3.heap.size, 1, none⟩ = some (.int .i64 h) ∧ W.cell? ⟨w3.heap.size, 2, none⟩ = some (.int .i64 e))
      (first
        | go_keep
        | (go_split_ands; refine ⟨below_cell (by assumption) b7, below_cell (by assumption) b7, below_cell (by assumption) b7, below_cell (by assumption) b7, below_cell (by assumption) b7, below_cell (by assumption) b7⟩)
        | (go_split_ands; refine ⟨below_cell (by assumption) b6, below_cell (by assumption) b6, below_cell (by assumption) b6, below_cell (by assumption) b6, below_cell (by assumption) b6, below_cell (by assumption) b6⟩))
      (first
        | (go_at_call 14; refine (toTariff_any A n c xs h e _ _ c5.drew.size (by omega) (hx.below c5.drew)).mono ?_; rintro r w6 ⟨g6, rfl, o6, b6⟩)
        | (go_at_call 16; refine (eqTariff_yes _ _ _ _ _ _ xs h e _ _ (Nat.le_refl _) (by omega) (own_sl encStep_len (by omega) (own_below (ow_drew o5) b6)) (own_sl encStep_len (by omega) o6)).mono ?_; rintro r w7 ⟨rfl, b7⟩))
    have c6 := (c5.drew.trans (b6.mono c5.drew.size))
    have c7 := c6.trans (b7.mono c6.size)
    go_wp2_with fail
    go_ret
    exact ⟨rfl, c7⟩
  · have h0 := szStep_big hb
    go_wp2_with fail
    go_ret
    exact ⟨rfl, ((Below.refl _ _).alloc (Nat.le_refl _) _).trans (b0.mono (by simp))⟩
end Go.Proofs.Ytjmdbpmlphhinaa
