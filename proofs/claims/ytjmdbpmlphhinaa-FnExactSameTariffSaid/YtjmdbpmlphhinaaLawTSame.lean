/-
  The statement on SameTariff, walked. No condition.
-/
import Derived.Test.YtjmdbpmlphhinaaTSame
import Derived.Test.YtjmdbpmlphhinaaLawTariff
namespace Go.Proofs.Ytjmdbpmlphhinaa
open Go.RowKit
set_option maxHeartbeats 400000

set_option maxHeartbeats 2000000 in
theorem FnExactSameTariff_walk (A : Option Addr) (n c : Nat) (xs : List Step) (h e : Int) (A' : Option Addr) (n' c' : Nat) (ys : List Step) (h' e' : Int) (w : World) (hn : n ≤ 9223372036854775807) (hx : Sl w w.heap.size 2 encStep A n xs)
    (hn' : n' ≤ 9223372036854775807) (hy : Sl w w.heap.size 2 encStep A' n' ys) :
    Calls Try.prog 4 #[.agg #[.slice A n c, .int .i64 h, .int .i64 e], .agg #[.slice A' n' c', .int .i64 h', .int .i64 e']] w fun r w' => r = .returned (.bool true) ∧ Below w.heap.size w w' := by
  go_enter Try.func4, Try.ntmps4
  go_wp2_with fail
  refine (szTariff_any _ _ _ _ _ _ _ hn (by omega) (by omega)).mono ?_
  rintro r w0 ⟨rfl, b0⟩
  have c0 : Below w.heap.size w w0 := (((Below.refl _ _).alloc (Nat.le_refl _) _).alloc (by simp) _).trans (b0.mono (by simp; omega))
  by_cases hb : n ≤ 1048576
  · have h0 := szStep_small hb
    have hm : szStep 1048576 n ≤ 1048576 := by unfold szStep; split <;> omega
    have t0 : w0.cell? ⟨w.heap.size, 0, none⟩ = some (.slice A n c) := below_cell (by go_simp) b0
    have t1 : w0.cell? ⟨w.heap.size, 1, none⟩ = some (.int .i64 h) := below_cell (by go_simp) b0
    have t2 : w0.cell? ⟨w.heap.size, 2, none⟩ = some (.int .i64 e) := below_cell (by go_simp) b0
    have u0 : w0.cell? ⟨w.heap.size + 1, 0, none⟩ = some (.slice A' n' c') := below_cell (by go_simp) b0
    have u1 : w0.cell? ⟨w.heap.size + 1, 1, none⟩ = some (.int .i64 h') := below_cell (by go_simp) b0
    have u2 : w0.cell? ⟨w.heap.size + 1, 2, none⟩ = some (.int .i64 e') := below_cell (by go_simp) b0
    clear b0
    generalize szStep 1048576 n = left at h0 hm
    go_wp2_with fail
    refine (szTariff_any _ _ _ _ _ _ _ hn' (by omega) (by omega)).mono ?_
    rintro r w1 ⟨rfl, b1⟩
    replace t0 := below_cell t0 b1; replace t1 := below_cell t1 b1; replace t2 := below_cell t2 b1; replace u0 := below_cell u0 b1; replace u1 := below_cell u1 b1; replace u2 := below_cell u2 b1
    have c1 := c0.trans (b1.mono c0.size)
    clear b1 c0
    by_cases hb' : (n' : Int) ≤ left
    · have h1 : ¬ szStep left n' < 0 := by unfold szStep; split <;> omega
      go_wp2_with fail
      go_region_held3 (fun W => W.cell? ⟨w.heap.size, 0, none⟩ = some (.slice A n c) ∧ W.cell? ⟨w.heap.size, 1, none⟩ = some (.int .i64 h) ∧ W.cell? ⟨w.heap.size, 2, none⟩ = some (.int .i64 e) ∧ W.cell? ⟨w.heap.size + 1, 0, none⟩ = some (.slice A' n' c') ∧ W.cell? ⟨w.heap.size + 1, 1, none⟩ = some (.int .i64 h') ∧ W.cell? ⟨w.heap.size + 1, 2, none⟩ = some (.int .i64 e'))
        (first
          | go_keep
          | (go_split_ands; refine ⟨below_cell (by assumption) b4, below_cell (by assumption) b4, below_cell (by assumption) b4, below_cell (by assumption) b4, below_cell (by assumption) b4, below_cell (by assumption) b4⟩)
          | (go_split_ands; refine ⟨below_cell (by assumption) b3, below_cell (by assumption) b3, below_cell (by assumption) b3, below_cell (by assumption) b3, below_cell (by assumption) b3, below_cell (by assumption) b3⟩)
          | (go_split_ands; refine ⟨below_cell (by assumption) b2, below_cell (by assumption) b2, below_cell (by assumption) b2, below_cell (by assumption) b2, below_cell (by assumption) b2, below_cell (by assumption) b2⟩))
        (first
          | (go_at_call 14; with_reducible refine (toTariff_any A n c xs h e _ _ c1.drew.size (by omega) (hx.below c1.drew)).mono ?_; rintro r w2 ⟨g2, rfl, o2, b2⟩)
          | (go_at_call 14; with_reducible refine (toTariff_any A' n' c' ys h' e' _ _ (c1.drew.trans (b2.mono c1.drew.size)).size (by omega) (hy.below (c1.drew.trans (b2.mono c1.drew.size)))).mono ?_; rintro r w3 ⟨g3, rfl, o3, b3⟩)
          | (go_at_call 17; with_reducible refine (specSameTariff_any _ _ _ _ _ _ xs ys h e h' e' _ _ (Nat.le_refl _) (by omega) (by omega) (own_sl encStep_len (by omega) (own_below o2 b3)) (own_sl encStep_len (by omega) o3)).mono ?_; rintro r w4 ⟨rfl, b4⟩))
      have c2 := c1.drew.trans (b2.mono c1.drew.size)
      have c3 := c2.trans (b3.mono c2.size)
      have c4 := c3.trans (b4.mono c3.size)
      clear o2 o3 b2 b3 b4 c3 c2 c1
      obtain ⟨t0, t1, t2, u0, u1, u2⟩ := ‹_ ∧ _ ∧ _ ∧ _ ∧ _ ∧ _›
      go_wp2_with fail
      refine (toTariff_any A n c xs h e _ _ c4.size (by omega) (hx.below c4)).mono ?_
      rintro r w5 ⟨g5, rfl, o5, b5⟩
      replace t0 := below_cell t0 b5
      replace t1 := below_cell t1 b5
      replace t2 := below_cell t2 b5
      replace u0 := below_cell u0 b5
      replace u1 := below_cell u1 b5
      replace u2 := below_cell u2 b5
      have c5 := c4.trans (b5.mono c4.size)
      have l0 := World.block_lt_of_cell? _ _ t0
      have l1 := World.block_lt_of_cell? _ _ u0
      simp only at l0 l1
      go_wp2_with fail
      have c6 := c5.alloc c5.size (.cells #[.slice (some ⟨g5, 0, none⟩) n n, .int .i64 h, .int .i64 e] 29)
      refine (toTariff_any A' n' c' ys h' e' _ _ c6.size (by omega) (hy.below c6)).mono ?_
      rintro r w6 ⟨g6, rfl, o6, b6⟩
      have x0 : w6.cell? ⟨w5.heap.size, 0, none⟩ = some (.slice (some ⟨g5, 0, none⟩) n n) := below_cell ((World.cell?_alloc_at _ _ _ _ rfl).trans rfl) b6
      have x1 : w6.cell? ⟨w5.heap.size, 1, none⟩ = some (.int .i64 h) := below_cell ((World.cell?_alloc_at _ _ _ _ rfl).trans rfl) b6
      have x2 : w6.cell? ⟨w5.heap.size, 2, none⟩ = some (.int .i64 e) := below_cell ((World.cell?_alloc_at _ _ _ _ rfl).trans rfl) b6
      replace t0 := below_cell (below_cell t0 ((Below.refl _ _).alloc (Nat.le_refl _) (.cells #[.slice (some ⟨g5, 0, none⟩) n n, .int .i64 h, .int .i64 e] 29))) b6
      replace t1 := below_cell (below_cell t1 ((Below.refl _ _).alloc (Nat.le_refl _) (.cells #[.slice (some ⟨g5, 0, none⟩) n n, .int .i64 h, .int .i64 e] 29))) b6
      replace t2 := below_cell (below_cell t2 ((Below.refl _ _).alloc (Nat.le_refl _) (.cells #[.slice (some ⟨g5, 0, none⟩) n n, .int .i64 h, .int .i64 e] 29))) b6
      replace u0 := below_cell (below_cell u0 ((Below.refl _ _).alloc (Nat.le_refl _) (.cells #[.slice (some ⟨g5, 0, none⟩) n n, .int .i64 h, .int .i64 e] 29))) b6
      replace u1 := below_cell (below_cell u1 ((Below.refl _ _).alloc (Nat.le_refl _) (.cells #[.slice (some ⟨g5, 0, none⟩) n n, .int .i64 h, .int .i64 e] 29))) b6
      replace u2 := below_cell (below_cell u2 ((Below.refl _ _).alloc (Nat.le_refl _) (.cells #[.slice (some ⟨g5, 0, none⟩) n n, .int .i64 h, .int .i64 e] 29))) b6
      replace o5 := own_below (o5.alloc (.cells #[.slice (some ⟨g5, 0, none⟩) n n, .int .i64 h, .int .i64 e] 29)) b6
      have c7 := c6.trans (b6.mono c6.size)
      have z6 := b6.size
      simp only [World.size_alloc] at z6
      replace l0 : w.heap.size < w6.heap.size := by omega
      replace l1 : w.heap.size + 1 < w6.heap.size := by omega
      have l2 : w5.heap.size < w6.heap.size := by omega
      go_wp2_with fail
      have c8 := c7.alloc c7.size (.cells #[.slice (some ⟨g6, 0, none⟩) n' n', .int .i64 h', .int .i64 e'] 29)
      refine (implSameTariff_any _ _ _ _ _ _ xs ys h e h' e' _ _ (by simp) (by omega) (by omega) ((own_sl encStep_len (by omega) o5).alloc (Nat.le_refl _) _) ((own_sl encStep_len (by omega) o6).alloc (Nat.le_refl _) _)).mono ?_
      rintro r w7 ⟨rfl, b7⟩
      have y0 : w7.cell? ⟨w6.heap.size, 0, none⟩ = some (.slice (some ⟨g6, 0, none⟩) n' n') := below_cell ((World.cell?_alloc_at _ _ _ _ rfl).trans rfl) b7
      have y1 : w7.cell? ⟨w6.heap.size, 1, none⟩ = some (.int .i64 h') := below_cell ((World.cell?_alloc_at _ _ _ _ rfl).trans rfl) b7
      have y2 : w7.cell? ⟨w6.heap.size, 2, none⟩ = some (.int .i64 e') := below_cell ((World.cell?_alloc_at _ _ _ _ rfl).trans rfl) b7
      replace t0 := below_cell (below_cell t0 ((Below.refl _ _).alloc (Nat.le_refl _) (.cells #[.slice (some ⟨g6, 0, none⟩) n' n', .int .i64 h', .int .i64 e'] 29))) b7
      replace t1 := below_cell (below_cell t1 ((Below.refl _ _).alloc (Nat.le_refl _) (.cells #[.slice (some ⟨g6, 0, none⟩) n' n', .int .i64 h', .int .i64 e'] 29))) b7
      replace t2 := below_cell (below_cell t2 ((Below.refl _ _).alloc (Nat.le_refl _) (.cells #[.slice (some ⟨g6, 0, none⟩) n' n', .int .i64 h', .int .i64 e'] 29))) b7
      replace u0 := below_cell (below_cell u0 ((Below.refl _ _).alloc (Nat.le_refl _) (.cells #[.slice (some ⟨g6, 0, none⟩) n' n', .int .i64 h', .int .i64 e'] 29))) b7
      replace u1 := below_cell (below_cell u1 ((Below.refl _ _).alloc (Nat.le_refl _) (.cells #[.slice (some ⟨g6, 0, none⟩) n' n', .int .i64 h', .int .i64 e'] 29))) b7
      replace u2 := below_cell (below_cell u2 ((Below.refl _ _).alloc (Nat.le_refl _) (.cells #[.slice (some ⟨g6, 0, none⟩) n' n', .int .i64 h', .int .i64 e'] 29))) b7
      replace x0 := below_cell (below_cell x0 ((Below.refl _ _).alloc (Nat.le_refl _) (.cells #[.slice (some ⟨g6, 0, none⟩) n' n', .int .i64 h', .int .i64 e'] 29))) b7
      replace x1 := below_cell (below_cell x1 ((Below.refl _ _).alloc (Nat.le_refl _) (.cells #[.slice (some ⟨g6, 0, none⟩) n' n', .int .i64 h', .int .i64 e'] 29))) b7
      replace x2 := below_cell (below_cell x2 ((Below.refl _ _).alloc (Nat.le_refl _) (.cells #[.slice (some ⟨g6, 0, none⟩) n' n', .int .i64 h', .int .i64 e'] 29))) b7
      replace o5 := own_below (o5.alloc (.cells #[.slice (some ⟨g6, 0, none⟩) n' n', .int .i64 h', .int .i64 e'] 29)) b7
      replace o6 := own_below (o6.alloc (.cells #[.slice (some ⟨g6, 0, none⟩) n' n', .int .i64 h', .int .i64 e'] 29)) b7
      have c9 := c8.trans (b7.mono c8.size)
      clear b7 b6 b5 c8 c7 c6 c5 c4
      go_wp2_with fail
      go_region_held3 (fun W => W.cell? ⟨w.heap.size, 0, none⟩ = some (.slice A n c) ∧ W.cell? ⟨w.heap.size, 1, none⟩ = some (.int .i64 h) ∧ W.cell? ⟨w.heap.size, 2, none⟩ = some (.int .i64 e) ∧ W.cell? ⟨w.heap.size + 1, 0, none⟩ = some (.slice A' n' c') ∧ W.cell? ⟨w.heap.size + 1, 1, none⟩ = some (.int .i64 h') ∧ W.cell? ⟨w.heap.size + 1, 2, none⟩ = some (.int .i64 e') ∧ W.cell? ⟨w5.heap.size, 0, none⟩ = some (.slice (some ⟨g5, 0, none⟩) n n) ∧ W.cell? ⟨w5.heap.size, 1, none⟩ = some (.int .i64 h) ∧ W.cell? ⟨w5.heap.size, 2, none⟩ = some (.int .i64 e) ∧ W.cell? ⟨w6.heap.size, 0, none⟩ = some (.slice (some ⟨g6, 0, none⟩) n' n') ∧ W.cell? ⟨w6.heap.size, 1, none⟩ = some (.int .i64 h') ∧ W.cell? ⟨w6.heap.size, 2, none⟩ = some (.int .i64 e'))
        (first
          | go_keep
          | (go_split_ands; refine ⟨below_cell (by assumption) b9, below_cell (by assumption) b9, below_cell (by assumption) b9, below_cell (by assumption) b9, below_cell (by assumption) b9, below_cell (by assumption) b9, below_cell (by assumption) b9, below_cell (by assumption) b9, below_cell (by assumption) b9, below_cell (by assumption) b9, below_cell (by assumption) b9, below_cell (by assumption) b9⟩)
          | (go_split_ands; refine ⟨below_cell (by assumption) b8, below_cell (by assumption) b8, below_cell (by assumption) b8, below_cell (by assumption) b8, below_cell (by assumption) b8, below_cell (by assumption) b8, below_cell (by assumption) b8, below_cell (by assumption) b8, below_cell (by assumption) b8, below_cell (by assumption) b8, below_cell (by assumption) b8, below_cell (by assumption) b8⟩))
        (first
          | (go_at_call 14; with_reducible refine (toTariff_any A n c xs h e _ _ c9.drew.size (by omega) (hx.below c9.drew)).mono ?_; rintro r w8 ⟨g8, rfl, o8, b8⟩)
          | (go_at_call 16; with_reducible refine (eqTariff_yes _ _ _ _ _ _ xs h e _ _ (Nat.le_refl _) (by omega) (own_sl encStep_len (by omega) (own_below (ow_drew o5) b8)) (own_sl encStep_len (by omega) o8)).mono ?_; rintro r w9 ⟨rfl, b9⟩))
      have c10 := c9.drew.trans (b8.mono c9.drew.size)
      have c11 := c10.trans (b9.mono c10.size)
      replace o6 := own_below (own_below (ow_drew o6) b8) b9
      obtain ⟨t0', t1', t2', u0', u1', u2', x0', x1', x2', y0', y1', y2'⟩ := ‹_ ∧ _ ∧ _ ∧ _ ∧ _ ∧ _ ∧ _ ∧ _ ∧ _ ∧ _ ∧ _ ∧ _›
      clear o8 b8 b9 c10 c9
      clear t0 t1 t2 u0 u1 u2 x0 x1 x2 y0 y1 y2
      go_wp2_with fail
      go_region_held3 (fun W => W.cell? ⟨w.heap.size, 0, none⟩ = some (.slice A n c) ∧ W.cell? ⟨w.heap.size, 1, none⟩ = some (.int .i64 h) ∧ W.cell? ⟨w.heap.size, 2, none⟩ = some (.int .i64 e) ∧ W.cell? ⟨w.heap.size + 1, 0, none⟩ = some (.slice A' n' c') ∧ W.cell? ⟨w.heap.size + 1, 1, none⟩ = some (.int .i64 h') ∧ W.cell? ⟨w.heap.size + 1, 2, none⟩ = some (.int .i64 e') ∧ W.cell? ⟨w5.heap.size, 0, none⟩ = some (.slice (some ⟨g5, 0, none⟩) n n) ∧ W.cell? ⟨w5.heap.size, 1, none⟩ = some (.int .i64 h) ∧ W.cell? ⟨w5.heap.size, 2, none⟩ = some (.int .i64 e) ∧ W.cell? ⟨w6.heap.size, 0, none⟩ = some (.slice (some ⟨g6, 0, none⟩) n' n') ∧ W.cell? ⟨w6.heap.size, 1, none⟩ = some (.int .i64 h') ∧ W.cell? ⟨w6.heap.size, 2, none⟩ = some (.int .i64 e'))
        (first
          | go_keep
          | (go_split_ands; refine ⟨below_cell (by assumption) b13, below_cell (by assumption) b13, below_cell (by assumption) b13, below_cell (by assumption) b13, below_cell (by assumption) b13, below_cell (by assumption) b13, below_cell (by assumption) b13, below_cell (by assumption) b13, below_cell (by assumption) b13, below_cell (by assumption) b13, below_cell (by assumption) b13, below_cell (by assumption) b13⟩)
          | (go_split_ands; refine ⟨below_cell (by assumption) b12, below_cell (by assumption) b12, below_cell (by assumption) b12, below_cell (by assumption) b12, below_cell (by assumption) b12, below_cell (by assumption) b12, below_cell (by assumption) b12, below_cell (by assumption) b12, below_cell (by assumption) b12, below_cell (by assumption) b12, below_cell (by assumption) b12, below_cell (by assumption) b12⟩))
        (first
          | (go_at_call 14; with_reducible refine (toTariff_any A' n' c' ys h' e' _ _ c11.drew.size (by omega) (hy.below c11.drew)).mono ?_; rintro r w12 ⟨g12, rfl, o12, b12⟩)
          | (go_at_call 16; with_reducible refine (eqTariff_yes _ _ _ _ _ _ ys h' e' _ _ (Nat.le_refl _) (by omega) (own_sl encStep_len (by omega) (own_below (ow_drew o6) b12)) (own_sl encStep_len (by omega) o12)).mono ?_; rintro r w13 ⟨rfl, b13⟩))
      have c12 := c11.drew.trans (b12.mono c11.drew.size)
      have c13 := c12.trans (b13.mono c12.size)
      go_wp2_with fail
      go_ret
      exact ⟨rfl, c13⟩
    · have h1 : szStep left n' < 0 := by unfold szStep; split <;> omega
      go_wp2_with fail
      go_ret
      exact ⟨rfl, c1⟩
  · have h0 := szStep_big hb
    go_wp2_with fail
    go_ret
    exact ⟨rfl, c0⟩
end Go.Proofs.Ytjmdbpmlphhinaa
