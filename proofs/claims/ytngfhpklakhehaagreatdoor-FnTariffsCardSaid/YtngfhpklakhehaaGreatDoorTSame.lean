/-
  Tariffs that are alike: the program's function and the reference's. No condition.
-/
import Derived.Test.YtngfhpklakhehaaGreatDoorTariff2
namespace Go.Proofs.YtngfhpklakhehaaGreatDoor
open Go.RowKit
set_option maxHeartbeats 400000

theorem drop_eq {α : Type} {xs ys : List α} {k : Nat} {x y : α} (hx : xs[k]? = some x) (hy : ys[k]? = some y) : (xs.drop k = ys.drop k) = (x = y ∧ xs.drop (k + 1) = ys.drop (k + 1)) := by
  rw [drop_at hx, drop_at hy]; simp

theorem eq_first {x y : Step} {xs ys : List Step} : (x :: xs = y :: ys) = ((x.g = y.g ∧ x.p = y.p) ∧ xs = ys) := by
  cases x; cases y; simp
theorem ne_val {x0 x1 y0 y1 : Int} (h : ¬ (x0 = y0 ∧ x1 = y1)) : (decide (x0 = y0) && decide (x1 = y1)) = false := by
  rw [← Bool.decide_and]; simpa using h
set_option maxHeartbeats 1000000 in
theorem sliceEq_any (A : Option Addr) (n c : Nat) (A' : Option Addr) (n' c' : Nat) (xs ys : List Step) (w : World) (B : Nat) (hB : B ≤ w.heap.size) (hn : n ≤ 2000000) (hn' : n' ≤ 2000000) (hx : Sl w B 2 encStep A n xs) (hy : Sl w B 2 encStep A' n' ys) :
    Calls Tryz.prog 52 #[.slice A n c, .slice A' n' c'] w fun r w' => r = .returned (.bool (decide (xs = ys))) ∧ Below w.heap.size w w' := by
  have hxl := hx.len
  have hyl := hy.len
  by_cases hnn : n = n'
  · subst hnn
    go_enter Tryz.func52, Tryz.ntmps52
    go_wp2
    go_loopw [13] (fun i w1 => ∃ k : Nat, k ≤ n ∧ i = .int .i64 k ∧ Hid ((xs = ys) = (xs.drop k = ys.drop k)) ∧ Below w.heap.size w w1) (fun i _ => n - (intOf i).toNat)
    case atStart => exact ⟨0, Nat.zero_le _, rfl, hid rfl, Below.refl _ _⟩
    case round =>
      obtain ⟨k, hk, rfl, he, hb⟩ := hrel
      by_cases hlt : k < n
      · obtain ⟨x0, x1, b, off, Hx, rfl, hbB, c0, c1⟩ := (hx.below (hb.mono hB)).atStep hlt
        obtain ⟨y0, y1, b', off', Hy, rfl, hbB', d0, d1⟩ := (hy.below (hb.mono hB)).atStep hlt
        have he2 := he.out
        rw [drop_at Hx.out, drop_at Hy.out, eq_first] at he2
        have lb : b < wr.heap.size := by have := hb.size; omega
        have lb' : b' < wr.heap.size := by have := hb.size; omega
        clear he hx hy Hx Hy
        by_cases q : x0 = y0 ∧ x1 = y1
        · have He2 : Hid ((xs = ys) = (xs.drop (k + 1) = ys.drop (k + 1))) := by rw [he2]; simp [Hid, q]
          obtain ⟨rfl, rfl⟩ := q
          clear he2
          go_wp2
          go_quiet (fail)
          go_wp2
          have hb5 := below_drewN hb nq
          go_roundw
          all_goals first | exact ⟨k + 1, by omega, by go_num, He2, hb5⟩ | exact ⟨⟨k + 1, by omega, by go_num, He2, hb5⟩, by simp [intOf]; omega⟩ | (simp [intOf]; omega)
        · have E : Hid (decide (xs = ys) = false) := by rw [Hid, decide_eq_false_iff_not, he2]; exact fun h => q h.1
          clear he2
          by_cases q1 : x0 = y0
          · have d1 : decide (x0 = y0) = true := by simpa using q1
            have d2 : decide (x1 = y1) = false := by simp; intro h; exact q ⟨q1, h⟩
            go_wp2
            go_quiet (fail)
            go_wp2
            go_ret
            exact ⟨retB E.out.symm, below_drewN hb nq⟩
          · have d1 : decide (x0 = y0) = false := by simpa using q1
            go_wp2
            go_quiet (fail)
            go_wp2
            go_ret
            exact ⟨retB E.out.symm, below_drewN hb nq⟩
      · have : k = n := by omega
        subst this
        have E : Hid (decide (xs = ys) = true) := by
          have he2 := he.out
          rw [List.drop_of_length_le (by omega), List.drop_of_length_le (by omega)] at he2
          rw [Hid, decide_eq_true_iff, he2]
        clear he
        go_wp2
        go_ret
        exact ⟨retB E.out.symm, hb⟩
  · have E : Hid (decide (xs = ys) = false) := by
      rw [Hid, decide_eq_false_iff_not]; intro h; subst h; exact hnn (hxl.symm.trans hyl)
    clear hx hy
    go_enter Tryz.func52, Tryz.ntmps52
    go_wp2
    go_ret
    exact ⟨retB E.out.symm, Below.refl _ _⟩
def sameT (xs ys : List Step) (h e h' e' : Int) : Bool := decide (xs = ys) && ((h == h') && (e == e'))
theorem implSameTariff_any (A : Option Addr) (n c : Nat) (A' : Option Addr) (n' c' : Nat) (xs ys : List Step) (h e h' e' : Int) (w : World) (B : Nat) (hB : B ≤ w.heap.size) (hn : n ≤ 2000000) (hn' : n' ≤ 2000000) (hx : Sl w B 2 encStep A n xs) (hy : Sl w B 2 encStep A' n' ys) :
    Calls Tryz.prog 22 #[.agg #[.slice A n c, .int .i64 h, .int .i64 e], .agg #[.slice A' n' c', .int .i64 h', .int .i64 e']] w fun r w' => r = .returned (.bool (sameT xs ys h e h' e')) ∧ Below w.heap.size w w' := by
  have hc := sliceEq_any A n c A' n' c' xs ys ((w.alloc (.cells #[.slice A n c, .int .i64 h, .int .i64 e] 26)).alloc (.cells #[.slice A' n' c', .int .i64 h', .int .i64 e'] 26)) B (by simp; omega) hn hn' ((hx.alloc hB _).alloc (by simp; omega) _) ((hy.alloc hB _).alloc (by simp; omega) _)
  have hbw : Below w.heap.size w ((w.alloc (.cells #[.slice A n c, .int .i64 h, .int .i64 e] 26)).alloc (.cells #[.slice A' n' c', .int .i64 h', .int .i64 e'] 26)) := ((Below.refl _ _).alloc (Nat.le_refl _) _).alloc (by simp) _
  have k1 : ((w.alloc (.cells #[.slice A n c, .int .i64 h, .int .i64 e] 26)).alloc (.cells #[.slice A' n' c', .int .i64 h', .int .i64 e'] 26)).cell? ⟨w.heap.size, 1, none⟩ = some (.int .i64 h) := by go_simp
  have k2 : ((w.alloc (.cells #[.slice A n c, .int .i64 h, .int .i64 e] 26)).alloc (.cells #[.slice A' n' c', .int .i64 h', .int .i64 e'] 26)).cell? ⟨w.heap.size, 2, none⟩ = some (.int .i64 e) := by go_simp
  have k3 : ((w.alloc (.cells #[.slice A n c, .int .i64 h, .int .i64 e] 26)).alloc (.cells #[.slice A' n' c', .int .i64 h', .int .i64 e'] 26)).cell? ⟨w.heap.size + 1, 1, none⟩ = some (.int .i64 h') := by go_simp
  have k4 : ((w.alloc (.cells #[.slice A n c, .int .i64 h, .int .i64 e] 26)).alloc (.cells #[.slice A' n' c', .int .i64 h', .int .i64 e'] 26)).cell? ⟨w.heap.size + 1, 2, none⟩ = some (.int .i64 e') := by go_simp
  clear hx hy
  cases q0 : decide (xs = ys) <;> cases q1 : h == h' <;> cases q2 : e == e'
  all_goals have E : Hid (sameT xs ys h e h' e' = (decide (xs = ys) && ((h == h') && (e == e')))) := hid rfl
  all_goals rw [q0, q1, q2] at E
  all_goals rw [q0] at hc
  all_goals clear q0
  all_goals go_enter Tryz.func22, Tryz.ntmps22
  all_goals go_wp2_with (go_at_call 52; refine hc.mono ?_; rintro r w1 ⟨rfl, b1⟩; replace k1 := below_cell k1 (b1.mono (by simp)); replace k2 := below_cell k2 b1; replace k3 := below_cell k3 b1; replace k4 := below_cell k4 b1)
  all_goals go_ret
  all_goals exact ⟨retB (by rw [E.out]; first | rfl | simp_all), hbw.trans (b1.mono (by simp; omega))⟩
set_option maxHeartbeats 1000000 in
theorem specSameTariff_any (A : Option Addr) (n c : Nat) (A' : Option Addr) (n' c' : Nat) (xs ys : List Step) (h e h' e' : Int) (w : World) (B : Nat) (hB : B ≤ w.heap.size) (hn : n ≤ 2000000) (hn' : n' ≤ 2000000) (hx : Sl w B 2 encStep A n xs) (hy : Sl w B 2 encStep A' n' ys) :
    Calls Tryz.prog 21 #[.agg #[.slice A n c, .int .i64 h, .int .i64 e], .agg #[.slice A' n' c', .int .i64 h', .int .i64 e']] w fun r w' => r = .returned (.bool (sameT xs ys h e h' e')) ∧ Below w.heap.size w w' := by
  have hxl := hx.len
  have hyl := hy.len
  obtain ⟨wa, hwa⟩ : ∃ wa, wa = ((w.alloc (.cells #[.slice A n c, .int .i64 h, .int .i64 e] 26)).alloc (.cells #[.slice A' n' c', .int .i64 h', .int .i64 e'] 26)) := ⟨_, rfl⟩
  have hbw : Below w.heap.size w wa := by rw [hwa]; exact ((Below.refl _ _).alloc (Nat.le_refl _) _).alloc (by simp) _
  have hwz : wa.heap.size = w.heap.size + 1 + 1 := by rw [hwa]; simp
  have k0 : wa.cell? ⟨w.heap.size, 0, none⟩ = some (.slice A n c) := by rw [hwa]; go_simp
  have k1 : wa.cell? ⟨w.heap.size, 1, none⟩ = some (.int .i64 h) := by rw [hwa]; go_simp
  have k2 : wa.cell? ⟨w.heap.size, 2, none⟩ = some (.int .i64 e) := by rw [hwa]; go_simp
  have k5 : wa.cell? ⟨w.heap.size + 1, 0, none⟩ = some (.slice A' n' c') := by rw [hwa]; go_simp
  have k3 : wa.cell? ⟨w.heap.size + 1, 1, none⟩ = some (.int .i64 h') := by rw [hwa]; go_simp
  have k4 : wa.cell? ⟨w.heap.size + 1, 2, none⟩ = some (.int .i64 e') := by rw [hwa]; go_simp
  have Hwa := hid hwa
  by_cases hall : n = n' ∧ h = h' ∧ e = e'
  · obtain ⟨rfl, rfl, rfl⟩ := hall
    have E : Hid (sameT xs ys h e h e = decide (xs = ys)) := by simp [Hid, sameT]
    clear hwa
    go_enter Tryz.func21, Tryz.ntmps21
    go_wp2
    rw [← Hwa.out]
    go_loopw [5] (fun i w1 => ∃ k : Nat, k ≤ n ∧ i = .int .i64 k ∧ Hid ((xs = ys) = (xs.drop k = ys.drop k)) ∧ Below wa.heap.size wa w1) (fun i _ => n - (intOf i).toNat)
    case atStart => exact ⟨0, Nat.zero_le _, rfl, hid rfl, Below.refl _ _⟩
    case round =>
      obtain ⟨k, hk, rfl, he, hb⟩ := hrel
      have hbq : Below w.heap.size w wr := hbw.trans (hb.mono (by omega))
      have hz := hb.size
      have t0 := below_cell k0 hb
      have t5 := below_cell k5 hb
      clear k0 k1 k2 k3 k4 k5 Hwa
      by_cases hlt : k < n
      · obtain ⟨x0, x1, b, off, Hx, rfl, hbB, c0, c1⟩ := (hx.below (hbq.mono hB)).atStep hlt
        obtain ⟨y0, y1, b', off', Hy, rfl, hbB', d0, d1⟩ := (hy.below (hbq.mono hB)).atStep hlt
        have he2 := he.out
        rw [drop_at Hx.out, drop_at Hy.out, eq_first] at he2
        have lb : b < wr.heap.size := by omega
        have lb' : b' < wr.heap.size := by omega
        have lw : w.heap.size < wr.heap.size := by omega
        have lw' : w.heap.size + 1 < wr.heap.size := by omega
        clear he hx hy Hx Hy
        by_cases q : x0 = y0 ∧ x1 = y1
        · have He2 : Hid ((xs = ys) = (xs.drop (k + 1) = ys.drop (k + 1))) := by rw [he2]; simp [Hid, q]
          obtain ⟨rfl, rfl⟩ := q
          clear he2
          go_wp2
          go_quiet (fail)
          go_wp2
          have hb5 := below_drewN hb nq
          go_roundw
          all_goals first | exact ⟨k + 1, by omega, by go_num, He2, hb5⟩ | exact ⟨⟨k + 1, by omega, by go_num, He2, hb5⟩, by simp [intOf]; omega⟩ | (simp [intOf]; omega)
        · have E2 : Hid (sameT xs ys h e h e = false) := by rw [Hid, E.out, decide_eq_false_iff_not, he2]; exact fun h => q h.1
          clear he2
          by_cases q1 : x0 = y0
          · have d1 : decide (x0 = y0) = true := by simpa using q1
            have d2 : decide (x1 = y1) = false := by simp; intro h; exact q ⟨q1, h⟩
            go_wp2
            go_quiet (fail)
            go_wp2
            go_ret
            exact ⟨retB E2.out.symm, below_drewN hbq nq⟩
          · have d1 : decide (x0 = y0) = false := by simpa using q1
            go_wp2
            go_quiet (fail)
            go_wp2
            go_ret
            exact ⟨retB E2.out.symm, below_drewN hbq nq⟩
      · have : k = n := by omega
        subst this
        have E2 : Hid (sameT xs ys h e h e = true) := by
          have he2 := he.out
          rw [List.drop_of_length_le (by omega), List.drop_of_length_le (by omega)] at he2
          rw [Hid, E.out, decide_eq_true_iff, he2]
        clear he
        go_wp2
        go_ret
        exact ⟨retB E2.out.symm, hbq⟩
  · have E : Hid (sameT xs ys h e h' e' = false) := by
      rw [Hid, Bool.eq_false_iff]; intro hs; simp only [sameT, Bool.and_eq_true, decide_eq_true_eq, beq_iff_eq] at hs
      obtain ⟨rfl, rfl, rfl⟩ := hs; exact hall ⟨hxl.symm.trans hyl, rfl, rfl⟩
    clear hx hy Hwa
    subst hwa
    clear hxl hyl
    by_cases p0 : n = n' <;> by_cases p1 : h = h' <;> by_cases p2 : e = e'
    all_goals first
      | (exfalso; exact hall ⟨p0, p1, p2⟩)
      | (clear hall
         go_enter Tryz.func21, Tryz.ntmps21
         go_wp2
         all_goals go_ret
         all_goals exact ⟨retB E.out.symm, ((Below.refl _ _).alloc (Nat.le_refl _) _).alloc (by simp) _⟩)
end Go.Proofs.YtngfhpklakhehaaGreatDoor
