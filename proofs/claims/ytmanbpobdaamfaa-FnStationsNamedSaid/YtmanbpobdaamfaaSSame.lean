/-
  SameScheme: both sides. No condition.
-/
import Derived.Test.YtmanbpobdaamfaaSchm2
namespace Go.Proofs.Ytmanbpobdaamfaa
open Go.RowKit
set_option maxHeartbeats 400000

def sameX (x y : Sch) : Bool := decide (x.st = y.st) && (decide (x.rm = y.rm) && decide (x.wy = y.wy))
set_option maxHeartbeats 1000000 in
theorem l21Names_any (A : Option Addr) (n c : Nat) (A' : Option Addr) (n' c' : Nat) (xs ys : List ByteArray) (w : World) (B : Nat) (hB : B ≤ w.heap.size) (hn : n ≤ 2000000) (hn' : n' ≤ 2000000) (hx : Sl w B 1 encS A n xs) (hy : Sl w B 1 encS A' n' ys) :
    Calls Try.prog 66 #[.slice A n c, .slice A' n' c'] w fun r w' => r = .returned (.bool (decide (xs = ys))) ∧ Below w.heap.size w w' := by
  have hxl := hx.len
  have hyl := hy.len
  by_cases hnn : n = n'
  · subst hnn
    go_enter Try.func66, Try.ntmps66
    go_wp2
    go_loopw [5] (fun i w1 => ∃ k : Nat, k ≤ n ∧ i = .int .i64 k ∧ Hid ((xs = ys) = (xs.drop k = ys.drop k)) ∧ Below w.heap.size w w1) (fun i _ => n - (intOf i).toNat)
    case atStart => exact ⟨0, Nat.zero_le _, rfl, hid rfl, Below.refl _ _⟩
    case round =>
      obtain ⟨k, hk, rfl, he, hb⟩ := hrel
      by_cases hlt : k < n
      · obtain ⟨x, b, off, Hx, rfl, hbB, c0⟩ := (hx.below (hb.mono hB)).str hlt
        obtain ⟨y, b', off', Hy, rfl, hbB', d0⟩ := (hy.below (hb.mono hB)).str hlt
        have he2 := he.out
        rw [drop_at Hx.out, drop_at Hy.out, firstS] at he2
        have lb : b < wr.heap.size := by have := hb.size; omega
        have lb' : b' < wr.heap.size := by have := hb.size; omega
        clear he hx hy Hx Hy
        by_cases q : x = y
        · have He2 : Hid ((xs = ys) = (xs.drop (k + 1) = ys.drop (k + 1))) := by rw [he2]; simp [Hid, q]
          subst q
          clear he2
          go_wp2
          go_quiet (fail)
          go_wp2
          have hb5 := below_drewN hb nq
          go_roundw
          all_goals first | exact ⟨k + 1, by omega, by go_num, He2, hb5⟩ | exact ⟨⟨k + 1, by omega, by go_num, He2, hb5⟩, by simp [intOf]; omega⟩ | (simp [intOf]; omega)
        · have E : Hid (decide (xs = ys) = false) := by rw [Hid, decide_eq_false_iff_not, he2]; exact fun h => q h.1
          have z0 := bs_ne q
          clear he2 q
          go_wp2
          go_quiet (fail)
          go_wp2
          go_ret
          exact ⟨retB E.out.symm, below_drewN hb nq⟩
      · have : k = n := by omega
        subst this
        have E : Hid (decide (xs = ys) = true) := by
          have he2 := he.out
          rw [List.drop_of_length_le (by omega), List.drop_of_length_le (by omega)] at he2
          rw [Hid, decide_eq_true_iff, he2]
        clear he
        go_wp2
        go_ret
        exact ⟨retB E.out.symm, hb⟩
  · have E : Hid (decide (xs = ys) = false) := by
      rw [Hid, decide_eq_false_iff_not]; intro h; subst h; exact hnn (hxl.symm.trans hyl)
    clear hx hy
    go_enter Try.func66, Try.ntmps66
    go_wp2
    go_ret
    exact ⟨retB E.out.symm, Below.refl _ _⟩
set_option maxHeartbeats 2000000 in
theorem specSameScheme_any (s t : SV) (x y : Sch) (w : World) (B : Nat) (hB : B ≤ w.heap.size) (hn : s.n1 ≤ 2000000 ∧ s.n2 ≤ 2000000 ∧ s.n3 ≤ 2000000) (hm : t.n1 ≤ 2000000 ∧ t.n2 ≤ 2000000 ∧ t.n3 ≤ 2000000) (hx : SlX w B s x) (hy : SlX w B t y) :
    Calls Try.prog 28 #[s.v, t.v] w fun r w' => r = .returned (.bool (sameX x y)) ∧ Below w.heap.size w w' := by
  obtain ⟨A1, n1, c1, A2, n2, c2, A3, n3, c3⟩ := s
  obtain ⟨A1', n1', c1', A2', n2', c2', A3', n3', c3'⟩ := t
  simp only [SV.v] at hn hm ⊢
  obtain ⟨W0, hW0⟩ : ∃ W0, W0 = (w.alloc (.cells #[.slice A1 n1 c1, .slice A2 n2 c2, .slice A3 n3 c3] 29)).alloc (.cells #[.slice A1' n1' c1', .slice A2' n2' c2', .slice A3' n3' c3'] 29) := ⟨_, rfl⟩
  have b0 : Below w.heap.size w W0 := by rw [hW0]; exact ((Below.refl _ _).alloc (Nat.le_refl _) _).alloc (by simp) _
  have k1 : W0.cell? ⟨w.heap.size, 1, none⟩ = some (.slice A2 n2 c2) := by rw [hW0]; go_simp
  have k2 : W0.cell? ⟨w.heap.size, 2, none⟩ = some (.slice A3 n3 c3) := by rw [hW0]; go_simp
  have l1 : W0.cell? ⟨w.heap.size + 1, 1, none⟩ = some (.slice A2' n2' c2') := by rw [hW0]; go_simp
  have l2 : W0.cell? ⟨w.heap.size + 1, 2, none⟩ = some (.slice A3' n3' c3') := by rw [hW0]; go_simp
  have HW := hid hW0
  have t1 := l21Names_any A1 n1 c1 A1' n1' c1' x.st y.st W0 B (Nat.le_trans hB b0.size) hn.1 hm.1 (hx.st.below (b0.mono hB)) (hy.st.below (b0.mono hB))
  have t2 := fun W h h1 h2 => l21Names_any A2 n2 c2 A2' n2' c2' x.rm y.rm W B h hn.2.1 hm.2.1 h1 h2
  have E := hid (show sameX x y = (decide (x.st = y.st) && (decide (x.rm = y.rm) && decide (x.wy = y.wy))) from rfl)
  obtain ⟨_, x2, x3⟩ := hx
  obtain ⟨_, y2, y3⟩ := hy
  have hxl := x3.len
  have hyl := y3.len
  simp only at hxl hyl
  generalize decide (x.st = y.st) = p1 at t1 E
  generalize decide (x.rm = y.rm) = p2 at t2 E
  have hne : n3 ≠ n3' → decide (x.wy = y.wy) = false := fun h => by
    rw [decide_eq_false_iff_not]; intro e; rw [e] at hxl; exact h (hxl.symm.trans hyl)
  have hn3 := hn.2.2
  clear hW0 hn hm
  by_cases hall : (p1 = true ∧ p2 = true) ∧ n3 = n3'
  · obtain ⟨⟨rfl, rfl⟩, rfl⟩ := hall
    have E2 : Hid (sameX x y = decide (x.wy = y.wy)) := by rw [Hid, E.out]; rfl
    have HXL := hid hxl
    have HYL := hid hyl
    clear E hne hxl hyl
    go_enter Try.func28, Try.ntmps28
    go_wp2_with fail
    rw [← HW.out]
    refine t1.mono ?_
    rintro r w1 ⟨rfl, b1⟩
    replace k1 := below_cell k1 b1
    replace k2 := below_cell k2 b1
    replace l1 := below_cell l1 b1
    replace l2 := below_cell l2 b1
    replace b1 := b0.trans (b1.mono b0.size)
    go_wp2_with fail
    refine (t2 _ (Nat.le_trans hB b1.size) (x2.below (b1.mono hB)) (y2.below (b1.mono hB))).mono ?_
    rintro r w2 ⟨rfl, b2⟩
    replace k2 := below_cell k2 b2
    replace l2 := below_cell l2 b2
    replace b2 := b1.trans (b2.mono b1.size)
    go_wp2_with fail
    go_loopw [5] (fun i w3 => ∃ k : Nat, k ≤ n3 ∧ i = .int .i64 k ∧ Hid ((x.wy = y.wy) = (x.wy.drop k = y.wy.drop k)) ∧ Below w.heap.size w w3 ∧ Below w2.heap.size w2 w3) (fun i _ => n3 - (intOf i).toNat)
    case atStart => exact ⟨0, Nat.zero_le _, rfl, hid rfl, b2, Below.refl _ _⟩
    case round =>
      obtain ⟨k, hk, rfl, he, hb, hbb⟩ := hrel
      have kk := below_cell k2 hbb
      have ll := below_cell l2 hbb
      clear k2 l2 k1 l1 HW b1 b2 b0
      by_cases hlt : k < n3
      · obtain ⟨a0, a1, a2, b, off, Hx, rfl, hbB, c0, c1, c2⟩ := (x3.below (hb.mono hB)).atWay hlt
        obtain ⟨z0, z1, z2, b', off', Hy, rfl, hbB', d0, d1, d2⟩ := (y3.below (hb.mono hB)).atWay hlt
        have he2 := he.out
        rw [drop_at Hx.out, drop_at Hy.out, firstWay] at he2
        have lb : b < wr.heap.size := by have := hb.size; omega
        have lb' : b' < wr.heap.size := by have := hb.size; omega
        clear he x3 y3 Hx Hy x2 y2
        rcases diffWay a0 z0 a1 z1 a2 z2 with q | q | ⟨rfl, q⟩ | ⟨rfl, rfl, q⟩
        · have He2 : Hid ((x.wy = y.wy) = (x.wy.drop (k + 1) = y.wy.drop (k + 1))) := by rw [he2]; simp [Hid, q]
          obtain ⟨rfl, rfl, rfl⟩ := q
          clear he2
          go_wp2_with fail
          go_quiet (fail)
          go_wp2_with fail
          have hb5 := below_drewN hb nq
          have hb6 := below_drewN hbb nq
          go_roundw
          all_goals first | exact ⟨k + 1, by omega, by go_num, He2, hb5, hb6⟩ | exact ⟨⟨k + 1, by omega, by go_num, He2, hb5, hb6⟩, by simp [intOf]; omega⟩ | (simp [intOf]; omega)
        all_goals
          have E3 : Hid (sameX x y = false) := by rw [Hid, E2.out, decide_eq_false_iff_not, he2]; intro h; first | exact q h.1.1 | exact q h.1.2.1 | exact q h.1.2.2
        · have q0 := bs_ne q
          clear he2 q
          go_wp2_with fail
          go_quiet (fail)
          go_wp2_with fail
          go_ret
          exact ⟨retB E3.out.symm, below_drewN hb nq⟩
        · have q0 := bs_ne q
          clear he2 q
          go_wp2_with fail
          go_quiet (fail)
          go_wp2_with fail
          go_ret
          exact ⟨retB E3.out.symm, below_drewN hb nq⟩
        · have q0 := decide_eq_false q
          have q1 := beq_false_of_ne q
          clear he2 q
          go_wp2_with fail
          go_quiet (fail)
          go_wp2_with fail
          go_ret
          exact ⟨retB E3.out.symm, below_drewN hb nq⟩
      · have : k = n3 := by omega
        subst this
        have E3 : Hid (sameX x y = true) := by
          have he2 := he.out
          rw [List.drop_of_length_le (by rw [HXL.out]; omega), List.drop_of_length_le (by rw [HYL.out]; omega)] at he2
          rw [Hid, E2.out, decide_eq_true_iff, he2]
        clear he
        go_wp2_with fail
        go_ret
        exact ⟨retB E3.out.symm, hb⟩
  · have E2 : Hid (sameX x y = false) := by
      rw [Hid, E.out]
      by_cases h3 : n3 = n3'
      · cases p1 <;> cases p2 <;> first | rfl | exact absurd ⟨⟨rfl, rfl⟩, h3⟩ hall
      · rw [hne h3]; simp
    clear E hne hxl hyl x3 y3
    by_cases h3 : n3 = n3'
    · subst h3
      cases p1 <;> cases p2 <;> first | exact absurd ⟨⟨rfl, rfl⟩, rfl⟩ hall | skip
      all_goals clear hall
      all_goals go_enter Try.func28, Try.ntmps28
      all_goals go_wp2_with fail
      all_goals rw [← HW.out]
      all_goals refine t1.mono ?_
      all_goals rintro r w1 ⟨rfl, b1⟩
      all_goals replace k1 := below_cell k1 b1
      all_goals replace k2 := below_cell k2 b1
      all_goals replace l1 := below_cell l1 b1
      all_goals replace l2 := below_cell l2 b1
      all_goals replace b1 := b0.trans (b1.mono b0.size)
      all_goals go_wp2_with fail
      all_goals first
        | (go_ret; exact ⟨retB E2.out.symm, b1⟩)
        | (refine (t2 _ (Nat.le_trans hB b1.size) (x2.below (b1.mono hB)) (y2.below (b1.mono hB))).mono ?_
           rintro r w2 ⟨rfl, b2⟩
           replace k2 := below_cell k2 b2
           replace l2 := below_cell l2 b2
           replace b2 := b1.trans (b2.mono b1.size)
           go_wp2_with fail
           go_ret
           exact ⟨retB E2.out.symm, b2⟩)
    · have h3' : ¬ ((n3 : Int) = (n3' : Int)) := by omega
      clear hall h3
      cases p1 <;> cases p2
      all_goals go_enter Try.func28, Try.ntmps28
      all_goals go_wp2_with fail
      all_goals rw [← HW.out]
      all_goals refine t1.mono ?_
      all_goals rintro r w1 ⟨rfl, b1⟩
      all_goals replace k1 := below_cell k1 b1
      all_goals replace k2 := below_cell k2 b1
      all_goals replace l1 := below_cell l1 b1
      all_goals replace l2 := below_cell l2 b1
      all_goals replace b1 := b0.trans (b1.mono b0.size)
      all_goals go_wp2_with fail
      all_goals first
        | (go_ret; exact ⟨retB E2.out.symm, b1⟩)
        | (refine (t2 _ (Nat.le_trans hB b1.size) (x2.below (b1.mono hB)) (y2.below (b1.mono hB))).mono ?_
           rintro r w2 ⟨rfl, b2⟩
           replace k2 := below_cell k2 b2
           replace l2 := below_cell l2 b2
           replace b2 := b1.trans (b2.mono b1.size)
           go_wp2_with fail
           go_ret
           exact ⟨retB E2.out.symm, b2⟩)
end Go.Proofs.Ytmanbpobdaamfaa
