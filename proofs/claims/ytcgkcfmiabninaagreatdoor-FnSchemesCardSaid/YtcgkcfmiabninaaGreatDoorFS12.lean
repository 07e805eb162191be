/-
  FS: texts SSame, KFault, BOpen, LHelp, one behind the other. No condition but what each says.
-/
import Derived.Test.YtcgkcfmiabninaaGreatDoorFS11
import Derived.Deep.RegionHeld3
import Derived.ChangeSlices
/-
  SameScheme: both sides. No condition.
-/
namespace Go.Proofs.YtcgkcfmiabninaaGreatDoor
open Go.RowKit
set_option maxHeartbeats 400000

def sameX (x y : Sch) : Bool := decide (x.st = y.st) && (decide (x.rm = y.rm) && decide (x.wy = y.wy))
set_option maxHeartbeats 1000000 in
theorem implSameScheme_any (s t : SV) (x y : Sch) (w : World) (B : Nat) (hB : B ≤ w.heap.size) (hn : s.n1 ≤ 2000000 ∧ s.n2 ≤ 2000000 ∧ s.n3 ≤ 2000000) (hm : t.n1 ≤ 2000000 ∧ t.n2 ≤ 2000000 ∧ t.n3 ≤ 2000000) (hx : SlX w B s x) (hy : SlX w B t y) :
    Calls Tryz.prog 21 #[s.v, t.v] w fun r w' => r = .returned (.bool (sameX x y)) ∧ Below w.heap.size w w' := by
  obtain ⟨A1, n1, c1, A2, n2, c2, A3, n3, c3⟩ := s
  obtain ⟨A1', n1', c1', A2', n2', c2', A3', n3', c3'⟩ := t
  simp only [SV.v] at hn hm ⊢
  obtain ⟨W0, hW0⟩ : ∃ W0, W0 = (w.alloc (.cells #[.slice A1 n1 c1, .slice A2 n2 c2, .slice A3 n3 c3] 25)).alloc (.cells #[.slice A1' n1' c1', .slice A2' n2' c2', .slice A3' n3' c3'] 25) := ⟨_, rfl⟩
  have b0 : Below w.heap.size w W0 := by rw [hW0]; exact ((Below.refl _ _).alloc (Nat.le_refl _) _).alloc (by simp) _
  have k1 : W0.cell? ⟨w.heap.size, 1, none⟩ = some (.slice A2 n2 c2) := by rw [hW0]; go_simp
  have k2 : W0.cell? ⟨w.heap.size, 2, none⟩ = some (.slice A3 n3 c3) := by rw [hW0]; go_simp
  have l1 : W0.cell? ⟨w.heap.size + 1, 1, none⟩ = some (.slice A2' n2' c2') := by rw [hW0]; go_simp
  have l2 : W0.cell? ⟨w.heap.size + 1, 2, none⟩ = some (.slice A3' n3' c3') := by rw [hW0]; go_simp
  have HW := hid hW0
  have t1 := equalS_any A1 n1 c1 A1' n1' c1' x.st y.st W0 B (Nat.le_trans hB b0.size) hn.1 hm.1 (hx.st.below (b0.mono hB)) (hy.st.below (b0.mono hB))
  have t2 := fun W h h1 h2 => equalS_any A2 n2 c2 A2' n2' c2' x.rm y.rm W B h hn.2.1 hm.2.1 h1 h2
  have t3 := fun W h h1 h2 => equalWay_any A3 n3 c3 A3' n3' c3' x.wy y.wy W B h hn.2.2 hm.2.2 h1 h2
  have E := hid (show sameX x y = (decide (x.st = y.st) && (decide (x.rm = y.rm) && decide (x.wy = y.wy))) from rfl)
  obtain ⟨x1, x2, x3⟩ := hx
  obtain ⟨y1, y2, y3⟩ := hy
  generalize decide (x.st = y.st) = p1 at t1 E
  generalize decide (x.rm = y.rm) = p2 at t2 E
  generalize decide (x.wy = y.wy) = p3 at t3 E
  clear hW0 x1 y1 hn hm
  cases p1 <;> cases p2 <;> cases p3
  all_goals go_enter Tryz.func21, Tryz.ntmps21
  all_goals go_wp2_with fail
  all_goals rw [← HW.out]
  all_goals refine t1.mono ?_
  all_goals rintro r w1 ⟨rfl, b1⟩
  all_goals replace k1 := below_cell k1 b1
  all_goals replace k2 := below_cell k2 b1
  all_goals replace l1 := below_cell l1 b1
  all_goals replace l2 := below_cell l2 b1
  all_goals replace b1 := b0.trans (b1.mono b0.size)
  all_goals go_wp2_with fail
  all_goals first
    | (go_ret; exact ⟨retB E.out.symm, b1⟩)
    | (refine (t2 _ (Nat.le_trans hB b1.size) (x2.below (b1.mono hB)) (y2.below (b1.mono hB))).mono ?_
       rintro r w2 ⟨rfl, b2⟩
       replace k2 := below_cell k2 b2
       replace l2 := below_cell l2 b2
       replace b2 := b1.trans (b2.mono b1.size)
       go_wp2_with fail
       first
         | (go_ret; exact ⟨retB E.out.symm, b2⟩)
         | (refine (t3 _ (Nat.le_trans hB b2.size) (x3.below (b2.mono hB)) (y3.below (b2.mono hB))).mono ?_
            rintro r w3 ⟨rfl, b3⟩
            go_wp2_with fail
            go_ret
            exact ⟨retB E.out.symm, b2.trans (b3.mono b2.size)⟩))
set_option maxHeartbeats 1000000 in
theorem l21Names_any (A : Option Addr) (n c : Nat) (A' : Option Addr) (n' c' : Nat) (xs ys : List ByteArray) (w : World) (B : Nat) (hB : B ≤ w.heap.size) (hn : n ≤ 2000000) (hn' : n' ≤ 2000000) (hx : Sl w B 1 encS A n xs) (hy : Sl w B 1 encS A' n' ys) :
    Calls Tryz.prog 46 #[.slice A n c, .slice A' n' c'] w fun r w' => r = .returned (.bool (decide (xs = ys))) ∧ Below w.heap.size w w' := by
  have hxl := hx.len
  have hyl := hy.len
  by_cases hnn : n = n'
  · subst hnn
    go_enter Tryz.func46, Tryz.ntmps46
    go_wp2
    go_loopw [5] (fun i w1 => ∃ k : Nat, k ≤ n ∧ i = .int .i64 k ∧ Hid ((xs = ys) = (xs.drop k = ys.drop k)) ∧ Below w.heap.size w w1) (fun i _ => n - (intOf i).toNat)
    case atStart => exact ⟨0, Nat.zero_le _, rfl, hid rfl, Below.refl _ _⟩
    case round =>
      obtain ⟨k, hk, rfl, he, hb⟩ := hrel
      by_cases hlt : k < n
      · obtain ⟨x, b, off, Hx, rfl, hbB, c0⟩ := (hx.below (hb.mono hB)).str hlt
        obtain ⟨y, b', off', Hy, rfl, hbB', d0⟩ := (hy.below (hb.mono hB)).str hlt
        have he2 := he.out
        rw [drop_at Hx.out, drop_at Hy.out, firstS] at he2
        have lb : b < wr.heap.size := by have := hb.size; omega
        have lb' : b' < wr.heap.size := by have := hb.size; omega
        clear he hx hy Hx Hy
        by_cases q : x = y
        · have He2 : Hid ((xs = ys) = (xs.drop (k + 1) = ys.drop (k + 1))) := by rw [he2]; simp [Hid, q]
          subst q
          clear he2
          go_wp2
          go_quiet (fail)
          go_wp2
          have hb5 := below_drewN hb nq
          go_roundw
          all_goals first | exact ⟨k + 1, by omega, by go_num, He2, hb5⟩ | exact ⟨⟨k + 1, by omega, by go_num, He2, hb5⟩, by simp [intOf]; omega⟩ | (simp [intOf]; omega)
        · have E : Hid (decide (xs = ys) = false) := by rw [Hid, decide_eq_false_iff_not, he2]; exact fun h => q h.1
          have z0 := bs_ne q
          clear he2 q
          go_wp2
          go_quiet (fail)
          go_wp2
          go_ret
          exact ⟨retB E.out.symm, below_drewN hb nq⟩
      · have : k = n := by omega
        subst this
        have E : Hid (decide (xs = ys) = true) := by
          have he2 := he.out
          rw [List.drop_of_length_le (by omega), List.drop_of_length_le (by omega)] at he2
          rw [Hid, decide_eq_true_iff, he2]
        clear he
        go_wp2
        go_ret
        exact ⟨retB E.out.symm, hb⟩
  · have E : Hid (decide (xs = ys) = false) := by
      rw [Hid, decide_eq_false_iff_not]; intro h; subst h; exact hnn (hxl.symm.trans hyl)
    clear hx hy
    go_enter Tryz.func46, Tryz.ntmps46
    go_wp2
    go_ret
    exact ⟨retB E.out.symm, Below.refl _ _⟩
set_option maxHeartbeats 2000000 in
theorem specSameScheme_any (s t : SV) (x y : Sch) (w : World) (B : Nat) (hB : B ≤ w.heap.size) (hn : s.n1 ≤ 2000000 ∧ s.n2 ≤ 2000000 ∧ s.n3 ≤ 2000000) (hm : t.n1 ≤ 2000000 ∧ t.n2 ≤ 2000000 ∧ t.n3 ≤ 2000000) (hx : SlX w B s x) (hy : SlX w B t y) :
    Calls Tryz.prog 19 #[s.v, t.v] w fun r w' => r = .returned (.bool (sameX x y)) ∧ Below w.heap.size w w' := by
  obtain ⟨A1, n1, c1, A2, n2, c2, A3, n3, c3⟩ := s
  obtain ⟨A1', n1', c1', A2', n2', c2', A3', n3', c3'⟩ := t
  simp only [SV.v] at hn hm ⊢
  obtain ⟨W0, hW0⟩ : ∃ W0, W0 = (w.alloc (.cells #[.slice A1 n1 c1, .slice A2 n2 c2, .slice A3 n3 c3] 25)).alloc (.cells #[.slice A1' n1' c1', .slice A2' n2' c2', .slice A3' n3' c3'] 25) := ⟨_, rfl⟩
  have b0 : Below w.heap.size w W0 := by rw [hW0]; exact ((Below.refl _ _).alloc (Nat.le_refl _) _).alloc (by simp) _
  have k1 : W0.cell? ⟨w.heap.size, 1, none⟩ = some (.slice A2 n2 c2) := by rw [hW0]; go_simp
  have k2 : W0.cell? ⟨w.heap.size, 2, none⟩ = some (.slice A3 n3 c3) := by rw [hW0]; go_simp
  have l1 : W0.cell? ⟨w.heap.size + 1, 1, none⟩ = some (.slice A2' n2' c2') := by rw [hW0]; go_simp
  have l2 : W0.cell? ⟨w.heap.size + 1, 2, none⟩ = some (.slice A3' n3' c3') := by rw [hW0]; go_simp
  have HW := hid hW0
  have t1 := l21Names_any A1 n1 c1 A1' n1' c1' x.st y.st W0 B (Nat.le_trans hB b0.size) hn.1 hm.1 (hx.st.below (b0.mono hB)) (hy.st.below (b0.mono hB))
  have t2 := fun W h h1 h2 => l21Names_any A2 n2 c2 A2' n2' c2' x.rm y.rm W B h hn.2.1 hm.2.1 h1 h2
  have E := hid (show sameX x y = (decide (x.st = y.st) && (decide (x.rm = y.rm) && decide (x.wy = y.wy))) from rfl)
  obtain ⟨_, x2, x3⟩ := hx
  obtain ⟨_, y2, y3⟩ := hy
  have hxl := x3.len
  have hyl := y3.len
  simp only at hxl hyl
  generalize decide (x.st = y.st) = p1 at t1 E
  generalize decide (x.rm = y.rm) = p2 at t2 E
  have hne : n3 ≠ n3' → decide (x.wy = y.wy) = false := fun h => by
    rw [decide_eq_false_iff_not]; intro e; rw [e] at hxl; exact h (hxl.symm.trans hyl)
  have hn3 := hn.2.2
  clear hW0 hn hm
  by_cases hall : (p1 = true ∧ p2 = true) ∧ n3 = n3'
  · obtain ⟨⟨rfl, rfl⟩, rfl⟩ := hall
    have E2 : Hid (sameX x y = decide (x.wy = y.wy)) := by rw [Hid, E.out]; rfl
    have HXL := hid hxl
    have HYL := hid hyl
    clear E hne hxl hyl
    go_enter Tryz.func19, Tryz.ntmps19
    go_wp2_with fail
    rw [← HW.out]
    refine t1.mono ?_
    rintro r w1 ⟨rfl, b1⟩
    replace k1 := below_cell k1 b1
    replace k2 := below_cell k2 b1
    replace l1 := below_cell l1 b1
    replace l2 := below_cell l2 b1
    replace b1 := b0.trans (b1.mono b0.size)
    go_wp2_with fail
    refine (t2 _ (Nat.le_trans hB b1.size) (x2.below (b1.mono hB)) (y2.below (b1.mono hB))).mono ?_
    rintro r w2 ⟨rfl, b2⟩
    replace k2 := below_cell k2 b2
    replace l2 := below_cell l2 b2
    replace b2 := b1.trans (b2.mono b1.size)
    go_wp2_with fail
    go_loopw [5] (fun i w3 => ∃ k : Nat, k ≤ n3 ∧ i = .int .i64 k ∧ Hid ((x.wy = y.wy) = (x.wy.drop k = y.wy.drop k)) ∧ Below w.heap.size w w3 ∧ Below w2.heap.size w2 w3) (fun i _ => n3 - (intOf i).toNat)
    case atStart => exact ⟨0, Nat.zero_le _, rfl, hid rfl, b2, Below.refl _ _⟩
    case round =>
      obtain ⟨k, hk, rfl, he, hb, hbb⟩ := hrel
      have kk := below_cell k2 hbb
      have ll := below_cell l2 hbb
      clear k2 l2 k1 l1 HW b1 b2 b0
      by_cases hlt : k < n3
      · obtain ⟨a0, a1, a2, b, off, Hx, rfl, hbB, c0, c1, c2⟩ := (x3.below (hb.mono hB)).atWay hlt
        obtain ⟨z0, z1, z2, b', off', Hy, rfl, hbB', d0, d1, d2⟩ := (y3.below (hb.mono hB)).atWay hlt
        have he2 := he.out
        rw [drop_at Hx.out, drop_at Hy.out, firstWay] at he2
        have lb : b < wr.heap.size := by have := hb.size; omega
        have lb' : b' < wr.heap.size := by have := hb.size; omega
        clear he x3 y3 Hx Hy x2 y2
        rcases diffWay a0 z0 a1 z1 a2 z2 with q | q | ⟨rfl, q⟩ | ⟨rfl, rfl, q⟩
        · have He2 : Hid ((x.wy = y.wy) = (x.wy.drop (k + 1) = y.wy.drop (k + 1))) := by rw [he2]; simp [Hid, q]
          obtain ⟨rfl, rfl, rfl⟩ := q
          clear he2
          go_wp2_with fail
          go_quiet (fail)
          go_wp2_with fail
          have hb5 := below_drewN hb nq
          have hb6 := below_drewN hbb nq
          go_roundw
          all_goals first | exact ⟨k + 1, by omega, by go_num, He2, hb5, hb6⟩ | exact ⟨⟨k + 1, by omega, by go_num, He2, hb5, hb6⟩, by simp [intOf]; omega⟩ | (simp [intOf]; omega)
        all_goals
          have E3 : Hid (sameX x y = false) := by rw [Hid, E2.out, decide_eq_false_iff_not, he2]; intro h; first | exact q h.1.1 | exact q h.1.2.1 | exact q h.1.2.2
        · have q0 := bs_ne q
          clear he2 q
          go_wp2_with fail
          go_quiet (fail)
          go_wp2_with fail
          go_ret
          exact ⟨retB E3.out.symm, below_drewN hb nq⟩
        · have q0 := bs_ne q
          clear he2 q
          go_wp2_with fail
          go_quiet (fail)
          go_wp2_with fail
          go_ret
          exact ⟨retB E3.out.symm, below_drewN hb nq⟩
        · have q0 := decide_eq_false q
          have q1 := beq_false_of_ne q
          clear he2 q
          go_wp2_with fail
          go_quiet (fail)
          go_wp2_with fail
          go_ret
          exact ⟨retB E3.out.symm, below_drewN hb nq⟩
      · have : k = n3 := by omega
        subst this
        have E3 : Hid (sameX x y = true) := by
          have he2 := he.out
          rw [List.drop_of_length_le (by rw [HXL.out]; omega), List.drop_of_length_le (by rw [HYL.out]; omega)] at he2
          rw [Hid, E2.out, decide_eq_true_iff, he2]
        clear he
        go_wp2_with fail
        go_ret
        exact ⟨retB E3.out.symm, hb⟩
  · have E2 : Hid (sameX x y = false) := by
      rw [Hid, E.out]
      by_cases h3 : n3 = n3'
      · cases p1 <;> cases p2 <;> first | rfl | exact absurd ⟨⟨rfl, rfl⟩, h3⟩ hall
      · rw [hne h3]; simp
    clear E hne hxl hyl x3 y3
    by_cases h3 : n3 = n3'
    · subst h3
      cases p1 <;> cases p2 <;> first | exact absurd ⟨⟨rfl, rfl⟩, rfl⟩ hall | skip
      all_goals clear hall
      all_goals go_enter Tryz.func19, Tryz.ntmps19
      all_goals go_wp2_with fail
      all_goals rw [← HW.out]
      all_goals refine t1.mono ?_
      all_goals rintro r w1 ⟨rfl, b1⟩
      all_goals replace k1 := below_cell k1 b1
      all_goals replace k2 := below_cell k2 b1
      all_goals replace l1 := below_cell l1 b1
      all_goals replace l2 := below_cell l2 b1
      all_goals replace b1 := b0.trans (b1.mono b0.size)
      all_goals go_wp2_with fail
      all_goals first
        | (go_ret; exact ⟨retB E2.out.symm, b1⟩)
        | (refine (t2 _ (Nat.le_trans hB b1.size) (x2.below (b1.mono hB)) (y2.below (b1.mono hB))).mono ?_
           rintro r w2 ⟨rfl, b2⟩
           replace k2 := below_cell k2 b2
           replace l2 := below_cell l2 b2
           replace b2 := b1.trans (b2.mono b1.size)
           go_wp2_with fail
           go_ret
           exact ⟨retB E2.out.symm, b2⟩)
    · have h3' : ¬ ((n3 : Int) = (n3' : Int)) := by omega
      clear hall h3
      cases p1 <;> cases p2
      all_goals go_enter Tryz.func19, Tryz.ntmps19
      all_goals go_wp2_with fail
      all_goals rw [← HW.out]
      all_goals refine t1.mono ?_
      all_goals rintro r w1 ⟨rfl, b1⟩
      all_goals replace k1 := below_cell k1 b1
      all_goals replace k2 := below_cell k2 b1
      all_goals replace l1 := below_cell l1 b1
      all_goals replace l2 := below_cell l2 b1
      all_goals replace b1 := b0.trans (b1.mono b0.size)
      all_goals go_wp2_with fail
      all_goals first
        | (go_ret; exact ⟨retB E2.out.symm, b1⟩)
        | (refine (t2 _ (Nat.le_trans hB b1.size) (x2.below (b1.mono hB)) (y2.below (b1.mono hB))).mono ?_
           rintro r w2 ⟨rfl, b2⟩
           replace k2 := below_cell k2 b2
           replace l2 := below_cell l2 b2
           replace b2 := b1.trans (b2.mono b1.size)
           go_wp2_with fail
           go_ret
           exact ⟨retB E2.out.symm, b2⟩)
end Go.Proofs.YtcgkcfmiabninaaGreatDoor
/-
  Faults as text: the program's function and the reference's. No condition.
-/
namespace Go.Proofs.YtcgkcfmiabninaaGreatDoor
open Go.RowKit
set_option maxHeartbeats 400000

def faultName (c : Int) : ByteArray :=
  if c = 1 then ⟨#[119, 111, 114, 100]⟩
  else if c = 2 then ⟨#[99, 111, 117, 110, 116]⟩
  else if c = 3 then ⟨#[110, 97, 109, 101]⟩
  else if c = 4 then ⟨#[110, 117, 109, 98, 101, 114]⟩
  else if c = 5 then ⟨#[116, 119, 105, 99, 101]⟩
  else if c = 6 then ⟨#[110, 111, 110, 101]⟩
  else if c = 7 then ⟨#[115, 101, 108, 102]⟩
  else if c = 8 then ⟨#[102, 117, 108, 108]⟩
  else ⟨#[]⟩
/-- a fault as text: its line, a colon, its name -/
def faultF (l c : Int) : ByteArray := if inR l 1 3001 && inR c 1 8 then (⟨(Lib.itoa l).toArray⟩ ++ ⟨#[58, 32]⟩) ++ faultName c else ⟨#[]⟩
theorem inR_iff' {n lo hi : Int} : inR n lo hi = true ↔ lo ≤ n ∧ n ≤ hi := by simp [inR]
theorem code8 {c : Int} (h : inR c 1 8 = true) : c = 1 ∨ c = 2 ∨ c = 3 ∨ c = 4 ∨ c = 5 ∨ c = 6 ∨ c = 7 ∨ c = 8 := by
  rw [inR_iff'] at h; omega
theorem itoa_size {n : Int} (h : inR n 1 3001 = true) : (⟨(Lib.itoa n).toArray⟩ : ByteArray).size ≤ 21 := by
  rw [inR_iff'] at h
  have := Lib.itoa_length_le n (by omega) (by omega)
  simpa [ByteArray.size] using this
set_option maxHeartbeats 4000000 in
set_option maxRecDepth 100000 in
theorem implFaultText_any (l c : Int) (w : World) (htab : TabW w) :
    Calls Tryz.prog 22 #[.agg #[.int .i64 l, .int .i64 c]] w fun e w' => e = .returned (.string (faultF l c)) ∧ Below w.heap.size w w' := by
  have hw := fun n lo hi W => within_any n lo hi W
  have hb0 : Below w.heap.size w (w.alloc (.cells #[.int .i64 l, .int .i64 c] 42)) := (Below.refl _ _).alloc (Nat.le_refl _) _
  cases h1 : inR l 1 3001 with
  | false =>
    have E : Hid (faultF l c = ⟨#[]⟩) := by simp [Hid, faultF, h1]
    have c1 := fun W => hw l 1 3001 W
    rw [h1] at c1
    clear hw h1
    go_enter Tryz.func22, Tryz.ntmps22
    go_wp2_with (go_at_call 51; refine (c1 _).mono ?_; rintro r w' ⟨rfl, rfl⟩)
    go_ret
    rw [E.out]
    exact ⟨rfl, hb0⟩
  | true =>
    cases h2 : inR c 1 8 with
    | false =>
      have E : Hid (faultF l c = ⟨#[]⟩) := by simp [Hid, faultF, h2]
      have c1 := fun W => hw l 1 3001 W
      have c2 := fun W => hw c 1 8 W
      rw [h1] at c1
      rw [h2] at c2
      clear hw h1 h2
      go_enter Tryz.func22, Tryz.ntmps22
      go_wp2_with (go_at_call 51; first | (with_reducible refine (c1 _).mono ?_; rintro r w' ⟨rfl, rfl⟩) | (with_reducible refine (c2 _).mono ?_; rintro r w' ⟨rfl, rfl⟩))
      go_ret
      rw [E.out]
      exact ⟨rfl, hb0⟩
    | true =>
      have E : Hid (faultF l c = (⟨(Lib.itoa l).toArray⟩ ++ ⟨#[58, 32]⟩) ++ faultName c) := by simp [Hid, faultF, h1, h2]
      have c1 := fun W => hw l 1 3001 W
      have c2 := fun W => hw c 1 8 W
      have hz := itoa_size h1
      have hc := code8 h2
      have cD := fun W hW => Decimal_any l W (by rw [inR_iff'] at h1; omega) (by rw [inR_iff'] at h1; omega) hW
      unfold itoaV at cD
      generalize hs : (⟨(Lib.itoa l).toArray⟩ : ByteArray) = s at cD E hz
      rw [h1] at c1
      rw [h2] at c2
      clear hw h1 h2 hs
      obtain ⟨w0, hw0⟩ : ∃ w0, w0 = w.alloc (.cells #[.int .i64 l, .int .i64 c] 42) := ⟨_, rfl⟩
      have htb : TabW w0.drew := by rw [hw0]; exact htab.below hb0.drew
      have k0 : w0.cell? ⟨w.heap.size, 0, none⟩ = some (.int .i64 l) := by rw [hw0]; go_simp
      have k1 : w0.cell? ⟨w.heap.size, 1, none⟩ = some (.int .i64 c) := by rw [hw0]; go_simp
      have lt0 : w.heap.size < w0.heap.size := World.block_lt_of_cell? _ _ k0
      rw [← hw0] at hb0
      have HW0 := hid hw0
      clear hw0
      rcases hc with rfl | rfl | rfl | rfl | rfl | rfl | rfl | rfl
      · go_enter Tryz.func22, Tryz.ntmps22
        go_wp2_with (go_at_call 51; first | (with_reducible refine (c1 _).mono ?_; rintro r w' ⟨rfl, rfl⟩) | (with_reducible refine (c2 _).mono ?_; rintro r w' ⟨rfl, rfl⟩))
        rw [← HW0.out]
        clear HW0 c1 c2 htab
        have hs1 : (9223372036854775807 < s.size + 2) = False := by simp; omega
        have hs2 : (9223372036854775807 < s.size + 2 + 4) = False := by simp; omega
        have hix : ∀ W : World, (Instr.index 71 (.agg #[.string ⟨#[]⟩, .string ⟨#[119, 111, 114, 100]⟩, .string ⟨#[99, 111, 117, 110, 116]⟩, .string ⟨#[110, 97, 109, 101]⟩, .string ⟨#[110, 117, 109, 98, 101, 114]⟩, .string ⟨#[116, 119, 105, 99, 101]⟩, .string ⟨#[110, 111, 110, 101]⟩, .string ⟨#[115, 101, 108, 102]⟩, .string ⟨#[102, 117, 108, 108]⟩]) (.int .i64 1)).run Tryz.prog W = .ok (.string ⟨#[119, 111, 114, 100]⟩) W := fun _ => rfl
        go_region_held3 (fun W => W.cell? ⟨w.heap.size, 0, none⟩ = some (.int .i64 l) ∧ W.cell? ⟨w.heap.size, 1, none⟩ = some (.int .i64 1))
          (first
            | (go_keep; done)
            | (go_split_ands; exact ⟨below_cell (by assumption) b7, below_cell (by assumption) b7⟩))
          (first
            | (go_at_call 41; with_reducible refine (cD _ htb).mono ?_; rintro r w7 ⟨rfl, b7⟩))
        all_goals have hb7 := hb0.trans ((Below.refl _ _).drew.trans (b7.mono hb0.size))
        all_goals clear b7 cD hs1 hs2 hix
        all_goals (try go_wp2_with fail)
        all_goals go_ret
        all_goals rw [E.out]
        all_goals exact ⟨rfl, hb7⟩
      · go_enter Tryz.func22, Tryz.ntmps22
        go_wp2_with (go_at_call 51; first | (with_reducible refine (c1 _).mono ?_; rintro r w' ⟨rfl, rfl⟩) | (with_reducible refine (c2 _).mono ?_; rintro r w' ⟨rfl, rfl⟩))
        rw [← HW0.out]
        clear HW0 c1 c2 htab
        have hs1 : (9223372036854775807 < s.size + 2) = False := by simp; omega
        have hs2 : (9223372036854775807 < s.size + 2 + 5) = False := by simp; omega
        have hix : ∀ W : World, (Instr.index 71 (.agg #[.string ⟨#[]⟩, .string ⟨#[119, 111, 114, 100]⟩, .string ⟨#[99, 111, 117, 110, 116]⟩, .string ⟨#[110, 97, 109, 101]⟩, .string ⟨#[110, 117, 109, 98, 101, 114]⟩, .string ⟨#[116, 119, 105, 99, 101]⟩, .string ⟨#[110, 111, 110, 101]⟩, .string ⟨#[115, 101, 108, 102]⟩, .string ⟨#[102, 117, 108, 108]⟩]) (.int .i64 2)).run Tryz.prog W = .ok (.string ⟨#[99, 111, 117, 110, 116]⟩) W := fun _ => rfl
        go_region_held3 (fun W => W.cell? ⟨w.heap.size, 0, none⟩ = some (.int .i64 l) ∧ W.cell? ⟨w.heap.size, 1, none⟩ = some (.int .i64 2))
          (first
            | (go_keep; done)
            | (go_split_ands; exact ⟨below_cell (by assumption) b7, below_cell (by assumption) b7⟩))
          (first
            | (go_at_call 41; with_reducible refine (cD _ htb).mono ?_; rintro r w7 ⟨rfl, b7⟩))
        all_goals have hb7 := hb0.trans ((Below.refl _ _).drew.trans (b7.mono hb0.size))
        all_goals clear b7 cD hs1 hs2 hix
        all_goals (try go_wp2_with fail)
        all_goals go_ret
        all_goals rw [E.out]
        all_goals exact ⟨rfl, hb7⟩
      · go_enter Tryz.func22, Tryz.ntmps22
        go_wp2_with (go_at_call 51; first | (with_reducible refine (c1 _).mono ?_; rintro r w' ⟨rfl, rfl⟩) | (with_reducible refine (c2 _).mono ?_; rintro r w' ⟨rfl, rfl⟩))
        rw [← HW0.out]
        clear HW0 c1 c2 htab
        have hs1 : (9223372036854775807 < s.size + 2) = False := by simp; omega
        have hs2 : (9223372036854775807 < s.size + 2 + 4) = False := by simp; omega
        have hix : ∀ W : World, (Instr.index 71 (.agg #[.string ⟨#[]⟩, .string ⟨#[119, 111, 114, 100]⟩, .string ⟨#[99, 111, 117, 110, 116]⟩, .string ⟨#[110, 97, 109, 101]⟩, .string ⟨#[110, 117, 109, 98, 101, 114]⟩, .string ⟨#[116, 119, 105, 99, 101]⟩, .string ⟨#[110, 111, 110, 101]⟩, .string ⟨#[115, 101, 108, 102]⟩, .string ⟨#[102, 117, 108, 108]⟩]) (.int .i64 3)).run Tryz.prog W = .ok (.string ⟨#[110, 97, 109, 101]⟩) W := fun _ => rfl
        go_region_held3 (fun W => W.cell? ⟨w.heap.size, 0, none⟩ = some (.int .i64 l) ∧ W.cell? ⟨w.heap.size, 1, none⟩ = some (.int .i64 3))
          (first
            | (go_keep; done)
            | (go_split_ands; exact ⟨below_cell (by assumption) b7, below_cell (by assumption) b7⟩))
          (first
            | (go_at_call 41; with_reducible refine (cD _ htb).mono ?_; rintro r w7 ⟨rfl, b7⟩))
        all_goals have hb7 := hb0.trans ((Below.refl _ _).drew.trans (b7.mono hb0.size))
        all_goals clear b7 cD hs1 hs2 hix
        all_goals (try go_wp2_with fail)
        all_goals go_ret
        all_goals rw [E.out]
        all_goals exact ⟨rfl, hb7⟩
      · go_enter Tryz.func22, Tryz.ntmps22
        go_wp2_with (go_at_call 51; first | (with_reducible refine (c1 _).mono ?_; rintro r w' ⟨rfl, rfl⟩) | (with_reducible refine (c2 _).mono ?_; rintro r w' ⟨rfl, rfl⟩))
        rw [← HW0.out]
        clear HW0 c1 c2 htab
        have hs1 : (9223372036854775807 < s.size + 2) = False := by simp; omega
        have hs2 : (9223372036854775807 < s.size + 2 + 6) = False := by simp; omega
        have hix : ∀ W : World, (Instr.index 71 (.agg #[.string ⟨#[]⟩, .string ⟨#[119, 111, 114, 100]⟩, .string ⟨#[99, 111, 117, 110, 116]⟩, .string ⟨#[110, 97, 109, 101]⟩, .string ⟨#[110, 117, 109, 98, 101, 114]⟩, .string ⟨#[116, 119, 105, 99, 101]⟩, .string ⟨#[110, 111, 110, 101]⟩, .string ⟨#[115, 101, 108, 102]⟩, .string ⟨#[102, 117, 108, 108]⟩]) (.int .i64 4)).run Tryz.prog W = .ok (.string ⟨#[110, 117, 109, 98, 101, 114]⟩) W := fun _ => rfl
        go_region_held3 (fun W => W.cell? ⟨w.heap.size, 0, none⟩ = some (.int .i64 l) ∧ W.cell? ⟨w.heap.size, 1, none⟩ = some (.int .i64 4))
          (first
            | (go_keep; done)
            | (go_split_ands; exact ⟨below_cell (by assumption) b7, below_cell (by assumption) b7⟩))
          (first
            | (go_at_call 41; with_reducible refine (cD _ htb).mono ?_; rintro r w7 ⟨rfl, b7⟩))
        all_goals have hb7 := hb0.trans ((Below.refl _ _).drew.trans (b7.mono hb0.size))
        all_goals clear b7 cD hs1 hs2 hix
        all_goals (try go_wp2_with fail)
        all_goals go_ret
        all_goals rw [E.out]
        all_goals exact ⟨rfl, hb7⟩
      · go_enter Tryz.func22, Tryz.ntmps22
        go_wp2_with (go_at_call 51; first | (with_reducible refine (c1 _).mono ?_; rintro r w' ⟨rfl, rfl⟩) | (with_reducible refine (c2 _).mono ?_; rintro r w' ⟨rfl, rfl⟩))
        rw [← HW0.out]
        clear HW0 c1 c2 htab
        have hs1 : (9223372036854775807 < s.size + 2) = False := by simp; omega
        have hs2 : (9223372036854775807 < s.size + 2 + 5) = False := by simp; omega
        have hix : ∀ W : World, (Instr.index 71 (.agg #[.string ⟨#[]⟩, .string ⟨#[119, 111, 114, 100]⟩, .string ⟨#[99, 111, 117, 110, 116]⟩, .string ⟨#[110, 97, 109, 101]⟩, .string ⟨#[110, 117, 109, 98, 101, 114]⟩, .string ⟨#[116, 119, 105, 99, 101]⟩, .string ⟨#[110, 111, 110, 101]⟩, .string ⟨#[115, 101, 108, 102]⟩, .string ⟨#[102, 117, 108, 108]⟩]) (.int .i64 5)).run Tryz.prog W = .ok (.string ⟨#[116, 119, 105, 99, 101]⟩) W := fun _ => rfl
        go_region_held3 (fun W => W.cell? ⟨w.heap.size, 0, none⟩ = some (.int .i64 l) ∧ W.cell? ⟨w.heap.size, 1, none⟩ = some (.int .i64 5))
          (first
            | (go_keep; done)
            | (go_split_ands; exact ⟨below_cell (by assumption) b7, below_cell (by assumption) b7⟩))
          (first
            | (go_at_call 41; with_reducible refine (cD _ htb).mono ?_; rintro r w7 ⟨rfl, b7⟩))
        all_goals have hb7 := hb0.trans ((Below.refl _ _).drew.trans (b7.mono hb0.size))
        all_goals clear b7 cD hs1 hs2 hix
        all_goals (try go_wp2_with fail)
        all_goals go_ret
        all_goals rw [E.out]
        all_goals exact ⟨rfl, hb7⟩
      · go_enter Tryz.func22, Tryz.ntmps22
        go_wp2_with (go_at_call 51; first | (with_reducible refine (c1 _).mono ?_; rintro r w' ⟨rfl, rfl⟩) | (with_reducible refine (c2 _).mono ?_; rintro r w' ⟨rfl, rfl⟩))
        rw [← HW0.out]
        clear HW0 c1 c2 htab
        have hs1 : (9223372036854775807 < s.size + 2) = False := by simp; omega
        have hs2 : (9223372036854775807 < s.size + 2 + 4) = False := by simp; omega
        have hix : ∀ W : World, (Instr.index 71 (.agg #[.string ⟨#[]⟩, .string ⟨#[119, 111, 114, 100]⟩, .string ⟨#[99, 111, 117, 110, 116]⟩, .string ⟨#[110, 97, 109, 101]⟩, .string ⟨#[110, 117, 109, 98, 101, 114]⟩, .string ⟨#[116, 119, 105, 99, 101]⟩, .string ⟨#[110, 111, 110, 101]⟩, .string ⟨#[115, 101, 108, 102]⟩, .string ⟨#[102, 117, 108, 108]⟩]) (.int .i64 6)).run Tryz.prog W = .ok (.string ⟨#[110, 111, 110, 101]⟩) W := fun _ => rfl
        go_region_held3 (fun W => W.cell? ⟨w.heap.size, 0, none⟩ = some (.int .i64 l) ∧ W.cell? ⟨w.heap.size, 1, none⟩ = some (.int .i64 6))
          (first
            | (go_keep; done)
            | (go_split_ands; exact ⟨below_cell (by assumption) b7, below_cell (by assumption) b7⟩))
          (first
            | (go_at_call 41; with_reducible refine (cD _ htb).mono ?_; rintro r w7 ⟨rfl, b7⟩))
        all_goals have hb7 := hb0.trans ((Below.refl _ _).drew.trans (b7.mono hb0.size))
        all_goals clear b7 cD hs1 hs2 hix
        all_goals (try go_wp2_with fail)
        all_goals go_ret
        all_goals rw [E.out]
        all_goals exact ⟨rfl, hb7⟩
      · go_enter Tryz.func22, Tryz.ntmps22
        go_wp2_with (go_at_call 51; first | (with_reducible refine (c1 _).mono ?_; rintro r w' ⟨rfl, rfl⟩) | (with_reducible refine (c2 _).mono ?_; rintro r w' ⟨rfl, rfl⟩))
        rw [← HW0.out]
        clear HW0 c1 c2 htab
        have hs1 : (9223372036854775807 < s.size + 2) = False := by simp; omega
        have hs2 : (9223372036854775807 < s.size + 2 + 4) = False := by simp; omega
        have hix : ∀ W : World, (Instr.index 71 (.agg #[.string ⟨#[]⟩, .string ⟨#[119, 111, 114, 100]⟩, .string ⟨#[99, 111, 117, 110, 116]⟩, .string ⟨#[110, 97, 109, 101]⟩, .string ⟨#[110, 117, 109, 98, 101, 114]⟩, .string ⟨#[116, 119, 105, 99, 101]⟩, .string ⟨#[110, 111, 110, 101]⟩, .string ⟨#[115, 101, 108, 102]⟩, .string ⟨#[102, 117, 108, 108]⟩]) (.int .i64 7)).run Tryz.prog W = .ok (.string ⟨#[115, 101, 108, 102]⟩) W := fun _ => rfl
        go_region_held3 (fun W => W.cell? ⟨w.heap.size, 0, none⟩ = some (.int .i64 l) ∧ W.cell? ⟨w.heap.size, 1, none⟩ = some (.int .i64 7))
          (first
            | (go_keep; done)
            | (go_split_ands; exact ⟨below_cell (by assumption) b7, below_cell (by assumption) b7⟩))
          (first
            | (go_at_call 41; with_reducible refine (cD _ htb).mono ?_; rintro r w7 ⟨rfl, b7⟩))
        all_goals have hb7 := hb0.trans ((Below.refl _ _).drew.trans (b7.mono hb0.size))
        all_goals clear b7 cD hs1 hs2 hix
        all_goals (try go_wp2_with fail)
        all_goals go_ret
        all_goals rw [E.out]
        all_goals exact ⟨rfl, hb7⟩
      · go_enter Tryz.func22, Tryz.ntmps22
        go_wp2_with (go_at_call 51; first | (with_reducible refine (c1 _).mono ?_; rintro r w' ⟨rfl, rfl⟩) | (with_reducible refine (c2 _).mono ?_; rintro r w' ⟨rfl, rfl⟩))
        rw [← HW0.out]
        clear HW0 c1 c2 htab
        have hs1 : (9223372036854775807 < s.size + 2) = False := by simp; omega
        have hs2 : (9223372036854775807 < s.size + 2 + 4) = False := by simp; omega
        have hix : ∀ W : World, (Instr.index 71 (.agg #[.string ⟨#[]⟩, .string ⟨#[119, 111, 114, 100]⟩, .string ⟨#[99, 111, 117, 110, 116]⟩, .string ⟨#[110, 97, 109, 101]⟩, .string ⟨#[110, 117, 109, 98, 101, 114]⟩, .string ⟨#[116, 119, 105, 99, 101]⟩, .string ⟨#[110, 111, 110, 101]⟩, .string ⟨#[115, 101, 108, 102]⟩, .string ⟨#[102, 117, 108, 108]⟩]) (.int .i64 8)).run Tryz.prog W = .ok (.string ⟨#[102, 117, 108, 108]⟩) W := fun _ => rfl
        go_region_held3 (fun W => W.cell? ⟨w.heap.size, 0, none⟩ = some (.int .i64 l) ∧ W.cell? ⟨w.heap.size, 1, none⟩ = some (.int .i64 8))
          (first
            | (go_keep; done)
            | (go_split_ands; exact ⟨below_cell (by assumption) b7, below_cell (by assumption) b7⟩))
          (first
            | (go_at_call 41; with_reducible refine (cD _ htb).mono ?_; rintro r w7 ⟨rfl, b7⟩))
        all_goals have hb7 := hb0.trans ((Below.refl _ _).drew.trans (b7.mono hb0.size))
        all_goals clear b7 cD hs1 hs2 hix
        all_goals (try go_wp2_with fail)
        all_goals go_ret
        all_goals rw [E.out]
        all_goals exact ⟨rfl, hb7⟩
set_option maxHeartbeats 4000000 in
set_option maxRecDepth 100000 in
theorem specFaultText_any (l c : Int) (w : World) :
    Calls Tryz.prog 23 #[.agg #[.int .i64 l, .int .i64 c]] w fun e w' => e = .returned (.string (faultF l c)) ∧ Below w.heap.size w w' := by
  have hw := fun n lo hi W => l00In_any n lo hi W
  obtain ⟨w0, hw0⟩ : ∃ w0, w0 = (w.alloc (.cells #[.int .i64 l, .int .i64 c] 42)).alloc (.cells #[.string ⟨#[]⟩, .string ⟨#[119, 111, 114, 100]⟩, .string ⟨#[99, 111, 117, 110, 116]⟩, .string ⟨#[110, 97, 109, 101]⟩, .string ⟨#[110, 117, 109, 98, 101, 114]⟩, .string ⟨#[116, 119, 105, 99, 101]⟩, .string ⟨#[110, 111, 110, 101]⟩, .string ⟨#[115, 101, 108, 102]⟩, .string ⟨#[102, 117, 108, 108]⟩] 9) := ⟨_, rfl⟩
  have hb0 : Below w.heap.size w w0 := by rw [hw0]; exact ((Below.refl _ _).alloc (Nat.le_refl _) _).alloc (by simp) _
  have k0 : w0.cell? ⟨w.heap.size, 0, none⟩ = some (.int .i64 l) := by rw [hw0]; go_simp
  have k1 : w0.cell? ⟨w.heap.size, 1, none⟩ = some (.int .i64 c) := by rw [hw0]; go_simp
  have n1 : w0.cell? ⟨w.heap.size + 1, 1, none⟩ = some (.string ⟨#[119, 111, 114, 100]⟩) := by rw [hw0]; go_simp
  have n2 : w0.cell? ⟨w.heap.size + 1, 2, none⟩ = some (.string ⟨#[99, 111, 117, 110, 116]⟩) := by rw [hw0]; go_simp
  have n3 : w0.cell? ⟨w.heap.size + 1, 3, none⟩ = some (.string ⟨#[110, 97, 109, 101]⟩) := by rw [hw0]; go_simp
  have n4 : w0.cell? ⟨w.heap.size + 1, 4, none⟩ = some (.string ⟨#[110, 117, 109, 98, 101, 114]⟩) := by rw [hw0]; go_simp
  have n5 : w0.cell? ⟨w.heap.size + 1, 5, none⟩ = some (.string ⟨#[116, 119, 105, 99, 101]⟩) := by rw [hw0]; go_simp
  have n6 : w0.cell? ⟨w.heap.size + 1, 6, none⟩ = some (.string ⟨#[110, 111, 110, 101]⟩) := by rw [hw0]; go_simp
  have n7 : w0.cell? ⟨w.heap.size + 1, 7, none⟩ = some (.string ⟨#[115, 101, 108, 102]⟩) := by rw [hw0]; go_simp
  have n8 : w0.cell? ⟨w.heap.size + 1, 8, none⟩ = some (.string ⟨#[102, 117, 108, 108]⟩) := by rw [hw0]; go_simp
  have lt0 : w.heap.size < w0.heap.size := World.block_lt_of_cell? _ _ k0
  have lt1 : w.heap.size + 1 < w0.heap.size := World.block_lt_of_cell? _ _ n1
  have HW0 := hid hw0
  cases h1 : inR l 1 3001 with
  | false =>
    have E : Hid (faultF l c = ⟨#[]⟩) := by simp [Hid, faultF, h1]
    have c1 := fun W => hw l 1 3001 W
    rw [h1] at c1
    subst hw0
    clear hw h1 k0 k1 n1 n2 n3 n4 n5 n6 n7 n8 HW0
    go_enter Tryz.func23, Tryz.ntmps23
    go_wp2_with (go_at_call 52; refine (c1 _).mono ?_; rintro r w' ⟨rfl, rfl⟩)
    go_ret
    rw [E.out]
    exact ⟨rfl, hb0⟩
  | true =>
    cases h2 : inR c 1 8 with
    | false =>
      have E : Hid (faultF l c = ⟨#[]⟩) := by simp [Hid, faultF, h2]
      have c1 := fun W => hw l 1 3001 W
      have c2 := fun W => hw c 1 8 W
      rw [h1] at c1
      rw [h2] at c2
      subst hw0
      clear hw h1 h2 k0 k1 n1 n2 n3 n4 n5 n6 n7 n8 HW0
      go_enter Tryz.func23, Tryz.ntmps23
      go_wp2_with (go_at_call 52; first | (with_reducible refine (c1 _).mono ?_; rintro r w' ⟨rfl, rfl⟩) | (with_reducible refine (c2 _).mono ?_; rintro r w' ⟨rfl, rfl⟩))
      go_ret
      rw [E.out]
      exact ⟨rfl, hb0⟩
    | true =>
      have E : Hid (faultF l c = (⟨(Lib.itoa l).toArray⟩ ++ ⟨#[58, 32]⟩) ++ faultName c) := by simp [Hid, faultF, h1, h2]
      have c1 := fun W => hw l 1 3001 W
      have c2 := fun W => hw c 1 8 W
      have hz := itoa_size h1
      have hc := code8 h2
      have cD := fun W => l01Dec_any l W (by rw [inR_iff'] at h1; omega) (by rw [inR_iff'] at h1; omega)
      unfold itoaV at cD
      generalize hs : (⟨(Lib.itoa l).toArray⟩ : ByteArray) = s at cD E hz
      rw [h1] at c1
      rw [h2] at c2
      clear hw h1 h2 hs hw0
      rcases hc with rfl | rfl | rfl | rfl | rfl | rfl | rfl | rfl
      · go_enter Tryz.func23, Tryz.ntmps23
        go_wp2_with (go_at_call 52; first | (with_reducible refine (c1 _).mono ?_; rintro r w' ⟨rfl, rfl⟩) | (with_reducible refine (c2 _).mono ?_; rintro r w' ⟨rfl, rfl⟩))
        rw [← HW0.out]
        clear HW0 c1 c2 n2 n3 n4 n5 n6 n7 n8
        have hs1 : (9223372036854775807 < s.size + 2) = False := by simp; omega
        have hs2 : (9223372036854775807 < s.size + 2 + 4) = False := by simp; omega
        go_region_held3 (fun W => W.cell? ⟨w.heap.size, 0, none⟩ = some (.int .i64 l) ∧ W.cell? ⟨w.heap.size, 1, none⟩ = some (.int .i64 1) ∧ W.cell? ⟨w.heap.size + 1, 1, none⟩ = some (.string ⟨#[119, 111, 114, 100]⟩))
          (first
            | (go_keep; done)
            | (go_split_ands; exact ⟨below_cell (by assumption) b7, below_cell (by assumption) b7, below_cell (by assumption) b7⟩))
          (first
            | (go_at_call 53; with_reducible refine (cD _).mono ?_; rintro r w7 ⟨rfl, b7⟩))
        all_goals have hb7 := hb0.trans ((Below.refl _ _).drew.trans (b7.mono hb0.size))
        all_goals clear b7 cD hs1 hs2
        all_goals (try go_wp2_with fail)
        all_goals go_ret
        all_goals rw [E.out]
        all_goals exact ⟨rfl, hb7⟩
      · go_enter Tryz.func23, Tryz.ntmps23
        go_wp2_with (go_at_call 52; first | (with_reducible refine (c1 _).mono ?_; rintro r w' ⟨rfl, rfl⟩) | (with_reducible refine (c2 _).mono ?_; rintro r w' ⟨rfl, rfl⟩))
        rw [← HW0.out]
        clear HW0 c1 c2 n1 n3 n4 n5 n6 n7 n8
        have hs1 : (9223372036854775807 < s.size + 2) = False := by simp; omega
        have hs2 : (9223372036854775807 < s.size + 2 + 5) = False := by simp; omega
        go_region_held3 (fun W => W.cell? ⟨w.heap.size, 0, none⟩ = some (.int .i64 l) ∧ W.cell? ⟨w.heap.size, 1, none⟩ = some (.int .i64 2) ∧ W.cell? ⟨w.heap.size + 1, 2, none⟩ = some (.string ⟨#[99, 111, 117, 110, 116]⟩))
          (first
            | (go_keep; done)
            | (go_split_ands; exact ⟨below_cell (by assumption) b7, below_cell (by assumption) b7, below_cell (by assumption) b7⟩))
          (first
            | (go_at_call 53; with_reducible refine (cD _).mono ?_; rintro r w7 ⟨rfl, b7⟩))
        all_goals have hb7 := hb0.trans ((Below.refl _ _).drew.trans (b7.mono hb0.size))
        all_goals clear b7 cD hs1 hs2
        all_goals (try go_wp2_with fail)
        all_goals go_ret
        all_goals rw [E.out]
        all_goals exact ⟨rfl, hb7⟩
      · go_enter Tryz.func23, Tryz.ntmps23
        go_wp2_with (go_at_call 52; first | (with_reducible refine (c1 _).mono ?_; rintro r w' ⟨rfl, rfl⟩) | (with_reducible refine (c2 _).mono ?_; rintro r w' ⟨rfl, rfl⟩))
        rw [← HW0.out]
        clear HW0 c1 c2 n1 n2 n4 n5 n6 n7 n8
        have hs1 : (9223372036854775807 < s.size + 2) = False := by simp; omega
        have hs2 : (9223372036854775807 < s.size + 2 + 4) = False := by simp; omega
        go_region_held3 (fun W => W.cell? ⟨w.heap.size, 0, none⟩ = some (.int .i64 l) ∧ W.cell? ⟨w.heap.size, 1, none⟩ = some (.int .i64 3) ∧ W.cell? ⟨w.heap.size + 1, 3, none⟩ = some (.string ⟨#[110, 97, 109, 101]⟩))
          (first
            | (go_keep; done)
            | (go_split_ands; exact ⟨below_cell (by assumption) b7, below_cell (by assumption) b7, below_cell (by assumption) b7⟩))
          (first
            | (go_at_call 53; with_reducible refine (cD _).mono ?_; rintro r w7 ⟨rfl, b7⟩))
        all_goals have hb7 := hb0.trans ((Below.refl _ _).drew.trans (b7.mono hb0.size))
        all_goals clear b7 cD hs1 hs2
        all_goals (try go_wp2_with fail)
        all_goals go_ret
        all_goals rw [E.out]
        all_goals exact ⟨rfl, hb7⟩
      · go_enter Tryz.func23, Tryz.ntmps23
        go_wp2_with (go_at_call 52; first | (with_reducible refine (c1 _).mono ?_; rintro r w' ⟨rfl, rfl⟩) | (with_reducible refine (c2 _).mono ?_; rintro r w' ⟨rfl, rfl⟩))
        rw [← HW0.out]
        clear HW0 c1 c2 n1 n2 n3 n5 n6 n7 n8
        have hs1 : (9223372036854775807 < s.size + 2) = False := by simp; omega
        have hs2 : (9223372036854775807 < s.size + 2 + 6) = False := by simp; omega
        go_region_held3 (fun W => W.cell? ⟨w.heap.size, 0, none⟩ = some (.int .i64 l) ∧ W.cell? ⟨w.heap.size, 1, none⟩ = some (.int .i64 4) ∧ W.cell? ⟨w.heap.size + 1, 4, none⟩ = some (.string ⟨#[110, 117, 109, 98, 101, 114]⟩))
          (first
            | (go_keep; done)
            | (go_split_ands; exact ⟨below_cell (by assumption) b7, below_cell (by assumption) b7, below_cell (by assumption) b7⟩))
          (first
            | (go_at_call 53; with_reducible refine (cD _).mono ?_; rintro r w7 ⟨rfl, b7⟩))
        all_goals have hb7 := hb0.trans ((Below.refl _ _).drew.trans (b7.mono hb0.size))
        all_goals clear b7 cD hs1 hs2
        all_goals (try go_wp2_with fail)
        all_goals go_ret
        all_goals rw [E.out]
        all_goals exact ⟨rfl, hb7⟩
      · go_enter Tryz.func23, Tryz.ntmps23
        go_wp2_with (go_at_call 52; first | (with_reducible refine (c1 _).mono ?_; rintro r w' ⟨rfl, rfl⟩) | (with_reducible refine (c2 _).mono ?_; rintro r w' ⟨rfl, rfl⟩))
        rw [← HW0.out]
        clear HW0 c1 c2 n1 n2 n3 n4 n6 n7 n8
        have hs1 : (9223372036854775807 < s.size + 2) = False := by simp; omega
        have hs2 : (9223372036854775807 < s.size + 2 + 5) = False := by simp; omega
        go_region_held3 (fun W => W.cell? ⟨w.heap.size, 0, none⟩ = some (.int .i64 l) ∧ W.cell? ⟨w.heap.size, 1, none⟩ = some (.int .i64 5) ∧ W.cell? ⟨w.heap.size + 1, 5, none⟩ = some (.string ⟨#[116, 119, 105, 99, 101]⟩))
          (first
            | (go_keep; done)
            | (go_split_ands; exact ⟨below_cell (by assumption) b7, below_cell (by assumption) b7, below_cell (by assumption) b7⟩))
          (first
            | (go_at_call 53; with_reducible refine (cD _).mono ?_; rintro r w7 ⟨rfl, b7⟩))
        all_goals have hb7 := hb0.trans ((Below.refl _ _).drew.trans (b7.mono hb0.size))
        all_goals clear b7 cD hs1 hs2
        all_goals (try go_wp2_with fail)
        all_goals go_ret
        all_goals rw [E.out]
        all_goals exact ⟨rfl, hb7⟩
      · go_enter Tryz.func23, Tryz.ntmps23
        go_wp2_with (go_at_call 52; first | (with_reducible refine (c1 _).mono ?_; rintro r w' ⟨rfl, rfl⟩) | (with_reducible refine (c2 _).mono ?_; rintro r w' ⟨rfl, rfl⟩))
        rw [← HW0.out]
        clear HW0 c1 c2 n1 n2 n3 n4 n5 n7 n8
        have hs1 : (9223372036854775807 < s.size + 2) = False := by simp; omega
        have hs2 : (9223372036854775807 < s.size + 2 + 4) = False := by simp; omega
        go_region_held3 (fun W => W.cell? ⟨w.heap.size, 0, none⟩ = some (.int .i64 l) ∧ W.cell? ⟨w.heap.size, 1, none⟩ = some (.int .i64 6) ∧ W.cell? ⟨w.heap.size + 1, 6, none⟩ = some (.string ⟨#[110, 111, 110, 101]⟩))
          (first
            | (go_keep; done)
            | (go_split_ands; exact ⟨below_cell (by assumption) b7, below_cell (by assumption) b7, below_cell (by assumption) b7⟩))
          (first
            | (go_at_call 53; with_reducible refine (cD _).mono ?_; rintro r w7 ⟨rfl, b7⟩))
        all_goals have hb7 := hb0.trans ((Below.refl _ _).drew.trans (b7.mono hb0.size))
        all_goals clear b7 cD hs1 hs2
        all_goals (try go_wp2_with fail)
        all_goals go_ret
        all_goals rw [E.out]
        all_goals exact ⟨rfl, hb7⟩
      · go_enter Tryz.func23, Tryz.ntmps23
        go_wp2_with (go_at_call 52; first | (with_reducible refine (c1 _).mono ?_; rintro r w' ⟨rfl, rfl⟩) | (with_reducible refine (c2 _).mono ?_; rintro r w' ⟨rfl, rfl⟩))
        rw [← HW0.out]
        clear HW0 c1 c2 n1 n2 n3 n4 n5 n6 n8
        have hs1 : (9223372036854775807 < s.size + 2) = False := by simp; omega
        have hs2 : (9223372036854775807 < s.size + 2 + 4) = False := by simp; omega
        go_region_held3 (fun W => W.cell? ⟨w.heap.size, 0, none⟩ = some (.int .i64 l) ∧ W.cell? ⟨w.heap.size, 1, none⟩ = some (.int .i64 7) ∧ W.cell? ⟨w.heap.size + 1, 7, none⟩ = some (.string ⟨#[115, 101, 108, 102]⟩))
          (first
            | (go_keep; done)
            | (go_split_ands; exact ⟨below_cell (by assumption) b7, below_cell (by assumption) b7, below_cell (by assumption) b7⟩))
          (first
            | (go_at_call 53; with_reducible refine (cD _).mono ?_; rintro r w7 ⟨rfl, b7⟩))
        all_goals have hb7 := hb0.trans ((Below.refl _ _).drew.trans (b7.mono hb0.size))
        all_goals clear b7 cD hs1 hs2
        all_goals (try go_wp2_with fail)
        all_goals go_ret
        all_goals rw [E.out]
        all_goals exact ⟨rfl, hb7⟩
      · go_enter Tryz.func23, Tryz.ntmps23
        go_wp2_with (go_at_call 52; first | (with_reducible refine (c1 _).mono ?_; rintro r w' ⟨rfl, rfl⟩) | (with_reducible refine (c2 _).mono ?_; rintro r w' ⟨rfl, rfl⟩))
        rw [← HW0.out]
        clear HW0 c1 c2 n1 n2 n3 n4 n5 n6 n7
        have hs1 : (9223372036854775807 < s.size + 2) = False := by simp; omega
        have hs2 : (9223372036854775807 < s.size + 2 + 4) = False := by simp; omega
        go_region_held3 (fun W => W.cell? ⟨w.heap.size, 0, none⟩ = some (.int .i64 l) ∧ W.cell? ⟨w.heap.size, 1, none⟩ = some (.int .i64 8) ∧ W.cell? ⟨w.heap.size + 1, 8, none⟩ = some (.string ⟨#[102, 117, 108, 108]⟩))
          (first
            | (go_keep; done)
            | (go_split_ands; exact ⟨below_cell (by assumption) b7, below_cell (by assumption) b7, below_cell (by assumption) b7⟩))
          (first
            | (go_at_call 53; with_reducible refine (cD _).mono ?_; rintro r w7 ⟨rfl, b7⟩))
        all_goals have hb7 := hb0.trans ((Below.refl _ _).drew.trans (b7.mono hb0.size))
        all_goals clear b7 cD hs1 hs2
        all_goals (try go_wp2_with fail)
        all_goals go_ret
        all_goals rw [E.out]
        all_goals exact ⟨rfl, hb7⟩
end Go.Proofs.YtcgkcfmiabninaaGreatDoor
/-
  Bytes that come in as an argument; when they are too many. No condition.
-/
namespace Go.Proofs.YtcgkcfmiabninaaGreatDoor
open Go.ChangeShapes Go.WideShapes Go.ChangeAt Go.RowKit Go.Deep

theorem take_getB {zs : List Int} {L j : Nat} {z : Int} (h : (zs.take L)[j]? = some z) : zs.getD j 0 = z := by
  rw [List.getElem?_take] at h
  split at h
  · rw [List.getD_eq_getElem?_getD, h]; rfl
  · cases h
set_option maxRecDepth 100000 in
theorem open_Bytes {H : Type} {enc : TypeId × Value → H} {W : World} {base : Nat} {v : Value} {d : DataW H} {p : List MemPlace} (hv : Value.okWide Tryz.prog W .any base 34 v)
    (h : DataW.Trod enc Tryz.prog W 0 (fun _ => true) true 34 v d p) : Bytes W W.heap.size 9223372036854775807 v := by
  obtain ⟨a0, len, cap, rfl⟩ := okWide_slice Tryz.underlying34 hv
  obtain ⟨fuel, hf⟩ := h
  rcases open_ints Tryz.underlying34 Tryz.underlying5 (by kernel_rfl) hf with ⟨hcs, _⟩ | ⟨a, len', cap', zs, hcs, _, hl, hm, hz, _, hcell, hwf⟩
  · simp [Value.cells] at hcs
    obtain ⟨rfl, rfl, rfl⟩ := hcs
    exact ⟨_, _, _, [], rfl, by omega, ⟨rfl, fun i x hx => by simp at hx⟩, fun z hz => by cases hz⟩
  · simp [Value.cells] at hcs
    obtain ⟨rfl, rfl, rfl⟩ := hcs
    simp only [if_true] at hz
    obtain ⟨b, off, sp⟩ := a
    refine ⟨_, len, cap, zs.take len, rfl, by unfold maxLen at hm; omega, ⟨by simp; omega, fun i x hx => ?_⟩, fun z hz2 => ?_⟩
    · have hil : i < len := by have := (List.getElem?_eq_some_iff.1 hx).1; simp at this; omega
      have hc := hcell i (by omega)
      rw [take_getB hx] at hc
      have hsp := spot_none (b := b) (o := off) (s := sp) (hcell 0 (by omega))
      subst hsp
      rw [Addr.add_lit] at hc
      refine ⟨b, off, rfl, World.block_lt_of_cell? _ _ hc, fun j u hj => ?_⟩
      match j, hj with
      | 0, hj => simp [encB] at hj; subst hj; simpa using hc
    · have := hwf z (List.mem_of_mem_take hz2)
      simp [Lit.wf, IntKind.min, IntKind.max, IntKind.signed, IntKind.bits] at this
      omega
theorem f6big_any (A : Option Addr) (n c : Nat) (w : World) (hn : n ≤ 9223372036854775807) :
    Calls Tryz.prog 13 #[.slice A n c] w fun e w' => e = .returned (.bool (decide (4096 < n))) ∧ w' = w := by
  go_enter Tryz.func13, Tryz.ntmps13
  go_wp2
  go_ret
  exact ⟨retB (by simp; try omega), rfl⟩
end Go.Proofs.YtcgkcfmiabninaaGreatDoor
/-
  What the laws lean on: lists of numbers compared, summed, looked into. No condition.
-/
namespace Go.Proofs.YtcgkcfmiabninaaGreatDoor
open Go.RowKit
set_option maxHeartbeats 400000

/-- the first places of a slice -/
theorem Sl.take {α : Type} {w : World} {B k : Nat} {enc : α → List Value} {A : Option Addr} {n : Nat} {xs : List α} (h : Sl w B k enc A n xs) {m : Nat} (hm : m ≤ n) : Sl w B k enc A m (xs.take m) := by
  refine ⟨by rw [List.length_take_of_le (by rw [h.len]; exact hm)], fun i x hx => ?_⟩
  rw [List.getElem?_take] at hx
  split at hx
  · exact h.2 i x hx
  · cases hx
theorem Sl.intAt {w : World} {B : Nat} {A : Option Addr} {n : Nat} {xs : List Int} (h : Sl w B 1 encI A n xs) {i : Nat} {z : Int} (hx : xs[i]? = some z) : ∃ b off, A = some ⟨b, off, none⟩ ∧ b < B ∧ w.cell? ⟨b, off + i, none⟩ = some (.int .i64 z) := by
  obtain ⟨b, off, e, hb, hc⟩ := h.2 i z hx
  have := hc 0 _ rfl
  simp only [Nat.mul_one, Nat.add_zero] at this
  exact ⟨b, off, e, hb, this⟩


/-- the sum of numbers -/
def sumI : List Int → Int
  | [] => 0
  | x :: r => x + sumI r
theorem sumI_snoc : ∀ (l : List Int) (x : Int), sumI (l ++ [x]) = sumI l + x
  | [], x => by simp [sumI]
  | y :: r, x => by simp only [List.cons_append, sumI, sumI_snoc r x]; omega
theorem sumI_in {M : Int} : ∀ (l : List Int), (∀ z ∈ l, -M ≤ z ∧ z ≤ M) → -(M * l.length) ≤ sumI l ∧ sumI l ≤ M * l.length
  | [], _ => by simp [sumI]
  | y :: r, h => by
    have h1 := sumI_in r fun z hz => h z (by simp [hz])
    have h2 := h y (by simp)
    have e : M * ((r.length + 1 : Nat) : Int) = M * (r.length : Int) + M := by rw [Int.natCast_add, Int.mul_add]; simp
    rw [sumI, List.length_cons, e]
    omega
end Go.Proofs.YtcgkcfmiabninaaGreatDoor
