/-
  FarthestWithin and SplitLoad: the program's functions and the reference's. No condition.
-/
import Derived.Test.YtngfhpklakhehaaGreatDoorTPriceFor
namespace Go.Proofs.YtngfhpklakhehaaGreatDoor
open Go.RowKit
set_option maxHeartbeats 400000

/-- the greatest distance below 100 k for a price -/
def farAt (x : Step) (h e p : Int) (bb : Bool) : Nat → Int × Int
  | 0 => (0, 3)
  | k + 1 => if wholeP x h e (100 * (k : Int)) bb ≤ p then (100 * (k : Int), 0) else farAt x h e p bb k
def farF (xs : List Step) (h e m p : Int) (bb : Bool) : Int × Int :=
  if validT ⟨xs, h, e⟩ then if inR m 0 5000 && inR p 0 1000000000 then match xs.find? fun x => decide (m ≤ x.g) with | none => (0, 5) | some x => farAt x h e p bb 201 else (0, 2) else (0, 1)
theorem inR_00 (a b : Int) (h0 : a ≤ 0) (h1 : 0 ≤ b) : inR 0 a b = true := by rw [inR_iff]; omega
set_option maxHeartbeats 1000000 in
theorem specFarthestWithin_any (A : Option Addr) (n c : Nat) (xs : List Step) (h e m p : Int) (bb : Bool) (w : World) (B : Nat) (hB : B ≤ w.heap.size) (hn : n ≤ 2000000) (hx : Sl w B 2 encStep A n xs) :
    Calls Tryz.prog 13 #[.agg #[.slice A n c, .int .i64 h, .int .i64 e], .int .i64 m, .int .i64 p, .bool bb] w fun r w' => r = .returned (pairI (farF xs h e m p bb)) ∧ Below w.heap.size w w' := by
  have hol := hx.len
  obtain ⟨wa, hwa⟩ : ∃ wa, wa = (w.alloc (.cells #[.slice A n c, .int .i64 h, .int .i64 e] 26)) := ⟨_, rfl⟩
  have hbw : Below w.heap.size w wa := by rw [hwa]; exact ((Below.refl _ _).alloc (Nat.le_refl _) _)
  have k0 : wa.cell? ⟨w.heap.size, 0, none⟩ = some (.slice A n c) := by rw [hwa]; go_simp
  have k1 : wa.cell? ⟨w.heap.size, 1, none⟩ = some (.int .i64 h) := by rw [hwa]; go_simp
  have k2 : wa.cell? ⟨w.heap.size, 2, none⟩ = some (.int .i64 e) := by rw [hwa]; go_simp
  have hc := l23Ok_any w.heap.size 0 A n c xs h e wa B (Nat.le_trans hB hbw.size) hn (hx.below (hbw.mono hB)) k0 k1 k2
  have hs := l23Size_any m 0
  have hm := l23Money_any p
  cases hv : validT ⟨xs, h, e⟩ with
  | false =>
    have E : Hid (farF xs h e m p bb = (0, 1)) := by simp [Hid, farF, hv]
    rw [hv] at hc
    clear hx hv k0 k1 k2
    subst hwa
    go_enter Tryz.func13, Tryz.ntmps13
    go_wp2_with (go_at_call 32; refine hc.mono ?_; rintro r w1 ⟨rfl, b1⟩)
    go_ret2
    rw [E.out]
    exact ⟨rfl, hbw.trans (b1.mono hbw.size)⟩
  | true =>
    rw [hv] at hc
    have Hv := hid hv
    rw [inR_00 0 20000 (by omega) (by omega), Bool.and_true] at hs
    cases hz1 : inR m 0 5000 with
    | false =>
      have E : Hid (farF xs h e m p bb = (0, 2)) := by simp only [Hid, farF, hv, hz1]; rfl
      rw [hz1] at hs
      clear hx hv k0 k1 k2 hz1
      subst hwa
      go_enter Tryz.func13, Tryz.ntmps13
      go_wp2_with (first
        | (go_at_call 32; refine hc.mono ?_; rintro r w1 ⟨rfl, b1⟩)
        | (go_at_call 33; refine (hs _).mono ?_; rintro r w1 ⟨rfl, rfl⟩))
      go_ret2
      rw [E.out]
      exact ⟨rfl, hbw.trans (b1.mono hbw.size)⟩
    | true =>
      rw [hz1] at hs
      cases hz2 : inR p 0 1000000000 with
      | false =>
        have E : Hid (farF xs h e m p bb = (0, 2)) := by simp only [Hid, farF, hv, hz1, hz2]; rfl
        rw [hz2] at hm
        clear hx hv k0 k1 k2 hz1 hz2
        subst hwa
        go_enter Tryz.func13, Tryz.ntmps13
        go_wp2_with (first
          | (go_at_call 32; refine hc.mono ?_; rintro r w1 ⟨rfl, b1⟩)
          | (go_at_call 33; refine (hs _).mono ?_; rintro r w1 ⟨rfl, rfl⟩)
          | (go_at_call 38; refine (hm _).mono ?_; rintro r w1 ⟨rfl, rfl⟩))
        go_ret2
        rw [E.out]
        exact ⟨rfl, hbw.trans (b1.mono hbw.size)⟩
      | true =>
        rw [hz2] at hm
        have E : Hid (farF xs h e m p bb = match xs.find? fun x => decide (m ≤ x.g) with | none => (0, 5) | some x => farAt x h e p bb 201) := by simp only [Hid, farF, hv, hz1, hz2]; rfl
        obtain ⟨hss, hl0, hl1, h0, h1, e0, e1⟩ := validT_parts hv
        have hst := fun W h1 h2 h3 => l23Step_any w.heap.size 0 A n c xs m W B h1 hn h2 h3
        clear hv hz1 hz2
        have Hss := hid hss
        clear hss
        have hx2 := hx.below (hbw.mono hB)
        have hBz := Nat.le_trans hB hbw.size
        rcases find_at (m := m) (xs := xs) (k0 := 0) with ⟨q1, q2⟩ | ⟨j, ⟨xg, xp⟩, hj, q1, q2⟩
        · have E2 : Hid (farF xs h e m p bb = (0, 5)) := by rw [Hid, E.out, q2]
          rw [q1] at hst
          clear E q1 q2 hx
          subst hwa
          go_enter Tryz.func13, Tryz.ntmps13
          go_wp2_with (first
            | (go_at_call 32; refine hc.mono ?_; rintro r w1 ⟨rfl, b1⟩)
            | (go_at_call 33; refine (hs _).mono ?_; rintro r w1 ⟨rfl, rfl⟩)
            | (go_at_call 38; refine (hm _).mono ?_; rintro r w1 ⟨rfl, rfl⟩)
            | (go_at_call 34; refine (hst _ (Nat.le_trans hBz b1.size) (hx2.below (b1.mono hBz)) (below_cell k0 b1)).mono ?_; rintro r w1 ⟨rfl, rfl⟩))
          go_ret2
          rw [E2.out]
          exact ⟨rfl, hbw.trans (b1.mono hbw.size)⟩
        · obtain ⟨F, E2, F0, Fs⟩ : ∃ F : Nat → Int × Int, Hid (farF xs h e m p bb = F 201) ∧ Hid (F 0 = (0, 3)) ∧ Hid (∀ k : Nat, F (k + 1) = if wholeP ⟨xg, xp⟩ h e (100 * (k : Int)) bb ≤ p then (100 * (k : Int), 0) else F k) := ⟨farAt ⟨xg, xp⟩ h e p bb, by rw [Hid, E.out, q2], rfl, fun _ => rfl⟩
          rw [q1, Nat.zero_add] at hst
          obtain ⟨⟨_, _⟩, p0, p1⟩ := Hss.out _ (List.mem_of_getElem? hj)
          have hwh := fun g W h1' h2 g0 g1 h3 h4 h5 => l23Whole_any w.heap.size 0 A n c xs h e g j ⟨xg, xp⟩ bb W B h1' hn h2 hj p0 p1 h0 h1 e0 e1 g0 g1 h3 h4 h5
          have hjn : j < n := by rw [← hol]; exact (List.getElem?_eq_some_iff.1 hj).1
          clear E q1 q2 hx hj
          subst hwa
          go_enter Tryz.func13, Tryz.ntmps13
          go_wp2_with (first
            | (go_at_call 32; refine hc.mono ?_; rintro r w1 ⟨rfl, b1⟩)
            | (go_at_call 33; refine (hs _).mono ?_; rintro r w1 ⟨rfl, rfl⟩)
            | (go_at_call 38; refine (hm _).mono ?_; rintro r w1 ⟨rfl, rfl⟩)
            | (go_at_call 34; refine (hst _ (Nat.le_trans hBz b1.size) (hx2.below (b1.mono hBz)) (below_cell k0 b1)).mono ?_; rintro r w1 ⟨rfl, rfl⟩))
          replace k0 := below_cell k0 b1
          replace k1 := below_cell k1 b1
          replace k2 := below_cell k2 b1
          have hxq := hx2.below (b1.mono hBz)
          have hBq := Nat.le_trans hBz b1.size
          have hbq := hbw.trans (b1.mono hbw.size)
          clear hx2 hBz hbw b1 hc
          go_loopw [11] (fun i wl => ∃ (k : Nat) (z : Int), k ≤ 201 ∧ z = 100 * (k : Int) - 100 ∧ i = .int .i64 z ∧ Hid (farF xs h e m p bb = F k) ∧ Below w1.heap.size w1 wl) (fun i _ => (intOf i + 100).toNat)
          case atStart => exact ⟨201, 20000, by omega, by omega, rfl, E2, Below.refl _ _⟩
          case round =>
            obtain ⟨k, z, hk, hzk, rfl, he, hb⟩ := hrel
            have he2 := he.out
            clear he E2
            cases k with
            | zero =>
              have E3 : Hid (farF xs h e m p bb = (0, 3)) := he2.trans F0.out
              have z0 : z < 0 := by omega
              clear he2 hzk
              go_wp2
              go_ret2
              rw [E3.out]
              exact ⟨rfl, hbq.trans (hb.mono hbq.size)⟩
            | succ k =>
              have hzz : 100 * (k : Int) = z := by omega
              rw [Fs.out, hzz] at he2
              have z0 : 0 ≤ z := by omega
              have z1 : z ≤ 20000 := by omega
              have Hzk := hid hzk
              clear hzk hzz
              have r0 := below_cell k0 hb
              have r1 := below_cell k1 hb
              have r2 := below_cell k2 hb
              by_cases q : wholeP ⟨xg, xp⟩ h e z bb ≤ p
              · rw [if_pos q] at he2
                have E3 := hid he2
                clear he2
                go_wp2_with (go_at_call 35; refine (hwh z _ (Nat.le_trans hBq hb.size) (hxq.below (hb.mono hBq)) (by omega) (by omega) r0 r1 r2).mono ?_; rintro r w3 ⟨rfl, b3⟩)
                go_ret2
                rw [E3.out]
                exact ⟨rfl, hbq.trans ((hb.trans (b3.mono hb.size)).mono hbq.size)⟩
              · rw [if_neg q] at he2
                have E3 := hid he2
                clear he2
                go_wp2_with (go_at_call 35; refine (hwh z _ (Nat.le_trans hBq hb.size) (hxq.below (hb.mono hBq)) (by omega) (by omega) r0 r1 r2).mono ?_; rintro r w3 ⟨rfl, b3⟩)
                have hb3 := hb.trans (b3.mono hb.size)
                go_roundw
                case rel => exact ⟨k, z - 100, by omega, by have := Hzk.out; omega, by go_num, E3, hb3⟩
                case measure => simp [intOf]; omega
set_option maxHeartbeats 1000000 in
theorem implFarthestWithin_any (A : Option Addr) (n c : Nat) (xs : List Step) (h e m p : Int) (bb : Bool) (w : World) (B : Nat) (hB : B ≤ w.heap.size) (hn : n ≤ 2000000) (hx : Sl w B 2 encStep A n xs) :
    Calls Tryz.prog 12 #[.agg #[.slice A n c, .int .i64 h, .int .i64 e], .int .i64 m, .int .i64 p, .bool bb] w fun r w' => r = .returned (pairI (farF xs h e m p bb)) ∧ Below w.heap.size w w' := by
  obtain ⟨wa, hwa⟩ : ∃ wa, wa = (w.alloc (.cells #[.slice A n c, .int .i64 h, .int .i64 e] 26)) := ⟨_, rfl⟩
  have hbw : Below w.heap.size w wa := by rw [hwa]; exact ((Below.refl _ _).alloc (Nat.le_refl _) _)
  have k0 : wa.cell? ⟨w.heap.size, 0, none⟩ = some (.slice A n c) := by rw [hwa]; go_simp
  have k1 : wa.cell? ⟨w.heap.size, 1, none⟩ = some (.int .i64 h) := by rw [hwa]; go_simp
  have k2 : wa.cell? ⟨w.heap.size, 2, none⟩ = some (.int .i64 e) := by rw [hwa]; go_simp
  have hc := tariffCode_any A n c xs h e m 0 p wa B (Nat.le_trans hB hbw.size) hn (hx.below (hbw.mono hB))
  by_cases hq : validT ⟨xs, h, e⟩ = true ∧ inR m 0 5000 = true ∧ inR p 0 1000000000 = true
  · obtain ⟨hv, hz1, hz2⟩ := hq
    have ec : codeT (validT ⟨xs, h, e⟩) m 0 p = 0 := by simp only [codeT, hv, hz1, hz2, inR_00 0 20000 (by omega) (by omega)]; rfl
    rw [ec] at hc
    have E : Hid (farF xs h e m p bb = match xs.find? fun x => decide (m ≤ x.g) with | none => (0, 5) | some x => farAt x h e p bb 201) := by simp only [Hid, farF, hv, hz1, hz2]; rfl
    have hx2 := hx.below (hbw.mono hB)
    have hBz := Nat.le_trans hB hbw.size
    have hco := fun g W h1 h2 g0 g1 => cost_any A n c xs h e m g bb W B h1 hn h2 hv g0 g1
    clear hx hv hz1 hz2 ec
    cases ho : xs.find? fun x => decide (m ≤ x.g) with
    | none =>
      have E2 : Hid (farF xs h e m p bb = (0, 5)) := by rw [Hid, E.out, ho]
      simp only [costOf, ho, Option.map, costV, Option.getD, Option.isSome] at hco
      clear E ho
      subst hwa
      go_enter Tryz.func12, Tryz.ntmps12
      go_wp2_with (go_at_call 30; refine hc.mono ?_; rintro r w1 ⟨rfl, b1⟩; replace k0 := below_cell k0 b1; replace k1 := below_cell k1 b1; replace k2 := below_cell k2 b1)
      have hxq := hx2.below (b1.mono hBz)
      have hBq := Nat.le_trans hBz b1.size
      have hbq := hbw.trans (b1.mono hbw.size)
      clear hx2 hBz hbw b1 hc
      go_loopw [11] (fun i wl => i = .int .i64 20000 ∧ Below w1.heap.size w1 wl) (fun i _ => (intOf i + 100).toNat)
      case atStart => exact ⟨rfl, Below.refl _ _⟩
      case round =>
        obtain ⟨rfl, hb⟩ := hrel
        have r0 := below_cell k0 hb
        have r1 := below_cell k1 hb
        have r2 := below_cell k2 hb
        go_wp2_with (go_at_call 31; refine (hco 20000 _ (Nat.le_trans hBq hb.size) (hxq.below (hb.mono hBq)) (by omega) (by omega)).mono ?_; rintro r w2 ⟨rfl, b2⟩)
        go_ret2
        rw [E2.out]
        exact ⟨rfl, hbq.trans ((hb.trans (b2.mono hb.size)).mono hbq.size)⟩
    | some x =>
      obtain ⟨xg, xp⟩ := x
      obtain ⟨F, E2, F0, Fs⟩ : ∃ F : Nat → Int × Int, Hid (farF xs h e m p bb = F 201) ∧ Hid (F 0 = (0, 3)) ∧ Hid (∀ k : Nat, F (k + 1) = if wholeP ⟨xg, xp⟩ h e (100 * (k : Int)) bb ≤ p then (100 * (k : Int), 0) else F k) := ⟨farAt ⟨xg, xp⟩ h e p bb, by rw [Hid, E.out, ho], rfl, fun _ => rfl⟩
      simp only [costOf, ho, Option.map, costV, Option.getD, Option.isSome] at hco
      clear E ho
      subst hwa
      go_enter Tryz.func12, Tryz.ntmps12
      go_wp2_with (go_at_call 30; refine hc.mono ?_; rintro r w1 ⟨rfl, b1⟩; replace k0 := below_cell k0 b1; replace k1 := below_cell k1 b1; replace k2 := below_cell k2 b1)
      have hxq := hx2.below (b1.mono hBz)
      have hBq := Nat.le_trans hBz b1.size
      have hbq := hbw.trans (b1.mono hbw.size)
      clear hx2 hBz hbw b1 hc
      go_loopw [11] (fun i wl => ∃ (k : Nat) (z : Int), k ≤ 201 ∧ z = 100 * (k : Int) - 100 ∧ i = .int .i64 z ∧ Hid (farF xs h e m p bb = F k) ∧ Below w1.heap.size w1 wl) (fun i _ => (intOf i + 100).toNat)
      case atStart => exact ⟨201, 20000, by omega, by omega, rfl, E2, Below.refl _ _⟩
      case round =>
        obtain ⟨k, z, hk, hzk, rfl, he, hb⟩ := hrel
        have he2 := he.out
        clear he E2
        cases k with
        | zero =>
          have E3 : Hid (farF xs h e m p bb = (0, 3)) := he2.trans F0.out
          have z0 : z < 0 := by omega
          clear he2 hzk
          go_wp2
          go_ret2
          rw [E3.out]
          exact ⟨rfl, hbq.trans (hb.mono hbq.size)⟩
        | succ k =>
          have hzz : 100 * (k : Int) = z := by omega
          rw [Fs.out, hzz] at he2
          have z0 : 0 ≤ z := by omega
          have z1 : z ≤ 20000 := by omega
          have Hzk := hid hzk
          clear hzk hzz
          have r0 := below_cell k0 hb
          have r1 := below_cell k1 hb
          have r2 := below_cell k2 hb
          by_cases q : wholeP ⟨xg, xp⟩ h e z bb ≤ p
          · rw [if_pos q] at he2
            have E3 := hid he2
            clear he2
            go_wp2_with (go_at_call 31; refine (hco z _ (Nat.le_trans hBq hb.size) (hxq.below (hb.mono hBq)) (by omega) (by omega)).mono ?_; rintro r w2 ⟨rfl, b2⟩)
            go_ret2
            rw [E3.out]
            exact ⟨rfl, hbq.trans ((hb.trans (b2.mono hb.size)).mono hbq.size)⟩
          · rw [if_neg q] at he2
            have E3 := hid he2
            clear he2
            go_wp2_with (go_at_call 31; refine (hco z _ (Nat.le_trans hBq hb.size) (hxq.below (hb.mono hBq)) (by omega) (by omega)).mono ?_; rintro r w2 ⟨rfl, b2⟩)
            have hb3 := hb.trans (b2.mono hb.size)
            go_roundw
            case rel => exact ⟨k, z - 100, by omega, by have := Hzk.out; omega, by go_num, E3, hb3⟩
            case measure => simp [intOf]; omega
  · obtain ⟨z, hz, hz0, hp⟩ : ∃ z, codeT (validT ⟨xs, h, e⟩) m 0 p = z ∧ z ≠ 0 ∧ farF xs h e m p bb = (0, z) := by
      unfold codeT farF
      rw [inR_00 0 20000 (by omega) (by omega)]
      cases hv : validT ⟨xs, h, e⟩ <;> cases h1 : inR m 0 5000 <;> cases h2 : inR p 0 1000000000
      all_goals first
        | exact ⟨1, rfl, by omega, rfl⟩
        | exact ⟨2, rfl, by omega, rfl⟩
        | exact absurd ⟨hv, h1, h2⟩ hq
    have E := hid hp
    rw [hz] at hc
    clear hx hq hz hp
    subst hwa
    go_enter Tryz.func12, Tryz.ntmps12
    go_wp2_with (go_at_call 30; refine hc.mono ?_; rintro r w1 ⟨rfl, b1⟩)
    go_ret2
    rw [E.out]
    exact ⟨rfl, hbw.trans (b1.mono hbw.size)⟩
end Go.Proofs.YtngfhpklakhehaaGreatDoor
