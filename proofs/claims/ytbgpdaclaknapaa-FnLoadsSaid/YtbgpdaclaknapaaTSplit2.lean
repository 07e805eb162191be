/-
  SplitLoad: the program's side. No condition.
-/
import Derived.Test.YtbgpdaclaknapaaTSplit
import Derived.Deep.RegionHeld3
namespace Go.Proofs.Ytbgpdaclaknapaa
open Go.RowKit
set_option maxHeartbeats 400000

set_option maxHeartbeats 8000000 in
set_option maxRecDepth 100000 in
theorem implSplitLoad_any (A : Option Addr) (n c : Nat) (xs : List Step) (h e m g : Int) (w : World) (B : Nat) (hB : B ≤ w.heap.size) (hn : n ≤ 2000000) (hx : Sl w B 2 encStep A n xs) :
    Calls Try.prog 21 #[.agg #[.slice A n c, .int .i64 h, .int .i64 e], .int .i64 m, .int .i64 g] w fun r w' => r = .returned (tripI (splitF xs h e m g)) ∧ Below w.heap.size w w' := by
  obtain ⟨wa, hwa⟩ : ∃ wa, wa = (w.alloc (.cells #[.slice A n c, .int .i64 h, .int .i64 e] 30)) := ⟨_, rfl⟩
  have hbw : Below w.heap.size w wa := by rw [hwa]; exact ((Below.refl _ _).alloc (Nat.le_refl _) _)
  have k0 : wa.cell? ⟨w.heap.size, 0, none⟩ = some (.slice A n c) := by rw [hwa]; go_simp
  have k1 : wa.cell? ⟨w.heap.size, 1, none⟩ = some (.int .i64 h) := by rw [hwa]; go_simp
  have k2 : wa.cell? ⟨w.heap.size, 2, none⟩ = some (.int .i64 e) := by rw [hwa]; go_simp
  have hc := tariffCode_any A n c xs h e m g 0 wa B (Nat.le_trans hB hbw.size) hn (hx.below (hbw.mono hB))
  by_cases hq : (validT ⟨xs, h, e⟩ = true ∧ (inR m 0 5000 && inR g 0 20000) = true) ∧ m ≠ 0
  · obtain ⟨⟨hv, hz⟩, hm0⟩ := hq
    have ec : codeT (validT ⟨xs, h, e⟩) m g 0 = 0 := by
      have hz2 := hz
      simp only [Bool.and_eq_true] at hz2
      simp only [codeT, hv, hz2.1, hz2.2]; rfl
    rw [ec] at hc
    have hmb : (m == 0) = false := by simpa using hm0
    have E : Hid (splitF xs h e m g = outS (splitN xs h e m g 10)) := by simp only [Hid, splitF, hv, hz, hm0]; rfl
    obtain ⟨hss, hl0, hl1, h0, h1, e0, e1⟩ := validT_parts hv
    obtain ⟨⟨m0, m1⟩, g0, g1⟩ : (0 ≤ m ∧ m ≤ 5000) ∧ 0 ≤ g ∧ g ≤ 20000 := by simpa only [Bool.and_eq_true, inR_iff] using hz
    have hx2 := hx.below (hbw.mono hB)
    have hBz := Nat.le_trans hB hbw.size
    have hco := fun mm W h1 h2 => cost_any A n c xs h e mm g false W B h1 hn h2 hv g0 g1
    have Hss := hid hss
    clear hx hv hz ec hm0 hss
    subst hwa
    go_enter Try.func21, Try.ntmps21
    go_wp2_with (go_at_call 36; refine hc.mono ?_; rintro r w1 ⟨rfl, b1⟩; replace k0 := below_cell k0 b1; replace k1 := below_cell k1 b1; replace k2 := below_cell k2 b1)
    have hxq := hx2.below (b1.mono hBz)
    have hBq := Nat.le_trans hBz b1.size
    have hbq := hbw.trans (b1.mono hbw.size)
    clear hx2 hBz hbw b1 hc
    go_loopw [10, 11, 12] (fun vb vl i wl => ∃ (k : Nat) (z : Int) (st : SSt), k ≤ 10 ∧ Hid (z = (k : Int) + 1) ∧ 1 ≤ z ∧ z ≤ 11 ∧ i = .int .i64 z ∧ vb = .int .i64 (bI st) ∧ vl = .int .i64 (lI st) ∧ okS st ∧ Hid (splitN xs h e m g k = st) ∧ Below w1.heap.size w1 wl) (fun _ _ i _ => (11 - intOf i).toNat)
    case atStart => exact ⟨0, 1, none, by omega, rfl, by omega, by omega, rfl, rfl, rfl, trivial, hid rfl, Below.refl _ _⟩
    case round =>
      obtain ⟨k, z, st, hk, hzk, z0, z11, rfl, rfl, rfl, hok, he, hb⟩ := hrel
      by_cases z1 : z ≤ 10
      · have hlt : k < 10 := by have := hzk.out; omega
        have Hz2 : Hid (z + 1 = ((k + 1 : Nat) : Int) + 1) := by have := hzk.out; unfold Hid; omega
        obtain ⟨t1, t2, t3, t4⟩ := split_nums m0 m1 z0 z1
        have hzz : (z == 0) = false := by simp; omega
        have hzn : ¬ z = 0 := by omega
        have EN : Hid (splitN xs h e m g (k + 1) = splitStep xs h e m g z st) := by rw [Hid, splitN, he.out, ← hzk.out]
        have r0 := below_cell k0 hb
        have r1 := below_cell k1 hb
        have r2 := below_cell k2 hb
        have hxr := hxq.below (hb.mono hBq)
        have hBr := Nat.le_trans hBq hb.size
        obtain ⟨t10, t11⟩ := t1
        obtain ⟨t20, t21⟩ := t2
        obtain ⟨t30, t31⟩ := t3
        have T4 := hid t4
        clear he hzk t4
        obtain ⟨Q1, HQ1⟩ : ∃ Q, m.tdiv z = Q := ⟨_, rfl⟩
        obtain ⟨Q2, HQ2⟩ : ∃ Q, (m + z - 1).tdiv z = Q := ⟨_, rfl⟩
        have hA := hco Q1
        have hC := hco Q2
        have hR := fun W => roundedUp_any m z W m0 (by omega) z0 (by omega)
        have hw1 : IntKind.i64.wrap (m.tdiv z) = Q1 := by rw [← HQ1]; exact IntWalk.i64_in _ (by omega)
        have EN2 : splitStep xs h e m g z st = match costOf xs h e Q2 g false, costOf xs h e Q1 g false with | some hv, some lt => if better (m % z * hv + (z - m % z) * lt) st then some (z, m % z * hv + (z - m % z) * lt) else st | _, _ => st := by unfold splitStep; rw [HQ1, HQ2]; rfl
        rw [HQ1] at t10 t11
        rw [HQ2] at t20 t21
        rw [HQ1, HQ2] at T4
        rw [HQ2] at hR
        have hxd : Sl wr.drew B 2 encStep A n xs := hxr.keep fun _ _ => rfl
        have hBd : B ≤ wr.drew.heap.size := hBr
        clear hco HQ1 HQ2
        cases q2 : xs.find? (fun y => decide (Q2 ≤ y.g)) with
        | none =>
          have hC2 : costOf xs h e Q2 g false = none := by simp [costOf, q2]
          have E3 : Hid (splitN xs h e m g (k + 1) = st) := by rw [Hid, EN.out, EN2, hC2]
          rw [hC2] at hC
          simp only [costV, Option.getD, Option.isSome] at hC
          clear q2 EN EN2 hC2
          cases ho : costOf xs h e Q1 g false with
          | none =>
            rw [ho] at hA
            simp only [costV, Option.getD, Option.isSome] at hA
            clear ho
            go_wp2_with fail
            go_region_held3 (fun W => W.cell? ⟨w.heap.size, 0, none⟩ = some (.slice A n c) ∧ W.cell? ⟨w.heap.size, 1, none⟩ = some (.int .i64 h) ∧ W.cell? ⟨w.heap.size, 2, none⟩ = some (.int .i64 e))
              (first
                | go_keep
                | (go_split_ands; exact ⟨below_cell (by assumption) b5, below_cell (by assumption) b5, below_cell (by assumption) b5⟩))
              (first
                | (go_at_call 38; with_reducible refine (hA _ hBd hxd).mono ?_; rintro r w5 ⟨rfl, b5⟩))
            have bw5 : Below wr.heap.size wr w5 := (Below.refl _ _).drew.trans b5
            have hx5 : Sl w5.drew B 2 encStep A n xs := (hxr.below (bw5.mono hBr)).keep fun _ _ => rfl
            have hB5 : B ≤ w5.drew.heap.size := Nat.le_trans hBr bw5.size
            have s0 := below_cell r0 bw5
            have s1 := below_cell r1 bw5
            have s2 := below_cell r2 bw5
            clear b5 hxd hBd hxr
            go_wp2_with fail
            go_region_held3 (fun W => W.cell? ⟨w.heap.size, 0, none⟩ = some (.slice A n c) ∧ W.cell? ⟨w.heap.size, 1, none⟩ = some (.int .i64 h) ∧ W.cell? ⟨w.heap.size, 2, none⟩ = some (.int .i64 e))
              (first
                | go_keep
                | (go_split_ands; exact ⟨below_cell (by assumption) b6, below_cell (by assumption) b6, below_cell (by assumption) b6⟩))
              (first
                | (go_at_call 51; with_reducible refine (hR _).mono ?_; rintro r w4 ⟨rfl, rfl⟩)
                | (go_at_call 38; with_reducible refine (hC _ hB5 hx5).mono ?_; rintro r w6 ⟨rfl, b6⟩))
            have hb6 := hb.trans ((bw5.trans (((Below.refl _ _).drew.trans b6).mono bw5.size)).mono hb.size)
            clear b6 hx5 hB5 s0 s1 s2 bw5
            go_wp2_with fail
            go_roundw
            case rel => exact ⟨k + 1, z + 1, st, by omega, Hz2, by omega, by omega, by go_num, rfl, rfl, hok, E3, hb6⟩
            case measure => simp [intOf]; omega
          | some U =>
            rw [ho] at hA
            simp only [costV, Option.getD, Option.isSome] at hA
            clear ho
            go_wp2_with fail
            go_region_held3 (fun W => W.cell? ⟨w.heap.size, 0, none⟩ = some (.slice A n c) ∧ W.cell? ⟨w.heap.size, 1, none⟩ = some (.int .i64 h) ∧ W.cell? ⟨w.heap.size, 2, none⟩ = some (.int .i64 e))
              (first
                | go_keep
                | (go_split_ands; exact ⟨below_cell (by assumption) b5, below_cell (by assumption) b5, below_cell (by assumption) b5⟩))
              (first
                | (go_at_call 38; with_reducible refine (hA _ hBd hxd).mono ?_; rintro r w5 ⟨rfl, b5⟩))
            have bw5 : Below wr.heap.size wr w5 := (Below.refl _ _).drew.trans b5
            have hx5 : Sl w5.drew B 2 encStep A n xs := (hxr.below (bw5.mono hBr)).keep fun _ _ => rfl
            have hB5 : B ≤ w5.drew.heap.size := Nat.le_trans hBr bw5.size
            have s0 := below_cell r0 bw5
            have s1 := below_cell r1 bw5
            have s2 := below_cell r2 bw5
            clear b5 hxd hBd hxr
            go_wp2_with fail
            go_region_held3 (fun W => W.cell? ⟨w.heap.size, 0, none⟩ = some (.slice A n c) ∧ W.cell? ⟨w.heap.size, 1, none⟩ = some (.int .i64 h) ∧ W.cell? ⟨w.heap.size, 2, none⟩ = some (.int .i64 e))
              (first
                | go_keep
                | (go_split_ands; exact ⟨below_cell (by assumption) b6, below_cell (by assumption) b6, below_cell (by assumption) b6⟩))
              (first
                | (go_at_call 51; with_reducible refine (hR _).mono ?_; rintro r w4 ⟨rfl, rfl⟩)
                | (go_at_call 38; with_reducible refine (hC _ hB5 hx5).mono ?_; rintro r w6 ⟨rfl, b6⟩))
            have hb6 := hb.trans ((bw5.trans (((Below.refl _ _).drew.trans b6).mono bw5.size)).mono hb.size)
            clear b6 hx5 hB5 s0 s1 s2 bw5
            go_wp2_with fail
            go_roundw
            case rel => exact ⟨k + 1, z + 1, st, by omega, Hz2, by omega, by omega, by go_num, rfl, rfl, hok, E3, hb6⟩
            case measure => simp [intOf]; omega
        | some x =>
          obtain ⟨x', q4⟩ := find_less T4.out q2
          have p := Hss.out _ (List.mem_of_find?_eq_some q2)
          have p' := Hss.out _ (List.mem_of_find?_eq_some q4)
          have w0' := whole_bound (x := x) false p.2.1 p.2.2 h0 h1 e0 e1 g0 g1
          have w1' := whole_bound (x := x') false p'.2.1 p'.2.2 h0 h1 e0 e1 g0 g1
          have hS := split_sum t30 t31 z1 w0'.1 w0'.2 w1'.1 w1'.2
          have hC2 : costOf xs h e Q2 g false = some (wholeP x h e g false) := by simp [costOf, q2]
          have hA2 : costOf xs h e Q1 g false = some (wholeP x' h e g false) := by simp [costOf, q4]
          have ES : Hid (splitN xs h e m g (k + 1) = if better (m % z * wholeP x h e g false + (z - m % z) * wholeP x' h e g false) st then some (z, m % z * wholeP x h e g false + (z - m % z) * wholeP x' h e g false) else st) := by
            rw [Hid, EN.out, EN2, hC2, hA2]
          rw [hC2] at hC
          rw [hA2] at hA
          simp only [costV, Option.getD, Option.isSome] at hC hA
          clear q2 q4 EN EN2 hC2 hA2 p p'
          generalize wholeP x h e g false = V at hC ES w0' hS
          generalize wholeP x' h e g false = U at hA ES w1' hS
          rw [Int.add_comm (m % z * V)] at ES
          obtain ⟨⟨s0, s1⟩, s2, s3⟩ := hS
          obtain ⟨v0, v1⟩ := w0'
          obtain ⟨u0, u1⟩ := w1'
          have T0 := hid s0
          have T1 := hid s1
          have T2 := hid s2
          have T3 := hid s3
          clear s0 s1 s2 s3
          have y0 := T0.out
          have y1 := T1.out
          have y2 := T2.out
          have y3 := T3.out
          cases st with
          | none =>
            have ES2 : Hid (splitN xs h e m g (k + 1) = some (z, (z - m % z) * U + m % z * V)) := by rw [Hid, ES.out]; simp [better]
            simp only [bI, lI]
            clear ES
            go_wp2_with fail
            go_region_held3 (fun W => W.cell? ⟨w.heap.size, 0, none⟩ = some (.slice A n c) ∧ W.cell? ⟨w.heap.size, 1, none⟩ = some (.int .i64 h) ∧ W.cell? ⟨w.heap.size, 2, none⟩ = some (.int .i64 e))
              (first
                | go_keep
                | (go_split_ands; exact ⟨below_cell (by assumption) b5, below_cell (by assumption) b5, below_cell (by assumption) b5⟩))
              (first
                | (go_at_call 38; with_reducible refine (hA _ hBd hxd).mono ?_; rintro r w5 ⟨rfl, b5⟩))
            have bw5 : Below wr.heap.size wr w5 := (Below.refl _ _).drew.trans b5
            have hx5 : Sl w5.drew B 2 encStep A n xs := (hxr.below (bw5.mono hBr)).keep fun _ _ => rfl
            have hB5 : B ≤ w5.drew.heap.size := Nat.le_trans hBr bw5.size
            have s0 := below_cell r0 bw5
            have s1 := below_cell r1 bw5
            have s2 := below_cell r2 bw5
            clear b5 hxd hBd hxr
            go_wp2_with fail
            go_region_held3 (fun W => W.cell? ⟨w.heap.size, 0, none⟩ = some (.slice A n c) ∧ W.cell? ⟨w.heap.size, 1, none⟩ = some (.int .i64 h) ∧ W.cell? ⟨w.heap.size, 2, none⟩ = some (.int .i64 e))
              (first
                | go_keep
                | (go_split_ands; exact ⟨below_cell (by assumption) b6, below_cell (by assumption) b6, below_cell (by assumption) b6⟩))
              (first
                | (go_at_call 51; with_reducible refine (hR _).mono ?_; rintro r w4 ⟨rfl, rfl⟩)
                | (go_at_call 38; with_reducible refine (hC _ hB5 hx5).mono ?_; rintro r w6 ⟨rfl, b6⟩))
            have hb6 := hb.trans ((bw5.trans (((Below.refl _ _).drew.trans b6).mono bw5.size)).mono hb.size)
            clear b6 hx5 hB5 s0 s1 s2 bw5
            go_wp2_with fail
            go_roundw
            case rel => exact ⟨k + 1, z + 1, some (z, (z - m % z) * U + m % z * V), by omega, Hz2, by omega, by omega, by go_num, rfl, rfl, ⟨by omega, by omega, by omega, by omega⟩, ES2, hb6⟩
            case measure => simp [intOf]; omega
          | some p =>
            obtain ⟨pb, pl⟩ := p
            simp only [okS] at hok
            simp only [bI, lI]
            by_cases hlt2 : (z - m % z) * U + m % z * V < pl
            · have ES2 : Hid (splitN xs h e m g (k + 1) = some (z, (z - m % z) * U + m % z * V)) := by rw [Hid, ES.out]; simp [better, hlt2]
              clear ES
              go_wp2_with fail
              go_region_held3 (fun W => W.cell? ⟨w.heap.size, 0, none⟩ = some (.slice A n c) ∧ W.cell? ⟨w.heap.size, 1, none⟩ = some (.int .i64 h) ∧ W.cell? ⟨w.heap.size, 2, none⟩ = some (.int .i64 e))
                (first
                  | go_keep
                  | (go_split_ands; exact ⟨below_cell (by assumption) b5, below_cell (by assumption) b5, below_cell (by assumption) b5⟩))
                (first
                  | (go_at_call 38; with_reducible refine (hA _ hBd hxd).mono ?_; rintro r w5 ⟨rfl, b5⟩))
              have bw5 : Below wr.heap.size wr w5 := (Below.refl _ _).drew.trans b5
              have hx5 : Sl w5.drew B 2 encStep A n xs := (hxr.below (bw5.mono hBr)).keep fun _ _ => rfl
              have hB5 : B ≤ w5.drew.heap.size := Nat.le_trans hBr bw5.size
              have s0 := below_cell r0 bw5
              have s1 := below_cell r1 bw5
              have s2 := below_cell r2 bw5
              clear b5 hxd hBd hxr
              go_wp2_with fail
              go_region_held3 (fun W => W.cell? ⟨w.heap.size, 0, none⟩ = some (.slice A n c) ∧ W.cell? ⟨w.heap.size, 1, none⟩ = some (.int .i64 h) ∧ W.cell? ⟨w.heap.size, 2, none⟩ = some (.int .i64 e))
                (first
                  | go_keep
                  | (go_split_ands; exact ⟨below_cell (by assumption) b6, below_cell (by assumption) b6, below_cell (by assumption) b6⟩))
                (first
                  | (go_at_call 51; with_reducible refine (hR _).mono ?_; rintro r w4 ⟨rfl, rfl⟩)
                  | (go_at_call 38; with_reducible refine (hC _ hB5 hx5).mono ?_; rintro r w6 ⟨rfl, b6⟩))
              have hb6 := hb.trans ((bw5.trans (((Below.refl _ _).drew.trans b6).mono bw5.size)).mono hb.size)
              clear b6 hx5 hB5 s0 s1 s2 bw5
              go_wp2_with fail
              go_roundw
              case rel => exact ⟨k + 1, z + 1, some (z, (z - m % z) * U + m % z * V), by omega, Hz2, by omega, by omega, by go_num, rfl, rfl, ⟨by omega, by omega, by omega, by omega⟩, ES2, hb6⟩
              case measure => simp [intOf]; omega
            · have ES2 : Hid (splitN xs h e m g (k + 1) = some (pb, pl)) := by rw [Hid, ES.out]; simp [better, hlt2]
              clear ES
              go_wp2_with fail
              go_region_held3 (fun W => W.cell? ⟨w.heap.size, 0, none⟩ = some (.slice A n c) ∧ W.cell? ⟨w.heap.size, 1, none⟩ = some (.int .i64 h) ∧ W.cell? ⟨w.heap.size, 2, none⟩ = some (.int .i64 e))
                (first
                  | go_keep
                  | (go_split_ands; exact ⟨below_cell (by assumption) b5, below_cell (by assumption) b5, below_cell (by assumption) b5⟩))
                (first
                  | (go_at_call 38; with_reducible refine (hA _ hBd hxd).mono ?_; rintro r w5 ⟨rfl, b5⟩))
              have bw5 : Below wr.heap.size wr w5 := (Below.refl _ _).drew.trans b5
              have hx5 : Sl w5.drew B 2 encStep A n xs := (hxr.below (bw5.mono hBr)).keep fun _ _ => rfl
              have hB5 : B ≤ w5.drew.heap.size := Nat.le_trans hBr bw5.size
              have s0 := below_cell r0 bw5
              have s1 := below_cell r1 bw5
              have s2 := below_cell r2 bw5
              clear b5 hxd hBd hxr
              go_wp2_with fail
              go_region_held3 (fun W => W.cell? ⟨w.heap.size, 0, none⟩ = some (.slice A n c) ∧ W.cell? ⟨w.heap.size, 1, none⟩ = some (.int .i64 h) ∧ W.cell? ⟨w.heap.size, 2, none⟩ = some (.int .i64 e))
                (first
                  | go_keep
                  | (go_split_ands; exact ⟨below_cell (by assumption) b6, below_cell (by assumption) b6, below_cell (by assumption) b6⟩))
                (first
                  | (go_at_call 51; with_reducible refine (hR _).mono ?_; rintro r w4 ⟨rfl, rfl⟩)
                  | (go_at_call 38; with_reducible refine (hC _ hB5 hx5).mono ?_; rintro r w6 ⟨rfl, b6⟩))
              have hb6 := hb.trans ((bw5.trans (((Below.refl _ _).drew.trans b6).mono bw5.size)).mono hb.size)
              clear b6 hx5 hB5 s0 s1 s2 bw5
              go_wp2_with fail
              go_roundw
              case rel => exact ⟨k + 1, z + 1, some (pb, pl), by omega, Hz2, by omega, by omega, by go_num, rfl, rfl, hok, ES2, hb6⟩
              case measure => simp [intOf]; omega
      · have : k = 10 := by have := hzk.out; omega
        subst this
        have E3 : Hid (splitF xs h e m g = outS st) := by rw [Hid, E.out, he.out]
        clear E he
        cases st with
        | none =>
          simp only [bI, lI]
          go_wp2
          go_ret3
          rw [E3.out]
          exact ⟨rfl, hbq.trans (hb.mono hbq.size)⟩
        | some p =>
          obtain ⟨b, l⟩ := p
          simp only [okS] at hok
          simp only [bI, lI]
          go_wp2
          go_ret3
          rw [E3.out]
          exact ⟨rfl, hbq.trans (hb.mono hbq.size)⟩
  · obtain ⟨z, hz, hz0, hp⟩ : ∃ z, codeT (validT ⟨xs, h, e⟩) m g 0 = z ∧ (z = 0 → m = 0) ∧ splitF xs h e m g = (0, 0, if z = 0 then 2 else z) := by
      refine ⟨_, rfl, fun hc => ?_, ?_⟩
      · cases hv : validT ⟨xs, h, e⟩ with
        | false => rw [hv] at hc; simp [codeT] at hc
        | true =>
          cases hz : (inR m 0 5000 && inR g 0 20000) with
          | false => rw [hv] at hc; simp only [codeT, hz] at hc; simp at hc
          | true =>
            by_cases h0 : m = 0
            · exact h0
            · exact absurd ⟨⟨hv, hz⟩, h0⟩ hq
      · cases hv : validT ⟨xs, h, e⟩ with
        | false => simp [codeT, splitF, hv]
        | true =>
          cases hz : (inR m 0 5000 && inR g 0 20000) with
          | false => simp only [codeT, splitF, hv, hz]; simp
          | true =>
            have h0 : m = 0 := by
              by_cases h0 : m = 0
              · exact h0
              · exact absurd ⟨⟨hv, hz⟩, h0⟩ hq
            simp only [codeT, splitF, hv, hz, h0]; simp [inR]
    rw [hz] at hc
    clear hx hq hz
    by_cases hzz : z = 0
    · have hm := hz0 hzz
      have E2 : Hid (splitF xs h e m g = (0, 0, 2)) := by rw [Hid, hp, if_pos hzz]
      clear hp hz0
      subst hzz hm
      subst hwa
      go_enter Try.func21, Try.ntmps21
      go_wp2_with (go_at_call 36; refine hc.mono ?_; rintro r w1 ⟨rfl, b1⟩)
      go_ret3
      rw [E2.out]
      exact ⟨rfl, hbw.trans (b1.mono hbw.size)⟩
    · have E2 : Hid (splitF xs h e m g = (0, 0, z)) := by rw [Hid, hp, if_neg hzz]
      clear hp hz0
      subst hwa
      go_enter Try.func21, Try.ntmps21
      go_wp2_with (go_at_call 36; refine hc.mono ?_; rintro r w1 ⟨rfl, b1⟩)
      go_ret3
      rw [E2.out]
      exact ⟨rfl, hbw.trans (b1.mono hbw.size)⟩
end Go.Proofs.Ytbgpdaclaknapaa
