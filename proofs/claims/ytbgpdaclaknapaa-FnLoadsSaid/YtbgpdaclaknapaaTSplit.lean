/-
  SplitLoad: the program's function and the reference's. No condition.
-/
import Derived.Test.YtbgpdaclaknapaaTWithin
import Derived.OwnWalk
namespace Go.Proofs.Ytbgpdaclaknapaa
open Go.RowKit
set_option maxHeartbeats 400000

abbrev SSt := Option (Int × Int)
def better (s : Int) : SSt → Bool | none => true | some (_, l) => decide (s < l)
/-- some carriers more: the heavier weight, the lighter weight, what they cost -/
def splitStep (xs : List Step) (h e m g z : Int) (st : SSt) : SSt :=
  match costOf xs h e ((m + z - 1).tdiv z) g false, costOf xs h e (m.tdiv z) g false with
  | some hv, some lt => if better (m % z * hv + (z - m % z) * lt) st then some (z, m % z * hv + (z - m % z) * lt) else st
  | _, _ => st
def splitN (xs : List Step) (h e m g : Int) : Nat → SSt
  | 0 => none
  | k + 1 => splitStep xs h e m g ((k : Int) + 1) (splitN xs h e m g k)
def outS : SSt → Int × Int × Int | none => (0, 0, 5) | some p => (p.1, p.2, 0)
def splitF (xs : List Step) (h e m g : Int) : Int × Int × Int :=
  if validT ⟨xs, h, e⟩ then if (inR m 0 5000 && inR g 0 20000) && !decide (m = 0) then outS (splitN xs h e m g 10) else (0, 0, 2) else (0, 0, 1)
def okS : SSt → Prop | none => True | some (b, l) => 1 ≤ b ∧ b ≤ 10 ∧ 0 ≤ l ∧ l ≤ 5000000000
def bS : SSt → Int | none => -1 | some p => p.1
def lS : SSt → Int | none => 0 | some p => p.2
def bI : SSt → Int | none => 0 | some p => p.1
def lI : SSt → Int | none => -1 | some p => p.2
/-- the numbers of one round -/
theorem split_nums {m z : Int} (m0 : 0 ≤ m) (m1 : m ≤ 5000) (z0 : 1 ≤ z) (z1 : z ≤ 10) :
    (0 ≤ m.tdiv z ∧ m.tdiv z ≤ 5000) ∧ (0 ≤ (m + z - 1).tdiv z ∧ (m + z - 1).tdiv z ≤ 5009) ∧ (0 ≤ m % z ∧ m % z < z) ∧ m.tdiv z ≤ (m + z - 1).tdiv z := by
  rw [Int.tdiv_eq_ediv_of_nonneg m0, Int.tdiv_eq_ediv_of_nonneg (show 0 ≤ m + z - 1 by omega)]
  exact ⟨⟨Int.ediv_nonneg m0 (by omega), by have := Int.ediv_le_self z m0; omega⟩, ⟨Int.ediv_nonneg (by omega) (by omega), by have := Int.ediv_le_self z (show 0 ≤ m + z - 1 by omega); omega⟩,
    ⟨Int.emod_nonneg _ (by omega), Int.emod_lt_of_pos _ (by omega)⟩, Int.ediv_le_ediv (by omega) (by omega)⟩
/-- a lighter carrier has a step too -/
theorem find_less {m m' : Int} {xs : List Step} (hm : m' ≤ m) {x : Step} (h : xs.find? (fun y => decide (m ≤ y.g)) = some x) : ∃ y, xs.find? (fun y => decide (m' ≤ y.g)) = some y := by
  have h1 := List.find?_some h
  have h2 := List.mem_of_find?_eq_some h
  have : (xs.find? (fun y => decide (m' ≤ y.g))).isSome = true := by
    rw [List.find?_isSome]
    exact ⟨x, h2, by simp at h1 ⊢; omega⟩
  exact Option.isSome_iff_exists.1 this
theorem split_sum {r z a b : Int} (r0 : 0 ≤ r) (r1 : r < z) (z1 : z ≤ 10) (a0 : 0 ≤ a) (a1 : a ≤ 221100000) (b0 : 0 ≤ b) (b1 : b ≤ 221100000) :
    (0 ≤ r * a ∧ r * a ≤ 2211000000) ∧ (0 ≤ (z - r) * b ∧ (z - r) * b ≤ 2211000000) := by
  have h1 := mul_in (a := r) (b := a) (p := 10) (q := 221100000) r0 (by omega) a0 a1
  have h2 := mul_in (a := z - r) (b := b) (p := 10) (q := 221100000) (by omega) (by omega) b0 b1
  exact ⟨by omega, by omega⟩
set_option maxHeartbeats 4000000 in
set_option maxRecDepth 100000 in
theorem specSplitLoad_any (A : Option Addr) (n c : Nat) (xs : List Step) (h e m g : Int) (w : World) (B : Nat) (hB : B ≤ w.heap.size) (hn : n ≤ 2000000) (hx : Sl w B 2 encStep A n xs) :
    Calls Try.prog 22 #[.agg #[.slice A n c, .int .i64 h, .int .i64 e], .int .i64 m, .int .i64 g] w fun r w' => r = .returned (tripI (splitF xs h e m g)) ∧ Below w.heap.size w w' := by
  have hol := hx.len
  obtain ⟨wa, hwa⟩ : ∃ wa, wa = (w.alloc (.cells #[.slice A n c, .int .i64 h, .int .i64 e] 30)) := ⟨_, rfl⟩
  have hbw : Below w.heap.size w wa := by rw [hwa]; exact ((Below.refl _ _).alloc (Nat.le_refl _) _)
  have k0 : wa.cell? ⟨w.heap.size, 0, none⟩ = some (.slice A n c) := by rw [hwa]; go_simp
  have k1 : wa.cell? ⟨w.heap.size, 1, none⟩ = some (.int .i64 h) := by rw [hwa]; go_simp
  have k2 : wa.cell? ⟨w.heap.size, 2, none⟩ = some (.int .i64 e) := by rw [hwa]; go_simp
  have hc := l23Ok_any w.heap.size 0 A n c xs h e wa B (Nat.le_trans hB hbw.size) hn (hx.below (hbw.mono hB)) k0 k1 k2
  have hs := l23Size_any m g
  cases hv : validT ⟨xs, h, e⟩ with
  | false =>
    have E : Hid (splitF xs h e m g = (0, 0, 1)) := by simp [Hid, splitF, hv]
    rw [hv] at hc
    clear hx hv k0 k1 k2
    subst hwa
    go_enter Try.func22, Try.ntmps22
    go_wp2_with (go_at_call 31; refine hc.mono ?_; rintro r w1 ⟨rfl, b1⟩)
    go_ret3
    rw [E.out]
    exact ⟨rfl, hbw.trans (b1.mono hbw.size)⟩
  | true =>
    rw [hv] at hc
    cases hz1 : inR m 0 5000 && inR g 0 20000 with
    | false =>
      have E : Hid (splitF xs h e m g = (0, 0, 2)) := by simp only [Hid, splitF, hv, hz1]; rfl
      rw [hz1] at hs
      clear hx hv k0 k1 k2 hz1
      subst hwa
      go_enter Try.func22, Try.ntmps22
      go_wp2_with (first
        | (go_at_call 31; refine hc.mono ?_; rintro r w1 ⟨rfl, b1⟩)
        | (go_at_call 32; refine (hs _).mono ?_; rintro r w1 ⟨rfl, rfl⟩))
      go_ret3
      rw [E.out]
      exact ⟨rfl, hbw.trans (b1.mono hbw.size)⟩
    | true =>
      rw [hz1] at hs
      by_cases hm0 : m = 0
      · have E : Hid (splitF xs h e m g = (0, 0, 2)) := by simp only [Hid, splitF, hv, hz1, hm0]; simp [hm0] at hz1; simp [hz1]
        clear hx hv k0 k1 k2 hz1
        subst hm0
        subst hwa
        go_enter Try.func22, Try.ntmps22
        go_wp2_with (first
          | (go_at_call 31; refine hc.mono ?_; rintro r w1 ⟨rfl, b1⟩)
          | (go_at_call 32; refine (hs _).mono ?_; rintro r w1 ⟨rfl, rfl⟩))
        go_ret3
        rw [E.out]
        exact ⟨rfl, hbw.trans (b1.mono hbw.size)⟩
      · have E : Hid (splitF xs h e m g = outS (splitN xs h e m g 10)) := by simp only [Hid, splitF, hv, hz1, hm0]; rfl
        obtain ⟨hss, hl0, hl1, h0, h1, e0, e1⟩ := validT_parts hv
        obtain ⟨⟨m0, m1⟩, g0, g1⟩ : (0 ≤ m ∧ m ≤ 5000) ∧ 0 ≤ g ∧ g ≤ 20000 := by simpa only [Bool.and_eq_true, inR_iff] using hz1
        have hmb : (m == 0) = false := by simpa using hm0
        have hst := fun mm W h1 h2 h3 => l23Step_any w.heap.size 0 A n c xs mm W B h1 hn h2 h3
        have hwh := fun j x W hj p0 p1 h1' h2 h3 h4 h5 => l23Whole_any w.heap.size 0 A n c xs h e g j x false W B h1' hn h2 hj p0 p1 h0 h1 e0 e1 g0 g1 h3 h4 h5
        clear hv hz1 hm0
        have Hss := hid hss
        clear hss
        have hx2 := hx.below (hbw.mono hB)
        have hBz := Nat.le_trans hB hbw.size
        clear hx
        subst hwa
        go_enter Try.func22, Try.ntmps22
        go_wp2_with (first
          | (go_at_call 31; refine hc.mono ?_; rintro r w1 ⟨rfl, b1⟩)
          | (go_at_call 32; refine (hs _).mono ?_; rintro r w1 ⟨rfl, rfl⟩))
        replace k0 := below_cell k0 b1
        replace k1 := below_cell k1 b1
        replace k2 := below_cell k2 b1
        have hxq := hx2.below (b1.mono hBz)
        have hBq := Nat.le_trans hBz b1.size
        have hbq := hbw.trans (b1.mono hbw.size)
        clear hx2 hBz hbw b1 hc hs
        go_loopw [9, 10, 11] (fun vb vl i wl => ∃ (k : Nat) (z : Int) (st : SSt), k ≤ 10 ∧ Hid (z = (k : Int) + 1) ∧ 1 ≤ z ∧ z ≤ 11 ∧ i = .int .i64 z ∧ vb = .int .i64 (bS st) ∧ vl = .int .i64 (lS st) ∧ okS st ∧ Hid (splitN xs h e m g k = st) ∧ Below w1.heap.size w1 wl) (fun _ _ i _ => (11 - intOf i).toNat)
        case atStart => exact ⟨0, 1, none, by omega, rfl, by omega, by omega, rfl, rfl, rfl, trivial, hid rfl, Below.refl _ _⟩
        case round =>
          obtain ⟨k, z, st, hk, hzk, z0, z11, rfl, rfl, rfl, hok, he, hb⟩ := hrel
          by_cases z1 : z ≤ 10
          · have hlt : k < 10 := by have := hzk.out; omega
            have Hz2 : Hid (z + 1 = ((k + 1 : Nat) : Int) + 1) := by have := hzk.out; unfold Hid; omega
            obtain ⟨t1, t2, t3, t4⟩ := split_nums m0 m1 z0 z1
            have hzz : ¬ z = 0 := by omega
            have EN : Hid (splitN xs h e m g (k + 1) = splitStep xs h e m g z st) := by rw [Hid, splitN, he.out, ← hzk.out]
            have r0 := below_cell k0 hb
            have r1 := below_cell k1 hb
            have r2 := below_cell k2 hb
            have hxr := hxq.below (hb.mono hBq)
            have hBr := Nat.le_trans hBq hb.size
            obtain ⟨t10, t11⟩ := t1
            obtain ⟨t20, t21⟩ := t2
            obtain ⟨t30, t31⟩ := t3
            have T4 := hid t4
            clear he hzk t4
            have hA := hst (m.tdiv z)
            have hC := hst ((m + z - 1).tdiv z)
            rcases find_at (m := (m + z - 1).tdiv z) (xs := xs) (k0 := 0) with ⟨q1, q2⟩ | ⟨j, x, hj, q1, q2⟩
            · have E3 : Hid (splitN xs h e m g (k + 1) = st) := by rw [Hid, EN.out]; simp [splitStep, costOf, q2]
              rw [q1] at hC
              clear q1 q2 EN
              rcases find_at (m := m.tdiv z) (xs := xs) (k0 := 0) with ⟨q3, q4⟩ | ⟨j', x', hj', q3, q4⟩
              · rw [q3] at hA
                clear q3 q4
                go_wp2_with (first
                  | (go_at_call_of 40 (Value.int IntKind.i64 (m.tdiv z)); refine (hA _ hBr hxr r0).mono ?_; rintro r w3 ⟨rfl, rfl⟩)
                  | (go_at_call 40; refine (hC _ hBr hxr r0).mono ?_; rintro r w3 ⟨rfl, rfl⟩))
                go_roundw
                case rel => exact ⟨k + 1, z + 1, st, by omega, Hz2, by omega, by omega, by go_num, rfl, rfl, hok, E3, hb⟩
                case measure => simp [intOf]; omega
              · rw [q3] at hA
                clear q3 q4
                go_wp2_with (first
                  | (go_at_call_of 40 (Value.int IntKind.i64 (m.tdiv z)); refine (hA _ hBr hxr r0).mono ?_; rintro r w3 ⟨rfl, rfl⟩)
                  | (go_at_call 40; refine (hC _ hBr hxr r0).mono ?_; rintro r w3 ⟨rfl, rfl⟩))
                go_roundw
                case rel => exact ⟨k + 1, z + 1, st, by omega, Hz2, by omega, by omega, by go_num, rfl, rfl, hok, E3, hb⟩
                case measure => simp [intOf]; omega
            · obtain ⟨x', q4⟩ := find_less T4.out q2
              rcases find_at (m := m.tdiv z) (xs := xs) (k0 := 0) with ⟨q3, q5⟩ | ⟨j', x'', hj', q3, q5⟩
              · rw [q5] at q4; cases q4
              · rw [q5] at q4
                obtain rfl : x'' = x' := by injection q4
                obtain ⟨⟨_, _⟩, p0, p1⟩ := Hss.out _ (List.mem_of_getElem? hj)
                obtain ⟨⟨_, _⟩, p0', p1'⟩ := Hss.out _ (List.mem_of_getElem? hj')
                have w0' := whole_bound (x := x) false p0 p1 h0 h1 e0 e1 g0 g1
                have w1' := whole_bound (x := x'') false p0' p1' h0 h1 e0 e1 g0 g1
                have hS := split_sum t30 t31 z1 w0'.1 w0'.2 w1'.1 w1'.2
                have ES : Hid (splitN xs h e m g (k + 1) = if better (m % z * wholeP x h e g false + (z - m % z) * wholeP x'' h e g false) st then some (z, m % z * wholeP x h e g false + (z - m % z) * wholeP x'' h e g false) else st) := by
                  rw [Hid, EN.out]; simp [splitStep, costOf, q2, q5]
                rw [q1, Nat.zero_add] at hC
                rw [q3, Nat.zero_add] at hA
                have hD := fun W => hwh j x W hj p0 p1
                have hE := fun W => hwh j' x'' W hj' p0' p1'
                have jn : j < n := by rw [← hol]; exact (List.getElem?_eq_some_iff.1 hj).1
                have jn' : j' < n := by rw [← hol]; exact (List.getElem?_eq_some_iff.1 hj').1
                clear q1 q2 q3 q4 q5 EN hj hj' hwh hst
                generalize wholeP x h e g false = V at w0' hS ES hD
                generalize wholeP x'' h e g false = U at w1' hS ES hE
                obtain ⟨⟨s0, s1⟩, s2, s3⟩ := hS
                obtain ⟨v0, v1⟩ := w0'
                obtain ⟨u0, u1⟩ := w1'
                cases st with
                | none =>
                  have ES2 : Hid (splitN xs h e m g (k + 1) = some (z, m % z * V + (z - m % z) * U)) := by rw [Hid, ES.out]; simp [better]
                  simp only [bS, lS]
                  clear ES
                  go_wp2_with (first
                    | (go_at_call_of 40 (Value.int IntKind.i64 (m.tdiv z)); refine (hA _ hBr hxr r0).mono ?_; rintro r w3 ⟨rfl, rfl⟩)
                    | (go_at_call 40; refine (hC _ hBr hxr r0).mono ?_; rintro r w3 ⟨rfl, rfl⟩)
                    | (go_at_call_of 34 (Value.int IntKind.i64 (j : Int)); refine (hD _ hBr hxr r0 r1 r2).mono ?_; rintro r w3 ⟨rfl, b3⟩; replace hb := hb.trans (b3.mono hb.size); replace hxr := hxr.below (b3.mono hBr); replace hBr := Nat.le_trans hBr b3.size; replace r0 := below_cell r0 b3; replace r1 := below_cell r1 b3; replace r2 := below_cell r2 b3)
                    | (go_at_call 34; refine (hE _ hBr hxr r0 r1 r2).mono ?_; rintro r w4 ⟨rfl, b4⟩; replace hb := hb.trans (b4.mono hb.size)))
                  go_roundw
                  case rel => exact ⟨k + 1, z + 1, some (z, m % z * V + (z - m % z) * U), by omega, Hz2, by omega, by omega, by go_num, rfl, rfl, ⟨by omega, by omega, by omega, by omega⟩, ES2, hb⟩
                  case measure => simp [intOf]; omega
                | some p =>
                  obtain ⟨pb, pl⟩ := p
                  simp only [okS] at hok
                  simp only [bS, lS]
                  by_cases hlt2 : m % z * V + (z - m % z) * U < pl
                  · have ES2 : Hid (splitN xs h e m g (k + 1) = some (z, m % z * V + (z - m % z) * U)) := by rw [Hid, ES.out]; simp [better, hlt2]
                    clear ES
                    go_wp2_with (first
                      | (go_at_call_of 40 (Value.int IntKind.i64 (m.tdiv z)); refine (hA _ hBr hxr r0).mono ?_; rintro r w3 ⟨rfl, rfl⟩)
                      | (go_at_call 40; refine (hC _ hBr hxr r0).mono ?_; rintro r w3 ⟨rfl, rfl⟩)
                      | (go_at_call_of 34 (Value.int IntKind.i64 (j : Int)); refine (hD _ hBr hxr r0 r1 r2).mono ?_; rintro r w3 ⟨rfl, b3⟩; replace hb := hb.trans (b3.mono hb.size); replace hxr := hxr.below (b3.mono hBr); replace hBr := Nat.le_trans hBr b3.size; replace r0 := below_cell r0 b3; replace r1 := below_cell r1 b3; replace r2 := below_cell r2 b3)
                      | (go_at_call 34; refine (hE _ hBr hxr r0 r1 r2).mono ?_; rintro r w4 ⟨rfl, b4⟩; replace hb := hb.trans (b4.mono hb.size)))
                    go_roundw
                    case rel => exact ⟨k + 1, z + 1, some (z, m % z * V + (z - m % z) * U), by omega, Hz2, by omega, by omega, by go_num, rfl, rfl, ⟨by omega, by omega, by omega, by omega⟩, ES2, hb⟩
                    case measure => simp [intOf]; omega
                  · have ES2 : Hid (splitN xs h e m g (k + 1) = some (pb, pl)) := by rw [Hid, ES.out]; simp [better, hlt2]
                    clear ES
                    go_wp2_with (first
                      | (go_at_call_of 40 (Value.int IntKind.i64 (m.tdiv z)); refine (hA _ hBr hxr r0).mono ?_; rintro r w3 ⟨rfl, rfl⟩)
                      | (go_at_call 40; refine (hC _ hBr hxr r0).mono ?_; rintro r w3 ⟨rfl, rfl⟩)
                      | (go_at_call_of 34 (Value.int IntKind.i64 (j : Int)); refine (hD _ hBr hxr r0 r1 r2).mono ?_; rintro r w3 ⟨rfl, b3⟩; replace hb := hb.trans (b3.mono hb.size); replace hxr := hxr.below (b3.mono hBr); replace hBr := Nat.le_trans hBr b3.size; replace r0 := below_cell r0 b3; replace r1 := below_cell r1 b3; replace r2 := below_cell r2 b3)
                      | (go_at_call 34; refine (hE _ hBr hxr r0 r1 r2).mono ?_; rintro r w4 ⟨rfl, b4⟩; replace hb := hb.trans (b4.mono hb.size)))
                    go_roundw
                    case rel => exact ⟨k + 1, z + 1, some (pb, pl), by omega, Hz2, by omega, by omega, by go_num, rfl, rfl, hok, ES2, hb⟩
                    case measure => simp [intOf]; omega
          · have : k = 10 := by have := hzk.out; omega
            subst this
            have E3 : Hid (splitF xs h e m g = outS st) := by rw [Hid, E.out, he.out]
            clear E he
            cases st with
            | none =>
              simp only [bS, lS]
              go_wp2
              go_ret3
              rw [E3.out]
              exact ⟨rfl, hbq.trans (hb.mono hbq.size)⟩
            | some p =>
              obtain ⟨b, l⟩ := p
              simp only [okS] at hok
              simp only [bS, lS]
              go_wp2
              go_ret3
              rw [E3.out]
              exact ⟨rfl, hbq.trans (hb.mono hbq.size)⟩
end Go.Proofs.Ytbgpdaclaknapaa
