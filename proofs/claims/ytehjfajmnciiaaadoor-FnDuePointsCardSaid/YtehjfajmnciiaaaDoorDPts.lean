/-
  DueDay, LateBy, NextDue, SamePoints: both sides. No condition.
-/
import Derived.Test.YtehjfajmnciiaaaDoorPFn
import Derived.Test.YtehjfajmnciiaaaDoorEqPoint
namespace Go.Proofs.YtehjfajmnciiaaaDoor
open Go.RowKit
set_option maxHeartbeats 400000

def pAt (xs : List Point) (k : Nat) : Point := xs[k]?.getD ⟨0, 0⟩
theorem pAt_of {xs : List Point} {k : Nat} {x : Point} (h : xs[k]? = some x) : pAt xs k = x := by simp [pAt, h]
def dayF (xs : List Point) (k : Int) : Int × Int := if validPts xs then if inR k 0 ((xs.length : Int) - 1) then (dueD (pAt xs k.toNat), 0) else (0, 2) else (0, 1)
/-- the days since the first k were due -/
def lateK (xs : List Point) (day : Int) : Nat → Int
  | 0 => 0
  | k + 1 => lateK xs day k + max (day - dueD (pAt xs k)) 0
def lateF (xs : List Point) (day : Int) : Int × Int := if codeP xs day = 0 then (lateK xs day xs.length, 0) else (0, codeP xs day)
/-- the least of a number and the first k due days -/
def minK (d : Int) (xs : List Point) : Nat → Int
  | 0 => d
  | k + 1 => min (minK d xs k) (dueD (pAt xs k))
def nextF (xs : List Point) : Int × Int := if validPts xs then if xs.length = 0 then (0, 3) else (minK (dueD (pAt xs 0)) xs xs.length, 0) else (0, 1)
def samePts (xs ys : List Point) : Bool := decide (xs = ys)
def numP (w : World) (R : Int × Int) (r : Ending) (w' : World) : Prop := r = .returned (.tuple #[.int .i64 R.1, .int .i64 R.2]) ∧ Below w.heap.size w w'
theorem l00Min_any (a b : Int) (w : World) : Calls Tryd.prog 38 #[.int .i64 a, .int .i64 b] w fun e w' => e = .returned (.int .i64 (min a b)) ∧ w' = w := by
  go_enter Tryd.func38, Tryd.ntmps38
  go_wp2
  all_goals go_ret
  all_goals exact ⟨retI (by omega), rfl⟩
theorem max_sym (a : Int) : max 0 a = max a 0 := by omega
theorem l19OkB_any (A : Option Addr) (n c : Nat) (xs : List Point) (w : World) (B : Nat) (hB : B ≤ w.heap.size) (hn : n ≤ 2000000) (hx : Sl w B 2 encPoint A n xs) :
    Calls Tryd.prog 37 #[.slice A n c] w fun e w' => e = .returned (.bool (validPts xs)) ∧ Below w.heap.size w w' := (l19Ok_any A n c xs w B hB hn hx).mono fun r w' h => ⟨h.1, by rw [h.2]; exact Below.refl _ _⟩
theorem l19CodeB_any (A : Option Addr) (n c : Nat) (xs : List Point) (day : Int) (w : World) (B : Nat) (hB : B ≤ w.heap.size) (hn : n ≤ 2000000) (hx : Sl w B 2 encPoint A n xs) :
    Calls Tryd.prog 34 #[.slice A n c, .int .i64 day] w fun e w' => e = .returned (.int .i64 (codeP xs day)) ∧ Below w.heap.size w w' := (l19Code_any A n c xs day w B hB hn hx).mono fun r w' h => ⟨h.1, by rw [h.2]; exact Below.refl _ _⟩

set_option maxHeartbeats 2000000 in
theorem implDueDay_any (A : Option Addr) (n c : Nat) (xs : List Point) (k : Int) (w : World) (B : Nat) (hB : B ≤ w.heap.size) (hn : n ≤ 2000000) (hx : Sl w B 2 encPoint A n xs) :
    Calls Tryd.prog 19 #[.slice A n c, .int .i64 k] w (numP w (dayF xs k)) := by
  have hc := ValidPoints_any A n c xs w B hB hn hx
  have hl := hx.len
  cases hv : validPts xs with
  | false =>
    have E : Hid (dayF xs k = (0, 1)) := by simp [Hid, dayF, hv]
    rw [hv] at hc
    clear hv hx hl
    go_enter Tryd.func19, Tryd.ntmps19
    go_wp2_with fail
    refine hc.mono ?_
    rintro r w1 ⟨rfl, b1⟩
    clear hc
    go_wp2_with fail
    go_ret2
    rw [E.out]
    exact ⟨rfl, b1⟩
  | true =>
    have hn30 := validPts_len hv
    by_cases hk : 0 ≤ k ∧ k ≤ (n : Int) - 1
    · obtain ⟨j, rfl⟩ : ∃ j : Nat, k = j := ⟨k.toNat, by omega⟩
      have hjn : j < n := by omega
      have hr : inR (j : Int) 0 ((n : Int) - 1) = true := by simp [inR]; omega
      have E0 : dayF xs j = (dueD (pAt xs j), 0) := by simp only [dayF, hv, if_true, hl, hr, Int.toNat_natCast]
      have hw := fun W => within_any (j : Int) 0 ((n : Int) - 1) W
      rw [hr] at hw
      obtain ⟨x0, x1, b, off, Hx, rfl, hbB, c0, c1⟩ := hx.atPoint hjn
      have hpt := okPoint_at hv Hx.out
      simp only at hpt
      have E : Hid (dayF xs j = (dueD ⟨x0, x1⟩, 0)) := by rw [Hid, E0, pAt_of Hx.out]
      have i0 : (0 : Int) ≤ (j : Int) := by omega
      have i1 : (j : Int) < (n : Int) := by omega
      have n0 : (0 : Int) ≤ (n : Int) := by omega
      have n1 : (n : Int) ≤ 2000000 := by omega
      rw [hv] at hc
      clear hv hx hl hk hr E0
      go_enter Tryd.func19, Tryd.ntmps19
      go_wp2_with fail
      refine hc.mono ?_
      rintro r w1 ⟨rfl, b1⟩
      clear hc
      replace c0 := below_cell c0 b1
      replace c1 := below_cell c1 b1
      go_wp2_with fail
      refine (hw _).mono ?_
      rintro r w2 ⟨rfl, e⟩
      replace e := e.symm
      subst e
      clear hw
      go_wp2_with fail
      refine (due_any x0 x1 _ (by omega) (by omega)).mono ?_
      rintro r w3 ⟨rfl, b3⟩
      generalize dueD ⟨x0, x1⟩ = d at E
      go_wp2_with fail
      go_ret2
      rw [E.out]
      exact ⟨rfl, b1.trans (b3.mono b1.size)⟩
    · have hr : inR k 0 ((n : Int) - 1) = false := by simp [inR]; omega
      have E : Hid (dayF xs k = (0, 2)) := by simp [Hid, dayF, hv, hl, hr]
      have hw := fun W => within_any k 0 ((n : Int) - 1) W
      rw [hr] at hw
      have n0 : (0 : Int) ≤ (n : Int) := by omega
      have n1 : (n : Int) ≤ 2000000 := by omega
      rw [hv] at hc
      clear hv hx hl hk hr
      go_enter Tryd.func19, Tryd.ntmps19
      go_wp2_with fail
      refine hc.mono ?_
      rintro r w1 ⟨rfl, b1⟩
      clear hc
      go_wp2_with fail
      refine (hw _).mono ?_
      rintro r w2 ⟨rfl, e⟩
      replace e := e.symm
      subst e
      clear hw
      go_wp2_with fail
      go_ret2
      rw [E.out]
      exact ⟨rfl, b1⟩
set_option maxHeartbeats 2000000 in
theorem specDueDay_any (A : Option Addr) (n c : Nat) (xs : List Point) (k : Int) (w : World) (B : Nat) (hB : B ≤ w.heap.size) (hn : n ≤ 2000000) (hx : Sl w B 2 encPoint A n xs) :
    Calls Tryd.prog 20 #[.slice A n c, .int .i64 k] w (numP w (dayF xs k)) := by
  have hc := l19OkB_any A n c xs w B hB hn hx
  have hl := hx.len
  cases hv : validPts xs with
  | false =>
    have E : Hid (dayF xs k = (0, 1)) := by simp [Hid, dayF, hv]
    rw [hv] at hc
    clear hv hx hl
    go_enter Tryd.func20, Tryd.ntmps20
    go_wp2_with fail
    refine hc.mono ?_
    rintro r w1 ⟨rfl, b1⟩
    clear hc
    go_wp2_with fail
    go_ret2
    rw [E.out]
    exact ⟨rfl, b1⟩
  | true =>
    have hn30 := validPts_len hv
    by_cases hk : 0 ≤ k ∧ k ≤ (n : Int) - 1
    · obtain ⟨j, rfl⟩ : ∃ j : Nat, k = j := ⟨k.toNat, by omega⟩
      have hjn : j < n := by omega
      have hr : inR (j : Int) 0 ((n : Int) - 1) = true := by simp [inR]; omega
      have E0 : dayF xs j = (dueD (pAt xs j), 0) := by simp only [dayF, hv, if_true, hl, hr, Int.toNat_natCast]
      have hw := fun W => l00In_any (j : Int) 0 ((n : Int) - 1) W
      rw [hr] at hw
      obtain ⟨x0, x1, b, off, Hx, rfl, hbB, c0, c1⟩ := hx.atPoint hjn
      have hpt := okPoint_at hv Hx.out
      simp only at hpt
      have E : Hid (dayF xs j = (dueD ⟨x0, x1⟩, 0)) := by rw [Hid, E0, pAt_of Hx.out]
      have i0 : (0 : Int) ≤ (j : Int) := by omega
      have i1 : (j : Int) < (n : Int) := by omega
      have n0 : (0 : Int) ≤ (n : Int) := by omega
      have n1 : (n : Int) ≤ 2000000 := by omega
      rw [hv] at hc
      clear hv hx hl hk hr E0
      go_enter Tryd.func20, Tryd.ntmps20
      go_wp2_with fail
      refine hc.mono ?_
      rintro r w1 ⟨rfl, b1⟩
      clear hc
      replace c0 := below_cell c0 b1
      replace c1 := below_cell c1 b1
      go_wp2_with fail
      refine (hw _).mono ?_
      rintro r w2 ⟨rfl, e⟩
      replace e := e.symm
      subst e
      clear hw
      go_wp2_with fail
      refine (l19Due_any b (off + j * 2) x0 x1 _ c0 c1 (by omega) (by omega)).mono ?_
      rintro r w3 ⟨rfl, b3⟩
      generalize dueD ⟨x0, x1⟩ = d at E
      go_wp2_with fail
      go_ret2
      rw [E.out]
      exact ⟨rfl, b1.trans (b3.mono b1.size)⟩
    · have hr : inR k 0 ((n : Int) - 1) = false := by simp [inR]; omega
      have E : Hid (dayF xs k = (0, 2)) := by simp [Hid, dayF, hv, hl, hr]
      have hw := fun W => l00In_any k 0 ((n : Int) - 1) W
      rw [hr] at hw
      have n0 : (0 : Int) ≤ (n : Int) := by omega
      have n1 : (n : Int) ≤ 2000000 := by omega
      rw [hv] at hc
      clear hv hx hl hk hr
      go_enter Tryd.func20, Tryd.ntmps20
      go_wp2_with fail
      refine hc.mono ?_
      rintro r w1 ⟨rfl, b1⟩
      clear hc
      go_wp2_with fail
      refine (hw _).mono ?_
      rintro r w2 ⟨rfl, e⟩
      replace e := e.symm
      subst e
      clear hw
      go_wp2_with fail
      go_ret2
      rw [E.out]
      exact ⟨rfl, b1⟩
set_option maxHeartbeats 4000000 in
theorem implLateBy_any (A : Option Addr) (n c : Nat) (xs : List Point) (day : Int) (w : World) (B : Nat) (hB : B ≤ w.heap.size) (hn : n ≤ 2000000) (hx : Sl w B 2 encPoint A n xs) :
    Calls Tryd.prog 8 #[.slice A n c, .int .i64 day] w (numP w (lateF xs day)) := by
  have hc := pointsCode_any A n c xs day w B hB hn hx
  have hl := hx.len
  by_cases h0 : codeP xs day = 0
  · have E : Hid (lateF xs day = (lateK xs day n, 0)) := by simp [Hid, lateF, h0, hl]
    obtain ⟨hv, hd⟩ := codeP_zero h0
    have hd2 : 0 ≤ day ∧ day ≤ 100000 := by simpa [inR] using hd
    have HVL := hid hv
    have hn30 := validPts_len hv
    have hn31 : n ≤ 30 := by omega
    have HX := hid hx
    rw [h0] at hc
    clear h0 hv hd hx hl hn30
    go_enter Tryd.func8, Tryd.ntmps8
    go_wp2_with fail
    refine hc.mono ?_
    rintro r w1 ⟨rfl, b1⟩
    clear hc
    go_wp2_with fail
    go_loopw [7, 18] (fun vs vi wl => ∃ (k : Nat) (s : Int), k ≤ n ∧ vi = .int .i64 k ∧ vs = .int .i64 s ∧ Hid (lateK xs day k = s) ∧ 0 ≤ s ∧ s ≤ 200000 * (k : Int) ∧ Below w.heap.size w wl) (fun _ i _ => n - (intOf i).toNat)
    case atStart => exact ⟨0, 0, Nat.zero_le _, rfl, rfl, hid rfl, by omega, by omega, b1⟩
    case round =>
      obtain ⟨k, s, hk, rfl, rfl, hs, s0, s1, hb⟩ := hrel
      have hbs := hb.size
      by_cases hkn : k < n
      · obtain ⟨x0, x1, b, off, Hx, rfl, hbB, c0, c1⟩ := (HX.out.below (hb.mono hB)).atPoint hkn
        have hpt := okPoint_at HVL.out Hx.out
        simp only at hpt
        have HS : Hid (lateK xs day (k + 1) = s + max (day - dueD ⟨x0, x1⟩) 0) := by rw [Hid, lateK, hs.out, pAt_of Hx.out]
        have hdd : 0 ≤ dueD ⟨x0, x1⟩ ∧ dueD ⟨x0, x1⟩ ≤ 101000 := by simp only [dueD]; omega
        have i0 : (0 : Int) ≤ (k : Int) := by omega
        have i1 : (k : Int) < (n : Int) := by omega
        clear hs Hx
        go_wp2_with fail
        refine (due_any x0 x1 _ (by omega) (by omega)).mono ?_
        rintro r w3 ⟨rfl, b3⟩
        generalize dueD ⟨x0, x1⟩ = d at HS hdd
        have hm : 0 ≤ max (day - d) 0 ∧ max (day - d) 0 ≤ 200000 := by omega
        have hmm := max_sym (day - d)
        have HM := hid hmm
        clear hmm
        have hb3 := (hb.alloc hbs (.cells #[.int .i64 x0, .int .i64 x1] 42)).trans (b3.mono (by simp; omega))
        have HI : Hid (lateK xs day (k + 1) = s + if day - d < 0 then 0 else day - d) := by rw [Hid, HS.out]; split <;> omega
        have hi : 0 ≤ (if day - d < 0 then 0 else day - d) ∧ (if day - d < 0 then 0 else day - d) ≤ 200000 := by split <;> omega
        generalize hq : (if day - d < 0 then 0 else day - d) = q0 at HI hi
        have HQ := hid hq
        clear hq
        go_wp2_with fail
        rw [HQ.out]
        go_roundw
        all_goals first
          | exact ⟨k + 1, _, by omega, by go_num, rfl, HI.out, by omega, by omega, hb3⟩
          | exact ⟨⟨k + 1, _, by omega, by go_num, rfl, HI.out, by omega, by omega, hb3⟩, by simp [intOf]; omega⟩
          | (simp [intOf]; omega)
      · obtain rfl : n = k := by omega
        rw [hs.out] at E
        clear hs
        go_wp2_with fail
        go_ret2
        rw [E.out]
        exact ⟨rfl, hb⟩
  · have E : Hid (lateF xs day = (0, codeP xs day)) := by simp [Hid, lateF, h0]
    generalize codeP xs day = z at hc h0 E
    have z1 : (z == 0) = false := by simpa using h0
    have z2 : (z != 0) = true := by simpa using h0
    clear hx hl h0
    go_enter Tryd.func8, Tryd.ntmps8
    go_wp2_with fail
    refine hc.mono ?_
    rintro r w1 ⟨rfl, b1⟩
    clear hc
    go_wp2_with fail
    go_ret2
    rw [E.out]
    exact ⟨rfl, b1⟩
set_option maxHeartbeats 4000000 in
theorem specLateBy_any (A : Option Addr) (n c : Nat) (xs : List Point) (day : Int) (w : World) (B : Nat) (hB : B ≤ w.heap.size) (hn : n ≤ 2000000) (hx : Sl w B 2 encPoint A n xs) :
    Calls Tryd.prog 9 #[.slice A n c, .int .i64 day] w (numP w (lateF xs day)) := by
  have hc := l19CodeB_any A n c xs day w B hB hn hx
  have hl := hx.len
  by_cases h0 : codeP xs day = 0
  · have E : Hid (lateF xs day = (lateK xs day n, 0)) := by simp [Hid, lateF, h0, hl]
    obtain ⟨hv, hd⟩ := codeP_zero h0
    have hd2 : 0 ≤ day ∧ day ≤ 100000 := by simpa [inR] using hd
    have HVL := hid hv
    have hn30 := validPts_len hv
    have hn31 : n ≤ 30 := by omega
    have HX := hid hx
    rw [h0] at hc
    clear h0 hv hd hx hl hn30
    go_enter Tryd.func9, Tryd.ntmps9
    go_wp2_with fail
    refine hc.mono ?_
    rintro r w1 ⟨rfl, b1⟩
    clear hc
    go_wp2_with fail
    go_loopw [7, 8] (fun vs vi wl => ∃ (k : Nat) (s : Int), k ≤ n ∧ vi = .int .i64 k ∧ vs = .int .i64 s ∧ Hid (lateK xs day k = s) ∧ 0 ≤ s ∧ s ≤ 200000 * (k : Int) ∧ Below w.heap.size w wl) (fun _ i _ => n - (intOf i).toNat)
    case atStart => exact ⟨0, 0, Nat.zero_le _, rfl, rfl, hid rfl, by omega, by omega, b1⟩
    case round =>
      obtain ⟨k, s, hk, rfl, rfl, hs, s0, s1, hb⟩ := hrel
      have hbs := hb.size
      by_cases hkn : k < n
      · obtain ⟨x0, x1, b, off, Hx, rfl, hbB, c0, c1⟩ := (HX.out.below (hb.mono hB)).atPoint hkn
        have hpt := okPoint_at HVL.out Hx.out
        simp only at hpt
        have HS : Hid (lateK xs day (k + 1) = s + max (day - dueD ⟨x0, x1⟩) 0) := by rw [Hid, lateK, hs.out, pAt_of Hx.out]
        have hdd : 0 ≤ dueD ⟨x0, x1⟩ ∧ dueD ⟨x0, x1⟩ ≤ 101000 := by simp only [dueD]; omega
        have i0 : (0 : Int) ≤ (k : Int) := by omega
        have i1 : (k : Int) < (n : Int) := by omega
        clear hs Hx
        go_wp2_with fail
        refine (l19Due_any b (off + k * 2) x0 x1 _ c0 c1 (by omega) (by omega)).mono ?_
        rintro r w3 ⟨rfl, b3⟩
        generalize dueD ⟨x0, x1⟩ = d at HS hdd
        have hm : 0 ≤ max (day - d) 0 ∧ max (day - d) 0 ≤ 200000 := by omega
        have hmm := max_sym (day - d)
        have HM := hid hmm
        clear hmm
        have hb3 := hb.trans (b3.mono hbs)
        go_wp2_with fail
        refine (l00Max_any 0 (day - d) _).mono ?_
        rintro r w4 ⟨rfl, e⟩
        replace e := e.symm
        subst e
        rw [← HM.out] at HS
        have hmx : 0 ≤ max 0 (day - d) ∧ max 0 (day - d) ≤ 200000 := by omega
        clear hm HM
        generalize max 0 (day - d) = mx at hmx HS ⊢
        go_wp2_with fail
        go_roundw
        all_goals first
          | exact ⟨k + 1, _, by omega, by go_num, rfl, HS.out, by omega, by omega, hb3⟩
          | exact ⟨⟨k + 1, _, by omega, by go_num, rfl, HS.out, by omega, by omega, hb3⟩, by simp [intOf]; omega⟩
          | (simp [intOf]; omega)
      · obtain rfl : n = k := by omega
        rw [hs.out] at E
        clear hs
        go_wp2_with fail
        go_ret2
        rw [E.out]
        exact ⟨rfl, hb⟩
  · have E : Hid (lateF xs day = (0, codeP xs day)) := by simp [Hid, lateF, h0]
    generalize codeP xs day = z at hc h0 E
    have z1 : (z == 0) = false := by simpa using h0
    have z2 : (z != 0) = true := by simpa using h0
    clear hx hl h0
    go_enter Tryd.func9, Tryd.ntmps9
    go_wp2_with fail
    refine hc.mono ?_
    rintro r w1 ⟨rfl, b1⟩
    clear hc
    go_wp2_with fail
    go_ret2
    rw [E.out]
    exact ⟨rfl, b1⟩
set_option maxHeartbeats 4000000 in
theorem implNextDue_any (A : Option Addr) (n c : Nat) (xs : List Point) (w : World) (B : Nat) (hB : B ≤ w.heap.size) (hn : n ≤ 2000000) (hx : Sl w B 2 encPoint A n xs) :
    Calls Tryd.prog 10 #[.slice A n c] w (numP w (nextF xs)) := by
  have hc := ValidPoints_any A n c xs w B hB hn hx
  have hl := hx.len
  cases hv : validPts xs with
  | false =>
    have E : Hid (nextF xs = (0, 1)) := by simp [Hid, nextF, hv]
    rw [hv] at hc
    clear hv hx hl
    go_enter Tryd.func10, Tryd.ntmps10
    go_wp2_with fail
    refine hc.mono ?_
    rintro r w1 ⟨rfl, b1⟩
    clear hc
    go_wp2_with fail
    go_ret2
    rw [E.out]
    exact ⟨rfl, b1⟩
  | true =>
    have hn30 := validPts_len hv
    have hn31 : n ≤ 30 := by omega
    rw [hv] at hc
    by_cases h0 : n = 0
    · have E : Hid (nextF xs = (0, 3)) := by simp [Hid, nextF, hv, hl, h0]
      have n1 : ((n : Int) == 0) = true := by simp [h0]
      clear hv hx hl h0 hn30
      go_enter Tryd.func10, Tryd.ntmps10
      go_wp2_with fail
      refine hc.mono ?_
      rintro r w1 ⟨rfl, b1⟩
      clear hc
      go_wp2_with fail
      go_ret2
      rw [E.out]
      exact ⟨rfl, b1⟩
    · obtain ⟨y0, y1, yb, yoff, Hy, hA, hyB, k0, k1⟩ := hx.atPoint (i := 0) (by omega)
      have hpt := okPoint_at hv Hy.out
      simp only at hpt
      have E0 : Hid (nextF xs = (minK (dueD ⟨y0, y1⟩) xs n, 0)) := by simp only [Hid, nextF, hv, if_true, hl, if_neg h0, pAt_of Hy.out]
      have n1 : ((n : Int) == 0) = false := by rw [beq_eq_false_iff_ne]; omega
      have np : 0 < n := by omega
      have npi : (0 : Int) < (n : Int) := by omega
      have nz : ¬ n = 0 := h0
      have hdd : 0 ≤ dueD ⟨y0, y1⟩ ∧ dueD ⟨y0, y1⟩ ≤ 101000 := by simp only [dueD]; omega
      have P0 : Hid (pAt xs 0 = ⟨y0, y1⟩) := pAt_of Hy.out
      have HVL := hid hv
      have HX := hid hx
      subst hA
      simp only [Nat.zero_mul, Nat.add_zero] at k0 k1
      clear hv hx hl h0 hn30 Hy
      go_enter Tryd.func10, Tryd.ntmps10
      go_wp2_with fail
      refine hc.mono ?_
      rintro r w1 ⟨rfl, b1⟩
      clear hc
      replace k0 := below_cell k0 b1
      replace k1 := below_cell k1 b1
      go_wp2_with fail
      refine (due_any y0 y1 _ (by omega) (by omega)).mono ?_
      rintro r w2 ⟨rfl, b2⟩
      have b3 := b1.trans (b2.mono b1.size)
      have P1 : Hid (∀ d, d = dueD ⟨y0, y1⟩ → minK d xs 1 = d) := fun d hd => by simp only [minK, P0.out, hd]; omega
      generalize hd0 : dueD ⟨y0, y1⟩ = d0 at E0 hdd P1
      have P2 : Hid (minK d0 xs 1 = d0) := P1.out d0 rfl
      clear k0 k1 hd0 P0 P1
      go_wp2_with fail
      go_loopw [4, 21] (fun vs vi wl => ∃ (k : Nat) (s : Int), k ≤ n ∧  vi = .int .i64 k ∧ vs = .int .i64 s ∧ Hid (minK d0 xs k = s) ∧ 0 ≤ s ∧ s ≤ 101000 ∧ Below w.heap.size w wl) (fun _ i _ => n - (intOf i).toNat)
      case atStart => exact ⟨0, d0, Nat.zero_le _, rfl, rfl, hid rfl, by omega, by omega, b3⟩
      case round =>
        obtain ⟨k, s, hk,  rfl, rfl, hs, s0, s1, hb⟩ := hrel
        have hbs := hb.size
        by_cases hkn : k < n
        · obtain ⟨x0, x1, b, off, Hx, hA2, hbB, c0, c1⟩ := (HX.out.below (hb.mono hB)).atPoint hkn
          simp only [Option.some.injEq, Addr.mk.injEq] at hA2
          obtain ⟨rfl, rfl, _⟩ := hA2
          have hpt2 := okPoint_at HVL.out Hx.out
          simp only at hpt2
          have HS : Hid (minK d0 xs (k + 1) = min s (dueD ⟨x0, x1⟩)) := by rw [Hid, minK, hs.out, pAt_of Hx.out]
          have hd2 : 0 ≤ dueD ⟨x0, x1⟩ ∧ dueD ⟨x0, x1⟩ ≤ 101000 := by simp only [dueD]; omega
          have i0 : (0 : Int) ≤ (k : Int) := by omega
          have i1 : (k : Int) < (n : Int) := by omega
          clear hs Hx
          go_wp2_with fail
          refine (due_any x0 x1 _ (by omega) (by omega)).mono ?_
          rintro r w3 ⟨rfl, b4⟩
          generalize dueD ⟨x0, x1⟩ = d at HS hd2
          have hb5 := (hb.alloc hbs (.cells #[.int .i64 x0, .int .i64 x1] 42)).trans (b4.mono (by simp; omega))
          have HI : Hid (minK d0 xs (k + 1) = if d < s then d else s) := by rw [Hid, HS.out]; split <;> omega
          have hi : 0 ≤ (if d < s then d else s) ∧ (if d < s then d else s) ≤ 101000 := by split <;> omega
          generalize hq : (if d < s then d else s) = q0 at HI hi
          have HQ := hid hq
          clear hq
          go_wp2_with fail
          rw [HQ.out]
          go_roundw
          all_goals first
            | exact ⟨k + 1, _, by omega, by go_num, rfl, HI.out, by omega, by omega, hb5⟩
            | exact ⟨⟨k + 1, _, by omega, by go_num, rfl, HI.out, by omega, by omega, hb5⟩, by simp [intOf]; omega⟩
            | (simp [intOf]; omega)
        · obtain rfl : n = k := by omega
          rw [hs.out] at E0
          clear hs
          go_wp2_with fail
          go_ret2
          rw [E0.out]
          exact ⟨rfl, hb⟩
set_option maxHeartbeats 4000000 in
theorem specNextDue_any (A : Option Addr) (n c : Nat) (xs : List Point) (w : World) (B : Nat) (hB : B ≤ w.heap.size) (hn : n ≤ 2000000) (hx : Sl w B 2 encPoint A n xs) :
    Calls Tryd.prog 11 #[.slice A n c] w (numP w (nextF xs)) := by
  have hc := l19OkB_any A n c xs w B hB hn hx
  have hl := hx.len
  cases hv : validPts xs with
  | false =>
    have E : Hid (nextF xs = (0, 1)) := by simp [Hid, nextF, hv]
    rw [hv] at hc
    clear hv hx hl
    go_enter Tryd.func11, Tryd.ntmps11
    go_wp2_with fail
    refine hc.mono ?_
    rintro r w1 ⟨rfl, b1⟩
    clear hc
    go_wp2_with fail
    go_ret2
    rw [E.out]
    exact ⟨rfl, b1⟩
  | true =>
    have hn30 := validPts_len hv
    have hn31 : n ≤ 30 := by omega
    rw [hv] at hc
    by_cases h0 : n = 0
    · have E : Hid (nextF xs = (0, 3)) := by simp [Hid, nextF, hv, hl, h0]
      have n1 : ((n : Int) == 0) = true := by simp [h0]
      clear hv hx hl h0 hn30
      go_enter Tryd.func11, Tryd.ntmps11
      go_wp2_with fail
      refine hc.mono ?_
      rintro r w1 ⟨rfl, b1⟩
      clear hc
      go_wp2_with fail
      go_ret2
      rw [E.out]
      exact ⟨rfl, b1⟩
    · obtain ⟨y0, y1, yb, yoff, Hy, hA, hyB, k0, k1⟩ := hx.atPoint (i := 0) (by omega)
      have hpt := okPoint_at hv Hy.out
      simp only at hpt
      have E0 : Hid (nextF xs = (minK (dueD ⟨y0, y1⟩) xs n, 0)) := by simp only [Hid, nextF, hv, if_true, hl, if_neg h0, pAt_of Hy.out]
      have n1 : ((n : Int) == 0) = false := by rw [beq_eq_false_iff_ne]; omega
      have np : 0 < n := by omega
      have npi : (0 : Int) < (n : Int) := by omega
      have nz : ¬ n = 0 := h0
      have hdd : 0 ≤ dueD ⟨y0, y1⟩ ∧ dueD ⟨y0, y1⟩ ≤ 101000 := by simp only [dueD]; omega
      have P0 : Hid (pAt xs 0 = ⟨y0, y1⟩) := pAt_of Hy.out
      have HVL := hid hv
      have HX := hid hx
      subst hA
      simp only [Nat.zero_mul, Nat.add_zero] at k0 k1
      clear hv hx hl h0 hn30 Hy
      go_enter Tryd.func11, Tryd.ntmps11
      go_wp2_with fail
      refine hc.mono ?_
      rintro r w1 ⟨rfl, b1⟩
      clear hc
      replace k0 := below_cell k0 b1
      replace k1 := below_cell k1 b1
      go_wp2_with fail
      refine (l19Due_any yb yoff y0 y1 _ k0 k1 (by omega) (by omega)).mono ?_
      rintro r w2 ⟨rfl, b2⟩
      have b3 := b1.trans (b2.mono b1.size)
      have P1 : Hid (∀ d, d = dueD ⟨y0, y1⟩ → minK d xs 1 = d) := fun d hd => by simp only [minK, P0.out, hd]; omega
      generalize hd0 : dueD ⟨y0, y1⟩ = d0 at E0 hdd P1
      have P2 : Hid (minK d0 xs 1 = d0) := P1.out d0 rfl
      clear k0 k1 hd0 P0 P1
      go_wp2_with fail
      go_loopw [4, 5] (fun vs vi wl => ∃ (k : Nat) (s : Int), k ≤ n ∧ 1 ≤ k ∧ vi = .int .i64 k ∧ vs = .int .i64 s ∧ Hid (minK d0 xs k = s) ∧ 0 ≤ s ∧ s ≤ 101000 ∧ Below w.heap.size w wl) (fun _ i _ => n - (intOf i).toNat)
      case atStart => exact ⟨1, d0, by omega, Nat.le_refl _, rfl, rfl, P2, by omega, by omega, b3⟩
      case round =>
        obtain ⟨k, s, hk, hk1, rfl, rfl, hs, s0, s1, hb⟩ := hrel
        have hbs := hb.size
        by_cases hkn : k < n
        · obtain ⟨x0, x1, b, off, Hx, hA2, hbB, c0, c1⟩ := (HX.out.below (hb.mono hB)).atPoint hkn
          simp only [Option.some.injEq, Addr.mk.injEq] at hA2
          obtain ⟨rfl, rfl, _⟩ := hA2
          have hpt2 := okPoint_at HVL.out Hx.out
          simp only at hpt2
          have HS : Hid (minK d0 xs (k + 1) = min s (dueD ⟨x0, x1⟩)) := by rw [Hid, minK, hs.out, pAt_of Hx.out]
          have hd2 : 0 ≤ dueD ⟨x0, x1⟩ ∧ dueD ⟨x0, x1⟩ ≤ 101000 := by simp only [dueD]; omega
          have i0 : (0 : Int) ≤ (k : Int) := by omega
          have i1 : (k : Int) < (n : Int) := by omega
          clear hs Hx
          go_wp2_with fail
          refine (l19Due_any yb (yoff + k * 2) x0 x1 _ c0 c1 (by omega) (by omega)).mono ?_
          rintro r w3 ⟨rfl, b4⟩
          generalize dueD ⟨x0, x1⟩ = d at HS hd2
          have hb5 := hb.trans (b4.mono hbs)
          go_wp2_with fail
          refine (l00Min_any s d _).mono ?_
          rintro r w4 ⟨rfl, e⟩
          replace e := e.symm
          subst e
          have hmx : 0 ≤ min s d ∧ min s d ≤ 101000 := by omega
          generalize min s d = mx at hmx HS ⊢
          go_wp2_with fail
          go_roundw
          all_goals first
            | exact ⟨k + 1, _, by omega, by omega, by go_num, rfl, HS.out, by omega, by omega, hb5⟩
            | exact ⟨⟨k + 1, _, by omega, by omega, by go_num, rfl, HS.out, by omega, by omega, hb5⟩, by simp [intOf]; omega⟩
            | (simp [intOf]; omega)
        · obtain rfl : n = k := by omega
          rw [hs.out] at E0
          clear hs
          go_wp2_with fail
          go_ret2
          rw [E0.out]
          exact ⟨rfl, hb⟩
theorem implSamePoints_any (A : Option Addr) (n c : Nat) (A' : Option Addr) (n' c' : Nat) (xs ys : List Point) (w : World) (B : Nat) (hB : B ≤ w.heap.size) (hn : n ≤ 2000000) (hn' : n' ≤ 2000000) (hx : Sl w B 2 encPoint A n xs) (hy : Sl w B 2 encPoint A' n' ys) :
    Calls Tryd.prog 25 #[.slice A n c, .slice A' n' c'] w fun r w' => r = .returned (.bool (samePts xs ys)) ∧ Below w.heap.size w w' := by
  have hc := equalPoint_any A n c A' n' c' xs ys w B hB hn hn' hx hy
  clear hx hy
  rw [show decide (xs = ys) = samePts xs ys from rfl] at hc
  generalize samePts xs ys = q at hc
  go_enter Tryd.func25, Tryd.ntmps25
  go_wp2_with fail
  refine hc.mono ?_
  rintro r w1 ⟨rfl, b1⟩
  clear hc
  go_wp2_with fail
  go_ret
  exact ⟨rfl, b1⟩
theorem specSamePoints_any (A : Option Addr) (n c : Nat) (A' : Option Addr) (n' c' : Nat) (xs ys : List Point) (w : World) (B : Nat) (hB : B ≤ w.heap.size) (hn : n ≤ 2000000) (hn' : n' ≤ 2000000) (hx : Sl w B 2 encPoint A n xs) (hy : Sl w B 2 encPoint A' n' ys) :
    Calls Tryd.prog 24 #[.slice A n c, .slice A' n' c'] w fun r w' => r = .returned (.bool (samePts xs ys)) ∧ Below w.heap.size w w' := by
  have hxl := hx.len
  have hyl := hy.len
  by_cases hnn : n = n'
  · subst hnn
    go_enter Tryd.func24, Tryd.ntmps24
    go_wp2
    go_loopw [5] (fun i w1 => ∃ k : Nat, k ≤ n ∧ i = .int .i64 k ∧ Hid ((xs = ys) = (xs.drop k = ys.drop k)) ∧ Below w.heap.size w w1) (fun i _ => n - (intOf i).toNat)
    case atStart => exact ⟨0, Nat.zero_le _, rfl, hid rfl, Below.refl _ _⟩
    case round =>
      obtain ⟨k, hk, rfl, he, hb⟩ := hrel
      by_cases hlt : k < n
      · obtain ⟨x0, x1, b, off, Hx, rfl, hbB, c0, c1⟩ := (hx.below (hb.mono hB)).atPoint hlt
        obtain ⟨y0, y1, b', off', Hy, rfl, hbB', d0, d1⟩ := (hy.below (hb.mono hB)).atPoint hlt
        have he2 := he.out
        rw [drop_at Hx.out, drop_at Hy.out, firstPoint] at he2
        have lb : b < wr.heap.size := by have := hb.size; omega
        have lb' : b' < wr.heap.size := by have := hb.size; omega
        have i0 : (0 : Int) ≤ (k : Int) := by omega
        have i1 : (k : Int) < (n : Int) := by omega
        clear he hx hy Hx Hy
        rcases diffPoint x0 y0 x1 y1 with ⟨rfl, rfl⟩ | q | ⟨rfl, q⟩
        · have He2 : Hid ((xs = ys) = (xs.drop (k + 1) = ys.drop (k + 1))) := by rw [he2]; simp [Hid]
          clear he2
          go_wp2
          go_quiet (fail)
          go_wp2
          have hb2 := below_drewN hb nq
          go_roundw
          all_goals first | exact ⟨k + 1, by omega, by go_num, He2, hb2⟩ | exact ⟨⟨k + 1, by omega, by go_num, He2, hb2⟩, by simp [intOf]; omega⟩ | (simp [intOf]; omega)
        · have He2 : Hid (samePts xs ys = false) := by rw [Hid, samePts, decide_eq_false_iff_not, he2]; intro h; exact q h.1.1
          have q1 : (x0 == y0) = false := by simpa using q
          clear he2
          go_wp2
          go_quiet (fail)
          go_wp2
          go_ret
          exact ⟨retB He2.out.symm, below_drewN hb nq⟩
        · have He2 : Hid (samePts xs ys = false) := by rw [Hid, samePts, decide_eq_false_iff_not, he2]; intro h; exact q h.1.2
          have q1 : (x1 == y1) = false := by simpa using q
          clear he2
          go_wp2
          go_quiet (fail)
          go_wp2
          go_ret
          exact ⟨retB He2.out.symm, below_drewN hb nq⟩
      · obtain rfl : n = k := by omega
        have He2 : Hid (samePts xs ys = true) := by rw [Hid, samePts, decide_eq_true_eq, he.out, List.drop_of_length_le (by omega), List.drop_of_length_le (by omega)]
        clear he hx hy
        go_wp2
        go_ret
        exact ⟨retB He2.out.symm, hb⟩
  · have He2 : Hid (samePts xs ys = false) := by rw [Hid, samePts, decide_eq_false_iff_not]; intro h; rw [h] at hxl; omega
    have q1 : ((n : Int) == (n' : Int)) = false := by rw [beq_eq_false_iff_ne]; omega
    have q2 : ((n : Int) != (n' : Int)) = true := by rw [bne_iff_ne]; omega
    clear hx hy
    go_enter Tryd.func24, Tryd.ntmps24
    go_wp2
    go_ret
    exact ⟨retB He2.out.symm, Below.refl _ _⟩
end Go.Proofs.YtehjfajmnciiaaaDoor
