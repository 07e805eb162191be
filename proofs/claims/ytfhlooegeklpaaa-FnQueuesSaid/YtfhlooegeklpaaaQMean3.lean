/-
  MeanWait: both sides. No condition.
-/
import Derived.Test.YtfhlooegeklpaaaQMean2
namespace Go.Proofs.Ytfhlooegeklpaaa
open Go.RowKit
set_option maxHeartbeats 400000

/-- the sum of the waits of a class, and how many there are, among the first k -/
def clS (cl : Int) (xs : List Item) (ws : List Int) : Nat → Int × Nat
  | 0 => (0, 0)
  | k + 1 => match xs[k]?, ws[k]? with
    | some x, some z => if x.c = cl then ((clS cl xs ws k).1 + z, (clS cl xs ws k).2 + 1) else clS cl xs ws k
    | _, _ => clS cl xs ws k
theorem clS_yes {cl : Int} {xs : List Item} {ws : List Int} {k : Nat} {x : Item} {z : Int} (hx : xs[k]? = some x) (hz : ws[k]? = some z) (h : x.c = cl) : clS cl xs ws (k + 1) = ((clS cl xs ws k).1 + z, (clS cl xs ws k).2 + 1) := by simp [clS, hx, hz, h]
theorem clS_no {cl : Int} {xs : List Item} {ws : List Int} {k : Nat} {x : Item} {z : Int} (hx : xs[k]? = some x) (hz : ws[k]? = some z) (h : ¬ x.c = cl) : clS cl xs ws (k + 1) = clS cl xs ws k := by simp [clS, hx, hz, h]
def meanF (xs : List Item) (cl : Int) : (Int × Int) × Int :=
  if validQ xs then if inR cl 0 9 then if (clS cl xs (waitsQ xs) xs.length).2 = 0 then ((0, 0), 3) else (lowF (clS cl xs (waitsQ xs) xs.length).1 (clS cl xs (waitsQ xs) xs.length).2, 0) else ((0, 0), 2) else ((0, 0), 1)
def MPost (w : World) (R : (Int × Int) × Int) (r : Ending) (w' : World) : Prop :=
  r = .returned (.tuple #[.agg #[.int .i64 R.1.1, .int .i64 R.1.2], .int .i64 R.2]) ∧ Below w.heap.size w w'
theorem waits_at {xs : List Item} (hv : validQ xs = true) {k : Nat} (hk : k < xs.length) : ∃ z, (waitsQ xs)[k]? = some z ∧ -10000 ≤ z ∧ z ≤ 22000 := by
  obtain ⟨s, hs, h0, h1⟩ := starts_at hv hk
  have hx := List.getElem?_eq_getElem hk
  have hb := validQ_item hv hx
  exact ⟨_, waitsQ_at hx hs, by omega, by omega⟩

set_option maxHeartbeats 4000000 in
set_option maxRecDepth 100000 in
theorem implMeanWait_any (A : Option Addr) (n c : Nat) (xs : List Item) (cl : Int) (w : World) (B : Nat) (hB : B ≤ w.heap.size) (hn : n ≤ 2000000) (hx : Sl w B 3 encItem A n xs) :
    Calls Try.prog 9 #[.slice A n c, .int .i64 cl] w (MPost w (meanF xs cl)) := by
  obtain ⟨W0, hW0⟩ : ∃ W0, W0 = w.alloc (.cells #[.int .i64 0, .int .i64 0] 25) := ⟨_, rfl⟩
  have b0 : Below w.heap.size w W0 := by rw [hW0]; exact (Below.refl _ _).alloc (Nat.le_refl _) _
  have d0 : W0.cell? ⟨w.heap.size, 0, none⟩ = some (.int .i64 0) := by rw [hW0]; go_simp
  have d1 : W0.cell? ⟨w.heap.size, 1, none⟩ = some (.int .i64 0) := by rw [hW0]; go_simp
  have f0 : W0.frozen? ⟨w.heap.size, 0, none⟩ = false := by rw [hW0]; go_simp
  have f1 : W0.frozen? ⟨w.heap.size, 1, none⟩ = false := by rw [hW0]; go_simp
  have HW := hid hW0
  clear hW0
  have hx0 := hx.below (b0.mono hB)
  have hc := ValidQueue_any A n c xs W0 B (Nat.le_trans hB b0.size) hn hx0
  have hi := fun W => within_any cl 0 9 W
  have Ln := hid hx.len
  clear hx
  -- what a return without a fraction leaves
  have fin : ∀ (w1 : World) (z : Int), Below W0.heap.size W0 w1 → Below w.heap.size w ((w1.setCell ⟨w.heap.size, 0, none⟩ (.int .i64 0)).setCell ⟨w.heap.size, 1, none⟩ (.int .i64 0)) := fun w1 z h => (((b0.trans (h.mono b0.size)).setCell (by simp) _).setCell (by simp) _)
  have frz : ∀ (w1 : World), Below W0.heap.size W0 w1 → w1.frozen? ⟨w.heap.size, 0, none⟩ = false ∧ w1.frozen? ⟨w.heap.size, 1, none⟩ = false ∧ w1.cell? ⟨w.heap.size, 0, none⟩ = some (.int .i64 0) ∧ w1.cell? ⟨w.heap.size, 1, none⟩ = some (.int .i64 0) := fun w1 h =>
    ⟨(h.frozen (p := ⟨w.heap.size, 0, none⟩) (World.block_lt_of_cell? _ _ d0)).trans f0, (h.frozen (p := ⟨w.heap.size, 1, none⟩) (World.block_lt_of_cell? _ _ d1)).trans f1, below_cell d0 h, below_cell d1 h⟩
  have FIN := hid fin
  have FRZ := hid frz
  clear fin frz d0 d1 f0 f1
  cases hv : validQ xs with
  | false =>
    have E : Hid (meanF xs cl = ((0, 0), 1)) := by simp [Hid, meanF, hv]
    rw [hv] at hc
    clear hx0 hv
    go_enter Try.func9, Try.ntmps9
    go_wp2_with fail
    rw [← HW.out]
    refine hc.mono ?_
    rintro r w1 ⟨rfl, b1⟩
    obtain ⟨f0, f1, d0, d1⟩ := FRZ.out w1 b1
    have hF := FIN.out w1 0 b1
    go_wp2_with fail
    have k0 : (w1.setCell ⟨w.heap.size, 0, none⟩ (.int .i64 0)).cell? ⟨w.heap.size, 0, none⟩ = some (.int .i64 0) := by go_simp
    have k1 : ((w1.setCell ⟨w.heap.size, 0, none⟩ (.int .i64 0)).setCell ⟨w.heap.size, 1, none⟩ (.int .i64 0)).cell? ⟨w.heap.size, 1, none⟩ = some (.int .i64 0) := by go_simp
    rw [E.out]
    exact bodyPost_ret (v := .tuple #[.agg #[.int .i64 0, .int .i64 0], .int .i64 1]) (by simp [results, Try.results9, go_sem, k0, k1]) rfl ⟨rfl, hF⟩
  | true =>
    rw [hv] at hc
    cases hr : inR cl 0 9 with
    | false =>
      have E : Hid (meanF xs cl = ((0, 0), 2)) := by simp [Hid, meanF, hv, hr]
      rw [hr] at hi
      clear hx0 hv hr
      go_enter Try.func9, Try.ntmps9
      go_wp2_with fail
      rw [← HW.out]
      refine hc.mono ?_
      rintro r w1 ⟨rfl, b1⟩
      obtain ⟨f0, f1, d0, d1⟩ := FRZ.out w1 b1
      have hF := FIN.out w1 0 b1
      go_wp2_with fail
      refine (hi _).mono ?_
      rintro r w2 ⟨rfl, e⟩
      replace e := e.symm
      subst e
      go_wp2_with fail
      have k0 : (w1.setCell ⟨w.heap.size, 0, none⟩ (.int .i64 0)).cell? ⟨w.heap.size, 0, none⟩ = some (.int .i64 0) := by go_simp
      have k1 : ((w1.setCell ⟨w.heap.size, 0, none⟩ (.int .i64 0)).setCell ⟨w.heap.size, 1, none⟩ (.int .i64 0)).cell? ⟨w.heap.size, 1, none⟩ = some (.int .i64 0) := by go_simp
      rw [E.out]
      exact bodyPost_ret (v := .tuple #[.agg #[.int .i64 0, .int .i64 0], .int .i64 2]) (by simp [results, Try.results9, go_sem, k0, k1]) rfl ⟨rfl, hF⟩
    | true =>
      have EM : Hid (meanF xs cl = if (clS cl xs (waitsQ xs) n).2 = 0 then ((0, 0), 3) else (lowF (clS cl xs (waitsQ xs) n).1 (clS cl xs (waitsQ xs) n).2, 0)) := by rw [Hid, meanF, hv, hr, Ln.out]; rfl
      have hn12 : n ≤ 12 := by have := validQ_len hv; have := Ln.out; omega
      rw [hr] at hi
      have hw := fun (W : World) (h : Below W0.heap.size W0 W) => waits_any A n c xs W B (Nat.le_trans (Nat.le_trans hB b0.size) h.size) (hx0.below (h.mono (Nat.le_trans hB b0.size))) hv
      have HV := hid hv
      have HX := hid hx0
      clear hx0 hv hr
      go_enter Try.func9, Try.ntmps9
      go_wp2_with fail
      rw [← HW.out]
      refine hc.mono ?_
      rintro r w1 ⟨rfl, b1⟩
      go_wp2_with fail
      refine (hi _).mono ?_
      rintro r w2 ⟨rfl, e⟩
      replace e := e.symm
      subst e
      go_wp2_with fail
      refine (hw _ b1).mono ?_
      rintro r w3 ⟨As, cs, rfl, o3, b3⟩
      have hb3 := b1.trans (b3.mono b1.size)
      have hs := own_sl encI_len (by omega) o3
      go_wp2_with fail
      go_loop [6, 7, 8, 9, 23] (fun S C _ _ i => ∃ (k : Nat) (s : Int) (q : Nat), k ≤ n ∧ q ≤ k ∧ -10000 * (k : Int) ≤ s ∧ s ≤ 22000 * (k : Int) ∧ S = .int .i64 s ∧ C = .int .i64 q ∧ i = .int .i64 k ∧ Hid (clS cl xs (waitsQ xs) k = (s, q))) (fun _ _ _ _ i => n - (intOf i).toNat)
      case atStart => exact ⟨0, 0, 0, Nat.zero_le _, Nat.zero_le _, by omega, by omega, rfl, rfl, rfl, hid rfl⟩
      case round =>
        obtain ⟨k, s, q, hk, hqk, s0, s1, rfl, rfl, rfl, he⟩ := hrel
        by_cases hlt : k < n
        · obtain ⟨x, y, z, b, off, Hy, rfl, hbB, c0, c1, c2⟩ := (HX.out.below (hb3.mono (Nat.le_trans hB b0.size))).item hlt
          obtain ⟨v, bs, os, Hv, rfl, hbs, e0⟩ := hs.int hlt
          have hvb : -10000 ≤ v ∧ v ≤ 22000 := by
            obtain ⟨v2, h1, h2, h3⟩ := waits_at HV.out (k := k) (by have := Ln.out; omega)
            have h4 := Hv.out
            rw [h1] at h4
            injection h4 with h4
            omega
          obtain ⟨v0, v1⟩ := hvb
          have i0 : (0 : Int) ≤ (k : Int) := by omega
          have i1 : (k : Int) < (n : Int) := by omega
          by_cases hz : z = cl
          · have HE : Hid (clS cl xs (waitsQ xs) (k + 1) = (s + v, q + 1)) := by rw [Hid, clS_yes Hy.out Hv.out hz, he.out]
            have z1 : (z == cl) = true := by simpa using hz
            clear he hz
            go_wp2_with fail
            go_round
            case rel => exact ⟨k + 1, s + v, q + 1, by omega, by omega, by omega, by omega, by go_num, by go_num, by go_num, HE⟩
            case measure => simp [intOf]; omega
          · have HE : Hid (clS cl xs (waitsQ xs) (k + 1) = (s, q)) := by rw [Hid, clS_no Hy.out Hv.out hz, he.out]
            have z1 : (z == cl) = false := by simpa using hz
            clear he hz
            go_wp2_with fail
            go_round
            case rel => exact ⟨k + 1, s, q, by omega, by omega, by omega, by omega, by go_num, by go_num, by go_num, HE⟩
            case measure => simp [intOf]; omega
        · have hkn : k = n := by omega
          subst hkn
          by_cases hq0 : q = 0
          · subst hq0
            have E : Hid (meanF xs cl = ((0, 0), 3)) := by rw [Hid, EM.out, he.out]; rfl
            obtain ⟨f0, f1, d0, d1⟩ := FRZ.out w3 hb3
            have hF := FIN.out w3 0 hb3
            clear he
            go_wp2_with fail
            have k0 : (w3.setCell ⟨w.heap.size, 0, none⟩ (.int .i64 0)).cell? ⟨w.heap.size, 0, none⟩ = some (.int .i64 0) := by go_simp
            have k1 : ((w3.setCell ⟨w.heap.size, 0, none⟩ (.int .i64 0)).setCell ⟨w.heap.size, 1, none⟩ (.int .i64 0)).cell? ⟨w.heap.size, 1, none⟩ = some (.int .i64 0) := by go_simp
            rw [E.out]
            exact bodyPost_ret (v := .tuple #[.agg #[.int .i64 0, .int .i64 0], .int .i64 3]) (by simp [results, Try.results9, go_sem, k0, k1]) rfl ⟨rfl, hF⟩
          · have hlw := lowest_any s q w3 (by omega) (by omega) (by omega)
            have E : Hid (meanF xs cl = (((lowF s q).1, (lowF s q).2), 0)) := by rw [Hid, EM.out, he.out, if_neg hq0]
            generalize (lowF s q).1 = q1 at hlw E
            generalize (lowF s q).2 = q2 at hlw E
            have h0 : ((q : Int) == 0) = false := by simp; omega
            clear he hq0
            go_wp2_with fail
            refine hlw.mono ?_
            rintro r w4 ⟨rfl, b4⟩
            have hb4 := hb3.trans (b4.mono hb3.size)
            obtain ⟨f0, f1, d0, d1⟩ := FRZ.out w4 hb4
            have hF : Below w.heap.size w ((w4.setCell ⟨w.heap.size, 0, none⟩ (.int .i64 q1)).setCell ⟨w.heap.size, 1, none⟩ (.int .i64 q2)) := ((b0.trans (hb4.mono b0.size)).setCell (by simp) _).setCell (by simp) _
            go_wp2_with fail
            have k0 : (w4.setCell ⟨w.heap.size, 0, none⟩ (.int .i64 q1)).cell? ⟨w.heap.size, 0, none⟩ = some (.int .i64 q1) := by go_simp
            have k1 : ((w4.setCell ⟨w.heap.size, 0, none⟩ (.int .i64 q1)).setCell ⟨w.heap.size, 1, none⟩ (.int .i64 q2)).cell? ⟨w.heap.size, 1, none⟩ = some (.int .i64 q2) := by go_simp
            rw [E.out]
            exact bodyPost_ret (v := .tuple #[.agg #[.int .i64 q1, .int .i64 q2], .int .i64 0]) (by simp [results, Try.results9, go_sem, k0, k1]) rfl ⟨rfl, hF⟩
set_option maxHeartbeats 4000000 in
set_option maxRecDepth 100000 in
theorem specMeanWait_any (A : Option Addr) (n c : Nat) (xs : List Item) (cl : Int) (w : World) (B : Nat) (hB : B ≤ w.heap.size) (hn : n ≤ 2000000) (hx : Sl w B 3 encItem A n xs) :
    Calls Try.prog 7 #[.slice A n c, .int .i64 cl] w (MPost w (meanF xs cl)) := by
  obtain ⟨W0, hW0⟩ : ∃ W0, W0 = w.alloc (.cells #[.int .i64 0, .int .i64 0] 25) := ⟨_, rfl⟩
  have b0 : Below w.heap.size w W0 := by rw [hW0]; exact (Below.refl _ _).alloc (Nat.le_refl _) _
  have d0 : W0.cell? ⟨w.heap.size, 0, none⟩ = some (.int .i64 0) := by rw [hW0]; go_simp
  have d1 : W0.cell? ⟨w.heap.size, 1, none⟩ = some (.int .i64 0) := by rw [hW0]; go_simp
  have f0 : W0.frozen? ⟨w.heap.size, 0, none⟩ = false := by rw [hW0]; go_simp
  have f1 : W0.frozen? ⟨w.heap.size, 1, none⟩ = false := by rw [hW0]; go_simp
  have HW := hid hW0
  clear hW0
  have hx0 := hx.below (b0.mono hB)
  have hc := l22Ok_any A n c xs W0 B (Nat.le_trans hB b0.size) hn hx0
  have hi := fun W => l00In_any cl 0 9 W
  have Ln := hid hx.len
  clear hx
  -- what a return without a fraction leaves
  have fin : ∀ (w1 : World) (z : Int), Below W0.heap.size W0 w1 → Below w.heap.size w ((w1.setCell ⟨w.heap.size, 0, none⟩ (.int .i64 0)).setCell ⟨w.heap.size, 1, none⟩ (.int .i64 0)) := fun w1 z h => (((b0.trans (h.mono b0.size)).setCell (by simp) _).setCell (by simp) _)
  have frz : ∀ (w1 : World), Below W0.heap.size W0 w1 → w1.frozen? ⟨w.heap.size, 0, none⟩ = false ∧ w1.frozen? ⟨w.heap.size, 1, none⟩ = false ∧ w1.cell? ⟨w.heap.size, 0, none⟩ = some (.int .i64 0) ∧ w1.cell? ⟨w.heap.size, 1, none⟩ = some (.int .i64 0) := fun w1 h =>
    ⟨(h.frozen (p := ⟨w.heap.size, 0, none⟩) (World.block_lt_of_cell? _ _ d0)).trans f0, (h.frozen (p := ⟨w.heap.size, 1, none⟩) (World.block_lt_of_cell? _ _ d1)).trans f1, below_cell d0 h, below_cell d1 h⟩
  have FIN := hid fin
  have FRZ := hid frz
  clear fin frz d0 d1 f0 f1
  cases hv : validQ xs with
  | false =>
    have E : Hid (meanF xs cl = ((0, 0), 1)) := by simp [Hid, meanF, hv]
    rw [hv] at hc
    clear hx0 hv
    go_enter Try.func7, Try.ntmps7
    go_wp2_with fail
    rw [← HW.out]
    refine hc.mono ?_
    rintro r w1 ⟨rfl, b1⟩
    obtain ⟨f0, f1, d0, d1⟩ := FRZ.out w1 b1
    have hF := FIN.out w1 0 b1
    go_wp2_with fail
    have k0 : (w1.setCell ⟨w.heap.size, 0, none⟩ (.int .i64 0)).cell? ⟨w.heap.size, 0, none⟩ = some (.int .i64 0) := by go_simp
    have k1 : ((w1.setCell ⟨w.heap.size, 0, none⟩ (.int .i64 0)).setCell ⟨w.heap.size, 1, none⟩ (.int .i64 0)).cell? ⟨w.heap.size, 1, none⟩ = some (.int .i64 0) := by go_simp
    rw [E.out]
    exact bodyPost_ret (v := .tuple #[.agg #[.int .i64 0, .int .i64 0], .int .i64 1]) (by simp [results, Try.results7, go_sem, k0, k1]) rfl ⟨rfl, hF⟩
  | true =>
    rw [hv] at hc
    cases hr : inR cl 0 9 with
    | false =>
      have E : Hid (meanF xs cl = ((0, 0), 2)) := by simp [Hid, meanF, hv, hr]
      rw [hr] at hi
      clear hx0 hv hr
      go_enter Try.func7, Try.ntmps7
      go_wp2_with fail
      rw [← HW.out]
      refine hc.mono ?_
      rintro r w1 ⟨rfl, b1⟩
      obtain ⟨f0, f1, d0, d1⟩ := FRZ.out w1 b1
      have hF := FIN.out w1 0 b1
      go_wp2_with fail
      refine (hi _).mono ?_
      rintro r w2 ⟨rfl, e⟩
      replace e := e.symm
      subst e
      go_wp2_with fail
      have k0 : (w1.setCell ⟨w.heap.size, 0, none⟩ (.int .i64 0)).cell? ⟨w.heap.size, 0, none⟩ = some (.int .i64 0) := by go_simp
      have k1 : ((w1.setCell ⟨w.heap.size, 0, none⟩ (.int .i64 0)).setCell ⟨w.heap.size, 1, none⟩ (.int .i64 0)).cell? ⟨w.heap.size, 1, none⟩ = some (.int .i64 0) := by go_simp
      rw [E.out]
      exact bodyPost_ret (v := .tuple #[.agg #[.int .i64 0, .int .i64 0], .int .i64 2]) (by simp [results, Try.results7, go_sem, k0, k1]) rfl ⟨rfl, hF⟩
    | true =>
      have EM : Hid (meanF xs cl = if (clS cl xs (waitsQ xs) n).2 = 0 then ((0, 0), 3) else (lowF (clS cl xs (waitsQ xs) n).1 (clS cl xs (waitsQ xs) n).2, 0)) := by rw [Hid, meanF, hv, hr, Ln.out]; rfl
      have hn12 : n ≤ 12 := by have := validQ_len hv; have := Ln.out; omega
      rw [hr] at hi
      have hw := fun (W : World) (h : Below W0.heap.size W0 W) => l22Waits_any A n c xs W B (Nat.le_trans (Nat.le_trans hB b0.size) h.size) (hx0.below (h.mono (Nat.le_trans hB b0.size))) hv
      have HV := hid hv
      have HX := hid hx0
      clear hx0 hv hr
      go_enter Try.func7, Try.ntmps7
      go_wp2_with fail
      rw [← HW.out]
      refine hc.mono ?_
      rintro r w1 ⟨rfl, b1⟩
      go_wp2_with fail
      refine (hi _).mono ?_
      rintro r w2 ⟨rfl, e⟩
      replace e := e.symm
      subst e
      go_wp2_with fail
      refine (hw _ b1).mono ?_
      rintro r w3 ⟨As, cs, rfl, o3, b3⟩
      have hb3 := b1.trans (b3.mono b1.size)
      have hs := own_sl encI_len (by omega) o3
      go_wp2_with fail
      go_loop [7, 8, 9] (fun S C i => ∃ (k : Nat) (s : Int) (q : Nat), k ≤ n ∧ q ≤ k ∧ -10000 * (k : Int) ≤ s ∧ s ≤ 22000 * (k : Int) ∧ S = .int .i64 s ∧ C = .int .i64 q ∧ i = .int .i64 k ∧ Hid (clS cl xs (waitsQ xs) k = (s, q))) (fun _ _ i => n - (intOf i).toNat)
      case atStart => exact ⟨0, 0, 0, Nat.zero_le _, Nat.zero_le _, by omega, by omega, rfl, rfl, rfl, hid rfl⟩
      case round =>
        obtain ⟨k, s, q, hk, hqk, s0, s1, rfl, rfl, rfl, he⟩ := hrel
        by_cases hlt : k < n
        · obtain ⟨x, y, z, b, off, Hy, rfl, hbB, c0, c1, c2⟩ := (HX.out.below (hb3.mono (Nat.le_trans hB b0.size))).item hlt
          obtain ⟨v, bs, os, Hv, rfl, hbs, e0⟩ := hs.int hlt
          have hvb : -10000 ≤ v ∧ v ≤ 22000 := by
            obtain ⟨v2, h1, h2, h3⟩ := waits_at HV.out (k := k) (by have := Ln.out; omega)
            have h4 := Hv.out
            rw [h1] at h4
            injection h4 with h4
            omega
          obtain ⟨v0, v1⟩ := hvb
          have i0 : (0 : Int) ≤ (k : Int) := by omega
          have i1 : (k : Int) < (n : Int) := by omega
          by_cases hz : z = cl
          · have HE : Hid (clS cl xs (waitsQ xs) (k + 1) = (s + v, q + 1)) := by rw [Hid, clS_yes Hy.out Hv.out hz, he.out]
            have z1 : (z == cl) = true := by simpa using hz
            clear he hz
            go_wp2_with fail
            go_round
            case rel => exact ⟨k + 1, s + v, q + 1, by omega, by omega, by omega, by omega, by go_num, by go_num, by go_num, HE⟩
            case measure => simp [intOf]; omega
          · have HE : Hid (clS cl xs (waitsQ xs) (k + 1) = (s, q)) := by rw [Hid, clS_no Hy.out Hv.out hz, he.out]
            have z1 : (z == cl) = false := by simpa using hz
            clear he hz
            go_wp2_with fail
            go_round
            case rel => exact ⟨k + 1, s, q, by omega, by omega, by omega, by omega, by go_num, by go_num, by go_num, HE⟩
            case measure => simp [intOf]; omega
        · have hkn : k = n := by omega
          subst hkn
          by_cases hq0 : q = 0
          · subst hq0
            have E : Hid (meanF xs cl = ((0, 0), 3)) := by rw [Hid, EM.out, he.out]; rfl
            obtain ⟨f0, f1, d0, d1⟩ := FRZ.out w3 hb3
            have hF := FIN.out w3 0 hb3
            clear he
            go_wp2_with fail
            have k0 : (w3.setCell ⟨w.heap.size, 0, none⟩ (.int .i64 0)).cell? ⟨w.heap.size, 0, none⟩ = some (.int .i64 0) := by go_simp
            have k1 : ((w3.setCell ⟨w.heap.size, 0, none⟩ (.int .i64 0)).setCell ⟨w.heap.size, 1, none⟩ (.int .i64 0)).cell? ⟨w.heap.size, 1, none⟩ = some (.int .i64 0) := by go_simp
            rw [E.out]
            exact bodyPost_ret (v := .tuple #[.agg #[.int .i64 0, .int .i64 0], .int .i64 3]) (by simp [results, Try.results7, go_sem, k0, k1]) rfl ⟨rfl, hF⟩
          · have hlw := l02Make_any s q w3 (by omega) (by omega) (by omega)
            have E : Hid (meanF xs cl = (((lowF s q).1, (lowF s q).2), 0)) := by rw [Hid, EM.out, he.out, if_neg hq0]
            generalize (lowF s q).1 = q1 at hlw E
            generalize (lowF s q).2 = q2 at hlw E
            have h0 : ((q : Int) == 0) = false := by simp; omega
            clear he hq0
            go_wp2_with fail
            refine hlw.mono ?_
            rintro r w4 ⟨rfl, b4⟩
            have hb4 := hb3.trans (b4.mono hb3.size)
            obtain ⟨f0, f1, d0, d1⟩ := FRZ.out w4 hb4
            have hF : Below w.heap.size w ((w4.setCell ⟨w.heap.size, 0, none⟩ (.int .i64 q1)).setCell ⟨w.heap.size, 1, none⟩ (.int .i64 q2)) := ((b0.trans (hb4.mono b0.size)).setCell (by simp) _).setCell (by simp) _
            go_wp2_with fail
            have k0 : (w4.setCell ⟨w.heap.size, 0, none⟩ (.int .i64 q1)).cell? ⟨w.heap.size, 0, none⟩ = some (.int .i64 q1) := by go_simp
            have k1 : ((w4.setCell ⟨w.heap.size, 0, none⟩ (.int .i64 q1)).setCell ⟨w.heap.size, 1, none⟩ (.int .i64 q2)).cell? ⟨w.heap.size, 1, none⟩ = some (.int .i64 q2) := by go_simp
            rw [E.out]
            exact bodyPost_ret (v := .tuple #[.agg #[.int .i64 q1, .int .i64 q2], .int .i64 0]) (by simp [results, Try.results7, go_sem, k0, k1]) rfl ⟨rfl, hF⟩
end Go.Proofs.Ytfhlooegeklpaaa
