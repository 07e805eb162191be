/-
  What a carrier costs: the price, and PriceFor. No condition.
-/
import Derived.Test.YtngfhpklakhehaaGreatDoorTPrice
import Derived.Deep.RegionHeld3
namespace Go.Proofs.YtngfhpklakhehaaGreatDoor
open Go.RowKit
set_option maxHeartbeats 400000

theorem stepsFrom_ok {xs : List Step} {q : Option Step} (h : stepsFrom q xs = true) : ∀ x ∈ xs, okStep x = true := by
  induction xs generalizing q with
  | nil => intro x hx; simp at hx
  | cons y r ih =>
    simp only [stepsFrom, Bool.and_eq_true] at h
    intro x hx
    rcases List.mem_cons.1 hx with rfl | hx
    · exact h.1.1
    · exact ih h.2 x hx
theorem inR_iff {a lo hi : Int} : inR a lo hi = true ↔ lo ≤ a ∧ a ≤ hi := by simp [inR]
theorem validT_parts {xs : List Step} {h e : Int} (hv : validT ⟨xs, h, e⟩ = true) : (∀ x ∈ xs, (1 ≤ x.g ∧ x.g ≤ 5000) ∧ 0 ≤ x.p ∧ x.p ≤ 100000) ∧ 1 ≤ xs.length ∧ xs.length ≤ 8 ∧ 0 ≤ h ∧ h ≤ 100000 ∧ 0 ≤ e ∧ e ≤ 1000 := by
  simp only [validT, Bool.and_eq_true, inR_iff] at hv
  obtain ⟨⟨⟨h1, h2⟩, h3⟩, h4⟩ := hv
  refine ⟨fun x hx => ?_, by omega, by omega, h3.1, h3.2, h4.1, h4.2⟩
  have := stepsFrom_ok h1 x hx
  simpa only [okStep, Bool.and_eq_true, inR_iff] using this

theorem mul_in {a b p q : Int} (h0 : 0 ≤ a) (h1 : a ≤ p) (h2 : 0 ≤ b) (h3 : b ≤ q) : 0 ≤ a * b ∧ a * b ≤ p * q :=
  ⟨Int.mul_nonneg h0 h2, Int.mul_le_mul h1 h3 h2 (by omega)⟩
/-- the parts of a price and their bounds -/
theorem whole_in {x : Step} {h e g : Int} (hp0 : 0 ≤ x.p) (hp1 : x.p ≤ 100000) (h0 : 0 ≤ h) (h1 : h ≤ 100000) (e0 : 0 ≤ e) (e1 : e ≤ 1000) (g0 : 0 ≤ g) (g1 : g ≤ 20000) :
    (0 ≤ upTo g ∧ upTo g ≤ 200) ∧ (0 ≤ h * upTo g ∧ h * upTo g ≤ 20000000) ∧ (0 ≤ (x.p + h * upTo g) * (100 + e) ∧ (x.p + h * upTo g) * (100 + e) ≤ 22110000000) ∧
      (0 ≤ upTo ((x.p + h * upTo g) * (100 + e)) ∧ upTo ((x.p + h * upTo g) * (100 + e)) ≤ 221100000) := by
  have q1 := upTo_in (a := g) (b := 200) g0 (by omega)
  have q2 := mul_in h0 h1 q1.1 q1.2
  have q3 := mul_in (a := x.p + h * upTo g) (b := 100 + e) (p := 20100000) (q := 1100) (by omega) (by omega) (by omega) (by omega)
  exact ⟨q1, by omega, by omega, upTo_in q3.1 (by omega)⟩
theorem whole_bound {x : Step} {h e g : Int} (b : Bool) (hp0 : 0 ≤ x.p) (hp1 : x.p ≤ 100000) (h0 : 0 ≤ h) (h1 : h ≤ 100000) (e0 : 0 ≤ e) (e1 : e ≤ 1000) (g0 : 0 ≤ g) (g1 : g ≤ 20000) :
    0 ≤ wholeP x h e g b ∧ wholeP x h e g b ≤ 221100000 := by
  obtain ⟨q1, q2, q3, q4⟩ := whole_in hp0 hp1 h0 h1 e0 e1 g0 g1
  unfold wholeP
  split <;> omega

set_option maxHeartbeats 1000000 in
theorem l23Whole_any (gt go : Nat) (A : Option Addr) (n c : Nat) (xs : List Step) (h e g : Int) (k : Nat) (x : Step) (bb : Bool) (w : World) (B : Nat) (hB : B ≤ w.heap.size) (hn : n ≤ 2000000) (hx : Sl w B 2 encStep A n xs)
    (hk : xs[k]? = some x) (hp0 : 0 ≤ x.p) (hp1 : x.p ≤ 100000) (h0 : 0 ≤ h) (h1 : h ≤ 100000) (e0 : 0 ≤ e) (e1 : e ≤ 1000) (g0 : 0 ≤ g) (g1 : g ≤ 20000)
    (p0 : w.cell? ⟨gt, go, none⟩ = some (.slice A n c)) (p1 : w.cell? ⟨gt, go + 1, none⟩ = some (.int .i64 h)) (p2 : w.cell? ⟨gt, go + 2, none⟩ = some (.int .i64 e)) :
    Calls Tryz.prog 35 #[.pointer (some ⟨gt, go, none⟩), .int .i64 k, .int .i64 g, .bool bb] w fun r w' => r = .returned (.int .i64 (wholeP x h e g bb)) ∧ Below w.heap.size w w' := by
  have lg := World.block_lt_of_cell? _ _ p0
  simp only at lg
  have hol := hx.len
  have hkn : k < n := by rw [← hol]; exact (List.getElem?_eq_some_iff.1 hk).1
  obtain ⟨xg, xp⟩ := x
  obtain ⟨b, off, rfl, hbB, c0, c1⟩ := hx.ofStep hk
  obtain ⟨q1, q2, q3, q4⟩ := whole_in (x := ⟨xg, xp⟩) hp0 hp1 h0 h1 e0 e1 g0 g1
  have lb : b < w.heap.size := by omega
  simp only at hp0 hp1 q3 q4
  have EW : Hid (wholeP ⟨xg, xp⟩ h e g bb = if bb then upTo ((xp + h * upTo g) * (100 + e)) else xp + h * upTo g) := hid rfl
  clear hx hk hol
  have Eu : Hid (upTo g = (g + 99).tdiv 100) := hid rfl
  have Ev : Hid (upTo ((xp + h * upTo g) * (100 + e)) = ((xp + h * upTo g) * (100 + e) + 99).tdiv 100) := hid rfl
  generalize upTo ((xp + h * upTo g) * (100 + e)) = Z at q4 EW Ev
  rw [Eu.out] at q1 q2 q3 EW Ev
  go_enter Tryz.func35, Tryz.ntmps35
  go_wp2
  go_quiet (fail)
  cases bb
  · have E2 : Hid (wholeP ⟨xg, xp⟩ h e g false = xp + h * (g + 99).tdiv 100) := by rw [EW]; rfl
    clear EW Ev
    go_wp2
    go_ret
    exact ⟨retI E2.out.symm, below_drewN (Below.refl _ _) nq⟩
  · have E2 : Hid (wholeP ⟨xg, xp⟩ h e g true = ((xp + h * (g + 99).tdiv 100) * (100 + e) + 99).tdiv 100) := by rw [EW, ← Ev.out]; rfl
    rw [Ev.out] at q4
    clear EW Ev
    go_wp2
    go_ret
    exact ⟨retI E2.out.symm, below_drewN (Below.refl _ _) nq⟩
def costOf (xs : List Step) (h e m g : Int) (bb : Bool) : Option Int := (xs.find? fun x => decide (m ≤ x.g)).map fun x => wholeP x h e g bb
theorem find_at {m : Int} {xs : List Step} {k0 : Nat} :
    (stepAt m xs k0 = -1 ∧ xs.find? (fun x => decide (m ≤ x.g)) = none) ∨ ∃ j x, xs[j]? = some x ∧ stepAt m xs k0 = ((k0 + j : Nat) : Int) ∧ xs.find? (fun x => decide (m ≤ x.g)) = some x := by
  induction xs generalizing k0 with
  | nil => exact .inl ⟨rfl, rfl⟩
  | cons x r ih =>
    unfold stepAt
    by_cases hm : m ≤ x.g
    · exact .inr ⟨0, x, rfl, by rw [if_pos hm]; rfl, by simp [hm]⟩
    · rw [if_neg hm]
      rcases ih (k0 := k0 + 1) with ⟨h, h2⟩ | ⟨j, y, hj, h, h2⟩
      · exact .inl ⟨h, by simp [hm, h2]⟩
      · exact .inr ⟨j + 1, y, hj, by rw [h]; congr 1; omega, by simp [hm, h2]⟩
/-- a price and whether there is one, as the program's method gives them -/
def costV (o : Option Int) : Value := .tuple #[.int .i64 (o.getD 0), .bool o.isSome]
set_option maxHeartbeats 1000000 in
theorem cost_any (A : Option Addr) (n c : Nat) (xs : List Step) (h e m g : Int) (bb : Bool) (w : World) (B : Nat) (hB : B ≤ w.heap.size) (hn : n ≤ 2000000) (hx : Sl w B 2 encStep A n xs)
    (hv : validT ⟨xs, h, e⟩ = true) (g0 : 0 ≤ g) (g1 : g ≤ 20000) :
    Calls Tryz.prog 31 #[.agg #[.slice A n c, .int .i64 h, .int .i64 e], .int .i64 m, .int .i64 g, .bool bb] w fun r w' => r = .returned (costV (costOf xs h e m g bb)) ∧ Below w.heap.size w w' := by
  have hol := hx.len
  obtain ⟨hs, hl0, hl1, h0, h1, e0, e1⟩ := validT_parts hv
  obtain ⟨wa, hwa⟩ : ∃ wa, wa = ((w.alloc (.cells #[.slice A n c, .int .i64 h, .int .i64 e] 26)).alloc (.cells #[.int .i64 m] 2)) := ⟨_, rfl⟩
  have hbw : Below w.heap.size w wa := by rw [hwa]; exact ((Below.refl _ _).alloc (Nat.le_refl _) _).alloc (by simp) _
  have hc := stepIndex_any A n c xs m (w.heap.size + 1) 0 wa B (Nat.le_trans hB hbw.size) hn (hx.below (hbw.mono hB)) (by rw [hwa]; go_simp)
  have k0 : wa.cell? ⟨w.heap.size, 0, none⟩ = some (.slice A n c) := by rw [hwa]; go_simp
  have k1 : wa.cell? ⟨w.heap.size, 1, none⟩ = some (.int .i64 h) := by rw [hwa]; go_simp
  have k2 : wa.cell? ⟨w.heap.size, 2, none⟩ = some (.int .i64 e) := by rw [hwa]; go_simp
  have hwz : w.heap.size < wa.heap.size := World.block_lt_of_cell? _ _ k0
  have Hs := hid hs
  clear hv hs
  rcases find_at (m := m) (xs := xs) (k0 := 0) with ⟨q1, q2⟩ | ⟨j, ⟨xg, xp⟩, hj, q1, q2⟩
  · have E : Hid (costOf xs h e m g bb = none) := by simp [Hid, costOf, q2]
    rw [q1] at hc
    rw [hwa] at hc
    clear q1 q2 Hs hx
    go_enter Tryz.func31, Tryz.ntmps31
    go_wp2_with (go_at_call 55; refine hc.mono ?_; rintro r w1 ⟨rfl, b1⟩)
    go_ret2
    rw [E.out]
    exact ⟨rfl, hbw.trans (by rw [hwa]; exact b1.mono (by simp; omega))⟩
  · have E : Hid (costOf xs h e m g bb = some (wholeP ⟨xg, xp⟩ h e g bb)) := by simp [Hid, costOf, q2]
    obtain ⟨⟨_, _⟩, p0, p1⟩ := Hs.out _ (List.mem_of_getElem? hj)
    obtain ⟨z1, z2, z3, z4⟩ := whole_in (x := ⟨xg, xp⟩) p0 p1 h0 h1 e0 e1 g0 g1
    have hjn : j < n := by rw [← hol]; exact (List.getElem?_eq_some_iff.1 hj).1
    rw [Nat.zero_add] at q1
    rw [q1] at hc
    obtain ⟨b, off, rfl, hbB, c0, c1⟩ := (hx.below (hbw.mono hB)).ofStep hj
    have lb : b < wa.heap.size := by omega
    simp only at p0 p1 z3 z4
    have EW : Hid (wholeP ⟨xg, xp⟩ h e g bb = if bb then upTo ((xp + h * upTo g) * (100 + e)) else xp + h * upTo g) := hid rfl
    have Eu : Hid (upTo g = (g + 99).tdiv 100) := hid rfl
    have Eu2 : Hid ((g + 100 - 1).tdiv 100 = upTo g) := by unfold Hid upTo; congr 1; omega
    have Ev : Hid (((xp + h * upTo g) * (100 + e) + 100 - 1).tdiv 100 = upTo ((xp + h * upTo g) * (100 + e))) := by unfold Hid upTo; congr 1; omega
    clear q1 q2 Hs hx hj
    have hR := roundedUp_any g 100
    rw [Eu2.out] at hR
    have hR2 := roundedUp_any ((xp + h * upTo g) * (100 + e)) 100
    rw [Ev.out] at hR2
    generalize upTo ((xp + h * upTo g) * (100 + e)) = Z at z4 EW Ev hR2
    generalize upTo g = U at *
    rw [hwa] at hc
    have hwb : ∀ w1, Below (wa.heap.size) wa w1 → Below w.heap.size w w1 := fun w1 hh => hbw.trans (hh.mono hbw.size)
    clear hbw
    subst hwa
    go_enter Tryz.func31, Tryz.ntmps31
    go_wp2_with (go_at_call 55; refine hc.mono ?_; rintro r w1 ⟨rfl, b1⟩; replace k0 := below_cell k0 b1; replace k1 := below_cell k1 b1; replace k2 := below_cell k2 b1; replace c0 := below_cell c0 b1; replace c1 := below_cell c1 b1; replace lb := Nat.lt_of_lt_of_le lb b1.size; replace hwz := Nat.lt_of_lt_of_le hwz b1.size)
    replace hwb := hwb _ b1
    clear b1 hc
    go_quiet ((go_at_call 57; exact Calls.quiet_of_same (hR _ (by omega) (by omega) (by omega) (by omega))))
    cases bb
    · have E2 : Hid (wholeP ⟨xg, xp⟩ h e g false = xp + h * U) := by rw [EW]; rfl
      clear EW Ev
      go_wp2
      go_ret2
      rw [E.out, E2.out]
      exact ⟨rfl, below_drewN hwb nq⟩
    · have E2 : Hid (wholeP ⟨xg, xp⟩ h e g true = Z) := by rw [EW]; rfl
      clear EW Ev
      go_wp2_with (go_at_call 57; refine (hR2 _ (by omega) (by omega) (by omega) (by omega)).mono ?_; rintro r w2 ⟨rfl, rfl⟩)
      go_ret2
      rw [E.out, E2.out]
      exact ⟨rfl, below_drewN hwb nq⟩
end Go.Proofs.YtngfhpklakhehaaGreatDoor
