/-
  HeaviestWithin: the reference's function. No condition.
-/
import Derived.Test.YtngfhpklakhehaaGreatDoorTPriceFor
namespace Go.Proofs.YtngfhpklakhehaaGreatDoor
open Go.RowKit
set_option maxHeartbeats 400000

/-- the weight of the last of the first k steps for a price -/
def heavAt (xs : List Step) (h e g p : Int) (bb : Bool) : Nat → Int × Int
  | 0 => (0, 3)
  | k + 1 => match xs[k]? with
    | some x => if wholeP x h e g bb ≤ p then (x.g, 0) else heavAt xs h e g p bb k
    | none => (0, 3)
theorem heavAt_succ {xs : List Step} {h e g p : Int} {bb : Bool} {k : Nat} {x : Step} (hx : xs[k]? = some x) : heavAt xs h e g p bb (k + 1) = if wholeP x h e g bb ≤ p then (x.g, 0) else heavAt xs h e g p bb k := by simp only [heavAt, hx]
def heavF (xs : List Step) (h e g p : Int) (bb : Bool) : Int × Int :=
  if validT ⟨xs, h, e⟩ then if inR g 0 20000 && inR p 0 1000000000 then heavAt xs h e g p bb xs.length else (0, 2) else (0, 1)
theorem inR_00' (a b : Int) (h0 : a ≤ 0) (h1 : 0 ≤ b) : inR 0 a b = true := by rw [inR_iff]; omega
theorem stepsFrom_less {xs : List Step} : ∀ {q : Option Step}, stepsFrom q xs = true → (∀ y, q = some y → ∀ x ∈ xs, y.g < x.g) ∧ xs.Pairwise (fun a b => a.g < b.g) := by
  induction xs with
  | nil => intro q _; exact ⟨fun y _ x hx => (by cases hx), List.Pairwise.nil⟩
  | cons z r ih =>
    intro q h
    simp only [stepsFrom, Bool.and_eq_true] at h
    obtain ⟨⟨_, h1⟩, h2⟩ := h
    obtain ⟨i1, i2⟩ := ih h2
    have i3 := i1 z rfl
    refine ⟨fun y hy x hx => ?_, List.Pairwise.cons i3 i2⟩
    subst hy
    simp only [linkS, Bool.and_eq_true, decide_eq_true_eq] at h1
    rcases List.mem_cons.1 hx with e | e
    · subst e; exact h1.1
    · have := i3 x e; omega
/-- the first step that bears the weight of a step is that step -/
theorem find_self {xs : List Step} (hp : xs.Pairwise (fun a b => a.g < b.g)) : ∀ {k : Nat} {x : Step}, xs[k]? = some x → xs.find? (fun y => decide (x.g ≤ y.g)) = some x := by
  induction xs with
  | nil => intro k x h; simp at h
  | cons z r ih =>
    intro k x h
    obtain ⟨h1, h2⟩ := List.pairwise_cons.1 hp
    cases k with
    | zero => simp at h; subst h; simp
    | succ k =>
      simp at h
      have := h1 x (List.mem_of_getElem? h)
      rw [List.find?_cons_of_neg (by simp; omega)]
      exact ih h2 h
theorem costOf_self {xs : List Step} {h e : Int} (hv : validT ⟨xs, h, e⟩ = true) {k : Nat} {x : Step} (hx : xs[k]? = some x) (g : Int) (bb : Bool) : costOf xs h e x.g g bb = some (wholeP x h e g bb) := by
  simp only [validT, Bool.and_eq_true] at hv
  simp only [costOf, find_self (stepsFrom_less hv.1.1.1).2 hx, Option.map]

set_option maxHeartbeats 1000000 in
theorem specHeaviestWithin_any (A : Option Addr) (n c : Nat) (xs : List Step) (h e g p : Int) (bb : Bool) (w : World) (B : Nat) (hB : B ≤ w.heap.size) (hn : n ≤ 2000000) (hx : Sl w B 2 encStep A n xs) :
    Calls Tryz.prog 10 #[.agg #[.slice A n c, .int .i64 h, .int .i64 e], .int .i64 g, .int .i64 p, .bool bb] w fun r w' => r = .returned (pairI (heavF xs h e g p bb)) ∧ Below w.heap.size w w' := by
  have hol := hx.len
  obtain ⟨wa, hwa⟩ : ∃ wa, wa = (w.alloc (.cells #[.slice A n c, .int .i64 h, .int .i64 e] 26)) := ⟨_, rfl⟩
  have hbw : Below w.heap.size w wa := by rw [hwa]; exact ((Below.refl _ _).alloc (Nat.le_refl _) _)
  have k0 : wa.cell? ⟨w.heap.size, 0, none⟩ = some (.slice A n c) := by rw [hwa]; go_simp
  have k1 : wa.cell? ⟨w.heap.size, 1, none⟩ = some (.int .i64 h) := by rw [hwa]; go_simp
  have k2 : wa.cell? ⟨w.heap.size, 2, none⟩ = some (.int .i64 e) := by rw [hwa]; go_simp
  have hc := l23Ok_any w.heap.size 0 A n c xs h e wa B (Nat.le_trans hB hbw.size) hn (hx.below (hbw.mono hB)) k0 k1 k2
  have hs := l23Size_any 0 g
  rw [inR_00' 0 5000 (by omega) (by omega), Bool.true_and] at hs
  have hm := l23Money_any p
  by_cases hq : validT ⟨xs, h, e⟩ = true ∧ inR g 0 20000 = true ∧ inR p 0 1000000000 = true
  · obtain ⟨hv, hz1, hz2⟩ := hq
    rw [hv] at hc
    rw [hz1] at hs
    rw [hz2] at hm
    have E : Hid (heavF xs h e g p bb = heavAt xs h e g p bb n) := by simp only [Hid, heavF, hv, hz1, hz2, hol]; rfl
    obtain ⟨hss, hl0, hl1, h0, h1, e0, e1⟩ := validT_parts hv
    rw [inR_iff] at hz1
    obtain ⟨g0, g1⟩ := hz1
    have Hss := hid hss
    have Hol := hid hol
    have n8 : n ≤ 8 := by omega
    clear hss hv hz2 hol hl0 hl1
    have hx2 := hx.below (hbw.mono hB)
    have hBz := Nat.le_trans hB hbw.size
    clear hx
    subst hwa
    go_enter Tryz.func10, Tryz.ntmps10
    go_wp2_with (first
      | (go_at_call 32; refine hc.mono ?_; rintro r w1 ⟨rfl, b1⟩; replace k0 := below_cell k0 b1; replace k1 := below_cell k1 b1; replace k2 := below_cell k2 b1)
      | (go_at_call 33; refine (hs _).mono ?_; rintro r w1 ⟨rfl, rfl⟩)
      | (go_at_call 38; refine (hm _).mono ?_; rintro r w1 ⟨rfl, rfl⟩))
    have hxq := hx2.below (b1.mono hBz)
    have hBq := Nat.le_trans hBz b1.size
    have hbq := hbw.trans (b1.mono hbw.size)
    clear hx2 hBz hbw b1 hc
    go_loopw [10] (fun i wl => ∃ (k : Nat) (z : Int), k ≤ n ∧ z = (k : Int) - 1 ∧ i = .int .i64 z ∧ Hid (heavF xs h e g p bb = heavAt xs h e g p bb k) ∧ Below w1.heap.size w1 wl) (fun i _ => (intOf i + 1).toNat)
    case atStart => exact ⟨n, (n : Int) - 1, Nat.le_refl _, rfl, rfl, E, Below.refl _ _⟩
    case round =>
      obtain ⟨k, z, hk, hzk, rfl, he, hb⟩ := hrel
      clear E
      cases k with
      | zero =>
        have E3 : Hid (heavF xs h e g p bb = (0, 3)) := he.out
        have z0 : z < 0 := by omega
        clear he hzk
        go_wp2
        go_ret2
        rw [E3.out]
        exact ⟨rfl, hbq.trans (hb.mono hbq.size)⟩
      | succ k =>
        obtain rfl : z = (k : Int) := by omega
        have r0 := below_cell k0 hb
        have r1 := below_cell k1 hb
        have r2 := below_cell k2 hb
        have hxr := hxq.below (hb.mono hBq)
        obtain ⟨xg, xp, b, off, Hx, rfl, hbB, c0, c1⟩ := hxr.atStep (show k < n by omega)
        obtain ⟨⟨_, _⟩, p0, p1⟩ := Hss.out _ (List.mem_of_getElem? Hx.out)
        have hwh := l23Whole_any w.heap.size 0 (some ⟨b, off, none⟩) n c xs h e g k ⟨xg, xp⟩ bb wr B (Nat.le_trans hBq hb.size) hn hxr Hx.out p0 p1 h0 h1 e0 e1 g0 g1 r0 r1 r2
        have he2 := he.out
        rw [heavAt_succ Hx.out] at he2
        simp only at he2
        have i0 : (0 : Int) ≤ (k : Int) := by omega
        have i1 : (k : Int) < (n : Int) := by omega
        clear he hzk hxr
        by_cases q : wholeP ⟨xg, xp⟩ h e g bb ≤ p
        · rw [if_pos q] at he2
          have E3 := hid he2
          clear he2
          go_wp2_with (go_at_call 35; refine hwh.mono ?_; rintro r w3 ⟨rfl, b3⟩; replace r0 := below_cell r0 b3; replace c0 := below_cell c0 b3)
          go_ret2
          rw [E3.out]
          exact ⟨rfl, hbq.trans ((hb.trans (b3.mono hb.size)).mono hbq.size)⟩
        · rw [if_neg q] at he2
          have E3 := hid he2
          clear he2
          go_wp2_with (go_at_call 35; refine hwh.mono ?_; rintro r w3 ⟨rfl, b3⟩)
          have hb3 := hb.trans (b3.mono hb.size)
          go_roundw
          case rel => exact ⟨k, (k : Int) - 1, by omega, rfl, by go_num, E3, hb3⟩
          case measure => first | (simp [intOf]; done) | (simp [intOf]; omega)
  · have E : Hid (∃ z, heavF xs h e g p bb = (0, z) ∧ (validT ⟨xs, h, e⟩ = false ∧ z = 1 ∨ validT ⟨xs, h, e⟩ = true ∧ inR g 0 20000 = false ∧ z = 2 ∨ validT ⟨xs, h, e⟩ = true ∧ inR g 0 20000 = true ∧ inR p 0 1000000000 = false ∧ z = 2)) := by
      unfold Hid heavF
      cases hv : validT ⟨xs, h, e⟩ <;> cases h1 : inR g 0 20000 <;> cases h2 : inR p 0 1000000000
      all_goals first
        | exact ⟨1, rfl, by simp⟩
        | exact ⟨2, rfl, by simp⟩
        | exact absurd ⟨hv, h1, h2⟩ hq
    obtain ⟨z, E1, E2⟩ := E.out
    have EE := hid E1
    clear hx hq E E1
    subst hwa
    rcases E2 with ⟨q1, rfl⟩ | ⟨q1, q2, rfl⟩ | ⟨q1, q2, q3, rfl⟩
    · rw [q1] at hc
      clear q1
      go_enter Tryz.func10, Tryz.ntmps10
      go_wp2_with (go_at_call 32; refine hc.mono ?_; rintro r w1 ⟨rfl, b1⟩)
      go_ret2
      rw [EE.out]
      exact ⟨rfl, hbw.trans (b1.mono hbw.size)⟩
    · rw [q1] at hc
      rw [q2] at hs
      clear q1 q2
      go_enter Tryz.func10, Tryz.ntmps10
      go_wp2_with (first
        | (go_at_call 32; refine hc.mono ?_; rintro r w1 ⟨rfl, b1⟩)
        | (go_at_call 33; refine (hs _).mono ?_; rintro r w1 ⟨rfl, rfl⟩))
      go_ret2
      rw [EE.out]
      exact ⟨rfl, hbw.trans (b1.mono hbw.size)⟩
    · rw [q1] at hc
      rw [q2] at hs
      rw [q3] at hm
      clear q1 q2 q3
      go_enter Tryz.func10, Tryz.ntmps10
      go_wp2_with (first
        | (go_at_call 32; refine hc.mono ?_; rintro r w1 ⟨rfl, b1⟩)
        | (go_at_call 33; refine (hs _).mono ?_; rintro r w1 ⟨rfl, rfl⟩)
        | (go_at_call 38; refine (hm _).mono ?_; rintro r w1 ⟨rfl, rfl⟩))
      go_ret2
      rw [EE.out]
      exact ⟨rfl, hbw.trans (b1.mono hbw.size)⟩
end Go.Proofs.YtngfhpklakhehaaGreatDoor
