/-
  HeaviestWithin: the program's function, which ranges over slices.Backward. No condition.
-/
import Derived.RangeFuncNested
import Derived.RangeFuncBound
import Derived.RangeFuncCalls
import Derived.RangeFuncLeaves
import Derived.Shelf.Abstract
import Derived.WalkKit
import Derived.OwnWalkIn
import Derived.TacticsInMore
import Derived.LoopNIn
import Derived.LoopIn
import Derived.Test.YtngfhpklakhehaaGreatDoorTHeavS
namespace Go.Proofs.YtngfhpklakhehaaGreatDoor
open Go.RowKit Go.Shelf
set_option maxHeartbeats 400000
attribute [local go_sem] Oper.semAt_some

/-- what has come when k rounds are over -/
def upto {α : Type} (f : Nat → α) (k : Nat) : List α := (List.range k).map f
theorem upto_succ {α : Type} (f : Nat → α) (k : Nat) : upto f (k + 1) = upto f k ++ [f k] := by simp [upto, List.range_succ]
theorem upto_length {α : Type} (f : Nat → α) (k : Nat) : (upto f k).length = k := by simp [upto]
def s00 : Step := ⟨0, 0⟩
/-- the round j of a walk backward -/
def bwAt (xs : List Step) (m j : Nat) : Nat × Step := (m - 1 - j, xs.getD (m - 1 - j) s00)

set_option maxRecDepth 100000 in
set_option maxHeartbeats 2000000 in
theorem bw1_in (F : Fence) (n : Nat) (h8 : F.fn 59) (hro : F.round = none) (hn : 1 ≤ n) (l Bs n₀ m c : Nat) (A : Option Addr) (xs : List Step) (hm : m ≤ 2000000) (hBn : Bs < n₀) (J Jx : List (Nat × Step) → World → Prop)
    (hY : ∀ pre (x : Nat × Step) W, J pre W → pre.length < m → YieldAt F (n - 1) Tryz.prog l #[.int .i64 (x.1 : Int), .agg #[.int .i64 x.2.g, .int .i64 x.2.p]] W fun e W' =>
      (e = .returned (.bool true) ∧ J (pre ++ [x]) W' ∧ Below n₀ W W') ∨ (e = .returned (.bool false) ∧ Jx (pre ++ [x]) W'))
    (W : World) (hBs : W.cell? ⟨Bs, 0, none⟩ = some (.slice A m c)) (hx : Sl W n₀ 2 encStep A m xs) (h0 : J [] W) :
    CallsIn F n Tryz.prog 59 #[.func (.yield l) #[] #[], .pointer (some ⟨Bs, 0, none⟩)] W fun e W' => (∃ v, e = .returned v) ∧
      ((∃ ys, ys = upto (bwAt xs m) m ∧ J ys W') ∨ (∃ pre, (∃ k, k ≤ m ∧ pre = upto (bwAt xs m) k) ∧ Jx pre W')) := by
  refine callsIn_of_wp Tryz.func59 rfl h8 ?_ hro
  simp only [Tryz.ntmps59, List.size_toArray, List.length_cons, List.length_nil, Nat.reduceAdd, Nat.reduceSub, Array.replicate_succ, Array.replicate_zero, List.push_toArray, List.append_toArray, List.nil_append, List.cons_append]
  gi_wp2
  gi_loopw [3] (fun i wr => ∃ (k : Nat) (z : Int), k ≤ m ∧ z = (m : Int) - 1 - (k : Int) ∧ i = .int .i64 z ∧ J (upto (bwAt xs m) k) wr ∧ Below n₀ W wr)
    (fun i _ => (intOf i + 1).toNat)
  case atStart => exact ⟨0, _, Nat.zero_le _, by omega, rfl, h0, Below.refl _ _⟩
  case round =>
    obtain ⟨k, z, hk, hz, rfl, hJs, hnx⟩ := hrel
    have cB := (hnx.cell (p := ⟨Bs, 0, none⟩) hBn).trans hBs
    by_cases hlt : k < m
    · obtain ⟨x0, x1, b, off, Hx, rfl, hbB, c0, c1⟩ := (hx.below hnx).atStep (show m - 1 - k < m by omega)
      have hzz : z = ((m - 1 - k : Nat) : Int) := by omega
      have hb1 : bwAt xs m k = (m - 1 - k, ⟨x0, x1⟩) := by simp [bwAt, List.getD, Hx.out]
      have hyy := hY _ (bwAt xs m k) wr hJs (by rw [upto_length]; exact hlt)
      rw [hb1] at hyy
      obtain ⟨fn, tmps, assign, body, hy, hR⟩ := hyy
      dsimp only at hy
      have HB1 := hid hb1
      subst hzz
      have i0 : (0 : Int) ≤ ((m - 1 - k : Nat) : Int) := by omega
      have i1 : ((m - 1 - k : Nat) : Int) < (m : Int) := by omega
      have HK := hid hk
      clear hb1 hz hx hBs
      generalize hq : m - 1 - k = q at *
      have HQ := hid hq
      clear hq
      gi_wp2
      refine hR.mono ?_
      rintro e W3 (⟨rfl, hJ3, hk3⟩ | ⟨rfl, hJx3⟩)
      · gi_wp2
        go_roundw
        case rel => exact ⟨k + 1, (q : Int) - 1, by omega, by have := HQ.out; omega, by go_num, by rw [upto_succ, HB1.out]; exact hJ3, hnx.trans hk3⟩
        case measure => first | (simp [intOf]; done) | (simp [intOf]; omega)
      · gi_wp2
        refine bodyPost_ret (results_none rfl _ _ _) rfl ?_
        exact ⟨⟨_, rfl⟩, .inr ⟨_, ⟨k + 1, by omega, by rw [upto_succ, HB1.out]⟩, hJx3⟩⟩
    · have z0 : z < 0 := by omega
      obtain rfl : k = m := by omega
      gi_wp2
      go_end0
      exact ⟨⟨_, rfl⟩, .inl ⟨_, rfl, hJs⟩⟩

/-- slices.Backward: the slice value is boxed; the function value captures the box -/
theorem bw_any (A : Option Addr) (m c : Nat) (w : World) :
    Calls Tryz.prog 37 #[.slice A m c] w fun e w' => e = .returned (.func (.func 59) #[] #[.pointer (some ⟨w.heap.size, 0, none⟩)]) ∧ w' = w.alloc (.cells #[.slice A m c] 24) := by
  go_enter Tryz.func37, Tryz.ntmps37
  go_wp2
  go_ret
  exact ⟨rfl, rfl⟩
theorem bw_stops (F : Fence) (n : Nat) (h8 : F.fn 59) (hro : F.round = none) (hn : 1 ≤ n) (Bs n₀ m c : Nat) (A : Option Addr) (xs : List Step) (hm : m ≤ 2000000) (w : World) (hBn : Bs < n₀) (hn₀ : n₀ ≤ w.heap.size)
    (hc : w.cell? ⟨Bs, 0, none⟩ = some (.slice A m c)) (hx : Sl w n₀ 2 encStep A m xs) :
    SeqStopsK F n Tryz.prog 59 #[.pointer (some ⟨Bs, 0, none⟩)] (fun x : Nat × Step => #[Value.int .i64 (x.1 : Int), Value.agg #[.int .i64 x.2.g, .int .i64 x.2.p]]) (Below n₀) (fun ys => ys = upto (bwAt xs m) m)
      (fun pre => ∃ k, k ≤ m ∧ pre = upto (bwAt xs m) k) m w := fun l J Jx W hW _ _ hY h0 =>
  bw1_in F n h8 hro hn l Bs n₀ m c A xs hm hBn J Jx hY W ((hW.cell (p := ⟨Bs, 0, none⟩) (by simp only; omega)).trans hc) (hx.below (hW.mono hn₀)) h0

def ownC (xs : List Step) (h e g : Int) (bb : Bool) (y : Nat × Step) : Int := (costOf xs h e y.2.g g bb).getD 0
theorem ownC_at {xs : List Step} {h e : Int} (hv : validT ⟨xs, h, e⟩ = true) {j : Nat} (hj : j < xs.length) (g : Int) (bb : Bool) : ∃ x, xs[xs.length - 1 - j]? = some x ∧ ownC xs h e g bb (bwAt xs xs.length j) = wholeP x h e g bb ∧ (bwAt xs xs.length j).2 = x := by
  have hx : xs[xs.length - 1 - j]? = some (xs[xs.length - 1 - j]'(by omega)) := List.getElem?_eq_getElem _
  refine ⟨_, hx, ?_, ?_⟩
  · simp only [ownC, bwAt, List.getD, hx, Option.getD_some, costOf_self hv hx]
  · simp only [bwAt, List.getD, hx, Option.getD_some]
theorem heav_go {xs : List Step} {h e g p : Int} {bb : Bool} (hv : validT ⟨xs, h, e⟩ = true) : ∀ k, k ≤ xs.length → (∀ j, j < k → ¬ ownC xs h e g bb (bwAt xs xs.length j) ≤ p) → heavAt xs h e g p bb xs.length = heavAt xs h e g p bb (xs.length - k) := by
  intro k
  induction k with
  | zero => intro _ _; rfl
  | succ k ih =>
    intro hk hall
    obtain ⟨x, hx, ho, _⟩ := ownC_at hv (j := k) (by omega) g bb
    have h1 := hall k (by omega)
    rw [ho] at h1
    rw [ih (by omega) (fun j hj => hall j (by omega)), show xs.length - k = xs.length - 1 - k + 1 by omega, heavAt_succ hx, if_neg h1, show xs.length - (k + 1) = xs.length - 1 - k by omega]
theorem heav_none {xs : List Step} {h e g p : Int} {bb : Bool} (hv : validT ⟨xs, h, e⟩ = true) (hall : ∀ y ∈ upto (bwAt xs xs.length) xs.length, p < ownC xs h e g bb y) : heavAt xs h e g p bb xs.length = (0, 3) := by
  rw [heav_go hv xs.length (Nat.le_refl _) (fun j hj => Int.not_le.2 (hall _ (by simp only [upto, List.mem_map, List.mem_range]; exact ⟨j, hj, rfl⟩))), Nat.sub_self]
  rfl
theorem heav_some {xs : List Step} {h e g p : Int} {bb : Bool} (hv : validT ⟨xs, h, e⟩ = true) {k : Nat} (hk : k ≤ xs.length) {ini : List (Nat × Step)} {last : Nat × Step} (hp : upto (bwAt xs xs.length) k = ini ++ [last])
    (hall : ∀ y ∈ ini, p < ownC xs h e g bb y) (hl : ownC xs h e g bb last ≤ p) : heavAt xs h e g p bb xs.length = (last.2.g, 0) := by
  obtain ⟨k', rfl⟩ : ∃ k', k = k' + 1 := by
    cases k with
    | zero => simp [upto] at hp
    | succ k' => exact ⟨k', rfl⟩
  rw [upto_succ] at hp
  obtain ⟨rfl, e5⟩ := List.append_inj' hp rfl
  obtain rfl : bwAt xs xs.length k' = last := by simpa using e5
  obtain ⟨x, hx, ho, e6⟩ := ownC_at hv (j := k') (by omega) g bb
  rw [ho] at hl
  rw [heav_go hv k' (by omega) (fun j hj => Int.not_le.2 (hall _ (by simp only [upto, List.mem_map, List.mem_range]; exact ⟨j, hj, rfl⟩))), show xs.length - k' = xs.length - 1 - k' + 1 by omega, heavAt_succ hx, if_pos hl, e6]
theorem keepsFrom_below {B : Nat} {W W' : World} (h : Below W.heap.size W W') : KeepsFrom B W W' := KeepsFrom.of_grownBy (row := none) ⟨h.os, h.tape, h.output, h.size, fun i hi _ => h.block i hi⟩ (fun j e => by cases e)

/-- what stands between two rounds -/
def hvI (xs : List Step) (h e g p : Int) (bb : Bool) (W2 : World) (pre : List (Nat × Step)) (W : World) : Prop := Below W2.heap.size W2 W ∧ ∀ y ∈ pre, p < ownC xs h e g bb y
/-- what stands where a round has returned -/
def hvX (xs : List Step) (h e g p : Int) (bb : Bool) (w : World) (cc : Code) (pre : List (Nat × Step)) (W : World) : Prop :=
  (cc = .ret ∧ ∃ ini last, pre = ini ++ [last] ∧ (∀ y ∈ ini, p < ownC xs h e g bb y) ∧ ownC xs h e g bb last ≤ p ∧ W.cell? ⟨w.heap.size + 1 + 1 + 1 + 1, 0, none⟩ = some (.int .i64 last.2.g) ∧ W.cell? ⟨w.heap.size + 1 + 1 + 1 + 1 + 1, 0, none⟩ = some (.int .i64 0)) ∧ Below w.heap.size w W
set_option maxRecDepth 100000 in
set_option maxHeartbeats 4000000 in
theorem implHeaviestWithin_any (A : Option Addr) (n c : Nat) (xs : List Step) (h e g p : Int) (bb : Bool) (w : World) (B : Nat) (hB : B ≤ w.heap.size) (hn : n ≤ 2000000) (hx : Sl w B 2 encStep A n xs) :
    Calls Tryz.prog 9 #[.agg #[.slice A n c, .int .i64 h, .int .i64 e], .int .i64 g, .int .i64 p, .bool bb] w fun r w' => r = .returned (pairI (heavF xs h e g p bb)) ∧ Below w.heap.size w w' := by
  obtain ⟨wa, hwa⟩ : ∃ wa, wa = (((((w.alloc (.cells #[.slice A n c, .int .i64 h, .int .i64 e] 26)).alloc (.cells #[.int .i64 g] 2)).alloc (.cells #[.int .i64 p] 2)).alloc (.cells #[.bool bb] 4)).alloc (.cells #[.int .i64 0] 2)).alloc (.cells #[.int .i64 0] 2) := ⟨_, rfl⟩
  have hbw : Below w.heap.size w wa := by rw [hwa]; exact ((((((Below.refl _ _).alloc (Nat.le_refl _) _).alloc (by simp) _).alloc (by simp; omega) _).alloc (by simp; omega) _).alloc (by simp; omega) _).alloc (by simp; omega) _
  have k0 : wa.cell? ⟨w.heap.size, 0, none⟩ = some (.slice A n c) := by rw [hwa]; go_simp
  have k1 : wa.cell? ⟨w.heap.size, 1, none⟩ = some (.int .i64 h) := by rw [hwa]; go_simp
  have k2 : wa.cell? ⟨w.heap.size, 2, none⟩ = some (.int .i64 e) := by rw [hwa]; go_simp
  have kg : wa.cell? ⟨w.heap.size + 1, 0, none⟩ = some (.int .i64 g) := by rw [hwa]; go_simp
  have kp : wa.cell? ⟨w.heap.size + 1 + 1, 0, none⟩ = some (.int .i64 p) := by rw [hwa]; go_simp
  have kb : wa.cell? ⟨w.heap.size + 1 + 1 + 1, 0, none⟩ = some (.bool bb) := by rw [hwa]; go_simp
  have r0 : wa.cell? ⟨w.heap.size + 1 + 1 + 1 + 1, 0, none⟩ = some (.int .i64 0) := by rw [hwa]; go_simp
  have r1 : wa.cell? ⟨w.heap.size + 1 + 1 + 1 + 1 + 1, 0, none⟩ = some (.int .i64 0) := by rw [hwa]; go_simp
  have f0 : wa.frozen? ⟨w.heap.size + 1 + 1 + 1 + 1, 0, none⟩ = false := by rw [hwa]; go_simp
  have f1 : wa.frozen? ⟨w.heap.size + 1 + 1 + 1 + 1 + 1, 0, none⟩ = false := by rw [hwa]; go_simp
  have hc := tariffCode_any A n c xs h e 0 g p wa B (Nat.le_trans hB hbw.size) hn (hx.below (hbw.mono hB))
  have HW := hid hwa
  clear hwa
  by_cases hq : validT ⟨xs, h, e⟩ = true ∧ inR g 0 20000 = true ∧ inR p 0 1000000000 = true
  · obtain ⟨hv, hz1, hz2⟩ := hq
    have ec : codeT (validT ⟨xs, h, e⟩) 0 g p = 0 := by simp only [codeT, hv, hz1, hz2, inR_00' 0 5000 (by omega) (by omega)]; rfl
    rw [ec] at hc
    have E : Hid (heavF xs h e g p bb = heavAt xs h e g p bb n) := by simp only [Hid, heavF, hv, hz1, hz2, hx.len]; rfl
    rw [inR_iff] at hz1
    obtain ⟨g0, g1⟩ := hz1
    have hx2 := hx.below (hbw.mono hB)
    have hBz := Nat.le_trans hB hbw.size
    have hco := hid (fun m W h1 h2 => cost_any A n c xs h e m g bb W B h1 hn h2 hv g0 g1)
    have HV := hid hv
    clear hx hv hz2 ec
    refine (callsIn_wide (n := 6)).1 ?_
    refine callsIn_of_wp_marks Tryz.func9 rfl trivial ?_ rfl
    simp only [Tryz.ntmps9, List.size_toArray, List.length_cons, List.length_nil, Nat.reduceAdd, Nat.reduceSub, Array.replicate_succ, Array.replicate_zero, List.push_toArray, List.append_toArray, List.nil_append, List.cons_append]
    gi_wp2_with fail
    rw [← HW.out]
    refine ⟨trivial, (callsIn_wide.2 hc).mono ?_⟩
    rintro r w1 ⟨rfl, b1⟩
    have l0 := World.block_lt_of_cell? _ _ r1
    simp only at l0
    have l1 := b1.size
    replace k0 := below_cell k0 b1
    replace k1 := below_cell k1 b1
    replace k2 := below_cell k2 b1
    replace kg := below_cell kg b1
    replace kp := below_cell kp b1
    replace kb := below_cell kb b1
    replace f0 : w1.frozen? _ = false := (b1.frozen (by simp only; omega)).trans f0
    replace f1 : w1.frozen? _ = false := (b1.frozen (by simp only; omega)).trans f1
    replace r0 := below_cell r0 b1
    replace r1 := below_cell r1 b1
    have hx3 := hx2.below (b1.mono hBz)
    have hB3 := Nat.le_trans hBz l1
    have hb3 := hbw.trans (b1.mono hbw.size)
    clear hc b1 hx2 hBz hbw
    gi_wp2_with fail
    refine ⟨trivial, (callsIn_wide.2 (bw_any A n c w1)).mono ?_⟩
    rintro r w2 ⟨rfl, rfl⟩
    have hb4 : Below w.heap.size w (w1.alloc (.cells #[.slice A n c] 24)) := hb3.alloc hb3.size _
    have hx4 := hx3.alloc hB3 (.cells #[.slice A n c] 24)
    have bN : (w1.alloc (.cells #[.slice A n c] 24)).cell? ⟨w1.heap.size, 0, none⟩ = some (.slice A n c) := by go_simp
    replace k0 := below_cell k0 ((Below.refl _ _).alloc (Nat.le_refl _) (.cells #[.slice A n c] 24))
    replace k1 := below_cell k1 ((Below.refl _ _).alloc (Nat.le_refl _) (.cells #[.slice A n c] 24))
    replace k2 := below_cell k2 ((Below.refl _ _).alloc (Nat.le_refl _) (.cells #[.slice A n c] 24))
    replace kg := below_cell kg ((Below.refl _ _).alloc (Nat.le_refl _) (.cells #[.slice A n c] 24))
    replace kp := below_cell kp ((Below.refl _ _).alloc (Nat.le_refl _) (.cells #[.slice A n c] 24))
    replace kb := below_cell kb ((Below.refl _ _).alloc (Nat.le_refl _) (.cells #[.slice A n c] 24))
    have r0' := below_cell r0 ((Below.refl _ _).alloc (Nat.le_refl _) (.cells #[.slice A n c] 24))
    have r1' := below_cell r1 ((Below.refl _ _).alloc (Nat.le_refl _) (.cells #[.slice A n c] 24))
    have f0' : (w1.alloc (.cells #[.slice A n c] 24)).frozen? ⟨w.heap.size + 1 + 1 + 1 + 1, 0, none⟩ = false := (((Below.refl _ _).alloc (Nat.le_refl _) _).frozen (by simp only; omega)).trans f0
    have f1' : (w1.alloc (.cells #[.slice A n c] 24)).frozen? ⟨w.heap.size + 1 + 1 + 1 + 1 + 1, 0, none⟩ = false := (((Below.refl _ _).alloc (Nat.le_refl _) _).frozen (by simp only; omega)).trans f1
    have zz : (w1.alloc (.cells #[.slice A n c] 24)).heap.size = w1.heap.size + 1 := by simp
    have l1w : w.heap.size + 1 + 1 + 1 + 1 + 1 < w1.heap.size := by omega
    generalize hW2 : w1.alloc (.cells #[.slice A n c] 24) = W2 at *
    have HW2 := hid hW2
    clear hW2 r0 r1 f0 f1 hx3 hb3
    gi_wp2_with fail
    have hx5 := hx4.more (show B ≤ W2.heap.size by omega)
    have KC := hid (And.intro k0 (And.intro k1 (And.intro k2 (And.intro kg (And.intro kp kb)))))
    have RC := hid (And.intro r0' (And.intro r1' (And.intro f0' f1')))
    have HX4 := hid hx4
    clear k0 k1 k2 kg kp kb r0' r1' f0' f1' hx4
    refine wpIn_rangeFunc_ownH (α := Nat × Step) rfl (by omega) (gf := 59) (lb := #[.pointer (some ⟨w1.heap.size, 0, none⟩)]) rfl trivial (enters_of Tryz.func59 (by kernel_rfl) rfl)
      (bw_stops Fence.wide (6 - 1) trivial rfl (by omega) w1.heap.size W2.heap.size n c A xs hn W2 (by omega) (Nat.le_refl _) bN hx5) belowK_t (belowK_b (Nat.le_refl _)) (Below.refl _ _) (fun _ => rfl)
      (hvI xs h e g p bb W2)
      (hvX xs h e g p bb w)
      (OwnFrom.and (ownFrom_below (Nat.le_refl _) (Nat.le_refl _)) (ownFrom_pure _ _))
      (fun cc => OwnFrom.and (Own.from (fun s A B row hs hg hr => by obtain ⟨hc, ini, last, e1, e2, e3, e4, e5⟩ := hs; exact ⟨hc, ini, last, e1, e2, e3, cell_kept e4 hg hr, cell_kept e5 hg hr⟩) _) (ownFrom_below (Nat.le_refl _) (by omega)))
      ⟨Below.refl _ _, fun y hy => by cases hy⟩
      (fun x a' W => ∃ Bx, W2.heap.size ≤ Bx ∧ W.cell? ⟨Bx, 0, none⟩ = some (.int .i64 x.2.g) ∧ W.cell? ⟨Bx, 1, none⟩ = some (.int .i64 x.2.p) ∧ a' = { tmps := #[.agg #[.slice A n c, .int .i64 h, .int .i64 e], .int .i64 g, .int .i64 p, .bool bb, .pointer (some ⟨w.heap.size, 0, none⟩), .pointer (some ⟨w.heap.size + 1, 0, none⟩), .pointer (some ⟨w.heap.size + 1 + 1, 0, none⟩), .pointer (some ⟨w.heap.size + 1 + 1 + 1, 0, none⟩), .pointer (some ⟨w.heap.size + 1 + 1 + 1 + 1, 0, none⟩), .pointer (some ⟨w.heap.size + 1 + 1 + 1 + 1 + 1, 0, none⟩), .int .i64 0, undef, .pointer (some ⟨Bx, 0, none⟩), undef, undef, .agg #[.slice A n c, .int .i64 h, .int .i64 e], .int .i64 g, .int .i64 p, .int .i64 0, .int .i64 0, .bool false, undef, .pointer (some ⟨w.heap.size, 0, none⟩), .slice A n c, .func (.func 59) #[] #[.pointer (some ⟨w1.heap.size, 0, none⟩)], .int .i64 (x.1 : Int), .agg #[.int .i64 x.2.g, .int .i64 x.2.p], undef, undef, undef, undef, undef, undef, undef, undef, undef, undef, undef, undef, undef, undef], defers := [] })
      (fun x a' _ X Y row hs hg hr => by obtain ⟨Bx, h1, c0, c1, h3⟩ := hs; exact ⟨Bx, h1, cell_kept c0 hg (fun r e => (hr r e).2), cell_kept c1 hg (fun r e => (hr r e).2), h3⟩)
      ?assign ?body ?done ?stop
    case assign =>
      rintro l pre x W K ⟨hBW, hall⟩ hK
      gi_wp2
      exact hK _ _ ((KeepsOthers.alloc _ _).from _) ((Below.refl _ W).alloc hBW.size _) ⟨hBW.alloc hBW.size _, hall⟩ ⟨W.heap.size, hBW.size, by go_simp, by go_simp, rfl⟩
    case body =>
      rintro l pre x a' W hl ⟨r, hr⟩ ⟨hBW, hall⟩ ⟨Bx, hBx, c0, c1, rfl⟩ hlt
      obtain ⟨k0, k1, k2, kg, kp, kb⟩ := KC.out
      obtain ⟨r0, r1, f0, f1⟩ := RC.out
      replace k0 := below_cell k0 hBW
      replace k1 := below_cell k1 hBW
      replace k2 := below_cell k2 hBW
      replace kg := below_cell kg hBW
      replace kp := below_cell kp hBW
      replace kb := below_cell kb hBW
      replace f0 : W.frozen? _ = false := (hBW.frozen (by simp only; omega)).trans f0
      replace f1 : W.frozen? _ = false := (hBW.frozen (by simp only; omega)).trans f1
      replace r0 := below_cell r0 hBW
      replace r1 := below_cell r1 hBW
      have hcc := hco.out x.2.g W (by have := hBW.size; omega) (HX4.out.below (hBW.mono (by omega)))
      simp only [costV] at hcc
      have EO := hid (show ownC xs h e g bb x = (costOf xs h e x.2.g g bb).getD 0 from rfl)
      generalize (costOf xs h e x.2.g g bb).getD 0 = own at hcc EO
      generalize (costOf xs h e x.2.g g bb).isSome = osome at hcc
      have hbW := hb4.trans (hBW.mono hb4.size)
      have lW := hBW.size
      have lB := World.block_lt_of_cell? _ _ c0
      simp only at lB
      by_cases q : own ≤ p
      · gi_wp2_with (refine ⟨trivial, ?_⟩; gi_at_call 31; refine (CallsIn.inRound l (callsIn_wide.2 hcc)).mono ?_; rintro r w' ⟨rfl, b5⟩; replace c0 := below_cell c0 b5; replace kp := below_cell kp b5; replace r0 := below_cell r0 b5; replace r1 := below_cell r1 b5; replace f0 : w'.frozen? _ = false := (b5.frozen (by simp only; omega)).trans f0; replace f1 : w'.frozen? _ = false := (b5.frozen (by simp only; omega)).trans f1)
        refine ⟨(keepsFrom_below b5).trans (((KeepsOthers.setCell _ _ _).trans (KeepsOthers.setCell _ _ _)).from _), ⟨rfl, pre, x, rfl, hall, by rw [EO.out]; exact q, ?_, ?_⟩, ?_⟩
        · exact (World.cell?_setCell_other _ _ _ _ (by simp)).trans (World.cell?_setCell_same _ _ _ r0)
        · exact World.cell?_setCell_same _ _ _ ((World.cell?_setCell_other _ _ _ _ (by simp)).trans r1)
        · exact bl_set (by simp only; omega) (bl_set (by simp only; omega) (hbW.trans (b5.mono hbW.size)))
      · gi_wp2_with (refine ⟨trivial, ?_⟩; gi_at_call 31; refine (CallsIn.inRound l (callsIn_wide.2 hcc)).mono ?_; rintro r w' ⟨rfl, b5⟩; replace kp := below_cell kp b5)
        exact ⟨keepsFrom_below b5, b5.mono lW, hBW.trans (b5.mono lW), fun y hy => (List.mem_append.1 hy).elim (hall y) (fun e1 => by simp at e1; subst e1; rw [EO.out]; exact q)⟩
    case done =>
      rintro D ys W hD rfl ⟨hBW, hall⟩ hK
      obtain ⟨r0, r1, f0, f1⟩ := RC.out
      replace f0 : W.frozen? _ = false := (hBW.frozen (by simp only; omega)).trans f0
      replace f1 : W.frozen? _ = false := (hBW.frozen (by simp only; omega)).trans f1
      replace r0 := below_cell r0 hBW
      replace r1 := below_cell r1 hBW
      have hbW := hb4.trans (hBW.mono hb4.size)
      gi_wp2
      have hK2 := ((KeepsOthers.setCell W ⟨w.heap.size + 1 + 1 + 1 + 1, 0, none⟩ (.int .i64 0)).trans (KeepsOthers.setCell _ ⟨w.heap.size + 1 + 1 + 1 + 1 + 1, 0, none⟩ (.int .i64 3))).same D _ hK rfl
      have v0 : ((W.setCell ⟨w.heap.size + 1 + 1 + 1 + 1, 0, none⟩ (.int .i64 0)).setCell ⟨w.heap.size + 1 + 1 + 1 + 1 + 1, 0, none⟩ (.int .i64 3)).cell? ⟨w.heap.size + 1 + 1 + 1 + 1, 0, none⟩ = some (.int .i64 0) := (World.cell?_setCell_other _ _ _ _ (by simp)).trans (World.cell?_setCell_same _ _ _ r0)
      have v1 : ((W.setCell ⟨w.heap.size + 1 + 1 + 1 + 1, 0, none⟩ (.int .i64 0)).setCell ⟨w.heap.size + 1 + 1 + 1 + 1 + 1, 0, none⟩ (.int .i64 3)).cell? ⟨w.heap.size + 1 + 1 + 1 + 1 + 1, 0, none⟩ = some (.int .i64 3) := World.cell?_setCell_same _ _ _ ((World.cell?_setCell_other _ _ _ _ (by simp)).trans r1)
      refine ⟨by simp, .inl ⟨_, _, rfl, run_takeDeferred hK2, ?_⟩⟩
      have u0 := cell_kept v0 (grownBy_putObj' _ D (.deferred none)) (fun r e => by cases e; exact ⟨_, hK2, rfl⟩)
      have u1 := cell_kept v1 (grownBy_putObj' _ D (.deferred none)) (fun r e => by cases e; exact ⟨_, hK2, rfl⟩)
      have EZ : heavF xs h e g p bb = (0, 3) := by rw [E.out]; have hn' := HX4.out.len; rw [← hn'] at hall ⊢; exact heav_none HV.out hall
      rw [EZ]
      refine ⟨.tuple #[.int .i64 0, .int .i64 3], ?_, rfl, (bl_set (by simp only; omega) (bl_set (by simp only; omega) hbW)).trans (belowK_b (w := w) (Nat.le_refl _) _ D _ _ (by omega) hK2 rfl rfl)⟩
      simp [results, Tryz.f9, go_sem, u0, u1]
    case stop =>
      rintro D cc pre W hD ⟨k, hk, rfl⟩ ⟨⟨rfl, ini, last, e1, e2, e3, e4, e5⟩, hBw⟩ hK
      gi_wp2
      refine ⟨by simp, .inl ⟨_, _, rfl, run_takeDeferred hK, ?_⟩⟩
      have u0 := cell_kept e4 (grownBy_putObj' _ D (.deferred none)) (fun r e => by cases e; exact ⟨_, hK, rfl⟩)
      have u1 := cell_kept e5 (grownBy_putObj' _ D (.deferred none)) (fun r e => by cases e; exact ⟨_, hK, rfl⟩)
      have EZ : heavF xs h e g p bb = (last.2.g, 0) := by rw [E.out]; have hn' := HX4.out.len; rw [← hn'] at hk e1 ⊢; exact heav_some HV.out hk e1 e2 e3
      rw [EZ]
      refine ⟨.tuple #[.int .i64 last.2.g, .int .i64 0], ?_, rfl, hBw.trans (belowK_b (w := w) (Nat.le_refl _) _ D _ _ (by omega) hK rfl rfl)⟩
      simp [results, Tryz.f9, go_sem, u0, u1]
  · obtain ⟨z, hz, hz0, hp⟩ : ∃ z, codeT (validT ⟨xs, h, e⟩) 0 g p = z ∧ z ≠ 0 ∧ heavF xs h e g p bb = (0, z) := by
      unfold codeT heavF
      rw [inR_00' 0 5000 (by omega) (by omega)]
      cases hv : validT ⟨xs, h, e⟩ <;> cases h1 : inR g 0 20000 <;> cases h2 : inR p 0 1000000000
      all_goals first
        | exact ⟨1, rfl, by omega, rfl⟩
        | exact ⟨2, rfl, by omega, rfl⟩
        | exact absurd ⟨hv, h1, h2⟩ hq
    have E := hid hp
    rw [hz] at hc
    have q1 : (z == 0) = false := by simpa using hz0
    have q2 : (z != 0) = true := by simpa using hz0
    have l0 := World.block_lt_of_cell? _ _ r1
    simp only at l0
    clear hx hq hz hp hz0 k0 k1 k2 kg kp kb
    go_enter Tryz.func9, Tryz.ntmps9
    go_wp2_with fail
    rw [← HW.out]
    refine hc.mono ?_
    rintro r w1 ⟨rfl, b1⟩
    replace f0 : w1.frozen? _ = false := (b1.frozen (by simp only; omega)).trans f0
    replace f1 : w1.frozen? _ = false := (b1.frozen (by simp only; omega)).trans f1
    replace r0 := below_cell r0 b1
    replace r1 := below_cell r1 b1
    go_wp2_with fail
    have t0 : ((w1.setCell ⟨w.heap.size + 1 + 1 + 1 + 1, 0, none⟩ (.int .i64 0)).setCell ⟨w.heap.size + 1 + 1 + 1 + 1 + 1, 0, none⟩ (.int .i64 z)).cell? ⟨w.heap.size + 1 + 1 + 1 + 1, 0, none⟩ = some (.int .i64 0) := (World.cell?_setCell_other _ _ _ _ (by simp)).trans (World.cell?_setCell_same _ _ _ r0)
    have t1 : ((w1.setCell ⟨w.heap.size + 1 + 1 + 1 + 1, 0, none⟩ (.int .i64 0)).setCell ⟨w.heap.size + 1 + 1 + 1 + 1 + 1, 0, none⟩ (.int .i64 z)).cell? ⟨w.heap.size + 1 + 1 + 1 + 1 + 1, 0, none⟩ = some (.int .i64 z) := World.cell?_setCell_same _ _ _ ((World.cell?_setCell_other _ _ _ _ (by simp)).trans r1)
    rw [E.out]
    refine bodyPost_ret (v := .tuple #[.int .i64 0, .int .i64 z]) (by simp [results, Tryz.f9, go_sem, t0, t1]) rfl ⟨rfl, bl_set (by simp only; omega) (bl_set (by simp only; omega) (hbw.trans (b1.mono hbw.size)))⟩
end Go.Proofs.YtngfhpklakhehaaGreatDoor
