/-
  Step: a struct of numbers: how a slice of it reads; its copies, comparisons and marks. No condition.
-/
import Derived.Test.YtbgpdaclaknapaaInt
import Derived.Test.YtbgpdaclaknapaaOpen
namespace Go.Proofs.Ytbgpdaclaknapaa
open Go.RowKit Go.ChangeShapes Go.WideShapes Go.ChangeAt Go.Deep
set_option maxHeartbeats 400000

structure Step where
  g : Int
  p : Int
  deriving DecidableEq
def encStep (x : Step) : List Value := [.int .i64 x.g, .int .i64 x.p]
theorem encStep_len (x : Step) : (encStep x).length = 2 := rfl
theorem Sl.atStep {w : World} {B : Nat} {A : Option Addr} {n : Nat} {xs : List Step} (h : Sl w B 2 encStep A n xs) {i : Nat} (hi : i < n) :
    ∃ x0 x1 b off, Hid (xs[i]? = some ⟨x0, x1⟩) ∧ A = some ⟨b, off, none⟩ ∧ b < B ∧ w.cell? ⟨b, off + i * 2, none⟩ = some (.int .i64 x0) ∧ w.cell? ⟨b, off + i * 2 + 1, none⟩ = some (.int .i64 x1) := by
  obtain ⟨⟨x0, x1⟩, b, off, hx, e, hb, hc⟩ := h.at_ hi
  exact ⟨x0, x1, b, off, hx, e, hb, hc 0 _ rfl, hc 1 _ rfl⟩
theorem Sl.ofStep {w : World} {B n : Nat} {A : Option Addr} {xs : List Step} (h : Sl w B 2 encStep A n xs) {i : Nat} {x0 x1 : Int} (hx : xs[i]? = some ⟨x0, x1⟩) :
    ∃ b off, A = some ⟨b, off, none⟩ ∧ b < B ∧ w.cell? ⟨b, off + i * 2, none⟩ = some (.int .i64 x0) ∧ w.cell? ⟨b, off + i * 2 + 1, none⟩ = some (.int .i64 x1) := by
  obtain ⟨b, off, e, hb, hc⟩ := h.2 i _ hx
  exact ⟨b, off, e, hb, hc 0 _ rfl, hc 1 _ rfl⟩
theorem Sl.inStep {w : World} {B b off n : Nat} {xs : List Step} (h : Sl w B 2 encStep (some ⟨b, off, none⟩) n xs) {i : Nat} {x0 x1 : Int} (hx : xs[i]? = some ⟨x0, x1⟩) :
    w.cell? ⟨b, off + i * 2, none⟩ = some (.int .i64 x0) ∧ w.cell? ⟨b, off + i * 2 + 1, none⟩ = some (.int .i64 x1) := by
  obtain ⟨b', off', e, _, hc⟩ := h.2 i _ hx
  injection e with e
  injection e with e1 e2
  subst e1 e2
  exact ⟨hc 0 _ rfl, hc 1 _ rfl⟩

def szStep (left : Int) (n : Nat) : Int := if left < n then -1 else left - n
theorem szStepS_any (A : Option Addr) (n c : Nat) (left : Int) (w : World) (hn : n ≤ 9223372036854775807) (h0 : 0 ≤ left) (h1 : left ≤ 1048576) :
    Calls Try.prog 30 #[.slice A n c, .int .i64 left] w fun e w' => e = .returned (.int .i64 (szStep left n)) ∧ w' = w := by
  go_enter Try.func30, Try.ntmps30
  go_wp2
  all_goals go_ret
  all_goals exact ⟨retI (by unfold szStep; split <;> omega), rfl⟩
theorem toStep_any (x0 x1 : Int) (w : World) :
    Calls Try.prog 56 #[.agg #[.int .i64 x0, .int .i64 x1]] w fun e w' => e = .returned (.agg #[.int .i64 x0, .int .i64 x1]) ∧ Below w.heap.size w w' := by
  go_enter Try.func56, Try.ntmps56
  go_wp2
  refine bodyPost_ret (v := .agg #[.int .i64 x0, .int .i64 x1]) (by simp [results, Try.results56, go_sem]) rfl ⟨rfl, ?_⟩
  repeat (first | with_reducible assumption | with_reducible exact Below.refl _ _ | with_reducible refine bl_drew ?_ | with_reducible refine bl_drewN ?_ | ((with_reducible refine bl_set ?_ ?_); focus (first | (simp; done) | (simp; omega) | omega)) | ((with_reducible refine bl_alloc ?_ ?_); focus (first | (simp; done) | (simp; omega) | omega)))
theorem Step_info : (Try.prog.info? 56).map (fun i => (i.zero, i.size, i.bytes)) = some (some (.agg #[.int .i64 0, .int .i64 0]), 2, 16) := by kernel_rfl
theorem eqStep_yes (x0 x1 : Int) (w : World) :
    Calls Try.prog 60 #[.agg #[.int .i64 x0, .int .i64 x1], .agg #[.int .i64 x0, .int .i64 x1]] w fun e w' => e = .returned (.bool true) ∧ Below w.heap.size w w' := by
  go_enter Try.func60, Try.ntmps60
  go_wp2
  all_goals go_ret
  all_goals refine ⟨rfl, ?_⟩
  all_goals repeat (first | with_reducible assumption | with_reducible exact Below.refl _ _ | with_reducible refine bl_drew ?_ | with_reducible refine bl_drewN ?_ | ((with_reducible refine bl_set ?_ ?_); focus (first | (simp; done) | (simp; omega) | omega)) | ((with_reducible refine bl_alloc ?_ ?_); focus (first | (simp; done) | (simp; omega) | omega)))
theorem eqStepS_yes (A : Option Addr) (n c : Nat) (A' : Option Addr) (n' c' : Nat) (w : World) (B : Nat) (hB : B ≤ w.heap.size) (xs : List Step) (hn : n ≤ 2000000) (hx : Sl w B 2 encStep A n xs) (hy : Sl w B 2 encStep A' n' xs) :
    Calls Try.prog 39 #[.slice A n c, .slice A' n' c'] w fun e w' => e = .returned (.bool true) ∧ Below w.heap.size w w' := by
  obtain rfl : n = n' := hx.len.symm.trans hy.len
  go_enter Try.func39, Try.ntmps39
  go_wp2
  go_loopw [5] (fun i w1 => ∃ k : Nat, k ≤ n ∧ i = .int .i64 k ∧ Below w.heap.size w w1) (fun i _ => n - (intOf i).toNat)
  case atStart => exact ⟨0, Nat.zero_le _, rfl, Below.refl _ _⟩
  case round =>
    obtain ⟨k, hk, rfl, hb⟩ := hrel
    by_cases hlt : k < n
    · obtain ⟨x0, x1, b, off, Hx, rfl, hbB, c0, c1⟩ := (hx.below (hb.mono hB)).atStep hlt
      obtain ⟨x0', x1', b', off', Hy, rfl, hbB', c0', c1'⟩ := (hy.below (hb.mono hB)).atStep hlt
      obtain ⟨rfl, rfl⟩ : x0 = x0' ∧ x1 = x1' := by have := Hx.out.symm.trans Hy.out; simpa using this
      clear hx hy
      go_wp2
      go_region_with (go_at_call 60; refine (eqStep_yes _ _ _).mono ?_; rintro e w' ⟨rfl, hbb⟩)
      all_goals go_wp2
      all_goals have hb2 := hb.trans (Below.mono ((Below.refl _ _).drew.trans hbb) (by simpa using hb.size))
      all_goals go_roundw
      all_goals first | exact ⟨k + 1, by omega, by go_num, hb2⟩ | exact ⟨⟨k + 1, by omega, by go_num, hb2⟩, by simp [intOf]; omega⟩ | (simp [intOf]; omega)
    · go_wp2
      go_ret
      exact ⟨rfl, hb⟩
theorem toStepS_any (A : Option Addr) (n c : Nat) (xs : List Step) (w : World) (B : Nat) (hB : B ≤ w.heap.size) (hn : n ≤ 2000000) (hx : Sl w B 2 encStep A n xs) :
    Calls Try.prog 35 #[.slice A n c] w fun e w' => ∃ g, e = .returned (.slice (some ⟨g, 0, none⟩) n n) ∧ w'.ownsRow w.heap.size 56 2 (.slice (some ⟨g, 0, none⟩) n n) n (xs.flatMap encStep) ∧ Below w.heap.size w w' := by
  obtain ⟨i0, hi, hz0, hz1, hz2⟩ := info_parts Step_info
  have hmk : ∀ u : World, (Instr.makeSlice 28 (.int .i64 (n : Int)) (.int .i64 (n : Int))).run Try.prog u =
      .ok (.slice (some ⟨u.heap.size, 0, none⟩) n n) (u.alloc (.cells (madeCells #[.int .i64 0, .int .i64 0] (n * 2)) 56)) := fun u => by
    have h := run_make (P := Try.prog) u 28 56 i0 _ Try.underlying28 hi hz0 .i64 .i64 (n : Int) (n : Int) (by omega) (Int.le_refl _) (by rw [hz2]; omega) (by omega)
    simpa [hz1, Value.cells] using h
  clear hi hz0 hz1 hz2
  have hown0 : ((w.alloc (.cells (madeCells #[.int .i64 0, .int .i64 0] (n * 2)) 56))).ownsRow w.heap.size 56 2 (.slice (some ⟨w.heap.size, 0, none⟩) n n) n (madeCells #[.int .i64 0, .int .i64 0] (n * 2)).toList :=
    World.ownsRow_lit w _ n (Nat.le_refl _) (by simp only [maxLen]; omega) (size_madeCells _ _)
  go_enter Try.func35, Try.ntmps35
  go_wp2
  go_loopw [4] (fun i w1 => ∃ k l, k ≤ n ∧ i = .int .i64 (k : Nat) ∧ w1.ownsRow w.heap.size 56 2 (.slice (some ⟨w.heap.size, 0, none⟩) n n) n l ∧ Pre l ((xs.take k).flatMap encStep) ∧ Below w.heap.size w w1) (fun i _ => n - (intOf i).toNat)
  case atStart => exact ⟨0, _, Nat.zero_le _, rfl, hown0, Pre.nil _, (Below.refl _ _).alloc (Nat.le_refl _) _⟩
  case round =>
    obtain ⟨k, l, hk, rfl, hown, hpre, hb⟩ := hrel
    clear hown0 hmk
    by_cases hlt : k < n
    · obtain ⟨x0, x1, b, off, Hx, rfl, hbB, c0, c1⟩ := (hx.below (hb.mono hB)).atStep hlt
      have f0 := fun W hB => (own_at (w' := W) hown hB (k * 2) (by omega)).2
      have e0 := fun W hB => (own_at (w' := W) hown hB (k * 2) (by omega)).1
      have f1 := fun W hB => (own_at (w' := W) hown hB (k * 2 + 1) (by omega)).2
      have e1 := fun W hB => (own_at (w' := W) hown hB (k * 2 + 1) (by omega)).1
      go_wp2_with (go_at_call 56; refine (toStep_any _ _ _).mono ?_; rintro e w' ⟨rfl, hbb⟩; replace f0 := f0 _ hbb; obtain ⟨v0, e0⟩ := e0 _ hbb; replace f1 := f1 _ hbb; obtain ⟨v1, e1⟩ := e1 _ hbb)
      go_roundw
      case measure => simp [intOf]; omega
      case rel =>
        have hP : ((xs.take k).flatMap encStep).length = k * 2 := by rw [flatMap_len encStep_len, List.length_take_of_le (by rw [hx.len]; omega)]
        have s1 := own_set (own_below hown hbb) hpre (j := k * 2) hP.symm (by omega) (.int .i64 x0)
        have s2 := own_set s1.1 s1.2 (j := k * 2 + 1) (by simp [hP]) (by omega) (.int .i64 x1)
        refine ⟨k + 1, _, by omega, by go_num, s2.1, ?_, ?_⟩
        · rw [take_at Hx.out, List.flatMap_append]
          have := s2.2
          simpa [encStep] using this
        · have hb2 := hb.trans (hbb.mono hb.size)
          repeat (first | with_reducible assumption | with_reducible exact Below.refl _ _ | with_reducible refine bl_drew ?_ | with_reducible refine bl_drewN ?_ | ((with_reducible refine bl_set ?_ ?_); focus (first | (simp; done) | (simp; omega) | omega)) | ((with_reducible refine bl_alloc ?_ ?_); focus (first | (simp; done) | (simp; omega) | omega)))
    · have : k = n := by omega
      subst this
      have hP : (xs.flatMap encStep).length = k * 2 := by rw [flatMap_len encStep_len, hx.len]
      rw [List.take_of_length_le (by rw [hx.len]; omega)] at hpre
      have e := hpre.all (by rw [hown.1, hP])
      subst e
      clear hpre hP
      go_wp2
      go_ret
      exact ⟨_, rfl, hown, hb⟩
/-- the marks of some structs, one number a field -/
def marksStep (m : Int) (n : Nat) : List Step := (List.range n).map fun i => ⟨m + 2 * (i : Nat), m + 2 * (i : Nat) + 1⟩
theorem marksStep_succ (m : Int) (n : Nat) : marksStep m (n + 1) = marksStep m n ++ [⟨m + 2 * n, m + 2 * n + 1⟩] := by simp [marksStep, List.range_succ]
theorem marksStep_len (m : Int) (n : Nat) : (marksStep m n).length = n := by simp [marksStep]
theorem open_StepS {H : Type} {enc : TypeId × Value → H} {W : World} {b0 : Nat} {sp0 : Nat → Bool} {cs : List Value} {fuel : Nat} {x : DataW H × List MemPlace} (hs0 : sp0 = fun _ => true)
    (hf : DataW.trod enc Try.prog W b0 sp0 true fuel 22 cs = some x) : ∃ A n c xs, cs = [.slice A n c] ∧ n ≤ 9223372036854775807 ∧ Sl W W.heap.size 2 encStep A n xs := by
  subst hs0
  rcases open_slice_fields Try.underlying22 Try.underlying84 (by kernel_rfl) (by kernel_rfl) hf with ⟨hcs, _⟩ | ⟨a, len, cap, m, D, Pl, hcs, _, hl, hm, hmm, _, hi⟩
  · exact ⟨_, _, _, [], hcs, by omega, rfl, fun i x hx => by simp at hx⟩
  · obtain ⟨b, off, sp⟩ := a
    have hmc : m = cap := by simpa using hmm
    subst hmc
    have hc : ∀ i, i < len → sp = none ∧ b < W.heap.size ∧ ∃ x0 x1 : Int, W.cell? ⟨b, off + i * 2, none⟩ = some (.int .i64 x0) ∧ W.cell? ⟨b, off + i * 2 + 1, none⟩ = some (.int .i64 x1) := by
      intro i hil
      have hsp : sp = none := by
        obtain ⟨ys, n, _, _, _, hj⟩ := hi 0 (by omega)
        obtain ⟨v, y, hcell, _, _⟩ := hj 0 _ rfl
        exact spot_none hcell
      subst hsp
      obtain ⟨ys, n, _, _, _, hj⟩ := hi i (by omega)
      obtain ⟨v0, y0, c0, _, t0⟩ := hj 0 _ rfl
      obtain ⟨z0, e0, _, _⟩ := DataW.trod_int Try.underlying2 t0
      simp only [List.cons.injEq, and_true] at e0
      subst e0
      rw [Addr.add_lit] at c0
      obtain ⟨v1, y1, c1, _, t1⟩ := hj 1 _ rfl
      obtain ⟨z1, e1, _, _⟩ := DataW.trod_int Try.underlying2 t1
      simp only [List.cons.injEq, and_true] at e1
      subst e1
      rw [Addr.add_lit] at c1
      exact ⟨rfl, World.block_lt_of_cell? _ _ c0, z0, z1, c0, c1⟩
    refine ⟨_, len, m, (List.range len).map fun i => ⟨numAt W ⟨b, off + i * 2, none⟩, numAt W ⟨b, off + i * 2 + 1, none⟩⟩, hcs, by unfold maxLen at hm; omega, by simp, fun i x hx => ?_⟩
    have hil : i < len := by simpa using (List.getElem?_eq_some_iff.1 hx).1
    obtain ⟨hs, hb, x0, x1, c0, c1⟩ := hc i hil
    simp [hil] at hx
    subst hx hs
    rw [numAt_of c0, numAt_of c1]
    refine ⟨b, off, rfl, hb, fun j u hj => ?_⟩
    match j, hj with
    | 0, hj => simp [encStep] at hj; subst hj; exact c0
    | 1, hj => simp [encStep] at hj; subst hj; exact c1
end Go.Proofs.Ytbgpdaclaknapaa
