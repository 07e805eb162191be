/-
  Step: a struct of numbers: how a slice of it reads; its copies, comparisons and marks. No condition.
-/
import Derived.Test.YtngfhpklakhehaaDoorInt
import Derived.Test.YtngfhpklakhehaaDoorOpen
namespace Go.Proofs.YtngfhpklakhehaaDoor
open Go.RowKit Go.ChangeShapes Go.WideShapes Go.ChangeAt Go.Deep
set_option maxHeartbeats 400000

structure Step where
  g : Int
  p : Int
  deriving DecidableEq
def encStep (x : Step) : List Value := [.int .i64 x.g, .int .i64 x.p]
theorem encStep_len (x : Step) : (encStep x).length = 2 := rfl
theorem Sl.atStep {w : World} {B : Nat} {A : Option Addr} {n : Nat} {xs : List Step} (h : Sl w B 2 encStep A n xs) {i : Nat} (hi : i < n) :
    ∃ x0 x1 b off, Hid (xs[i]? = some ⟨x0, x1⟩) ∧ A = some ⟨b, off, none⟩ ∧ b < B ∧ w.cell? ⟨b, off + i * 2, none⟩ = some (.int .i64 x0) ∧ w.cell? ⟨b, off + i * 2 + 1, none⟩ = some (.int .i64 x1) := by
  obtain ⟨⟨x0, x1⟩, b, off, hx, e, hb, hc⟩ := h.at_ hi
  exact ⟨x0, x1, b, off, hx, e, hb, hc 0 _ rfl, hc 1 _ rfl⟩
theorem Sl.ofStep {w : World} {B n : Nat} {A : Option Addr} {xs : List Step} (h : Sl w B 2 encStep A n xs) {i : Nat} {x0 x1 : Int} (hx : xs[i]? = some ⟨x0, x1⟩) :
    ∃ b off, A = some ⟨b, off, none⟩ ∧ b < B ∧ w.cell? ⟨b, off + i * 2, none⟩ = some (.int .i64 x0) ∧ w.cell? ⟨b, off + i * 2 + 1, none⟩ = some (.int .i64 x1) := by
  obtain ⟨b, off, e, hb, hc⟩ := h.2 i _ hx
  exact ⟨b, off, e, hb, hc 0 _ rfl, hc 1 _ rfl⟩
theorem Sl.inStep {w : World} {B b off n : Nat} {xs : List Step} (h : Sl w B 2 encStep (some ⟨b, off, none⟩) n xs) {i : Nat} {x0 x1 : Int} (hx : xs[i]? = some ⟨x0, x1⟩) :
    w.cell? ⟨b, off + i * 2, none⟩ = some (.int .i64 x0) ∧ w.cell? ⟨b, off + i * 2 + 1, none⟩ = some (.int .i64 x1) := by
  obtain ⟨b', off', e, _, hc⟩ := h.2 i _ hx
  injection e with e
  injection e with e1 e2
  subst e1 e2
  exact ⟨hc 0 _ rfl, hc 1 _ rfl⟩

theorem eqStep_yes (x0 x1 : Int) (w : World) :
    Calls Tryd.prog 31 #[.agg #[.int .i64 x0, .int .i64 x1], .agg #[.int .i64 x0, .int .i64 x1]] w fun e w' => e = .returned (.bool true) ∧ Below w.heap.size w w' := by
  go_enter Tryd.func31, Tryd.ntmps31
  go_wp2
  all_goals go_ret
  all_goals refine ⟨rfl, ?_⟩
  all_goals repeat (first | with_reducible assumption | with_reducible exact Below.refl _ _ | with_reducible refine bl_drew ?_ | with_reducible refine bl_drewN ?_ | ((with_reducible refine bl_set ?_ ?_); focus (first | (simp; done) | (simp; omega) | omega)) | ((with_reducible refine bl_alloc ?_ ?_); focus (first | (simp; done) | (simp; omega) | omega)))
theorem eqStepS_yes (A : Option Addr) (n c : Nat) (A' : Option Addr) (n' c' : Nat) (w : World) (B : Nat) (hB : B ≤ w.heap.size) (xs : List Step) (hn : n ≤ 2000000) (hx : Sl w B 2 encStep A n xs) (hy : Sl w B 2 encStep A' n' xs) :
    Calls Tryd.prog 19 #[.slice A n c, .slice A' n' c'] w fun e w' => e = .returned (.bool true) ∧ Below w.heap.size w w' := by
  obtain rfl : n = n' := hx.len.symm.trans hy.len
  go_enter Tryd.func19, Tryd.ntmps19
  go_wp2
  go_loopw [5] (fun i w1 => ∃ k : Nat, k ≤ n ∧ i = .int .i64 k ∧ Below w.heap.size w w1) (fun i _ => n - (intOf i).toNat)
  case atStart => exact ⟨0, Nat.zero_le _, rfl, Below.refl _ _⟩
  case round =>
    obtain ⟨k, hk, rfl, hb⟩ := hrel
    by_cases hlt : k < n
    · obtain ⟨x0, x1, b, off, Hx, rfl, hbB, c0, c1⟩ := (hx.below (hb.mono hB)).atStep hlt
      obtain ⟨x0', x1', b', off', Hy, rfl, hbB', c0', c1'⟩ := (hy.below (hb.mono hB)).atStep hlt
      obtain ⟨rfl, rfl⟩ : x0 = x0' ∧ x1 = x1' := by have := Hx.out.symm.trans Hy.out; simpa using this
      clear hx hy
      go_wp2
      go_region_with (go_at_call 31; refine (eqStep_yes _ _ _).mono ?_; rintro e w' ⟨rfl, hbb⟩)
      all_goals go_wp2
      all_goals have hb2 := hb.trans (Below.mono ((Below.refl _ _).drew.trans hbb) (by simpa using hb.size))
      all_goals go_roundw
      all_goals first | exact ⟨k + 1, by omega, by go_num, hb2⟩ | exact ⟨⟨k + 1, by omega, by go_num, hb2⟩, by simp [intOf]; omega⟩ | (simp [intOf]; omega)
    · go_wp2
      go_ret
      exact ⟨rfl, hb⟩
/-- the marks of some structs, one number a field -/
def marksStep (m : Int) (n : Nat) : List Step := (List.range n).map fun i => ⟨m + 2 * (i : Nat), m + 2 * (i : Nat) + 1⟩
theorem marksStep_succ (m : Int) (n : Nat) : marksStep m (n + 1) = marksStep m n ++ [⟨m + 2 * n, m + 2 * n + 1⟩] := by simp [marksStep, List.range_succ]
theorem marksStep_len (m : Int) (n : Nat) : (marksStep m n).length = n := by simp [marksStep]
theorem markStepS_any (lo : Nat) (A : Option Addr) (n c : Nat) (l : List Value) (m : Int) (w : World) (hn : n ≤ 2000000) (h0 : 0 ≤ m) (h1 : m ≤ 9000000) (hown : w.ownsRow lo 37 2 (.slice A n c) n l) :
    Calls Tryd.prog 20 #[.slice A n c, .int .i64 m] w fun e w' => e = .returned (.int .i64 (m + 2 * n)) ∧ w'.ownsRow lo 37 2 (.slice A n c) n ((marksStep m n).flatMap encStep) ∧ w.grownBy w' (Value.slice A n c).ownBlock := by
  go_enter Tryd.func20, Tryd.ntmps20
  go_wp2
  go_loopw [1, 5] (fun s i w1 => ∃ k l1, k ≤ n ∧ i = .int .i64 (k : Nat) ∧ s = .int .i64 (m + 2 * (k : Nat)) ∧ w1.ownsRow lo 37 2 (.slice A n c) n l1 ∧ Pre l1 ((marksStep m k).flatMap encStep) ∧ w.grownBy w1 (Value.slice A n c).ownBlock) (fun _ i _ => n - (intOf i).toNat)
  case atStart => exact ⟨0, l, Nat.zero_le _, rfl, by go_num, hown, Pre.nil _, World.grownBy.refl _ _⟩
  case round =>
    obtain ⟨k, l1, hk, rfl, rfl, hown1, hpre, hg⟩ := hrel
    clear hown
    by_cases hlt : k < n
    · obtain ⟨g, rfl, hlo, hgs⟩ := own_some hown1 (by omega)
      obtain ⟨⟨u0, e0⟩, f0⟩ := own_at hown1 (Below.refl _ _) (k * 2) (by omega)
      obtain ⟨⟨u1, e1⟩, f1⟩ := own_at hown1 (Below.refl _ _) (k * 2 + 1) (by omega)
      go_wp2
      have hP : ((marksStep m k).flatMap encStep).length = k * 2 := by rw [flatMap_len encStep_len, marksStep_len]
      have t1 := own_set hown1 hpre (j := k * 2) hP.symm (by omega) (.int .i64 (m + 2 * (k : Nat)))
      have g1 := (hown1.stored (k * 2) (.int .i64 (m + 2 * (k : Nat)))).2
      have t2 := own_set t1.1 t1.2 (j := k * 2 + 1) (by simp [hP]) (by omega) (.int .i64 (m + 2 * (k : Nat) + 1))
      have g2 := (t1.1.stored (k * 2 + 1) (.int .i64 (m + 2 * (k : Nat) + 1))).2
      have hg2 := (hg.trans g1).trans g2
      have e9 : ((marksStep m k).flatMap encStep ++ [.int .i64 (m + 2 * (k : Nat))]) ++ [.int .i64 (m + 2 * (k : Nat) + 1)] = (marksStep m (k + 1)).flatMap encStep := by rw [marksStep_succ, List.flatMap_append]; simp [encStep]
      have s9 := t2.2
      rw [e9] at s9
      clear e9 hP
      go_roundw
      all_goals first | exact ⟨k + 1, _, by omega, by go_num, by go_num, t2.1, s9, hg2⟩ | exact ⟨⟨k + 1, _, by omega, by go_num, by go_num, t2.1, s9, hg2⟩, by simp [intOf]; omega⟩ | (simp [intOf]; omega)
    · have : k = n := by omega
      subst this
      have e := hpre.all (by rw [hown1.1, flatMap_len encStep_len, marksStep_len])
      subst e
      clear hpre
      go_wp2
      go_ret
      exact ⟨rfl, hown1, hg⟩
theorem heldStepS_any (A : Option Addr) (n c : Nat) (m : Int) (w : World) (B : Nat) (hn : n ≤ 2000000) (h0 : 0 ≤ m) (h1 : m ≤ 9000000) (hx : Sl w B 2 encStep A n (marksStep m n)) :
    Calls Tryd.prog 21 #[.slice A n c, .int .i64 m] w fun e w' => e = .returned (.int .i64 (m + 2 * n)) ∧ Below w.heap.size w w' := by
  go_enter Tryd.func21, Tryd.ntmps21
  go_wp2
  go_loopw [1, 5] (fun s i w1 => ∃ k : Nat, k ≤ n ∧ i = .int .i64 k ∧ s = .int .i64 (m + 2 * k) ∧ w1 = w) (fun _ i _ => n - (intOf i).toNat)
  case atStart => exact ⟨0, Nat.zero_le _, rfl, by go_num, rfl⟩
  case round =>
    obtain ⟨k, hk, rfl, rfl, rfl⟩ := hrel
    by_cases hlt : k < n
    · obtain ⟨x0, x1, b, off, Hx, rfl, hbB, c0, c1⟩ := hx.atStep hlt
      obtain ⟨rfl, rfl⟩ : x0 = m + 2 * k ∧ x1 = m + 2 * k + 1 := by
        have := Hx.out
        simp only [marksStep, List.getElem?_map, List.getElem?_range hlt, Option.map_some, Option.some.injEq, Step.mk.injEq] at this
        omega
      clear hx
      go_wp2
      go_roundw
      all_goals first | exact ⟨k + 1, by omega, by go_num, by go_num, by trivial⟩ | exact ⟨⟨k + 1, by omega, by go_num, by go_num, by trivial⟩, by simp [intOf]; omega⟩ | (simp [intOf]; omega)
    · have : k = n := by omega
      subst this
      go_wp2
      go_ret
      exact ⟨rfl, Below.refl _ _⟩
end Go.Proofs.YtngfhpklakhehaaDoor
