/-
  Lists of numbers: compared, marked, held; where one of them stands. No condition.
-/
import Derived.Test.YteckfjnglmkenaaBase
namespace Go.Proofs.Yteckfjnglmkenaa
open Go.RowKit
set_option maxHeartbeats 400000

theorem encI_len (z : Int) : (encI z).length = 1 := rfl
theorem int_info : (Try.prog.info? 2).map (fun i => (i.zero, i.size, i.bytes)) = some (some (.int .i64 0), 1, 8) := by kernel_rfl

/-- two copies of one list are found equal -/
theorem eqInt64S_yes (A : Option Addr) (n c : Nat) (A' : Option Addr) (n' c' : Nat) (w : World) (B : Nat) (hB : B ≤ w.heap.size) (xs : List Int) (hn : n ≤ 2000000) (hx : Sl w B 1 encI A n xs) (hy : Sl w B 1 encI A' n' xs) :
    Calls Try.prog 10 #[.slice A n c, .slice A' n' c'] w fun e w' => e = .returned (.bool true) ∧ Below w.heap.size w w' := by
  obtain rfl : n = n' := hx.len.symm.trans hy.len
  go_enter Try.func10, Try.ntmps10
  go_wp2
  go_loopw [5] (fun i w1 => ∃ k : Nat, k ≤ n ∧ i = .int .i64 k ∧ Below w.heap.size w w1) (fun i _ => n - (intOf i).toNat)
  case atStart => exact ⟨0, Nat.zero_le _, rfl, Below.refl _ _⟩
  case round =>
    obtain ⟨k, hk, rfl, hb⟩ := hrel
    by_cases hlt : k < n
    · obtain ⟨x, b, off, Hx, rfl, hbB, c0⟩ := (hx.below (hb.mono hB)).int hlt
      obtain ⟨x', b', off', Hy, rfl, hbB', c0'⟩ := (hy.below (hb.mono hB)).int hlt
      obtain rfl : x = x' := by have := Hx.out.symm.trans Hy.out; simpa using this
      have i0 : (0 : Int) ≤ (k : Int) := by omega
      have i1 : (k : Int) < (n : Int) := by omega
      clear hx hy
      go_wp2
      go_quiet (fail)
      go_wp2
      have hb2 := below_drewN hb nq
      go_roundw
      all_goals first | exact ⟨k + 1, by omega, by go_num, hb2⟩ | exact ⟨⟨k + 1, by omega, by go_num, hb2⟩, by simp [intOf]; omega⟩ | (simp [intOf]; omega)
    · go_wp2
      go_ret
      exact ⟨rfl, hb⟩

/-- the marks k, k + 1 .. -/
def marks (k : Int) (n : Nat) : List Int := (List.range n).map fun i => k + (i : Nat)
theorem marks_succ (k : Int) (n : Nat) : marks k (n + 1) = marks k n ++ [k + n] := by simp [marks, List.range_succ]
theorem marks_len (k : Int) (n : Nat) : (marks k n).length = n := by simp [marks]

theorem own_lt {w : World} {lo T k : Nat} {g n c : Nat} {l : List Value} (h : w.ownsRow lo T k (.slice (some ⟨g, 0, none⟩) n c) n l) : lo ≤ g ∧ g < w.heap.size := h.lt g rfl
/-- where an own row of some elements lies -/
theorem own_some {w : World} {lo T k : Nat} {A : Option Addr} {n c : Nat} {l : List Value} (h : w.ownsRow lo T k (.slice A n c) n l) (hn : 0 < n) : ∃ g, A = some ⟨g, 0, none⟩ ∧ lo ≤ g ∧ g < w.heap.size := by
  obtain ⟨g, cap, hv, h1, h2⟩ := h.form hn
  injection hv with hA _ hc
  exact ⟨g, hA, h1, h2⟩

/-- a number in an own row -/
theorem own_int {w : World} {lo T g n c : Nat} {l : List Int} (h : w.ownsRow lo T 1 (.slice (some ⟨g, 0, none⟩) n c) n (l.flatMap encI)) {k : Nat} {z : Int} (hk : l[k]? = some z) : w.cell? ⟨g, k, none⟩ = some (.int .i64 z) ∧ w.frozen? ⟨g, k, none⟩ = false := by
  have hl := h.1
  rw [flatMap_len encI_len] at hl
  have hkl := (List.getElem?_eq_some_iff.1 hk).1
  refine ⟨?_, h.frozenAt k⟩
  rw [h.cellAt k (by omega)]
  have := flatMap_get encI_len (j := 0) (u := .int .i64 z) l k hk rfl
  simpa using this

theorem markInt64S_any (lo : Nat) (A : Option Addr) (n c : Nat) (l : List Value) (m : Int) (w : World) (hn : n ≤ 2000000) (h0 : 0 ≤ m) (h1 : m ≤ 9000000) (hown : w.ownsRow lo 2 1 (.slice A n c) n l) :
    Calls Try.prog 13 #[.slice A n c, .int .i64 m] w fun e w' => e = .returned (.int .i64 (m + n)) ∧ w'.ownsRow lo 2 1 (.slice A n c) n ((marks m n).flatMap encI) ∧ w.grownBy w' (Value.slice A n c).ownBlock := by
  go_enter Try.func13, Try.ntmps13
  go_wp2
  go_loopw [1, 5] (fun s i w1 => ∃ k l1, k ≤ n ∧ i = .int .i64 (k : Nat) ∧ s = .int .i64 (m + (k : Nat)) ∧ w1.ownsRow lo 2 1 (.slice A n c) n l1 ∧ Pre l1 ((marks m k).flatMap encI) ∧ w.grownBy w1 (Value.slice A n c).ownBlock) (fun _ i _ => n - (intOf i).toNat)
  case atStart => exact ⟨0, l, Nat.zero_le _, rfl, by go_num, hown, Pre.nil _, World.grownBy.refl _ _⟩
  case round =>
    obtain ⟨k, l1, hk, rfl, rfl, hown1, hpre, hg⟩ := hrel
    clear hown
    by_cases hlt : k < n
    · obtain ⟨g, rfl, hlo, hgs⟩ := own_some hown1 (by omega)
      obtain ⟨⟨u, e0⟩, f0⟩ := own_at hown1 (Below.refl _ _) k (by omega)
      go_wp2
      have hP : ((marks m k).flatMap encI).length = k := by rw [flatMap_len encI_len, marks_len, Nat.mul_one]
      have s1 := own_set hown1 hpre (j := k) hP.symm (by omega) (.int .i64 (m + (k : Nat)))
      have e1 : (marks m k).flatMap encI ++ [.int .i64 (m + (k : Nat))] = (marks m (k + 1)).flatMap encI := by rw [marks_succ, List.flatMap_append]; rfl
      rw [e1] at s1
      have hg2 := hg.trans (hown1.stored k (.int .i64 (m + (k : Nat)))).2
      clear e1 hP
      go_roundw
      all_goals first | exact ⟨k + 1, _, by omega, by go_num, by go_num, s1.1, s1.2, hg2⟩ | exact ⟨⟨k + 1, _, by omega, by go_num, by go_num, s1.1, s1.2, hg2⟩, by simp [intOf]; omega⟩ | (simp [intOf]; omega)
    · have : k = n := by omega
      subst this
      have e := hpre.all (by rw [hown1.1, flatMap_len encI_len, marks_len])
      subst e
      clear hpre
      go_wp2
      go_ret
      exact ⟨rfl, hown1, hg⟩

theorem heldInt64S_any (A : Option Addr) (n c : Nat) (m : Int) (w : World) (B : Nat) (hn : n ≤ 2000000) (h0 : 0 ≤ m) (h1 : m ≤ 2000000) (hx : Sl w B 1 encI A n (marks m n)) :
    Calls Try.prog 14 #[.slice A n c, .int .i64 m] w fun e w' => e = .returned (.int .i64 (m + n)) ∧ Below w.heap.size w w' := by
  go_enter Try.func14, Try.ntmps14
  go_wp2
  go_loopw [1, 5] (fun s i w1 => ∃ k : Nat, k ≤ n ∧ i = .int .i64 k ∧ s = .int .i64 (m + k) ∧ w1 = w) (fun _ i _ => n - (intOf i).toNat)
  case atStart => exact ⟨0, Nat.zero_le _, rfl, by go_num, rfl⟩
  case round =>
    obtain ⟨k, hk, rfl, rfl, rfl⟩ := hrel
    by_cases hlt : k < n
    · obtain ⟨x, b, off, Hx, rfl, hbB, c0⟩ := hx.int hlt
      obtain rfl : x = m + k := by
        have := Hx.out
        simp only [marks, List.getElem?_map, List.getElem?_range hlt, Option.map_some, Option.some.injEq] at this
        exact this.symm
      clear hx
      go_wp2
      go_roundw
      all_goals first | exact ⟨k + 1, by omega, by go_num, by go_num, by trivial⟩ | exact ⟨⟨k + 1, by omega, by go_num, by go_num, by trivial⟩, by simp [intOf]; omega⟩ | (simp [intOf]; omega)
    · have : k = n := by omega
      subst this
      go_wp2
      go_ret
      exact ⟨rfl, Below.refl _ _⟩
end Go.Proofs.Yteckfjnglmkenaa
