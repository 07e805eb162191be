/-
  IsTree, TreeCost, DepthsOf: the program's functions and the reference's. No condition.
-/
import Derived.Test.YtfbgglhjlbdfiaaGTree2
namespace Go.Proofs.Ytfbgglhjlbdfiaa
open Go.RowKit
set_option maxHeartbeats 400000

theorem parC_in (css : List (List Int)) (ps : List Int) : parC css ps = 0 ∨ parC css ps = 1 ∨ parC css ps = 2 := by
  unfold parC
  split
  · split
    · exact .inl rfl
    · exact .inr (.inr rfl)
  · exact .inr (.inl rfl)
theorem codeG_in (css : List (List Int)) (ps : List Int) : codeG css ps = 0 ∨ codeG css ps = 1 ∨ codeG css ps = 2 ∨ codeG css ps = 6 := by
  unfold codeG
  split
  · split
    · exact .inl rfl
    · exact .inr (.inr (.inr rfl))
  · rcases parC_in css ps with h | h | h
    · exact .inl h
    · exact .inr (.inl h)
    · exact .inr (.inr (.inl h))
theorem codeG_zero {css : List (List Int)} {ps : List Int} (h : codeG css ps = 0) : parC css ps = 0 ∧ isTree ps = true := by
  unfold codeG at h
  split at h
  · rename_i hp
    split at h
    · rename_i ht; exact ⟨hp, ht⟩
    · omega
  · rename_i hp; exact absurd h hp
def boolI (p : Bool × Int) : Value := .tuple #[.bool p.1, .int .i64 p.2]
def pairI (p : Int × Int) : Value := .tuple #[.int .i64 p.1, .int .i64 p.2]
def tripI (p : Int × Int × Int) : Value := .tuple #[.int .i64 p.1, .int .i64 p.2.1, .int .i64 p.2.2]
/-- a list and a code -/
def ListPost (w : World) (R : List Int × Int) (r : Ending) (w' : World) : Prop :=
  ∃ A n c, r = .returned (.tuple #[.slice A n c, .int .i64 R.2]) ∧ w'.ownsRow w.heap.size 2 1 (.slice A n c) n (R.1.flatMap encI) ∧ Below w.heap.size w w'
theorem ListPost.bad {w w' : World} {R : List Int × Int} {z : Int} (hR : R = ([], z)) (hb : Below w.heap.size w w') : ListPost w R (.returned (.tuple #[.slice none 0 0, .int .i64 z])) w' := by
  subst hR
  exact ⟨none, 0, 0, rfl, World.ownsRow_nil _ _ _ _, hb⟩

def isTreeF (css : List (List Int)) (ps : List Int) : Bool × Int := if parC css ps = 0 then (isTree ps, 0) else (false, parC css ps)
theorem implIsTree_any (A : Option Addr) (n c : Nat) (rs : List Row) (A' : Option Addr) (m c' : Nat) (ps : List Int) (w : World) (B : Nat) (hB : B ≤ w.heap.size) (hn : n + tot rs ≤ 2000000) (hm : m ≤ 2000000) (hx : SlS w B A n rs) (hy : Sl w B 1 encI A' m ps) :
    Calls Try.prog 13 #[.slice A n c, .slice A' m c'] w fun r w' => r = .returned (boolI (isTreeF (cont rs) ps)) ∧ Below w.heap.size w w' := by
  have hp := treeCode_any A n c rs A' m c' ps w B hB hn hm hx hy
  obtain ⟨z, b, E, h⟩ : ∃ z b, Hid (isTreeF (cont rs) ps = b) ∧ codeG (cont rs) ps = z ∧ ((z = 0 ∧ b = (true, 0)) ∨ (z = 6 ∧ b = (false, 0)) ∨ (z = 1 ∧ b = (false, 1)) ∨ (z = 2 ∧ b = (false, 2))) := by
    refine ⟨_, _, rfl, rfl, ?_⟩
    unfold isTreeF codeG
    by_cases h0 : parC (cont rs) ps = 0
    · rw [if_pos h0, if_pos h0]
      cases isTree ps <;> simp
    · rw [if_neg h0, if_neg h0]
      rcases parC_in (cont rs) ps with h | h | h
      · exact absurd h h0
      · rw [h]; simp
      · rw [h]; simp
  obtain ⟨hz, h⟩ := h
  rw [hz] at hp
  clear hx hy hz
  rcases h with ⟨rfl, rfl⟩ | ⟨rfl, rfl⟩ | ⟨rfl, rfl⟩ | ⟨rfl, rfl⟩
  all_goals go_enter Try.func13, Try.ntmps13
  all_goals go_wp2_with (go_at_call 24; refine hp.mono ?_; rintro r w1 ⟨rfl, b1⟩)
  all_goals go_ret2
  all_goals rw [E.out]
  all_goals exact ⟨rfl, b1⟩

def costK (css : List (List Int)) (ps : List Int) (k : Nat) : Int := ((List.range k).map fun i : Nat => cAt css (i + 1) (ps.getD i 0).toNat).sum
theorem costK_succ (css : List (List Int)) (ps : List Int) (k : Nat) : costK css ps (k + 1) = costK css ps k + cAt css (k + 1) (ps.getD k 0).toNat := by
  simp [costK, List.range_succ]
theorem costG_K (css : List (List Int)) (ps : List Int) : costG css ps = costK css ps ps.length := rfl
theorem cAt_in {css : List (List Int)} (hv : validC css = true) {i k : Nat} (hi : i < css.length) (hk : k < css.length) : 0 ≤ cAt css i k ∧ cAt css i k ≤ 10000 := by
  have h := (validC_iff.1 hv).2.2 i hi k hk
  by_cases e : i = k
  · have := h.1 e; omega
  · have := h.2.1 e; omega
theorem SlS.cell {w : World} {B : Nat} {A : Option Addr} {n : Nat} {rs : List Row} (h : SlS w B A n rs) (hv : validC (cont rs) = true) {i k : Nat} (hi : i < n) (hk : k < n) :
    ∃ b off ci bi oi, A = some ⟨b, off, none⟩ ∧ b < B ∧ w.cell? ⟨b, off + i, none⟩ = some (.slice (some ⟨bi, oi, none⟩) n ci) ∧ bi < B ∧ w.cell? ⟨bi, oi + k, none⟩ = some (.int .i64 (cAt (cont rs) i k)) := by
  obtain ⟨Ai, ni, ci, xi, b, off, Hx, rfl, hbB, c0, hxi⟩ := h.row hi
  have hlc : (cont rs).length = n := by rw [cont_len, h.len]
  obtain rfl : ni = n := by
    have h1 := (validC_iff.1 hv).2.1 i (by omega)
    rw [List.getD, cont_at Hx.out] at h1
    simp only [Option.getD_some] at h1
    rw [← hxi.len, h1, hlc]
  obtain ⟨x, bi, oi, Hv, rfl, hb2, d0⟩ := hxi.int hk
  exact ⟨b, off, ci, bi, oi, rfl, hbB, c0, hb2, by rw [d0, cAt_of Hx.out Hv.out]⟩
set_option maxHeartbeats 1000000 in
theorem treeCost_any (A : Option Addr) (n c : Nat) (rs : List Row) (A' : Option Addr) (m c' : Nat) (ps : List Int) (w : World) (B : Nat) (hB : B ≤ w.heap.size) (hx : SlS w B A n rs) (hy : Sl w B 1 encI A' m ps) (hp : parC (cont rs) ps = 0) :
    Calls Try.prog 25 #[.slice A n c, .slice A' m c'] w fun r w' => r = .returned (.int .i64 (costG (cont rs) ps)) ∧ w' = w := by
  have hl := hx.len
  have hlp := hy.len
  obtain ⟨hv, hpl, hin⟩ := parC_zero hp
  have hlc : (cont rs).length = n := by rw [cont_len, hl]
  have hn6 := validC_len hv
  rw [hlc] at hn6 hpl
  rw [hlp] at hpl
  clear hp
  go_enter Try.func25, Try.ntmps25
  go_wp2
  go_loopw [5, 10] (fun s i w1 => ∃ (k : Nat) (z : Int), k ≤ m ∧ i = .int .i64 k ∧ s = .int .i64 z ∧ Hid (costK (cont rs) ps k = z) ∧ 0 ≤ z ∧ z ≤ 10000 * k ∧ w1 = w) (fun _ i _ => m - (intOf i).toNat)
  case atStart => exact ⟨0, 0, Nat.zero_le _, rfl, rfl, by simp [Hid, costK], by omega, by omega, rfl⟩
  case round =>
    obtain ⟨k, z, hk, rfl, rfl, hz, z0, z1, rfl⟩ := hrel
    by_cases hlt : k < m
    · obtain ⟨p, bp, op, Hp, rfl, hbp, d0⟩ := hy.int hlt
      have hpp := hin p (List.mem_of_getElem? Hp.out)
      rw [hlp] at hpp
      obtain ⟨j, rfl⟩ : ∃ j : Nat, p = (j : Int) := ⟨p.toNat, by omega⟩
      have hj : j < n := by omega
      obtain ⟨b, off, ci, bi, oi, rfl, hbB, c0, hbi, c1⟩ := hx.cell hv (show k + 1 < n by omega) hj
      have hci := cAt_in hv (i := k + 1) (k := j) (by omega) (by omega)
      have E : Hid (costK (cont rs) ps (k + 1) = z + cAt (cont rs) (k + 1) j) := by
        rw [Hid, costK_succ, hz.out, List.getD, Hp.out]; rfl
      generalize cAt (cont rs) (k + 1) j = v at c1 hci E
      obtain ⟨v0, v1⟩ := hci
      clear hx hy hz hpp hin hv
      go_wp2
      go_roundw
      all_goals first | exact ⟨k + 1, z + v, by omega, by go_num, by go_num, E, by omega, by omega, by trivial⟩ | exact ⟨⟨k + 1, z + v, by omega, by go_num, by go_num, E, by omega, by omega, by trivial⟩, by simp [intOf]; omega⟩ | (simp [intOf]; omega)
    · have : k = m := by omega
      subst this
      have E : Hid (costG (cont rs) ps = z) := by rw [Hid, costG_K, hlp]; exact hz.out
      clear hz hx hy hin hv
      go_wp2
      go_ret
      exact ⟨retI E.out.symm, rfl⟩
def treeCostF (css : List (List Int)) (ps : List Int) : Int × Int := if codeG css ps = 0 then (costG css ps, 0) else (0, codeG css ps)
theorem implTreeCost_any (A : Option Addr) (n c : Nat) (rs : List Row) (A' : Option Addr) (m c' : Nat) (ps : List Int) (w : World) (B : Nat) (hB : B ≤ w.heap.size) (hn : n + tot rs ≤ 2000000) (hm : m ≤ 2000000) (hx : SlS w B A n rs) (hy : Sl w B 1 encI A' m ps) :
    Calls Try.prog 9 #[.slice A n c, .slice A' m c'] w fun r w' => r = .returned (pairI (treeCostF (cont rs) ps)) ∧ Below w.heap.size w w' := by
  have hp := treeCode_any A n c rs A' m c' ps w B hB hn hm hx hy
  by_cases h0 : codeG (cont rs) ps = 0
  · have ht := fun W h1 h2 h3 => treeCost_any A n c rs A' m c' ps W B h1 h2 h3 (codeG_zero h0).1
    have E : Hid (treeCostF (cont rs) ps = (costG (cont rs) ps, 0)) := by unfold Hid treeCostF; rw [if_pos h0]
    rw [h0] at hp
    clear h0
    go_enter Try.func9, Try.ntmps9
    go_wp2_with (first
      | (go_at_call 24; refine hp.mono ?_; rintro r w1 ⟨rfl, b1⟩)
      | (go_at_call 25; refine (ht _ (Nat.le_trans hB b1.size) (hx.below (b1.mono hB)) (hy.below (b1.mono hB))).mono ?_; rintro r w1 ⟨rfl, rfl⟩))
    go_ret2
    rw [E.out]
    exact ⟨rfl, b1⟩
  · have E : Hid (treeCostF (cont rs) ps = (0, codeG (cont rs) ps)) := by unfold Hid treeCostF; rw [if_neg h0]
    generalize codeG (cont rs) ps = z at hp h0 E
    clear hx hy
    go_enter Try.func9, Try.ntmps9
    go_wp2_with (go_at_call 24; refine hp.mono ?_; rintro r w1 ⟨rfl, b1⟩)
    go_ret2
    rw [E.out]
    exact ⟨rfl, b1⟩
def depthsF (css : List (List Int)) (ps : List Int) : List Int × Int := if codeG css ps = 0 then (depL ps, 0) else ([], codeG css ps)
theorem implDepthsOf_any (A : Option Addr) (n c : Nat) (rs : List Row) (A' : Option Addr) (m c' : Nat) (ps : List Int) (w : World) (B : Nat) (hB : B ≤ w.heap.size) (hn : n + tot rs ≤ 2000000) (hm : m ≤ 2000000) (hx : SlS w B A n rs) (hy : Sl w B 1 encI A' m ps) :
    Calls Try.prog 12 #[.slice A n c, .slice A' m c'] w (ListPost w (depthsF (cont rs) ps)) := by
  have hp := treeCode_any A n c rs A' m c' ps w B hB hn hm hx hy
  have hlp := hy.len
  by_cases h0 : codeG (cont rs) ps = 0
  · obtain ⟨hv, hpl, hin⟩ := parC_zero (codeG_zero h0).1
    have ht := (codeG_zero h0).2
    have E : Hid (depthsF (cont rs) ps = (depsOut ps, 0)) := by unfold Hid depthsF; rw [if_pos h0, depsOut_good ht]
    have hm6 : m ≤ 6 := by have := validC_len hv; omega
    have hd := fun W h1 h2 => depthsOf_any A' m c' ps W B h1 hm6 h2 hin
    rw [h0] at hp
    clear h0 hx hv hpl ht
    go_enter Try.func12, Try.ntmps12
    go_wp2_with (first
      | (go_at_call 24; refine hp.mono ?_; rintro r w1 ⟨rfl, b1⟩)
      | (go_at_call 31; refine (hd _ (Nat.le_trans hB b1.size) (hy.below (b1.mono hB))).mono ?_; rintro r w3 ⟨A1, n1, c1, rfl, o3, b3⟩))
    go_ret2
    rw [E.out]
    exact ⟨_, _, _, rfl, o3.mono b1.size, b1.trans (b3.mono b1.size)⟩
  · have E : Hid (depthsF (cont rs) ps = ([], codeG (cont rs) ps)) := by unfold Hid depthsF; rw [if_neg h0]
    generalize codeG (cont rs) ps = z at hp h0 E
    clear hx hy
    go_enter Try.func12, Try.ntmps12
    go_wp2_with (go_at_call 24; refine hp.mono ?_; rintro r w1 ⟨rfl, b1⟩)
    go_ret2
    exact ListPost.bad E.out b1
theorem depthsF_len (css : List (List Int)) (ps : List Int) : (depthsF css ps).1.length ≤ 2000000 := by
  unfold depthsF
  split
  · rename_i h
    have h1 := parC_zero (codeG_zero h).1
    have h2 := validC_len h1.1
    simp only [depL, List.length_map, List.length_range]
    omega
  · simp
end Go.Proofs.Ytfbgglhjlbdfiaa
