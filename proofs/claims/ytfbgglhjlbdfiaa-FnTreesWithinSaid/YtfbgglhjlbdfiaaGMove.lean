/-
  BestMove: the program's function and the reference's. No condition.
-/
import Derived.Test.YtfbgglhjlbdfiaaGLoads2
import Derived.OwnWalk
namespace Go.Proofs.Ytfbgglhjlbdfiaa
open Go.RowKit
set_option maxHeartbeats 400000

theorem news_of_sl {w : World} {B b off n : Nat} {xs : List Int} (hx : Sl w B 1 encI (some ⟨b, off, none⟩) n xs) : ∀ (j : Nat) (u : Value), (xs.flatMap encI)[j]? = some u → w.cell? ((⟨b, off, none⟩ : Addr).add j) = some u := by
  intro j u hj
  rw [flatMap_encI, List.getElem?_map] at hj
  obtain ⟨z, hz, rfl⟩ := Option.map_eq_some_iff.1 hj
  obtain ⟨b', off', e, _, hc⟩ := hx.2 j z hz
  injection e with e
  injection e with e1 e2
  subst e1 e2
  rw [Addr.add_lit]
  simpa using hc 0 _ rfl
theorem one_encI (xs : List Int) : ∀ u ∈ xs.flatMap encI, u.oneCell' = true := by
  intro u hu
  rw [flatMap_encI] at hu
  obtain ⟨z, _, rfl⟩ := List.mem_map.1 hu
  rfl
theorem l00Own_any (A : Option Addr) (n c : Nat) (xs : List Int) (w : World) (B : Nat) (hB : B ≤ w.heap.size) (hn0 : 0 < n) (hn : n ≤ 2000000) (hx : Sl w B 1 encI A n xs) :
    Calls Try.prog 49 #[.slice A n c] w fun r w' => ∃ g c1, r = .returned (.slice (some ⟨g, 0, none⟩) n c1) ∧ w'.ownsRow w.heap.size 2 1 (.slice (some ⟨g, 0, none⟩) n c1) n (xs.flatMap encI) ∧ Below w.heap.size w w' := by
  have hl := hx.len
  obtain ⟨z, b, off, _, rfl, hb, _⟩ := hx.int hn0
  have o0 := World.ownsRow_lit (base := w.heap.size) (e := 2) (size := 1) w #[] 0 (Nat.le_refl _) (by simp [maxLen]) (by simp)
  obtain ⟨i0, hi, hz0, hz1, hz2⟩ := info_parts int_info
  have hnew := news_of_sl (hx.alloc hB (.cells #[] 2))
  have hlen : (xs.flatMap encI).length = n * 1 := by rw [flatMap_len encI_len, hl]
  clear hx
  go_enter Try.func49, Try.ntmps49
  go_wp2_with (at_builtin; refine wpList_append_lies _ rfl _ _ 26 rfl w.heap.size 2 i0 (.int .i64 0) 1 8 Try.underlying26 hi hz0 hz1 hz2 rfl (by omega) (.slice (some ⟨w.heap.size, 0, none⟩) 0 0) 0 [] rfl o0 ⟨b, off, none⟩ n c (xs.flatMap encI) rfl hlen hnew (one_encI xs) (by omega) (by simp only [maxLen]; omega) (by omega) (by simp) (w.heap.size + 1) (by simp) ?_; intro gg cap w3 ho3 hg3 hat3 hlt3)
  have hb3 : Below w.heap.size w w3 := ((Below.refl _ _).alloc (Nat.le_refl _) _).grown hg3 (by simp) (fun q hq => by simp [Value.ownBlock] at hq; omega)
  rw [List.nil_append] at ho3
  simp only [Nat.zero_add] at ho3
  clear hnew hlen o0
  go_ret
  exact ⟨_, _, rfl, ho3, hb3⟩
theorem clone_any (A : Option Addr) (n c : Nat) (xs : List Int) (w : World) (B : Nat) (hB : B ≤ w.heap.size) (hn0 : 0 < n) (hn : n ≤ 2000000) (hx : Sl w B 1 encI A n xs) :
    Calls Try.prog 32 #[.slice A n c] w fun r w' => ∃ g c1, r = .returned (.slice (some ⟨g, 0, none⟩) n c1) ∧ w'.ownsRow w.heap.size 2 1 (.slice (some ⟨g, 0, none⟩) n c1) n (xs.flatMap encI) ∧ Below w.heap.size w w' := by
  have hl := hx.len
  obtain ⟨z, b, off, _, rfl, hb, _⟩ := hx.int hn0
  have o0 := World.ownsRow_lit (base := w.heap.size) (e := 2) (size := 1) w #[] 0 (Nat.le_refl _) (by simp [maxLen]) (by simp)
  obtain ⟨i0, hi, hz0, hz1, hz2⟩ := info_parts int_info
  have hnew := news_of_sl (hx.alloc hB (.cells #[] 2))
  have hlen : (xs.flatMap encI).length = n * 1 := by rw [flatMap_len encI_len, hl]
  clear hx
  have hU := fun w' : World => Lib.run_eql_slice_nil (P := Try.prog) w' 26 2 (some ⟨b, off, none⟩) n c 0 0 Try.underlying26
  go_enter Try.func32, Try.ntmps32
  go_wp2_with (at_builtin; refine wpList_append_lies _ rfl _ _ 26 rfl w.heap.size 2 i0 (.int .i64 0) 1 8 Try.underlying26 hi hz0 hz1 hz2 rfl (by omega) (.slice (some ⟨w.heap.size, 0, none⟩) 0 0) 0 [] rfl o0 ⟨b, off, none⟩ n c (xs.flatMap encI) rfl hlen hnew (one_encI xs) (by omega) (by simp only [maxLen]; omega) (by omega) (by simp) (w.heap.size + 1) (by simp) ?_; intro gg cap w3 ho3 hg3 hat3 hlt3)
  have hb3 : Below w.heap.size w w3 := ((Below.refl _ _).alloc (Nat.le_refl _) _).grown hg3 (by simp) (fun q hq => by simp [Value.ownBlock] at hq; omega)
  rw [List.nil_append] at ho3
  simp only [Nat.zero_add] at ho3
  clear hnew hlen o0
  go_ret
  exact ⟨_, _, rfl, ho3, hb3⟩

abbrev MSt := Int × Int × Int
def stepM (css : List (List Int)) (ps : List Int) (i p : Nat) (st : MSt) : MSt :=
  if isTree (ps.set i p) = true ∧ costG css (ps.set i p) < st.2.2 then ((i : Int) + 1, (p : Int), costG css (ps.set i p)) else st
def moveRow (css : List (List Int)) (ps : List Int) (i : Nat) (st : MSt) : Nat → MSt
  | 0 => st
  | p + 1 => stepM css ps i p (moveRow css ps i st p)
def moveAll (css : List (List Int)) (ps : List Int) : Nat → MSt
  | 0 => (0, 0, costG css ps)
  | k + 1 => moveRow css ps k (moveAll css ps k) css.length
def moveF (css : List (List Int)) (ps : List Int) : Int × Int × Int :=
  if codeG css ps = 0 then if (moveAll css ps ps.length).1 = 0 then (0, 0, 3) else ((moveAll css ps ps.length).1, (moveAll css ps ps.length).2.1, 0) else (0, 0, codeG css ps)
theorem parC_set {css : List (List Int)} {ps : List Int} (h : parC css ps = 0) (i : Nat) {p : Nat} (hp : p < css.length) : parC css (ps.set i p) = 0 := by
  obtain ⟨hv, hl, _⟩ := parC_zero h
  unfold parC at h ⊢
  rw [hv] at h ⊢
  simp only [if_true] at h ⊢
  split at h
  · rename_i h2
    simp only [Bool.and_eq_true, List.all_eq_true, beq_iff_eq, List.length_set] at h2 ⊢
    rw [if_pos]
    refine ⟨fun x hx => ?_, h2.2⟩
    rcases List.mem_or_eq_of_mem_set hx with h' | h'
    · exact h2.1 x h'
    · subst h'; simp [inR]; omega
  · omega
end Go.Proofs.Ytfbgglhjlbdfiaa
