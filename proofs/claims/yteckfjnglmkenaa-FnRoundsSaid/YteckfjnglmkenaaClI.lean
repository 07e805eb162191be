/-
  slices.Clone of numbers, nil and empty ones too. No condition.
-/
import Derived.Test.YteckfjnglmkenaaGRow
import Derived.OwnWalk
import Derived.Deep.AppendLies
import Derived.Lib.SliceRun
namespace Go.Proofs.Yteckfjnglmkenaa
open Go.RowKit
set_option maxHeartbeats 400000

theorem news_of_ints {w : World} {B b off n : Nat} {xs : List Int} (hx : Sl w B 1 encI (some ⟨b, off, none⟩) n xs) : ∀ (j : Nat) (u : Value), (xs.flatMap encI)[j]? = some u → w.cell? ((⟨b, off, none⟩ : Addr).add j) = some u := by
  intro j u hj
  rw [Addr.add_lit]
  have hjl : j < xs.length := by have := (List.getElem?_eq_some_iff.1 hj).1; rwa [flatMap_len encI_len, Nat.mul_one] at this
  obtain ⟨b', off', e, _, hc⟩ := hx.2 j xs[j] (List.getElem?_eq_getElem hjl)
  injection e with e
  injection e with e1 e2
  subst e1 e2
  have := hc 0 _ rfl
  simp only [Nat.mul_one, Nat.add_zero] at this
  rw [this]
  have h2 := flatMap_get encI_len (j := 0) (u := .int .i64 xs[j]) xs j (List.getElem?_eq_getElem hjl) rfl
  rw [Nat.mul_one, Nat.add_zero, hj] at h2
  injection h2 with h2
  rw [h2]
theorem one_encI (xs : List Int) : ∀ u ∈ xs.flatMap encI, u.oneCell' = true := by
  intro u hu
  obtain ⟨x, _, hx⟩ := List.mem_flatMap.1 hu
  simp [encI] at hx
  subst hx
  rfl
theorem cloneI_nil (A : Option Addr) (c : Nat) (w : World) :
    Calls Try.prog 32 #[.slice A 0 c] w fun r w' => ∃ A1 c1, r = .returned (.slice A1 0 c1) ∧ w'.ownsRow w.heap.size 2 1 (.slice A1 0 c1) 0 [] ∧ Below w.heap.size w w' := by
  have o0 := World.ownsRow_lit (base := w.heap.size) (e := 2) (size := 1) w #[] 0 (Nat.le_refl _) (by simp [maxLen]) (by simp)
  have h1 : ∀ u : World, (pure #[] : Sem (Array Value)).run Try.prog u = .ok #[] u := fun _ => rfl
  have h2 : ∀ (p : Addr) (u : World), (storeCells p []).run Try.prog u = .ok () u := fun _ _ => rfl
  cases A with
  | none =>
    have hU := fun w' : World => Lib.run_eql_slice_nil (P := Try.prog) w' 23 2 none 0 c 0 0 Try.underlying23
    go_enter Try.func32, Try.ntmps32
    go_wp2
    go_ret
    exact ⟨_, _, rfl, World.ownsRow_nil _ _ _ _, Below.refl _ _⟩
  | some a =>
    have hU := fun w' : World => Lib.run_eql_slice_nil (P := Try.prog) w' 23 2 (some a) 0 c 0 0 Try.underlying23
    go_enter Try.func32, Try.ntmps32
    go_wp2
    go_ret
    exact ⟨_, _, rfl, o0, (Below.refl _ _).alloc (Nat.le_refl _) _⟩
theorem cloneI_any (A : Option Addr) (n c : Nat) (xs : List Int) (w : World) (B : Nat) (hB : B ≤ w.heap.size) (hn : n ≤ 2000000) (hx : Sl w B 1 encI A n xs) :
    Calls Try.prog 32 #[.slice A n c] w fun r w' => ∃ A1 c1, r = .returned (.slice A1 n c1) ∧ w'.ownsRow w.heap.size 2 1 (.slice A1 n c1) n (xs.flatMap encI) ∧ Below w.heap.size w w' := by
  have hl := hx.len
  rcases Nat.eq_zero_or_pos n with h0 | h0
  · subst h0
    rw [List.eq_nil_of_length_eq_zero hl]
    exact cloneI_nil A c w
  · obtain ⟨x0, b, off, _, rfl, hb, _⟩ := hx.int h0
    have o0 := World.ownsRow_lit (base := w.heap.size) (e := 2) (size := 1) w #[] 0 (Nat.le_refl _) (by simp [maxLen]) (by simp)
    obtain ⟨i0, hi, hz0, hz1, hz2⟩ := info_parts int_info
    have hnew := news_of_ints (hx.alloc hB (.cells #[] 2))
    have hlen : (xs.flatMap encI).length = n * 1 := by rw [flatMap_len encI_len, hl]
    clear hx
    have hU := fun w' : World => Lib.run_eql_slice_nil (P := Try.prog) w' 23 2 (some ⟨b, off, none⟩) n c 0 0 Try.underlying23
    go_enter Try.func32, Try.ntmps32
    go_wp2_with (at_builtin; refine wpList_append_lies _ rfl _ _ 23 rfl w.heap.size 2 i0 (.int .i64 0) 1 8 Try.underlying23 hi hz0 hz1 hz2 rfl (by omega) (.slice (some ⟨w.heap.size, 0, none⟩) 0 0) 0 [] rfl o0 ⟨b, off, none⟩ n c (xs.flatMap encI) rfl hlen hnew (one_encI xs) (by omega) (by simp only [maxLen]; omega) (by omega) (by simp) (w.heap.size + 1) (by simp) ?_; intro gg cap w3 ho3 hg3 hat3 hlt3)
    have hb3 : Below w.heap.size w w3 := ((Below.refl _ _).alloc (Nat.le_refl _) _).grown hg3 (by simp) (fun q hq => by simp [Value.ownBlock] at hq; omega)
    rw [List.nil_append] at ho3
    simp only [Nat.zero_add] at ho3
    clear hnew hlen o0
    go_ret
    exact ⟨_, _, rfl, ho3, hb3⟩
end Go.Proofs.Yteckfjnglmkenaa
