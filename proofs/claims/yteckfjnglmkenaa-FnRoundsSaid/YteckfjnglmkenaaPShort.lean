/-
  ShortestRound: the reference's walk over all rounds. No condition.
-/
import Derived.Test.YteckfjnglmkenaaPShortP
import Derived.Test.YteckfjnglmkenaaPNear
import Derived.Deep.RegionHeld3
import Derived.Deep.AppendLies
namespace Go.Proofs.Yteckfjnglmkenaa
open Go.RowKit
set_option maxHeartbeats 400000

theorem l00Own_all (A : Option Addr) (n c : Nat) (xs : List Int) (w : World) (B : Nat) (hB : B ≤ w.heap.size) (hn : n ≤ 2000000) (hx : Sl w B 1 encI A n xs) :
    Calls Try.prog 45 #[.slice A n c] w fun r w' => ∃ A1 c1, r = .returned (.slice A1 n c1) ∧ w'.ownsRow w.heap.size 2 1 (.slice A1 n c1) n (xs.flatMap encI) ∧ Below w.heap.size w w' := by
  have hl := hx.len
  have o0 := World.ownsRow_lit (base := w.heap.size) (e := 2) (size := 1) w #[] 0 (Nat.le_refl _) (by simp [maxLen]) (by simp)
  rcases Nat.eq_zero_or_pos n with h0 | h0
  · subst h0
    have : xs = [] := List.eq_nil_of_length_eq_zero hl
    subst this
    have h1 : ∀ u : World, (pure #[] : Sem (Array Value)).run Try.prog u = .ok #[] u := fun _ => rfl
    have h2 : ∀ (p : Addr) (u : World), (storeCells p []).run Try.prog u = .ok () u := fun _ _ => rfl
    cases A with
    | none =>
      go_enter Try.func45, Try.ntmps45
      go_wp2
      go_ret
      exact ⟨_, _, rfl, o0, (Below.refl _ _).alloc (Nat.le_refl _) _⟩
    | some a =>
      go_enter Try.func45, Try.ntmps45
      go_wp2
      go_ret
      exact ⟨_, _, rfl, o0, (Below.refl _ _).alloc (Nat.le_refl _) _⟩
  · obtain ⟨x0, b, off, _, rfl, hb, _⟩ := hx.int h0
    obtain ⟨i0, hi, hz0, hz1, hz2⟩ := info_parts int_info
    have hnew := news_of_ints (hx.alloc hB (.cells #[] 2))
    have hlen : (xs.flatMap encI).length = n * 1 := by rw [flatMap_len encI_len, hl]
    clear hx
    go_enter Try.func45, Try.ntmps45
    go_wp2_with (at_builtin; refine wpList_append_lies _ rfl _ _ 23 rfl w.heap.size 2 i0 (.int .i64 0) 1 8 Try.underlying23 hi hz0 hz1 hz2 rfl (by omega) (.slice (some ⟨w.heap.size, 0, none⟩) 0 0) 0 [] rfl o0 ⟨b, off, none⟩ n c (xs.flatMap encI) rfl hlen hnew (one_encI xs) (by omega) (by simp only [maxLen]; omega) (by omega) (by simp) (w.heap.size + 1) (by simp) ?_; intro gg cap w3 ho3 hg3 hat3 hlt3)
    have hb3 : Below w.heap.size w w3 := ((Below.refl _ _).alloc (Nat.le_refl _) _).grown hg3 (by simp) (fun q hq => by simp [Value.ownBlock] at hq; omega)
    rw [List.nil_append] at ho3
    simp only [Nat.zero_add] at ho3
    clear hnew hlen o0
    go_ret
    exact ⟨_, _, rfl, ho3, hb3⟩
end Go.Proofs.Yteckfjnglmkenaa
