/-
  CheapestTree: the program's side. No condition.
-/
import Derived.Test.YtfbgglhjlbdfiaaGCheap
namespace Go.Proofs.Ytfbgglhjlbdfiaa
open Go.RowKit
set_option maxHeartbeats 400000

theorem star_some {css : List (List Int)} (hv : validC css = true) {ok : List Int → Bool} (h : ok (List.replicate (css.length - 1) 0) = true) : ∃ q, allB css ok (css.length - 1) [] none = some q := by
  have := allB_star (css := css) (ok := ok) (by have := validC_len hv; omega) (css.length - 1) 0 none (by simpa using h)
  exact Option.ne_none_iff_exists'.1 this
theorem allow65 (args : Array Value) (W : World) : (callFunc 28 args).run Try.prog W = .ok (.enter 28 args) W := by go_simp
theorem allowC_any (A : Option Addr) (n c : Nat) (w : World) : Calls Try.prog 28 #[.slice A n c] w fun r w' => r = .returned (.bool true) ∧ Below w.heap.size w w' := by
  go_enter Try.func28, Try.ntmps28
  go_wp2
  go_ret
  exact ⟨rfl, Below.refl _ _⟩
theorem implCheapestTree_any (A : Option Addr) (n c : Nat) (rs : List Row) (w : World) (B : Nat) (hB : B ≤ w.heap.size) (hn : n + tot rs ≤ 2000000) (hx : SlS w B A n rs) :
    Calls Try.prog 10 #[.slice A n c] w (ListPost2 w (cheapF (cont rs))) := by
  have hok := implValidCosts_any A n c rs w B hB hn hx
  have hlc : (cont rs).length = n := by rw [cont_len, hx.len]
  cases hv : validC (cont rs) with
  | false =>
    have E : Hid (cheapF (cont rs) = ([], 0, 1)) := by simp [Hid, cheapF, hv]
    rw [hv] at hok
    clear hx hv
    go_enter Try.func10, Try.ntmps10
    go_wp2_with (go_at_call 26; refine hok.mono ?_; rintro r w1 ⟨rfl, b1⟩)
    go_ret3
    exact ListPost2.bad E.out b1
  | true =>
    obtain ⟨q, hq⟩ := star_some hv (ok := isTree) (isTree_star _)
    rw [hlc] at hq
    have E : Hid (cheapF (cont rs) = (q.1, q.2, 0)) := by simp [Hid, cheapF, hv, hlc, hq, bestB, leastB]
    have hch := fun W h1 h2 => cheapestTree_any 28 #[] (fun _ => true) A n c rs W B h1 h2 hv allow65 (fun W' A' m' c' ps _ _ _ _ => by simpa using allowC_any A' m' c' W')
    simp only [Bool.and_true] at hch
    rw [hq] at hch
    rw [hv] at hok
    clear hv hlc hq
    go_enter Try.func10, Try.ntmps10
    go_wp2_with (first
      | (go_at_call 26; refine hok.mono ?_; rintro r w1 ⟨rfl, b1⟩)
      | (go_at_call 27; refine (hch _ (Nat.le_trans hB b1.size) (hx.below (b1.mono hB))).mono ?_; rintro r w2 ⟨A1, n1, c1, rfl, o2, b2⟩))
    go_ret3
    rw [E.out]
    exact ⟨A1, n1, c1, rfl, o2.mono b1.size, b1.trans (b2.mono b1.size)⟩
end Go.Proofs.Ytfbgglhjlbdfiaa
