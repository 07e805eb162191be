/-
  The program's cheapest tree. No condition.
-/
import Derived.Test.YtfbgglhjlbdfiaaGTrees
namespace Go.Proofs.Ytfbgglhjlbdfiaa
open Go.RowKit
set_option maxHeartbeats 400000

def resB : BSt → List Int × Int × Int | none => ([], 0, 3) | some p => (p.1, p.2, 0)
set_option maxHeartbeats 4000000 in
theorem cheapestTree_any (fa : Nat) (caps : Array Value) (al : List Int → Bool) (A : Option Addr) (n c : Nat) (rs : List Row) (w : World) (B : Nat) (hB : B ≤ w.heap.size) (hx : SlS w B A n rs) (hv : validC (cont rs) = true)
    (hcf : ∀ (args : Array Value) (W : World), (callFunc fa args).run Try.prog W = .ok (.enter fa args) W)
    (HA : ∀ (W : World) (A' : Option Addr) (m' c' : Nat) (ps : List Int), Below w.heap.size w W → Sl W W.heap.size 1 encI A' m' ps → parC (cont rs) ps = 0 → isTree ps = true → Calls Try.prog fa (#[.slice A' m' c'] ++ caps) W fun r w' => r = .returned (.bool (al ps)) ∧ Below W.heap.size W w') :
    Calls Try.prog 27 #[.slice A n c, .func (.func fa) #[] caps] w (ListPost2 w (resB (allB (cont rs) (fun qs => isTree qs && al qs) (n - 1) [] none))) := by
  have hnl := hx.len
  have hn6 := validC_len hv
  rw [cont_len, hnl] at hn6
  have htr := fun W (hW : Below w.heap.size w W) k1 k3 hT h5 => trees_any fa caps (fun W => Below w.heap.size w W) al w.heap.size (w.heap.size + 1) (w.heap.size + 3) (w.heap.size + 5) A n c rs B (by omega) (by omega) (by omega) (by omega) hv hnl hcf HA
    (fun W W' h s => s.toBelow h (by omega) h.size) (n - 1) [] none 0 none W (by simp; omega) (fun x h => by simp at h) (fun _ => ⟨rfl, rfl⟩) (fun a h => by cases h) h5 (hx.below (hW.mono hB)) ⟨rfl, fun i x h => by simp at h⟩ hW k1 k3 hT
  generalize allB (cont rs) (fun qs => isTree qs && al qs) (n - 1) [] none = st at htr
  clear hx hcf HA
  go_enter Try.func27, Try.ntmps27
  go_wp2_with fail
  have hbw : Below w.heap.size w (((((w.alloc (.cells #[.slice A n c] 24)).alloc (.cells #[.func (.func fa) #[] caps] 50)).alloc (.cells #[] 2)).alloc (.cells #[.slice (some ⟨w.heap.size + 1 + 1, 0, none⟩) 0 0] 26)).alloc (.cells #[.int .i64 (-1)] 2)) :=
    (((((Below.refl _ _).alloc (Nat.le_refl _) _).alloc (by simp) _).alloc (by simp; omega) _).alloc (by simp; omega) _).alloc (by simp; omega) _
  refine (htr _ hbw (by go_simp) (by go_simp) ⟨by go_simp, by go_simp, some ⟨w.heap.size + 1 + 1, 0, none⟩, 0, 0, -1, by go_simp, by go_simp, rfl⟩ (by simp)).mono ?_
  rintro r w1 ⟨rfl, T1, S1⟩
  have hb1 : Below w.heap.size w w1 := S1.toBelow hbw (by omega) (by simp; omega)
  obtain ⟨A1, n1, c1, l, e4, e5, hs⟩ := T1.best
  clear htr S1 hbw
  cases st with
  | none =>
    simp only at hs
    subst hs
    clear T1
    go_wp2_with fail
    go_ret3
    exact ListPost2.bad rfl hb1
  | some q =>
    obtain ⟨qb, ql⟩ := q
    obtain ⟨ho, rfl, hq0⟩ := hs
    clear T1
    go_wp2_with fail
    go_quiet (fail)
    go_wp2_with fail
    go_ret3
    exact ⟨A1, n1, c1, rfl, (ow_drewN ho).mono (by omega), below_drewN hb1 nq⟩
end Go.Proofs.Ytfbgglhjlbdfiaa
