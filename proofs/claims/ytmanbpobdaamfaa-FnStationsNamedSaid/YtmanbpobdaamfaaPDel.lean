/-
  slices.Delete of one place of a row of numbers that the caller owns. No condition.
-/
import Derived.Test.YtmanbpobdaamfaaGRow
import Derived.Deep.RegionLaw
import Derived.Lib.SliceRun
import Derived.OwnWalk
namespace Go.Proofs.Ytmanbpobdaamfaa
open Go.RowKit
set_option maxHeartbeats 400000

/-- some cells written from a place on -/
def setL {α : Type} (l : List α) : Nat → List α → List α
  | _, [] => l
  | o, v :: r => setL (l.set o v) (o + 1) r
theorem setL_len {α : Type} : ∀ (vs : List α) (l : List α) (o : Nat), (setL l o vs).length = l.length := by
  intro vs
  induction vs with
  | nil => intro l o; rfl
  | cons v r ih => intro l o; rw [setL, ih]; simp
theorem setL_eq {α : Type} : ∀ (vs : List α) (l : List α) (o : Nat), o + vs.length ≤ l.length → setL l o vs = l.take o ++ vs ++ l.drop (o + vs.length) := by
  intro vs
  induction vs with
  | nil => intro l o _; simp [setL]
  | cons v r ih =>
    intro l o h
    simp only [List.length_cons] at h
    rw [setL, ih _ _ (by simp; omega)]
    rw [List.take_set, List.drop_set, if_pos (by omega)]
    have h1 : (l.take (o + 1)).set o v = l.take o ++ [v] := by
      rw [List.take_add_one, List.getElem?_eq_getElem (by omega)]
      simp only [Option.toList_some]
      rw [List.set_append_right _ _ (by simp; omega)]
      have : o - (l.take o).length = 0 := by simp; omega
      rw [this]
      rfl
    rw [h1, show o + 1 + r.length = o + (r.length + 1) by omega]
    simp
theorem own_setCells {lo T k g n c : Nat} : ∀ (vs : List Value) (o : Nat) (w : World) (l : List Value), w.ownsRow lo T k (.slice (some ⟨g, 0, none⟩) n c) n l →
    (w.setCells g o vs).ownsRow lo T k (.slice (some ⟨g, 0, none⟩) n c) n (setL l o vs) ∧ w.grownBy (w.setCells g o vs) (some g) := by
  intro vs
  induction vs with
  | nil => intro o w l h; exact ⟨h, World.grownBy.refl _ _⟩
  | cons v r ih =>
    intro o w l h
    obtain ⟨h1, h2⟩ := h.stored o v
    obtain ⟨h3, h4⟩ := ih (o + 1) _ _ h1
    exact ⟨h3, h2.trans h4⟩
theorem own_shrink {w : World} {lo T k g n c m : Nat} {l : List Value} (h : w.ownsRow lo T k (.slice (some ⟨g, 0, none⟩) n c) n l) (hm : m ≤ n) : w.ownsRow lo T k (.slice (some ⟨g, 0, none⟩) m c) m (l.take (m * k)) := by
  have hmk : m * k ≤ n * k := Nat.mul_le_mul_right k hm
  refine ⟨by rw [List.length_take, h.1]; omega, ?_⟩
  rcases h.2 with ⟨h', _⟩ | ⟨g', cap', cur, h', hb, hg, hnc, hcm, hcs, htake⟩
  · simp at h'
  · simp only [Value.slice.injEq, Option.some.injEq, Addr.mk.injEq, and_true, true_and] at h'
    obtain ⟨rfl, rfl⟩ := h'
    refine .inr ⟨g, c, cur, rfl, hb, hg, by omega, hcm, hcs, ?_⟩
    rw [← htake, List.take_take]
    congr 1
    omega
theorem enc_map (xs : List Int) : xs.flatMap encI = xs.map (Value.int .i64) := by
  induction xs with
  | nil => rfl
  | cons x r ih => simp [encI, ih]
theorem del_list (xs : List Int) (i : Nat) (hi : i < xs.length) :
    (setL (setL (xs.flatMap encI) i ((xs.drop (i + 1)).flatMap encI)) (xs.length - 1) [.int .i64 0]).take ((xs.length - 1) * 1) = (xs.eraseIdx i).flatMap encI := by
  simp only [enc_map]
  have hl : (xs.map (Value.int .i64)).length = xs.length := by simp
  rw [setL_eq _ _ _ (by rw [setL_len]; simp; omega), setL_eq _ _ _ (by simp; omega)]
  have h1 : ((xs.map (Value.int .i64)).take i ++ (xs.drop (i + 1)).map (Value.int .i64)).length = xs.length - 1 := by simp; omega
  rw [Nat.mul_one, List.append_assoc, List.take_append_of_le_length (by simp; omega), List.take_of_length_le (by simp; omega), List.take_append_of_le_length (by rw [h1]; omega), List.take_of_length_le (by rw [h1]; omega), List.eraseIdx_eq_take_drop_succ]
  simp
end Go.Proofs.Ytmanbpobdaamfaa
