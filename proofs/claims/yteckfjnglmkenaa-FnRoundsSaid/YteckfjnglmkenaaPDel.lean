/-
  slices.Delete of one place of a row of numbers that the caller owns. No condition.
-/
import Derived.Test.YteckfjnglmkenaaGRow
import Derived.Deep.RegionLaw
import Derived.Lib.SliceRun
import Derived.OwnWalk
namespace Go.Proofs.Yteckfjnglmkenaa
open Go.RowKit
set_option maxHeartbeats 400000

/-- some cells written from a place on -/
def setL {α : Type} (l : List α) : Nat → List α → List α
  | _, [] => l
  | o, v :: r => setL (l.set o v) (o + 1) r
theorem setL_len {α : Type} : ∀ (vs : List α) (l : List α) (o : Nat), (setL l o vs).length = l.length := by
  intro vs
  induction vs with
  | nil => intro l o; rfl
  | cons v r ih => intro l o; rw [setL, ih]; simp
theorem setL_eq {α : Type} : ∀ (vs : List α) (l : List α) (o : Nat), o + vs.length ≤ l.length → setL l o vs = l.take o ++ vs ++ l.drop (o + vs.length) := by
  intro vs
  induction vs with
  | nil => intro l o _; simp [setL]
  | cons v r ih =>
    intro l o h
    simp only [List.length_cons] at h
    rw [setL, ih _ _ (by simp; omega)]
    rw [List.take_set, List.drop_set, if_pos (by omega)]
    have h1 : (l.take (o + 1)).set o v = l.take o ++ [v] := by
      rw [List.take_add_one, List.getElem?_eq_getElem (by omega)]
      simp only [Option.toList_some]
      rw [List.set_append_right _ _ (by simp; omega)]
      have : o - (l.take o).length = 0 := by simp; omega
      rw [this]
      rfl
    rw [h1, show o + 1 + r.length = o + (r.length + 1) by omega]
    simp
theorem own_setCells {lo T k g n c : Nat} : ∀ (vs : List Value) (o : Nat) (w : World) (l : List Value), w.ownsRow lo T k (.slice (some ⟨g, 0, none⟩) n c) n l →
    (w.setCells g o vs).ownsRow lo T k (.slice (some ⟨g, 0, none⟩) n c) n (setL l o vs) ∧ w.grownBy (w.setCells g o vs) (some g) := by
  intro vs
  induction vs with
  | nil => intro o w l h; exact ⟨h, World.grownBy.refl _ _⟩
  | cons v r ih =>
    intro o w l h
    obtain ⟨h1, h2⟩ := h.stored o v
    obtain ⟨h3, h4⟩ := ih (o + 1) _ _ h1
    exact ⟨h3, h2.trans h4⟩
theorem own_shrink {w : World} {lo T k g n c m : Nat} {l : List Value} (h : w.ownsRow lo T k (.slice (some ⟨g, 0, none⟩) n c) n l) (hm : m ≤ n) : w.ownsRow lo T k (.slice (some ⟨g, 0, none⟩) m c) m (l.take (m * k)) := by
  have hmk : m * k ≤ n * k := Nat.mul_le_mul_right k hm
  refine ⟨by rw [List.length_take, h.1]; omega, ?_⟩
  rcases h.2 with ⟨h', _⟩ | ⟨g', cap', cur, h', hb, hg, hnc, hcm, hcs, htake⟩
  · simp at h'
  · simp only [Value.slice.injEq, Option.some.injEq, Addr.mk.injEq, and_true, true_and] at h'
    obtain ⟨rfl, rfl⟩ := h'
    refine .inr ⟨g, c, cur, rfl, hb, hg, by omega, hcm, hcs, ?_⟩
    rw [← htake, List.take_take]
    congr 1
    omega
theorem enc_map (xs : List Int) : xs.flatMap encI = xs.map (Value.int .i64) := by
  induction xs with
  | nil => rfl
  | cons x r ih => simp [encI, ih]
theorem del_list (xs : List Int) (i : Nat) (hi : i < xs.length) :
    (setL (setL (xs.flatMap encI) i ((xs.drop (i + 1)).flatMap encI)) (xs.length - 1) [.int .i64 0]).take ((xs.length - 1) * 1) = (xs.eraseIdx i).flatMap encI := by
  simp only [enc_map]
  have hl : (xs.map (Value.int .i64)).length = xs.length := by simp
  rw [setL_eq _ _ _ (by rw [setL_len]; simp; omega), setL_eq _ _ _ (by simp; omega)]
  have h1 : ((xs.map (Value.int .i64)).take i ++ (xs.drop (i + 1)).map (Value.int .i64)).length = xs.length - 1 := by simp; omega
  rw [Nat.mul_one, List.append_assoc, List.take_append_of_le_length (by simp; omega), List.take_of_length_le (by simp; omega), List.take_append_of_le_length (by rw [h1]; omega), List.take_of_length_le (by rw [h1]; omega), List.eraseIdx_eq_take_drop_succ]
  simp
set_option maxHeartbeats 4000000 in
set_option maxRecDepth 1000000 in
theorem delete_own (lo g n c i : Nat) (xs : List Int) (w : World) (hn : n ≤ 2000000) (hi : i < n) (ho : w.ownsRow lo 2 1 (.slice (some ⟨g, 0, none⟩) n c) n (xs.flatMap encI)) :
    Calls Try.prog 33 #[.slice (some ⟨g, 0, none⟩) n c, .int .i64 i, .int .i64 ((i : Int) + 1)] w fun r w' => r = .returned (.slice (some ⟨g, 0, none⟩) (n - 1) c) ∧ w'.ownsRow lo 2 1 (.slice (some ⟨g, 0, none⟩) (n - 1) c) (n - 1) ((xs.eraseIdx i).flatMap encI) ∧ w.grownBy w' (some g) := by
  have hl := own_len encI_len (by omega) ho
  obtain ⟨i0, hi0, hz0, hz1, hz2⟩ := info_parts int_info
  obtain ⟨_, _, hfm, hnc0⟩ := own_form ho
  have hnc : n ≤ c := by injection hfm with _ _ h3; omega
  have hcm : c ≤ 9223372036854775807 := by
    rcases ho.2 with ⟨h', _⟩ | ⟨g', cap', cur, h', _, _, _, hcm, _⟩
    · simp at h'
    · injection h' with _ _ h3
      unfold maxLen at hcm
      omega
  clear hfm hnc0
  obtain ⟨news, hnews⟩ : ∃ news, news = (xs.drop (i + 1)).flatMap encI := ⟨_, rfl⟩
  have hlen : news.length = n - (i + 1) := by rw [hnews, flatMap_len encI_len]; simp; omega
  have hxsl : (xs.flatMap encI).length = n := by rw [flatMap_len encI_len]; omega
  have hget : ∀ t u, news[t]? = some u → w.cell? ⟨g, i + 1 + t, none⟩ = some u := by
    intro t u hu
    have ht := (List.getElem?_eq_some_iff.1 hu).1
    rw [ho.cellAt _ (by omega)]
    rw [hnews, enc_map, List.getElem?_map, List.getElem?_drop] at hu
    rw [enc_map, List.getElem?_map]
    exact hu
  have hat : ∀ t, t < n → (w.cell? ⟨g, t, none⟩).isSome = true ∧ w.frozen? ⟨g, t, none⟩ = false := fun t ht => by
    obtain ⟨⟨u, hu⟩, hf⟩ := own_at ho (Below.refl _ _) t (by omega)
    exact ⟨by rw [hu]; rfl, hf⟩
  obtain ⟨A, hA, hsrc⟩ : ∃ A : Addr, (if c = i + 1 then some (⟨g, 0, none⟩ : Addr) else some ⟨g, i + 1, none⟩) = some A ∧ Hid (∀ t u, news[t]? = some u → w.drew.cell? (A.add t) = some u) := by
    by_cases h : c = i + 1
    · refine ⟨⟨g, 0, none⟩, by simp [h], fun t u hu => ?_⟩
      have h0 : news.length = 0 := by omega
      rw [List.length_eq_zero_iff.1 h0] at hu
      simp at hu
    · refine ⟨⟨g, i + 1, none⟩, by simp [h], fun t u hu => ?_⟩
      rw [Addr.add_lit]
      exact hget t u hu
  have s1 : Hid (news.length = (n - (i + 1)) * 1) := by rw [Nat.mul_one]; exact hlen
  have s2 : Hid (∀ u ∈ news, u.oneCell' = true) := by
    intro u hu
    rw [hnews, enc_map] at hu
    obtain ⟨x, _, rfl⟩ := List.mem_map.1 hu
    rfl
  have s3 : Hid (∀ t, t < news.length → (w.drew.cell? ⟨g, 0 + i * 1 + t, none⟩).isSome = true ∧ w.drew.frozen? ⟨g, 0 + i * 1 + t, none⟩ = false) := by
    intro t ht
    rw [Nat.mul_one, Nat.zero_add]
    exact hat (i + t) (by omega)
  obtain ⟨W1, hW1⟩ : ∃ W1, W1 = w.drew.setCells g (0 + i * 1) news := ⟨_, rfl⟩
  have ho1 := own_setCells news (0 + i * 1) w.drew _ (show w.drew.ownsRow lo 2 1 (.slice (some ⟨g, 0, none⟩) n c) n (xs.flatMap encI) from ho)
  rw [← hW1] at ho1
  have ho2 := own_setCells [.int .i64 0] (n - 1) W1 _ ho1.1
  have hfin := own_shrink (m := n - 1) ho2.1 (by omega)
  have hdl := del_list xs i (by omega)
  rw [show xs.length = n by omega] at hdl
  rw [Nat.zero_add, show i * 1 = i from Nat.mul_one i, hnews, hdl] at hfin
  have hgr := ho1.2.trans ho2.2
  have hgr' : w.grownBy (W1.setCells g (n - 1) [.int .i64 0]) (some g) := ⟨hgr.os, hgr.tape, hgr.output, hgr.size, hgr.block⟩
  have hat1 : ∀ t, t < n → (W1.cell? ⟨g, t, none⟩).isSome = true ∧ W1.frozen? ⟨g, t, none⟩ = false := fun t ht => by
    obtain ⟨⟨u, hu⟩, hf⟩ := own_at ho1.1 (Below.refl _ _) t (by omega)
    exact ⟨by rw [hu]; rfl, hf⟩
  have v3 : ∀ w, (zeroValue 2).run Try.prog w = .ok (.int .i64 0) w := fun w => by kernel_rfl
  have hcl : ∀ ty, (Builtin.clear_ #[23] ty #[.slice (some ⟨g, i + (n - (i + 1)), none⟩) (n - (i + (n - (i + 1)))) (c - (i + (n - (i + 1))))]).run Try.prog W1 = .ok (.tuple #[]) (W1.setCells g (n - 1) [.int .i64 0]) := by
    intro ty
    have := Lib.run_clear_slice (P := Try.prog) W1 23 2 ty _ Try.underlying23 v3 rfl rfl g (i + (n - (i + 1))) (n - (i + (n - (i + 1)))) (c - (i + (n - (i + 1)))) (by omega) (fun t ht => (hat1 _ (by omega)).1) (fun t ht => (hat1 _ (by omega)).2)
    rw [this]
    rw [show n - (i + (n - (i + 1))) = 1 by omega, show i + (n - (i + 1)) = n - 1 by omega]
    rfl
  have hW : Hid (W1 = w.drew.setCells g (0 + i * 1) news) := hW1
  have HF := hid hfin
  have HG := hid hgr'
  have hic : i ≤ c := by omega
  have hjc : i + 1 ≤ c := by omega
  have q1 : (0 : Int) ≤ (i : Int) + 1 := by omega
  have q2 : (i : Int) + 1 ≤ (n : Int) := by omega
  clear hW1 ho1 ho2 hfin hgr hgr' hat1 hat hget hnews hlen ho hdl hl hxsl
  go_enter Try.func33, Try.ntmps33
  go_wp2_with fail
  go_region_law (refine step_append_room rfl (.tmp 22) (.tmp 25) 23 rfl 2 i0 1 Try.underlying23 hi0 hz1 g 0 i c (by simp [Act.eval, Act.put]) A (n - (i + 1)) (c - (i + 1)) news (by simp [Act.eval, Act.put]) s1.out hsrc.out s2.out (by omega) s3.out ?_; rw [← hW.out])
  go_wp2
  go_ret
  refine ⟨by (rw [show i + (n - (i + 1)) = n - 1 by omega]; rfl), HF.out, HG.out⟩
end Go.Proofs.Yteckfjnglmkenaa
