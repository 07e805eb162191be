/-
  Texts cut at a byte, and joined again. No condition.
-/
import Derived.Lib.SplitLaws
import Derived.Lib.IndexLaws
namespace Go.Proofs.YtngfhpklakhehaaGreatDoor
open Go.Lib

/-- the parts of a text between bytes b -/
def spl (b : UInt8) : List UInt8 → List (List UInt8)
  | [] => [[]]
  | c :: r => if c = b then [] :: spl b r else match spl b r with | [] => [[c]] | h :: t => (c :: h) :: t
/-- parts with a byte between them -/
def joinB (b : UInt8) : List (List UInt8) → List UInt8
  | [] => []
  | w :: r => match r with | [] => w | _ :: _ => w ++ b :: joinB b r
theorem joinB_one (b : UInt8) (w : List UInt8) : joinB b [w] = w := rfl
theorem joinB_cons (b : UInt8) (w : List UInt8) {r : List (List UInt8)} (h : r ≠ []) : joinB b (w :: r) = w ++ b :: joinB b r := by
  cases r with
  | nil => exact absurd rfl h
  | cons x y => rfl
theorem spl_ne (b : UInt8) (l : List UInt8) : spl b l ≠ [] := by
  cases l with
  | nil => simp [spl]
  | cons c r =>
    simp only [spl]
    split
    · simp
    · split <;> simp
theorem join_spl (b : UInt8) : ∀ l : List UInt8, joinB b (spl b l) = l := by
  intro l
  induction l with
  | nil => rfl
  | cons c r ih =>
    simp only [spl]
    split
    · rename_i h
      rw [joinB_cons b [] (spl_ne b r), ih, h]; rfl
    · cases hs : spl b r with
      | nil => exact absurd hs (spl_ne b r)
      | cons h t =>
        rw [hs] at ih
        simp only
        cases t with
        | nil => rw [joinB_one] at ih ⊢; rw [ih]
        | cons x y =>
          rw [joinB_cons b _ (by simp)] at ih ⊢
          rw [List.cons_append, ih]
theorem spl_plain {b : UInt8} : ∀ {w : List UInt8}, b ∉ w → spl b w = [w] := by
  intro w
  induction w with
  | nil => intro _; rfl
  | cons c r ih =>
    intro h
    simp only [List.mem_cons, not_or] at h
    simp only [spl]
    rw [if_neg (fun e => h.1 e.symm), ih h.2]
theorem spl_cut {b : UInt8} : ∀ {w : List UInt8} (r : List UInt8), b ∉ w → spl b (w ++ b :: r) = w :: spl b r := by
  intro w
  induction w with
  | nil => intro r _; simp [spl]
  | cons c q ih =>
    intro r h
    simp only [List.mem_cons, not_or] at h
    rw [List.cons_append]
    simp only [spl]
    rw [if_neg (fun e => h.1 e.symm), ih r h.2]
theorem spl_join {b : UInt8} : ∀ {ws : List (List UInt8)}, ws ≠ [] → (∀ w ∈ ws, b ∉ w) → spl b (joinB b ws) = ws := by
  intro ws
  induction ws with
  | nil => intro h; exact absurd rfl h
  | cons w r ih =>
    intro _ h
    have hw := h w (by simp)
    cases r with
    | nil => rw [joinB_one, spl_plain hw]
    | cons x y => rw [joinB_cons b w (by simp), spl_cut _ hw, ih (by simp) (fun z hz => h z (by simp [hz]))]
theorem spl_mem (b : UInt8) : ∀ (l : List UInt8), ∀ w ∈ spl b l, b ∉ w := by
  intro l
  induction l with
  | nil => intro w hw; simp only [spl, List.mem_singleton] at hw; subst hw; simp
  | cons c r ih =>
    intro w hw
    simp only [spl] at hw
    split at hw
    · rcases List.mem_cons.1 hw with rfl | hw
      · simp
      · exact ih w hw
    · rename_i hc
      cases hs : spl b r with
      | nil => exact absurd hs (spl_ne b r)
      | cons h t =>
        rw [hs] at hw ih
        simp only at hw
        rcases List.mem_cons.1 hw with rfl | hw
        · have := ih h (by simp)
          simp only [List.mem_cons, not_or]
          exact ⟨fun e => hc e.symm, this⟩
        · exact ih w (by simp [hw])
theorem spl_length (b : UInt8) : ∀ l : List UInt8, (spl b l).length = l.count b + 1 := by
  intro l
  induction l with
  | nil => rfl
  | cons c r ih =>
    simp only [spl]
    split
    · rename_i h
      rw [List.length_cons, ih, h, List.count_cons_self]
    · rename_i h
      rw [List.count_cons_of_ne h]
      cases hs : spl b r with
      | nil => exact absurd hs (spl_ne b r)
      | cons h t => rw [hs] at ih; simpa using ih
/-- what is left of the parts behind the first -/
theorem spl_drop (b : UInt8) (l : List UInt8) : spl b l = match spl b l with | [] => [] | h :: t => h :: t := by cases spl b l <;> rfl

theorem index_plain {b : UInt8} : ∀ {w : List UInt8}, b ∉ w → index w [b] = -1 := by
  intro w h
  rw [index_one]
  induction w with
  | nil => rfl
  | cons c r ih =>
    simp only [List.mem_cons, not_or] at h
    have h2 : (c == b) = false := by simp only [beq_eq_false_iff_ne, ne_eq]; exact fun e => h.1 e.symm
    have := ih h.2
    simp only [indexByte, h2, this]
    rfl
theorem index_mid {b : UInt8} (r : List UInt8) : ∀ {w : List UInt8}, b ∉ w → index (w ++ b :: r) [b] = w.length := by
  intro w h
  refine index_first (by simp) ?_ ?_
  · simp [occAt]
  · intro j hj
    have hx : w[j]? = some w[j] := List.getElem?_eq_getElem hj
    have hd : (w ++ b :: r).drop j = w[j] :: (w ++ b :: r).drop (j + 1) := by
      rw [List.drop_eq_getElem_cons (by simp; omega), List.getElem_append_left hj]
    rw [occAt, hd]
    simp only [List.isPrefixOf, Bool.and_true, beq_eq_false_iff_ne, ne_eq]
    intro e
    exact h (by rw [e]; exact List.getElem_mem hj)
/-- the kit's way of cutting agrees, where there is room for all parts -/
theorem splitK_join {b : UInt8} : ∀ {ws : List (List UInt8)} {k : Nat}, ws ≠ [] → (∀ w ∈ ws, b ∉ w) → ws.length ≤ k + 1 → splitK [b] 0 k (joinB b ws) = ws := by
  intro ws
  induction ws with
  | nil => intro k h; exact absurd rfl h
  | cons w r ih =>
    intro k _ h hk
    have hw := h w (by simp)
    cases r with
    | nil =>
      rw [joinB_one]
      cases k with
      | zero => rfl
      | succ k => rw [splitK, index_plain hw]; rfl
    | cons x y =>
      simp only [List.length_cons] at hk
      obtain ⟨k, rfl⟩ : ∃ j, k = j + 1 := ⟨k - 1, by omega⟩
      rw [joinB_cons b w (by simp), splitK, index_mid _ hw]
      have hne : ¬ (((w.length : Nat) : Int) == -1) = true := by rw [beq_iff_eq]; omega
      rw [if_neg hne]
      have e1 : (((w.length : Nat) : Int)).toNat = w.length := by omega
      have e2 : (w ++ b :: joinB b (x :: y)).take (w.length + 0) = w := by simp
      have e3 : (w ++ b :: joinB b (x :: y)).drop (w.length + [b].length) = joinB b (x :: y) := by
        rw [show [b].length = 1 from rfl, List.drop_append]
        simp
      rw [e1, e2, e3, ih (by simp) (fun z hz => h z (by simp [hz])) (by simpa using hk)]
theorem joinB_len (b : UInt8) : ∀ ws : List (List UInt8), ws.length ≤ (joinB b ws).length + 1 := by
  intro ws
  induction ws with
  | nil => simp
  | cons w r ih =>
    cases r with
    | nil => simp [joinB_one]
    | cons x y => rw [joinB_cons b w (by simp)]; simp only [List.length_cons, List.length_append] at ih ⊢; omega
end Go.Proofs.YtngfhpklakhehaaGreatDoor
