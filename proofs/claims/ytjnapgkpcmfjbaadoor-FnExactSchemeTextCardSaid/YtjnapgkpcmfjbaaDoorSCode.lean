/-
  Schemes: what a valid one fulfils; the code of a scheme and a name; places in a list. No condition.
-/
import Derived.Test.YtjnapgkpcmfjbaaDoorSMet
namespace Go.Proofs.YtjnapgkpcmfjbaaDoor
open Go.RowKit
set_option maxHeartbeats 400000

theorem Span.cell {lo hi : Nat} {a w : World} {p : Addr} {v : Value} (h : Span lo hi a w) (hp : ¬ (lo ≤ p.block ∧ p.block < hi)) (hc : a.cell? p = some v) : w.cell? p = some v :=
  (World.cell?_of_block (h.block p.block (World.block_lt_of_cell? _ _ hc) hp)).trans hc
theorem okL_mem {α : Type} {f : List α → α → Int} : ∀ (xs p : List α), okL f p xs = true → ∀ (k : Nat) (x : α), xs[k]? = some x → f (p ++ xs.take k) x = 0 := by
  intro xs
  induction xs with
  | nil => intro p _ k x h; simp at h
  | cons y r ih =>
    intro p h k x hx
    simp only [okL, Bool.and_eq_true, decide_eq_true_eq] at h
    cases k with
    | zero => simp at hx; subst hx; simpa using h.1
    | succ k =>
      have := ih (p ++ [y]) h.2 k x (by simpa using hx)
      simpa using this
theorem validX_way {x : Sch} (h : validX x = true) {k : Nat} {y : Way} (hy : x.wy[k]? = some y) : 1 ≤ y.metres ∧ y.metres ≤ 2000 ∧ k < 60 := by
  simp only [validX, Bool.and_eq_true] at h
  have h1 := wyF_zero (okL_mem _ _ h.2.2 k y hy)
  have h2 : k < x.wy.length := (List.getElem?_eq_some_iff.1 hy).1
  simp only [List.nil_append, List.length_take] at h1
  omega
theorem validX_wyl {x : Sch} (h : validX x = true) : x.wy.length ≤ 60 := by
  rcases Nat.lt_or_ge 60 x.wy.length with hl | hl
  · have := (validX_way h (k := 60) (List.getElem?_eq_getElem hl)).2.2
    omega
  · exact hl
theorem validX_stl {x : Sch} (h : validX x = true) : x.st.length ≤ 20 := by
  rcases Nat.lt_or_ge 20 x.st.length with hl | hl
  · simp only [validX, Bool.and_eq_true] at h
    have h1 := stF_zero (okL_mem _ _ h.1 20 _ (List.getElem?_eq_getElem hl))
    simp only [List.nil_append, List.length_take] at h1
    omega
  · exact hl

/-- the places of those that fulfil p, among the first k -/
def idxF {α : Type} (p : α → Bool) (xs : List α) : Nat → List Int
  | 0 => []
  | k + 1 => match xs[k]? with
    | some x => if p x then idxF p xs k ++ [(k : Int)] else idxF p xs k
    | none => idxF p xs k
theorem idxF_yes {α : Type} {p : α → Bool} {xs : List α} {k : Nat} {x : α} (h : xs[k]? = some x) (hp : p x = true) : idxF p xs (k + 1) = idxF p xs k ++ [(k : Int)] := by simp [idxF, h, hp]
theorem idxF_no {α : Type} {p : α → Bool} {xs : List α} {k : Nat} {x : α} (h : xs[k]? = some x) (hp : p x = false) : idxF p xs (k + 1) = idxF p xs k := by simp [idxF, h, hp]
theorem idxF_len {α : Type} (p : α → Bool) (xs : List α) : ∀ k, (idxF p xs k).length ≤ k := by
  intro k
  induction k with
  | zero => simp [idxF]
  | succ k ih =>
    simp only [idxF]
    split
    · split
      · simp; omega
      · omega
    · omega
/-- a list of numbers and a code -/
def IPost (w : World) (R : List Int × Int) (r : Ending) (w' : World) : Prop :=
  ∃ A n c, r = .returned (.tuple #[.slice A n c, .int .i64 R.2]) ∧ w'.ownsRow w.heap.size 2 1 (.slice A n c) n (R.1.flatMap encI) ∧ Below w.heap.size w w'
theorem IPost.bad {w w' : World} {R : List Int × Int} {z : Int} (hR : R = ([], z)) (hb : Below w.heap.size w w') : IPost w R (.returned (.tuple #[.slice none 0 0, .int .i64 z])) w' := by
  subst hR
  exact ⟨none, 0, 0, rfl, World.ownsRow_nil _ _ _ _, hb⟩
theorem snocIx (xs : List Int) (z : Int) : xs.flatMap encI ++ [.int .i64 z] = (xs ++ [z]).flatMap encI := by simp [encI]

def codeX (x : Sch) (z : ByteArray) : Int := if validX x then if hasS x.st z then 0 else 3 else 1
end Go.Proofs.YtjnapgkpcmfjbaaDoor
