/-
  Lists of tariffs: how they read, their copies, their comparisons. No condition.
-/
import Derived.Test.YtngfhpklakhehaaGreatDoorLawTariff
namespace Go.Proofs.YtngfhpklakhehaaGreatDoor
open Go.RowKit Go.ChangeShapes Go.WideShapes Go.ChangeAt Go.Deep Go.Joins
set_option maxHeartbeats 400000

/-- one tariff of a list, with the place of its steps -/
structure TRow where
  A : Option Addr
  n : Nat
  c : Nat
  xs : List Step
  h : Int
  e : Int
def encTR (r : TRow) : List Value := [.slice r.A r.n r.c, .int .i64 r.h, .int .i64 r.e]
theorem encTR_len (r : TRow) : (encTR r).length = 3 := rfl
def SlT (w : World) (B : Nat) (A : Option Addr) (n : Nat) (ts : List TRow) : Prop := Sl w B 3 encTR A n ts ∧ ∀ r ∈ ts, Sl w B 2 encStep r.A r.n r.xs
def tarOf (r : TRow) : Tariff := ⟨r.xs, r.h, r.e⟩
def tars (ts : List TRow) : List Tariff := ts.map tarOf
theorem tars_len (ts : List TRow) : (tars ts).length = ts.length := by simp [tars]
theorem tars_at {ts : List TRow} {i : Nat} {r : TRow} (h : ts[i]? = some r) : (tars ts)[i]? = some ⟨r.xs, r.h, r.e⟩ := by simp [tars, h, tarOf]
namespace SlT
variable {w w' : World} {B B' : Nat} {A : Option Addr} {n : Nat} {ts : List TRow}
theorem len (h : SlT w B A n ts) : ts.length = n := h.1.len
theorem below (h : SlT w B A n ts) (hb : Below B w w') : SlT w' B A n ts := ⟨h.1.below hb, fun r hr => (h.2 r hr).below hb⟩
theorem keep (h : SlT w B A n ts) (hk : ∀ p : Addr, p.block < B → w'.cell? p = w.cell? p) : SlT w' B A n ts := ⟨h.1.keep hk, fun r hr => (h.2 r hr).keep hk⟩
theorem more (h : SlT w B A n ts) (hB : B ≤ B') : SlT w B' A n ts := ⟨h.1.more hB, fun r hr => (h.2 r hr).more hB⟩
theorem row (h : SlT w B A n ts) {i : Nat} (hi : i < n) :
    ∃ Ai ni ci xi hi ei b off, Hid (ts[i]? = some ⟨Ai, ni, ci, xi, hi, ei⟩) ∧ A = some ⟨b, off, none⟩ ∧ b < B ∧ w.cell? ⟨b, off + i * 3, none⟩ = some (.slice Ai ni ci) ∧ w.cell? ⟨b, off + i * 3 + 1, none⟩ = some (.int .i64 hi) ∧ w.cell? ⟨b, off + i * 3 + 2, none⟩ = some (.int .i64 ei) ∧ Sl w B 2 encStep Ai ni xi := by
  obtain ⟨⟨Ai, ni, ci, xi, hi', ei⟩, b, off, hx, e, hb, hc⟩ := h.1.at_ hi
  exact ⟨Ai, ni, ci, xi, hi', ei, b, off, hx, e, hb, hc 0 _ rfl, hc 1 _ rfl, hc 2 _ rfl, h.2 _ (List.mem_of_getElem? hx)⟩
end SlT
def totT (ts : List TRow) : Nat := (ts.map TRow.n).sum
theorem totT_take {ts : List TRow} {k : Nat} {r : TRow} (h : ts[k]? = some r) : totT (ts.take (k + 1)) = totT (ts.take k) + r.n := by
  rw [take_at h]; simp [totT]
theorem totT_le {ts : List TRow} {k : Nat} : totT (ts.take k) ≤ totT ts := by
  induction ts generalizing k with
  | nil => simp
  | cons x l ih =>
    cases k with
    | zero => simp [totT]
    | succ k =>
      have := @ih k
      simp only [totT, List.take_succ_cons, List.map_cons, List.sum_cons] at this ⊢
      omega
theorem totT_mem {ts : List TRow} {r : TRow} (h : r ∈ ts) : r.n ≤ totT ts := by
  induction ts with
  | nil => simp at h
  | cons x l ih =>
    simp only [totT, List.map_cons, List.sum_cons]
    rcases List.mem_cons.1 h with rfl | h
    · omega
    · have := ih h
      simp only [totT] at this
      omega
theorem tars_eq {ts ts' : List TRow} (hl : ts'.length = ts.length) (h : ∀ (i : Nat) (r r' : TRow), ts[i]? = some r → ts'[i]? = some r' → r'.xs = r.xs ∧ r'.h = r.h ∧ r'.e = r.e) : tars ts' = tars ts := by
  apply List.ext_getElem
  · simp [tars, hl]
  · intro i h1 h2
    simp only [tars, List.length_map] at h1 h2
    simp only [tars, List.getElem_map, tarOf]
    obtain ⟨g1, g2, g3⟩ := h i _ _ (List.getElem?_eq_getElem h2) (List.getElem?_eq_getElem h1)
    rw [g1, g2, g3]
end Go.Proofs.YtngfhpklakhehaaGreatDoor
