/-
  Slices of slices of numbers: how they read, a frame that leaves a span of blocks free. No condition.
-/
import Derived.Test.YtngfhpklakhehaaGreatDoorBasic
namespace Go.Proofs.YtngfhpklakhehaaGreatDoor
open Go.RowKit
set_option maxHeartbeats 400000

/-- one row of a table: the slice that its cell holds, and its numbers -/
structure Row where
  A : Option Addr
  n : Nat
  c : Nat
  xs : List Int
def encR (r : Row) : List Value := [.slice r.A r.n r.c]
theorem encR_len (r : Row) : (encR r).length = 1 := rfl
def SlS (w : World) (B : Nat) (A : Option Addr) (n : Nat) (rs : List Row) : Prop := Sl w B 1 encR A n rs ∧ ∀ r ∈ rs, Sl w B 1 encI r.A r.n r.xs
def cont (rs : List Row) : List (List Int) := rs.map Row.xs
theorem cont_len (rs : List Row) : (cont rs).length = rs.length := by simp [cont]
theorem cont_at {rs : List Row} {i : Nat} {r : Row} (h : rs[i]? = some r) : (cont rs)[i]? = some r.xs := by simp [cont, h]

namespace SlS
variable {w w' : World} {B B' : Nat} {A : Option Addr} {n : Nat} {rs : List Row}
theorem len (h : SlS w B A n rs) : rs.length = n := h.1.len
theorem below (h : SlS w B A n rs) (hb : Below B w w') : SlS w' B A n rs := ⟨h.1.below hb, fun r hr => (h.2 r hr).below hb⟩
theorem more (h : SlS w B A n rs) (hB : B ≤ B') : SlS w B' A n rs := ⟨h.1.more hB, fun r hr => (h.2 r hr).more hB⟩
theorem row (h : SlS w B A n rs) {i : Nat} (hi : i < n) :
    ∃ Ai ni ci xi b off, Hid (rs[i]? = some ⟨Ai, ni, ci, xi⟩) ∧ A = some ⟨b, off, none⟩ ∧ b < B ∧ w.cell? ⟨b, off + i, none⟩ = some (.slice Ai ni ci) ∧ Sl w B 1 encI Ai ni xi := by
  obtain ⟨⟨Ai, ni, ci, xi⟩, b, off, hx, e, hb, hc⟩ := h.1.at_ hi
  have := hc 0 _ rfl
  simp only [Nat.mul_one, Nat.add_zero] at this
  exact ⟨Ai, ni, ci, xi, b, off, hx, e, hb, this, h.2 _ (List.mem_of_getElem? hx)⟩
end SlS

/-- all that lay outside the blocks lo .. hi is left as it was -/
structure Span (lo hi : Nat) (w w' : World) : Prop where
  os : w'.os = w.os
  tape : w'.tape = w.tape
  output : w'.output = w.output
  size : w.heap.size ≤ w'.heap.size
  block : ∀ i, i < w.heap.size → ¬ (lo ≤ i ∧ i < hi) → w'.heap[i]? = w.heap[i]?
namespace Span
variable {lo hi : Nat} {a w w' : World}
theorem refl (lo hi : Nat) (w : World) : Span lo hi w w := ⟨rfl, rfl, rfl, Nat.le_refl _, fun _ _ _ => rfl⟩
theorem trans (h : Span lo hi a w) (g : Span lo hi w w') : Span lo hi a w' :=
  ⟨g.os.trans h.os, g.tape.trans h.tape, g.output.trans h.output, Nat.le_trans h.size g.size, fun i hi hn => (g.block i (Nat.lt_of_lt_of_le hi h.size) hn).trans (h.block i hi hn)⟩
theorem ofGrown {row : Option Nat} (h : a.grownBy w row) (hr : ∀ b, row = some b → lo ≤ b ∧ b < hi) : Span lo hi a w :=
  ⟨h.os, h.tape, h.output, h.size, fun i hi hn => h.block i hi (fun e => hn (hr i e.symm))⟩
theorem ofBelow (h : Below a.heap.size a w) : Span lo hi a w := ⟨h.os, h.tape, h.output, h.size, fun i hi _ => h.block i hi⟩
theorem toBelow {B : Nat} {a0 : World} (h0 : Below B a0 a) (h : Span lo hi a w) (hB : B ≤ lo) (hz : B ≤ a.heap.size) : Below B a0 w :=
  ⟨h.os.trans h0.os, h.tape.trans h0.tape, h.output.trans h0.output, Nat.le_trans h0.size h.size, fun i hi => (h.block i (Nat.lt_of_lt_of_le hi hz) (by omega)).trans (h0.block i hi)⟩
theorem own {l T k : Nat} {v : Value} {n : Nat} {xs : List Value} (h : Span lo hi a w) (o : a.ownsRow l T k v n xs) (hv : ∀ b, v.ownBlock = some b → ¬ (lo ≤ b ∧ b < hi)) : w.ownsRow l T k v n xs :=
  ⟨o.1, o.2.imp id fun ⟨g, cap, cur, e, hg, hh, r⟩ => ⟨g, cap, cur, e, hg, (h.block g (by
    rcases Nat.lt_or_ge g a.heap.size with hlt | hge
    · exact hlt
    · rw [Array.getElem?_eq_none hge] at hh; cases hh) (hv g (by rw [e]; rfl))).trans hh, r⟩⟩
end Span

/-- the cell of a table -/
def cAt (css : List (List Int)) (i k : Nat) : Int := (css.getD i []).getD k 0
theorem cAt_of {rs : List Row} {i k : Nat} {r : Row} {z : Int} (h : rs[i]? = some r) (hz : r.xs[k]? = some z) : cAt (cont rs) i k = z := by
  simp [cAt, List.getD, cont_at h, hz]

/-- what a row of slices that a function made owns: rows of their own, each in a block of its own -/
structure OwnS (w : World) (lo T Ti : Nat) (A : Option Addr) (n c : Nat) (rs : List Row) : Prop where
  top : w.ownsRow lo T 1 (.slice A n c) n (rs.flatMap encR)
  row : ∀ (i : Nat) (r : Row), rs[i]? = some r → w.ownsRow lo Ti 1 (.slice r.A r.n r.c) r.n (r.xs.flatMap encI)
  apart : ∀ (i : Nat) (r : Row), rs[i]? = some r → ∀ b, (Value.slice r.A r.n r.c).ownBlock = some b → (Value.slice A n c).ownBlock ≠ some b
  each : ∀ (i j : Nat) (r s : Row), i ≠ j → rs[i]? = some r → rs[j]? = some s → ∀ b, (Value.slice r.A r.n r.c).ownBlock = some b → (Value.slice s.A s.n s.c).ownBlock ≠ some b
theorem OwnS.slS {w : World} {lo T Ti : Nat} {A : Option Addr} {n c : Nat} {rs : List Row} (h : OwnS w lo T Ti A n c rs) : SlS w w.heap.size A n rs :=
  ⟨own_sl encR_len (by omega) h.top, fun r hr => by
    obtain ⟨i, hi, rfl⟩ := List.getElem_of_mem hr
    exact own_sl encI_len (by omega) (h.row i _ (List.getElem?_eq_getElem hi))⟩
theorem OwnS.below {w w' : World} {lo T Ti : Nat} {A : Option Addr} {n c : Nat} {rs : List Row} (h : OwnS w lo T Ti A n c rs) (hb : Below w.heap.size w w') : OwnS w' lo T Ti A n c rs :=
  ⟨own_below h.top hb, fun i r hi => own_below (h.row i r hi) hb, h.apart, h.each⟩
def tot (rs : List Row) : Nat := (rs.map Row.n).sum
theorem tot_take {rs : List Row} {k : Nat} {r : Row} (h : rs[k]? = some r) : tot (rs.take (k + 1)) = tot (rs.take k) + r.n := by
  rw [take_at h]; simp [tot]
theorem tot_le {rs : List Row} {k : Nat} : tot (rs.take k) ≤ tot rs := by
  induction rs generalizing k with
  | nil => simp
  | cons x l ih =>
    cases k with
    | zero => simp [tot]
    | succ k =>
      have := @ih k
      simp only [tot, List.take_succ_cons, List.map_cons, List.sum_cons] at this ⊢
      omega
theorem tot_mem {rs : List Row} {r : Row} (h : r ∈ rs) : r.n ≤ tot rs := by
  induction rs with
  | nil => simp at h
  | cons x l ih =>
    simp only [tot, List.map_cons, List.sum_cons]
    rcases List.mem_cons.1 h with rfl | h
    · omega
    · have := ih h
      simp only [tot] at this
      omega
theorem own_len {α : Type} {enc : α → List Value} {k : Nat} (hk : ∀ x, (enc x).length = k) (hk0 : 0 < k) {w : World} {lo T : Nat} {v : Value} {n : Nat} {xs : List α} (h : w.ownsRow lo T k v n (xs.flatMap enc)) : n = xs.length := by
  have hl := h.1
  rw [flatMap_len hk] at hl
  exact (Nat.eq_of_mul_eq_mul_right hk0 hl).symm
theorem cont_eq {rs rs' : List Row} (hl : rs'.length = rs.length) (h : ∀ (i : Nat) (r r' : Row), rs[i]? = some r → rs'[i]? = some r' → r'.xs = r.xs) : cont rs' = cont rs := by
  apply List.ext_getElem
  · simp [cont, hl]
  · intro i h1 h2
    simp only [cont, List.length_map] at h1 h2
    simp only [cont, List.getElem_map]
    exact h i _ _ (List.getElem?_eq_getElem h2) (List.getElem?_eq_getElem h1)
end Go.Proofs.YtngfhpklakhehaaGreatDoor
