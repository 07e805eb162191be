/-
  What all walks of this seat share: how a slice reads, own rows, small facts on worlds. No condition.
-/
import Derived.Test.YtngfhpklakhehaaGreatDoorRows
import Derived.WalkKit
import Derived.WalkSpells
import Derived.WalkLawsBesides
import Derived.Deep.RegionWith
import Derived.Deep.QuietTactic
import Derived.BigQuiet
import Derived.Deep.AppendLies
import Derived.Deep.Onto
import Derived.Maps.AppendAt
import Derived.OneCell
import Derived.Deep.LoopGhost
import Derived.Shelf.Abstract
namespace Go.Proofs.YtngfhpklakhehaaGreatDoor
open Go.RowKit

theorem hid {p : Prop} (h : p) : Hid p := h
theorem retB {a b : Bool} (h : a = b) : Ending.returned (.bool a) = .returned (.bool b) := by rw [h]
theorem retI {k : IntKind} {a b : Int} (h : a = b) : Ending.returned (.int k a) = .returned (.int k b) := by rw [h]

/-- n lies between low and high -/
def inR (n lo hi : Int) : Bool := decide (lo ≤ n) && decide (n ≤ hi)

/-- the slice value (A, n) holds the elements xs, k cells each, and lies below block B -/
def Sl {α : Type} (w : World) (B k : Nat) (enc : α → List Value) (A : Option Addr) (n : Nat) (xs : List α) : Prop :=
  xs.length = n ∧ ∀ (i : Nat) (x : α), xs[i]? = some x → ∃ b off, A = some ⟨b, off, none⟩ ∧ b < B ∧ ∀ (j : Nat) (u : Value), (enc x)[j]? = some u → w.cell? ⟨b, off + i * k + j, none⟩ = some u

namespace Sl
variable {α : Type} {w w' : World} {B B' k : Nat} {enc : α → List Value} {A : Option Addr} {n : Nat} {xs : List α}
theorem len (h : Sl w B k enc A n xs) : xs.length = n := h.1
theorem keep (h : Sl w B k enc A n xs) (hk : ∀ p : Addr, p.block < B → w'.cell? p = w.cell? p) : Sl w' B k enc A n xs :=
  ⟨h.1, fun i x hx => by obtain ⟨b, off, e, hb, hc⟩ := h.2 i x hx; exact ⟨b, off, e, hb, fun j u hu => (hk _ hb).trans (hc j u hu)⟩⟩
theorem below (h : Sl w B k enc A n xs) (hb : Below B w w') : Sl w' B k enc A n xs := h.keep fun _ hp => hb.cell hp
theorem more (h : Sl w B k enc A n xs) (hB : B ≤ B') : Sl w B' k enc A n xs :=
  ⟨h.1, fun i x hx => by obtain ⟨b, off, e, hb, hc⟩ := h.2 i x hx; exact ⟨b, off, e, by omega, hc⟩⟩
theorem alloc (h : Sl w B k enc A n xs) (hB : B ≤ w.heap.size) (o : Obj) : Sl (w.alloc o) B k enc A n xs := h.keep fun p hp => World.cell?_alloc_lt w o p (by omega)
theorem at_ (h : Sl w B k enc A n xs) {i : Nat} (hi : i < n) : ∃ x b off, xs[i]? = some x ∧ A = some ⟨b, off, none⟩ ∧ b < B ∧ ∀ (j : Nat) (u : Value), (enc x)[j]? = some u → w.cell? ⟨b, off + i * k + j, none⟩ = some u := by
  have hl := h.1
  obtain ⟨b, off, e, hb, hc⟩ := h.2 i xs[i] (List.getElem?_eq_getElem (by omega))
  exact ⟨xs[i], b, off, List.getElem?_eq_getElem (by omega), e, hb, hc⟩
end Sl

/-- what is left of a list at a place -/
theorem drop_at {α : Type} {xs : List α} {i : Nat} {x : α} (h : xs[i]? = some x) : xs.drop i = x :: xs.drop (i + 1) := by
  obtain ⟨hi, rfl⟩ := List.getElem?_eq_some_iff.1 h
  exact List.drop_eq_getElem_cons hi
theorem take_at {α : Type} {xs : List α} {i : Nat} {x : α} (h : xs[i]? = some x) : xs.take (i + 1) = xs.take i ++ [x] := by
  rw [List.take_add_one, h]; rfl

def encI (z : Int) : List Value := [.int .i64 z]
theorem Sl.int {w : World} {B : Nat} {A : Option Addr} {n : Nat} {xs : List Int} (h : Sl w B 1 encI A n xs) {i : Nat} (hi : i < n) :
    ∃ z b off, Hid (xs[i]? = some z) ∧ A = some ⟨b, off, none⟩ ∧ b < B ∧ w.cell? ⟨b, off + i, none⟩ = some (.int .i64 z) := by
  obtain ⟨z, b, off, hx, e, hb, hc⟩ := h.at_ hi
  have := hc 0 _ rfl
  simp only [Nat.mul_one, Nat.add_zero] at this
  exact ⟨z, b, off, hx, e, hb, this⟩

/-- the first place from i on at which p holds, or -1 -/
def findFrom {α : Type} (p : α → Bool) : Nat → List α → Int
  | _, [] => -1
  | i, x :: r => if p x then i else findFrom p (i + 1) r
theorem findFrom_any {α : Type} (p : α → Bool) (l : List α) : ∀ i, decide (0 ≤ findFrom p i l) = l.any p := by
  induction l with
  | nil => intro i; rfl
  | cons x r ih => intro i; simp only [findFrom, List.any_cons]; by_cases h : p x = true <;> simp [h, ih]

theorem flatMap_len {α : Type} {enc : α → List Value} {k : Nat} (hk : ∀ x, (enc x).length = k) (xs : List α) : (xs.flatMap enc).length = xs.length * k := by
  induction xs with
  | nil => simp
  | cons x r ih => simp only [List.flatMap_cons, List.length_append, hk, ih, List.length_cons, Nat.succ_mul]; omega
theorem flatMap_get {α : Type} {enc : α → List Value} {k : Nat} (hk : ∀ x, (enc x).length = k) {j : Nat} {u : Value} {x : α} (xs : List α) : ∀ i, xs[i]? = some x → (enc x)[j]? = some u → (xs.flatMap enc)[i * k + j]? = some u := by
  induction xs with
  | nil => intro i hi _; simp at hi
  | cons y r ih =>
    intro i hi hj
    rw [List.flatMap_cons]
    cases i with
    | zero =>
      simp only [List.getElem?_cons_zero, Option.some.injEq] at hi
      subst hi
      rw [Nat.zero_mul, Nat.zero_add, List.getElem?_append_left (List.getElem?_eq_some_iff.1 hj).1]; exact hj
    | succ i =>
      simp only [List.getElem?_cons_succ] at hi
      rw [List.getElem?_append_right (by rw [hk, Nat.succ_mul]; omega), hk, show (i + 1) * k + j - k = i * k + j by rw [Nat.succ_mul]; omega]
      exact ih i hi hj

theorem own_form {w : World} {lo : Nat} {T k : Nat} {v : Value} {n : Nat} {xs : List Value} (h : w.ownsRow lo T k v n xs) : ∃ A c, v = .slice A n c ∧ n ≤ c := by
  rcases h.2 with ⟨rfl, rfl⟩ | ⟨g, cap, cur, rfl, _, _, hc, _⟩
  · exact ⟨none, 0, rfl, Nat.le_refl _⟩
  · exact ⟨_, cap, rfl, hc⟩
/-- an own row reads as the list that it holds -/
theorem own_sl {α : Type} {enc : α → List Value} {k : Nat} (hk : ∀ x, (enc x).length = k) (hk0 : 0 < k) {w : World} {lo T : Nat} {A : Option Addr} {n c : Nat} {xs : List α} (h : w.ownsRow lo T k (.slice A n c) n (xs.flatMap enc)) :
    Sl w w.heap.size k enc A n xs := by
  have hl := h.1
  rw [flatMap_len hk] at hl
  have hl' : xs.length = n := Nat.eq_of_mul_eq_mul_right hk0 hl
  refine ⟨hl', fun i x hx => ?_⟩
  have hi := (List.getElem?_eq_some_iff.1 hx).1
  obtain ⟨g, cap, hv, _, hlt⟩ := h.form (by omega)
  injection hv with hA _ hc
  subst hA hc
  refine ⟨g, 0, rfl, hlt, fun j u hj => ?_⟩
  have hjk : j < k := by rw [← hk x]; exact (List.getElem?_eq_some_iff.1 hj).1
  have hb : i * k + j < n * k := by
    have h1 : (i + 1) * k ≤ n * k := Nat.mul_le_mul_right k (by omega)
    rw [Nat.succ_mul] at h1; omega
  rw [Nat.zero_add, h.cellAt _ hb]
  exact flatMap_get hk xs i hx hj

/-- the list l begins with pre -/
def Pre (l pre : List Value) : Prop := ∀ (j : Nat) (u : Value), pre[j]? = some u → l[j]? = some u
theorem Pre.nil (l : List Value) : Pre l [] := fun j u h => by simp at h
theorem Pre.push {l pre : List Value} (h : Pre l pre) {j : Nat} (hj : j = pre.length) (hl : j < l.length) (u : Value) : Pre (l.set j u) (pre ++ [u]) := by
  intro i x hx
  rw [List.getElem?_append] at hx
  by_cases hi : i < pre.length
  · rw [if_pos hi] at hx
    rw [List.getElem?_set_ne (by omega)]; exact h i x hx
  · rw [if_neg hi] at hx
    have h0 : i - pre.length = 0 := by
      have := (List.getElem?_eq_some_iff.1 hx).1
      simpa using this
    rw [h0] at hx
    simp only [List.getElem?_cons_zero, Option.some.injEq] at hx
    subst hx
    rw [show i = j by omega, List.getElem?_set_self hl]
theorem Pre.all {l pre : List Value} (h : Pre l pre) (hl : l.length = pre.length) : l = pre := by
  apply List.ext_getElem?
  intro i
  by_cases hi : i < pre.length
  · rw [List.getElem?_eq_getElem hi]; exact h i _ (List.getElem?_eq_getElem hi)
  · rw [List.getElem?_eq_none (by omega), List.getElem?_eq_none (by omega)]

/-- a cell of an own row is there, and may be written, in a later world too -/
theorem own_at {w w' : World} {lo T k : Nat} {g n c : Nat} {l : List Value} (h : w.ownsRow lo T k (.slice (some ⟨g, 0, none⟩) n c) n l) (hb : Below w.heap.size w w') (j : Nat) (hj : j < n * k) :
    (∃ u, w'.cell? ⟨g, j, none⟩ = some u) ∧ w'.frozen? ⟨g, j, none⟩ = false := by
  have hn : 0 < n := by
    rcases Nat.eq_zero_or_pos n with h0 | h0
    · subst h0; simp at hj
    · exact h0
  obtain ⟨g', cap, hv, _, hlt⟩ := h.form hn
  injection hv with hA _ hc
  injection hA with hA
  injection hA with hg
  subst hg hc
  refine ⟨⟨l[j]'(by rw [h.1]; exact hj), ?_⟩, ?_⟩
  · rw [hb.cell (p := ⟨g, j, none⟩) hlt, h.cellAt j hj]; exact List.getElem?_eq_getElem _
  · rw [hb.frozen (p := ⟨g, j, none⟩) hlt]; exact h.frozenAt j
theorem own_below {w w' : World} {lo T k : Nat} {v : Value} {n : Nat} {l : List Value} (h : w.ownsRow lo T k v n l) (hb : Below w.heap.size w w') : w'.ownsRow lo T k v n l :=
  ⟨h.1, h.2.imp id fun ⟨g, cap, cur, hv, hg, hh, r⟩ => ⟨g, cap, cur, hv, hg, (hb.block g (by
    rcases Nat.lt_or_ge g w.heap.size with hlt | hge
    · exact hlt
    · rw [Array.getElem?_eq_none hge] at hh; cases hh)).trans hh, r⟩⟩
theorem own_set {w : World} {lo T k : Nat} {g n c : Nat} {l pre : List Value} (h : w.ownsRow lo T k (.slice (some ⟨g, 0, none⟩) n c) n l) (hp : Pre l pre) {j : Nat} (hj : j = pre.length) (hl : j < n * k) (u : Value) :
    (w.setCell ⟨g, j, none⟩ u).ownsRow lo T k (.slice (some ⟨g, 0, none⟩) n c) n (l.set j u) ∧ Pre (l.set j u) (pre ++ [u]) :=
  ⟨(h.stored j u).1, hp.push hj (by rw [h.1]; exact hl) u⟩

theorem cell_far {w : World} {p q : Addr} {v : Value} (h : p.block ≠ q.block) : (w.setCell p v).cell? q = w.cell? q := World.cell?_setCell_other w p q v (fun e => h (by rw [e]))
theorem below_cell {w w' : World} {p : Addr} {v : Value} (h : w.cell? p = some v) (hb : Below w.heap.size w w') : w'.cell? p = some v := (hb.cell (World.block_lt_of_cell? _ _ h)).trans h
/-- an own row is kept where a row in other blocks is written -/
theorem own_keep {w w' : World} {lo T k : Nat} {v v2 : Value} {n : Nat} {l : List Value} (h : w.ownsRow lo T k v n l) (h2 : ∀ b, v2.ownBlock = some b → v.ownBlock ≠ some b) (hg : w.grownBy w' v2.ownBlock) : w'.ownsRow lo T k v n l := by
  refine h.kept hg ?_
  cases hv : v.ownBlock with
  | none => exact .inl rfl
  | some b => exact .inr fun e => h2 b e.symm hv
theorem grown_below {B : Nat} {a w w' : World} {v : Value} (h : Below B a w) (hg : w.grownBy w' v.ownBlock) (hB : B ≤ w.heap.size) (hv : ∀ b, v.ownBlock = some b → B ≤ b) : Below B a w' := h.grown hg hB hv
theorem bl_set {B : Nat} {a w : World} {p : Addr} {u : Value} (hp : B ≤ p.block) (h : Below B a w) : Below B a (w.setCell p u) := h.setCell hp u
theorem bl_alloc {B : Nat} {a w : World} {o : Obj} (hB : B ≤ w.heap.size) (h : Below B a w) : Below B a (w.alloc o) := h.alloc hB o
theorem bl_drew {B : Nat} {a w : World} (h : Below B a w) : Below B a w.drew := h.drew
theorem bl_drewN {B : Nat} {a w : World} {n : Nat} (h : Below B a w) : Below B a (w.drewN n) := ⟨h.os, h.tape, h.output, h.size, h.block⟩
theorem ow_set {w : World} {lo T k : Nat} {v : Value} {n : Nat} {l : List Value} {p : Addr} {u : Value} (hp : v.ownBlock ≠ some p.block) (h : w.ownsRow lo T k v n l) : (w.setCell p u).ownsRow lo T k v n l := ownsRow_setCell_other h hp u
theorem ow_alloc {w : World} {lo T k : Nat} {v : Value} {n : Nat} {l : List Value} {o : Obj} (h : w.ownsRow lo T k v n l) : (w.alloc o).ownsRow lo T k v n l := h.alloc o
theorem ow_drew {w : World} {lo T k : Nat} {v : Value} {n : Nat} {l : List Value} (h : w.ownsRow lo T k v n l) : w.drew.ownsRow lo T k v n l := h
theorem ow_drewN {w : World} {lo T k : Nat} {v : Value} {n m : Nat} {l : List Value} (h : w.ownsRow lo T k v n l) : (w.drewN m).ownsRow lo T k v n l := h
theorem gr_drew {a w : World} {row : Option Nat} (h : a.grownBy w row) : a.grownBy w.drew row := ⟨h.os, h.tape, h.output, h.size, h.block⟩
theorem gr_drewN {a w : World} {row : Option Nat} {n : Nat} (h : a.grownBy w row) : a.grownBy (w.drewN n) row := ⟨h.os, h.tape, h.output, h.size, h.block⟩
theorem gr_alloc {a w : World} {row : Option Nat} {o : Obj} (h : a.grownBy w row) : a.grownBy (w.alloc o) row :=
  ⟨h.os, h.tape, h.output, Nat.le_trans h.size (by simp), fun i hi hne => (Below.heap_alloc w o i (Nat.lt_of_lt_of_le hi h.size)).trans (h.block i hi hne)⟩
theorem gr_set {a w : World} {g j : Nat} {u : Value} (h : a.grownBy w (some g)) : a.grownBy (w.setCell ⟨g, j, none⟩ u) (some g) :=
  ⟨h.os, h.tape, h.output, by simpa [World.setCell] using h.size, fun i hi hne => (Below.heap_setCell w ⟨g, j, none⟩ u i (fun e => hne (by rw [e]))).trans (h.block i hi hne)⟩
theorem dr_cell (w : World) (p : Addr) : w.drew.cell? p = w.cell? p := rfl
theorem dr_frz (w : World) (p : Addr) : w.drew.frozen? p = w.frozen? p := rfl
theorem below_drewN {B : Nat} {a w : World} (h : Below B a w) (n : Nat) : Below B a (w.drewN n) := ⟨h.os, h.tape, h.output, h.size, h.block⟩
theorem only_drewN {a w : World} {row : Option Nat} (h : a.grownBy w row) (n : Nat) : a.grownBy (w.drewN n) row := ⟨h.os, h.tape, h.output, h.size, h.block⟩

/-- what is asked of a predicate that is handed on: at every x, in every world in which all that lay in w lies untouched -/
def Pred {α : Type} (P : Program) (g : Nat) (caps : Array Value) (val : α → Value) (p : α → Bool) (w : World) : Prop :=
  ∀ (W : World) (x : α), Below w.heap.size w W → Calls P g (#[val x] ++ caps) W fun e w' => e = .returned (.bool (p x)) ∧ Below W.heap.size W w'
end Go.Proofs.YtngfhpklakhehaaGreatDoor
