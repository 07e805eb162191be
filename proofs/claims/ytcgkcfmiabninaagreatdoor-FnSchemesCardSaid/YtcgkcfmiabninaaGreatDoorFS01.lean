/-
  FS: texts Base, Int, Basic, Src, Open, Str, After, Mark, GRow, one behind the other. No condition but what each says.
-/
import Derived.Test.YtcgkcfmiabninaaGreatDoorRows
import Derived.WalkKit
import Derived.WalkSpells
import Derived.WalkLawsBesides
import Derived.Deep.RegionWith
import Derived.Deep.QuietTactic
import Derived.BigQuiet
import Derived.Deep.AppendLies
import Derived.Deep.Onto
import Derived.Maps.AppendAt
import Derived.OneCell
import Derived.Deep.LoopGhost
import Derived.Shelf.Abstract
import Derived.WalkSmall
import Derived.ProofKit
import Derived.SizedLaws
import Derived.OpenShut
import Derived.JoinedCond
import Derived.Deep.Slices
import Derived.Deep.Fields
import Derived.ChangeSame
import Derived.Deep.Strs
import Derived.Laws.IdiomStrings
/-
  What all walks of this seat share: how a slice reads, own rows, small facts on worlds. No condition.
-/
namespace Go.Proofs.YtcgkcfmiabninaaGreatDoor
open Go.RowKit

theorem hid {p : Prop} (h : p) : Hid p := h
theorem retB {a b : Bool} (h : a = b) : Ending.returned (.bool a) = .returned (.bool b) := by rw [h]
theorem retI {k : IntKind} {a b : Int} (h : a = b) : Ending.returned (.int k a) = .returned (.int k b) := by rw [h]

/-- n lies between low and high -/
def inR (n lo hi : Int) : Bool := decide (lo ≤ n) && decide (n ≤ hi)

/-- the slice value (A, n) holds the elements xs, k cells each, and lies below block B -/
def Sl {α : Type} (w : World) (B k : Nat) (enc : α → List Value) (A : Option Addr) (n : Nat) (xs : List α) : Prop :=
  xs.length = n ∧ ∀ (i : Nat) (x : α), xs[i]? = some x → ∃ b off, A = some ⟨b, off, none⟩ ∧ b < B ∧ ∀ (j : Nat) (u : Value), (enc x)[j]? = some u → w.cell? ⟨b, off + i * k + j, none⟩ = some u

namespace Sl
variable {α : Type} {w w' : World} {B B' k : Nat} {enc : α → List Value} {A : Option Addr} {n : Nat} {xs : List α}
theorem len (h : Sl w B k enc A n xs) : xs.length = n := h.1
theorem keep (h : Sl w B k enc A n xs) (hk : ∀ p : Addr, p.block < B → w'.cell? p = w.cell? p) : Sl w' B k enc A n xs :=
  ⟨h.1, fun i x hx => by obtain ⟨b, off, e, hb, hc⟩ := h.2 i x hx; exact ⟨b, off, e, hb, fun j u hu => (hk _ hb).trans (hc j u hu)⟩⟩
theorem below (h : Sl w B k enc A n xs) (hb : Below B w w') : Sl w' B k enc A n xs := h.keep fun _ hp => hb.cell hp
theorem more (h : Sl w B k enc A n xs) (hB : B ≤ B') : Sl w B' k enc A n xs :=
  ⟨h.1, fun i x hx => by obtain ⟨b, off, e, hb, hc⟩ := h.2 i x hx; exact ⟨b, off, e, by omega, hc⟩⟩
theorem alloc (h : Sl w B k enc A n xs) (hB : B ≤ w.heap.size) (o : Obj) : Sl (w.alloc o) B k enc A n xs := h.keep fun p hp => World.cell?_alloc_lt w o p (by omega)
theorem at_ (h : Sl w B k enc A n xs) {i : Nat} (hi : i < n) : ∃ x b off, xs[i]? = some x ∧ A = some ⟨b, off, none⟩ ∧ b < B ∧ ∀ (j : Nat) (u : Value), (enc x)[j]? = some u → w.cell? ⟨b, off + i * k + j, none⟩ = some u := by
  have hl := h.1
  obtain ⟨b, off, e, hb, hc⟩ := h.2 i xs[i] (List.getElem?_eq_getElem (by omega))
  exact ⟨xs[i], b, off, List.getElem?_eq_getElem (by omega), e, hb, hc⟩
end Sl

/-- what is left of a list at a place -/
theorem drop_at {α : Type} {xs : List α} {i : Nat} {x : α} (h : xs[i]? = some x) : xs.drop i = x :: xs.drop (i + 1) := by
  obtain ⟨hi, rfl⟩ := List.getElem?_eq_some_iff.1 h
  exact List.drop_eq_getElem_cons hi
theorem take_at {α : Type} {xs : List α} {i : Nat} {x : α} (h : xs[i]? = some x) : xs.take (i + 1) = xs.take i ++ [x] := by
  rw [List.take_add_one, h]; rfl

def encI (z : Int) : List Value := [.int .i64 z]
theorem Sl.int {w : World} {B : Nat} {A : Option Addr} {n : Nat} {xs : List Int} (h : Sl w B 1 encI A n xs) {i : Nat} (hi : i < n) :
    ∃ z b off, Hid (xs[i]? = some z) ∧ A = some ⟨b, off, none⟩ ∧ b < B ∧ w.cell? ⟨b, off + i, none⟩ = some (.int .i64 z) := by
  obtain ⟨z, b, off, hx, e, hb, hc⟩ := h.at_ hi
  have := hc 0 _ rfl
  simp only [Nat.mul_one, Nat.add_zero] at this
  exact ⟨z, b, off, hx, e, hb, this⟩

/-- the first place from i on at which p holds, or -1 -/
def findFrom {α : Type} (p : α → Bool) : Nat → List α → Int
  | _, [] => -1
  | i, x :: r => if p x then i else findFrom p (i + 1) r
theorem findFrom_any {α : Type} (p : α → Bool) (l : List α) : ∀ i, decide (0 ≤ findFrom p i l) = l.any p := by
  induction l with
  | nil => intro i; rfl
  | cons x r ih => intro i; simp only [findFrom, List.any_cons]; by_cases h : p x = true <;> simp [h, ih]

theorem flatMap_len {α : Type} {enc : α → List Value} {k : Nat} (hk : ∀ x, (enc x).length = k) (xs : List α) : (xs.flatMap enc).length = xs.length * k := by
  induction xs with
  | nil => simp
  | cons x r ih => simp only [List.flatMap_cons, List.length_append, hk, ih, List.length_cons, Nat.succ_mul]; omega
theorem flatMap_get {α : Type} {enc : α → List Value} {k : Nat} (hk : ∀ x, (enc x).length = k) {j : Nat} {u : Value} {x : α} (xs : List α) : ∀ i, xs[i]? = some x → (enc x)[j]? = some u → (xs.flatMap enc)[i * k + j]? = some u := by
  induction xs with
  | nil => intro i hi _; simp at hi
  | cons y r ih =>
    intro i hi hj
    rw [List.flatMap_cons]
    cases i with
    | zero =>
      simp only [List.getElem?_cons_zero, Option.some.injEq] at hi
      subst hi
      rw [Nat.zero_mul, Nat.zero_add, List.getElem?_append_left (List.getElem?_eq_some_iff.1 hj).1]; exact hj
    | succ i =>
      simp only [List.getElem?_cons_succ] at hi
      rw [List.getElem?_append_right (by rw [hk, Nat.succ_mul]; omega), hk, show (i + 1) * k + j - k = i * k + j by rw [Nat.succ_mul]; omega]
      exact ih i hi hj

theorem own_form {w : World} {lo : Nat} {T k : Nat} {v : Value} {n : Nat} {xs : List Value} (h : w.ownsRow lo T k v n xs) : ∃ A c, v = .slice A n c ∧ n ≤ c := by
  rcases h.2 with ⟨rfl, rfl⟩ | ⟨g, cap, cur, rfl, _, _, hc, _⟩
  · exact ⟨none, 0, rfl, Nat.le_refl _⟩
  · exact ⟨_, cap, rfl, hc⟩
/-- an own row reads as the list that it holds -/
theorem own_sl {α : Type} {enc : α → List Value} {k : Nat} (hk : ∀ x, (enc x).length = k) (hk0 : 0 < k) {w : World} {lo T : Nat} {A : Option Addr} {n c : Nat} {xs : List α} (h : w.ownsRow lo T k (.slice A n c) n (xs.flatMap enc)) :
    Sl w w.heap.size k enc A n xs := by
  have hl := h.1
  rw [flatMap_len hk] at hl
  have hl' : xs.length = n := Nat.eq_of_mul_eq_mul_right hk0 hl
  refine ⟨hl', fun i x hx => ?_⟩
  have hi := (List.getElem?_eq_some_iff.1 hx).1
  obtain ⟨g, cap, hv, _, hlt⟩ := h.form (by omega)
  injection hv with hA _ hc
  subst hA hc
  refine ⟨g, 0, rfl, hlt, fun j u hj => ?_⟩
  have hjk : j < k := by rw [← hk x]; exact (List.getElem?_eq_some_iff.1 hj).1
  have hb : i * k + j < n * k := by
    have h1 : (i + 1) * k ≤ n * k := Nat.mul_le_mul_right k (by omega)
    rw [Nat.succ_mul] at h1; omega
  rw [Nat.zero_add, h.cellAt _ hb]
  exact flatMap_get hk xs i hx hj

/-- the list l begins with pre -/
def Pre (l pre : List Value) : Prop := ∀ (j : Nat) (u : Value), pre[j]? = some u → l[j]? = some u
theorem Pre.nil (l : List Value) : Pre l [] := fun j u h => by simp at h
theorem Pre.push {l pre : List Value} (h : Pre l pre) {j : Nat} (hj : j = pre.length) (hl : j < l.length) (u : Value) : Pre (l.set j u) (pre ++ [u]) := by
  intro i x hx
  rw [List.getElem?_append] at hx
  by_cases hi : i < pre.length
  · rw [if_pos hi] at hx
    rw [List.getElem?_set_ne (by omega)]; exact h i x hx
  · rw [if_neg hi] at hx
    have h0 : i - pre.length = 0 := by
      have := (List.getElem?_eq_some_iff.1 hx).1
      simpa using this
    rw [h0] at hx
    simp only [List.getElem?_cons_zero, Option.some.injEq] at hx
    subst hx
    rw [show i = j by omega, List.getElem?_set_self hl]
theorem Pre.all {l pre : List Value} (h : Pre l pre) (hl : l.length = pre.length) : l = pre := by
  apply List.ext_getElem?
  intro i
  by_cases hi : i < pre.length
  · rw [List.getElem?_eq_getElem hi]; exact h i _ (List.getElem?_eq_getElem hi)
  · rw [List.getElem?_eq_none (by omega), List.getElem?_eq_none (by omega)]

/-- a cell of an own row is there, and may be written, in a later world too -/
theorem own_at {w w' : World} {lo T k : Nat} {g n c : Nat} {l : List Value} (h : w.ownsRow lo T k (.slice (some ⟨g, 0, none⟩) n c) n l) (hb : Below w.heap.size w w') (j : Nat) (hj : j < n * k) :
    (∃ u, w'.cell? ⟨g, j, none⟩ = some u) ∧ w'.frozen? ⟨g, j, none⟩ = false := by
  have hn : 0 < n := by
    rcases Nat.eq_zero_or_pos n with h0 | h0
    · subst h0; simp at hj
    · exact h0
  obtain ⟨g', cap, hv, _, hlt⟩ := h.form hn
  injection hv with hA _ hc
  injection hA with hA
  injection hA with hg
  subst hg hc
  refine ⟨⟨l[j]'(by rw [h.1]; exact hj), ?_⟩, ?_⟩
  · rw [hb.cell (p := ⟨g, j, none⟩) hlt, h.cellAt j hj]; exact List.getElem?_eq_getElem _
  · rw [hb.frozen (p := ⟨g, j, none⟩) hlt]; exact h.frozenAt j
theorem own_below {w w' : World} {lo T k : Nat} {v : Value} {n : Nat} {l : List Value} (h : w.ownsRow lo T k v n l) (hb : Below w.heap.size w w') : w'.ownsRow lo T k v n l :=
  ⟨h.1, h.2.imp id fun ⟨g, cap, cur, hv, hg, hh, r⟩ => ⟨g, cap, cur, hv, hg, (hb.block g (by
    rcases Nat.lt_or_ge g w.heap.size with hlt | hge
    · exact hlt
    · rw [Array.getElem?_eq_none hge] at hh; cases hh)).trans hh, r⟩⟩
theorem own_set {w : World} {lo T k : Nat} {g n c : Nat} {l pre : List Value} (h : w.ownsRow lo T k (.slice (some ⟨g, 0, none⟩) n c) n l) (hp : Pre l pre) {j : Nat} (hj : j = pre.length) (hl : j < n * k) (u : Value) :
    (w.setCell ⟨g, j, none⟩ u).ownsRow lo T k (.slice (some ⟨g, 0, none⟩) n c) n (l.set j u) ∧ Pre (l.set j u) (pre ++ [u]) :=
  ⟨(h.stored j u).1, hp.push hj (by rw [h.1]; exact hl) u⟩

theorem cell_far {w : World} {p q : Addr} {v : Value} (h : p.block ≠ q.block) : (w.setCell p v).cell? q = w.cell? q := World.cell?_setCell_other w p q v (fun e => h (by rw [e]))
theorem below_cell {w w' : World} {p : Addr} {v : Value} (h : w.cell? p = some v) (hb : Below w.heap.size w w') : w'.cell? p = some v := (hb.cell (World.block_lt_of_cell? _ _ h)).trans h
/-- an own row is kept where a row in other blocks is written -/
theorem own_keep {w w' : World} {lo T k : Nat} {v v2 : Value} {n : Nat} {l : List Value} (h : w.ownsRow lo T k v n l) (h2 : ∀ b, v2.ownBlock = some b → v.ownBlock ≠ some b) (hg : w.grownBy w' v2.ownBlock) : w'.ownsRow lo T k v n l := by
  refine h.kept hg ?_
  cases hv : v.ownBlock with
  | none => exact .inl rfl
  | some b => exact .inr fun e => h2 b e.symm hv
theorem grown_below {B : Nat} {a w w' : World} {v : Value} (h : Below B a w) (hg : w.grownBy w' v.ownBlock) (hB : B ≤ w.heap.size) (hv : ∀ b, v.ownBlock = some b → B ≤ b) : Below B a w' := h.grown hg hB hv
theorem bl_set {B : Nat} {a w : World} {p : Addr} {u : Value} (hp : B ≤ p.block) (h : Below B a w) : Below B a (w.setCell p u) := h.setCell hp u
theorem bl_alloc {B : Nat} {a w : World} {o : Obj} (hB : B ≤ w.heap.size) (h : Below B a w) : Below B a (w.alloc o) := h.alloc hB o
theorem bl_drew {B : Nat} {a w : World} (h : Below B a w) : Below B a w.drew := h.drew
theorem bl_drewN {B : Nat} {a w : World} {n : Nat} (h : Below B a w) : Below B a (w.drewN n) := ⟨h.os, h.tape, h.output, h.size, h.block⟩
theorem ow_set {w : World} {lo T k : Nat} {v : Value} {n : Nat} {l : List Value} {p : Addr} {u : Value} (hp : v.ownBlock ≠ some p.block) (h : w.ownsRow lo T k v n l) : (w.setCell p u).ownsRow lo T k v n l := ownsRow_setCell_other h hp u
theorem ow_alloc {w : World} {lo T k : Nat} {v : Value} {n : Nat} {l : List Value} {o : Obj} (h : w.ownsRow lo T k v n l) : (w.alloc o).ownsRow lo T k v n l := h.alloc o
theorem ow_drew {w : World} {lo T k : Nat} {v : Value} {n : Nat} {l : List Value} (h : w.ownsRow lo T k v n l) : w.drew.ownsRow lo T k v n l := h
theorem ow_drewN {w : World} {lo T k : Nat} {v : Value} {n m : Nat} {l : List Value} (h : w.ownsRow lo T k v n l) : (w.drewN m).ownsRow lo T k v n l := h
theorem gr_drew {a w : World} {row : Option Nat} (h : a.grownBy w row) : a.grownBy w.drew row := ⟨h.os, h.tape, h.output, h.size, h.block⟩
theorem gr_drewN {a w : World} {row : Option Nat} {n : Nat} (h : a.grownBy w row) : a.grownBy (w.drewN n) row := ⟨h.os, h.tape, h.output, h.size, h.block⟩
theorem gr_alloc {a w : World} {row : Option Nat} {o : Obj} (h : a.grownBy w row) : a.grownBy (w.alloc o) row :=
  ⟨h.os, h.tape, h.output, Nat.le_trans h.size (by simp), fun i hi hne => (Below.heap_alloc w o i (Nat.lt_of_lt_of_le hi h.size)).trans (h.block i hi hne)⟩
theorem gr_set {a w : World} {g j : Nat} {u : Value} (h : a.grownBy w (some g)) : a.grownBy (w.setCell ⟨g, j, none⟩ u) (some g) :=
  ⟨h.os, h.tape, h.output, by simpa [World.setCell] using h.size, fun i hi hne => (Below.heap_setCell w ⟨g, j, none⟩ u i (fun e => hne (by rw [e]))).trans (h.block i hi hne)⟩
theorem dr_cell (w : World) (p : Addr) : w.drew.cell? p = w.cell? p := rfl
theorem dr_frz (w : World) (p : Addr) : w.drew.frozen? p = w.frozen? p := rfl
theorem below_drewN {B : Nat} {a w : World} (h : Below B a w) (n : Nat) : Below B a (w.drewN n) := ⟨h.os, h.tape, h.output, h.size, h.block⟩
theorem only_drewN {a w : World} {row : Option Nat} (h : a.grownBy w row) (n : Nat) : a.grownBy (w.drewN n) row := ⟨h.os, h.tape, h.output, h.size, h.block⟩

/-- what is asked of a predicate that is handed on: at every x, in every world in which all that lay in w lies untouched -/
def Pred {α : Type} (P : Program) (g : Nat) (caps : Array Value) (val : α → Value) (p : α → Bool) (w : World) : Prop :=
  ∀ (W : World) (x : α), Below w.heap.size w W → Calls P g (#[val x] ++ caps) W fun e w' => e = .returned (.bool (p x)) ∧ Below W.heap.size W w'
end Go.Proofs.YtcgkcfmiabninaaGreatDoor
/-
  Lists of numbers: compared, marked, held; where one of them stands. No condition.
-/
namespace Go.Proofs.YtcgkcfmiabninaaGreatDoor
open Go.RowKit
set_option maxHeartbeats 400000

theorem encI_len (z : Int) : (encI z).length = 1 := rfl
theorem int_info : (Tryz.prog.info? 2).map (fun i => (i.zero, i.size, i.bytes)) = some (some (.int .i64 0), 1, 8) := by kernel_rfl


/-- the marks k, k + 1 .. -/
def marks (k : Int) (n : Nat) : List Int := (List.range n).map fun i => k + (i : Nat)
theorem marks_succ (k : Int) (n : Nat) : marks k (n + 1) = marks k n ++ [k + n] := by simp [marks, List.range_succ]
theorem marks_len (k : Int) (n : Nat) : (marks k n).length = n := by simp [marks]

theorem own_lt {w : World} {lo T k : Nat} {g n c : Nat} {l : List Value} (h : w.ownsRow lo T k (.slice (some ⟨g, 0, none⟩) n c) n l) : lo ≤ g ∧ g < w.heap.size := h.lt g rfl
/-- where an own row of some elements lies -/
theorem own_some {w : World} {lo T k : Nat} {A : Option Addr} {n c : Nat} {l : List Value} (h : w.ownsRow lo T k (.slice A n c) n l) (hn : 0 < n) : ∃ g, A = some ⟨g, 0, none⟩ ∧ lo ≤ g ∧ g < w.heap.size := by
  obtain ⟨g, cap, hv, h1, h2⟩ := h.form hn
  injection hv with hA _ hc
  exact ⟨g, hA, h1, h2⟩

/-- a number in an own row -/
theorem own_int {w : World} {lo T g n c : Nat} {l : List Int} (h : w.ownsRow lo T 1 (.slice (some ⟨g, 0, none⟩) n c) n (l.flatMap encI)) {k : Nat} {z : Int} (hk : l[k]? = some z) : w.cell? ⟨g, k, none⟩ = some (.int .i64 z) ∧ w.frozen? ⟨g, k, none⟩ = false := by
  have hl := h.1
  rw [flatMap_len encI_len] at hl
  have hkl := (List.getElem?_eq_some_iff.1 hk).1
  refine ⟨?_, h.frozenAt k⟩
  rw [h.cellAt k (by omega)]
  have := flatMap_get encI_len (j := 0) (u := .int .i64 z) l k hk rfl
  simpa using this


end Go.Proofs.YtcgkcfmiabninaaGreatDoor
/-
  Numbers within bounds, the greater of two, a number in a list. No condition.
-/
namespace Go.Proofs.YtcgkcfmiabninaaGreatDoor
open Go.RowKit
set_option maxHeartbeats 400000

theorem within_any (n lo hi : Int) (w : World) :
    Calls Tryz.prog 51 #[.int .i64 n, .int .i64 lo, .int .i64 hi] w fun e w' => e = .returned (.bool (inR n lo hi)) ∧ w' = w := by
  go_enter Tryz.func51, Tryz.ntmps51
  go_wp2
  all_goals go_ret
  all_goals exact ⟨retB (by simp [inR]; try omega), rfl⟩
theorem l00In_any (n lo hi : Int) (w : World) :
    Calls Tryz.prog 52 #[.int .i64 n, .int .i64 lo, .int .i64 hi] w fun e w' => e = .returned (.bool (inR n lo hi)) ∧ w' = w := by
  go_enter Tryz.func52, Tryz.ntmps52
  go_wp2
  all_goals go_ret
  all_goals exact ⟨retB (by simp [inR]; try omega), rfl⟩

def hasI (l : List Int) (z : Int) : Bool := l.any fun y => y == z
theorem hasI_iff {l : List Int} {z : Int} : hasI l z = true ↔ z ∈ l := by simp [hasI]
theorem hasI_false {l : List Int} {z : Int} : hasI l z = false ↔ z ∉ l := by rw [← hasI_iff]; simp


end Go.Proofs.YtcgkcfmiabninaaGreatDoor
/-
  A source of choices: it hands out numbers within bounds, whatever its bytes are. No condition.
-/
namespace Go.Proofs.YtcgkcfmiabninaaGreatDoor
open Go.RowKit
set_option maxHeartbeats 400000

theorem heap_at {w : World} {o : Obj} {k : Nat} (h : k = w.heap.size) : (w.alloc o).heap[k]? = some o := by subst h; exact heap_alloc_new w o
def encB (z : Int) : List Value := [.int .u8 z]
theorem encB_len (z : Int) : (encB z).length = 1 := rfl
theorem Sl.byte {w : World} {B : Nat} {A : Option Addr} {n : Nat} {xs : List Int} (h : Sl w B 1 encB A n xs) {i : Nat} (hi : i < n) :
    ∃ z b off, Hid (xs[i]? = some z) ∧ A = some ⟨b, off, none⟩ ∧ b < B ∧ w.cell? ⟨b, off + i, none⟩ = some (.int .u8 z) := by
  obtain ⟨z, b, off, hx, e, hb, hc⟩ := h.at_ hi
  have := hc 0 _ rfl
  simp only [Nat.mul_one, Nat.add_zero] at this
  exact ⟨z, b, off, hx, e, hb, this⟩
/-- some bytes below block B, at most m -/
def Bytes (w : World) (B m : Nat) (v : Value) : Prop := ∃ A n c xs, v = .slice A n c ∧ n ≤ m ∧ Sl w B 1 encB A n xs ∧ ∀ z ∈ xs, 0 ≤ z ∧ z ≤ 255
/-- a source of choices in block gs; at most k numbers have been drawn -/
structure SrcAt (w : World) (gs k : Nat) : Prop where
  ex : ∃ v a s, w.cell? ⟨gs, 0, none⟩ = some v ∧ Bytes w gs 5000 v ∧ w.cell? ⟨gs, 1, none⟩ = some (.int .i64 (a : Nat)) ∧ w.cell? ⟨gs, 2, none⟩ = some (.int .u64 s) ∧ a ≤ k
  f1 : w.frozen? ⟨gs, 1, none⟩ = false
  f2 : w.frozen? ⟨gs, 2, none⟩ = false
theorem SrcAt.lt {w : World} {gs k : Nat} (h : SrcAt w gs k) : gs < w.heap.size := by
  obtain ⟨v, a, s, c0, _⟩ := h.ex
  exact World.block_lt_of_cell? _ _ c0
theorem Bytes.keep {w w' : World} {B m : Nat} {v : Value} (h : Bytes w B m v) (hk : ∀ p : Addr, p.block < B → w'.cell? p = w.cell? p) : Bytes w' B m v := by
  obtain ⟨A, n, c, xs, e, hn, hx, hz⟩ := h
  exact ⟨A, n, c, xs, e, hn, hx.keep hk, hz⟩
theorem Bytes.below {w w' : World} {B m : Nat} {v : Value} (h : Bytes w B m v) (hb : Below B w w') : Bytes w' B m v := h.keep fun _ hp => hb.cell hp
theorem Bytes.more {w : World} {B B' m : Nat} {v : Value} (h : Bytes w B m v) (hB : B ≤ B') : Bytes w B' m v := by
  obtain ⟨A, n, c, xs, e, hn, hx, hz⟩ := h
  exact ⟨A, n, c, xs, e, hn, hx.more hB, hz⟩
theorem SrcAt.mono {w : World} {gs k k' : Nat} (h : SrcAt w gs k) (hk : k ≤ k') : SrcAt w gs k' := by
  obtain ⟨⟨v, a, s, c0, hv, c1, c2, ha⟩, f1, f2⟩ := h
  exact ⟨⟨v, a, s, c0, hv, c1, c2, by omega⟩, f1, f2⟩
theorem SrcAt.below {w w' : World} {gs k : Nat} (h : SrcAt w gs k) (hb : Below (gs + 1) w w') : SrcAt w' gs k := by
  have hl := h.lt
  obtain ⟨⟨v, a, s, c0, hv, c1, c2, ha⟩, f1, f2⟩ := h
  refine ⟨⟨v, a, s, (hb.cell (p := ⟨gs, 0, none⟩) (by simp)).trans c0, hv.keep fun p hp => hb.cell (by omega), (hb.cell (p := ⟨gs, 1, none⟩) (by simp)).trans c1, (hb.cell (p := ⟨gs, 2, none⟩) (by simp)).trans c2, ha⟩, ?_, ?_⟩
  · exact (hb.frozen (p := ⟨gs, 1, none⟩) (by simp)).trans f1
  · exact (hb.frozen (p := ⟨gs, 2, none⟩) (by simp)).trans f2
/-- where a row that is not the source's is written -/
theorem SrcAt.grown {w w' : World} {gs k : Nat} {row : Option Nat} (h : SrcAt w gs k) (hg : w.grownBy w' row) (hr : ∀ b, row = some b → gs < b) : SrcAt w' gs k := by
  refine h.below ⟨hg.os, hg.tape, hg.output, hg.size, fun i hi => ?_⟩
  have hl := h.lt
  exact hg.block i (by omega) (fun e => by have := hr i e.symm; omega)

theorem SrcAt.alloc {w : World} {gs k : Nat} (h : SrcAt w gs k) (o : Obj) : SrcAt (w.alloc o) gs k := h.below ((Below.refl _ _).alloc (by have := h.lt; omega) o)
theorem SrcAt.set {w : World} {gs k : Nat} {p : Addr} {u : Value} (h : SrcAt w gs k) (hp : gs < p.block) : SrcAt (w.setCell p u) gs k := h.below ((Below.refl _ _).setCell (by omega) u)
/-- a row that is not the source's stays where the source is drawn from -/
theorem own_src {w w' : World} {gs lo T k n : Nat} {v : Value} {l : List Value} (h : w.ownsRow lo T k v n l) (hg : w.grownBy w' (some gs)) (hlo : gs < lo) : w'.ownsRow lo T k v n l := by
  refine own_keep (v2 := .slice (some ⟨gs, 0, none⟩) 0 0) h (fun b hb e => ?_) hg
  have h1 := (h.lt b e).1
  have h2 : gs = b := by simpa [Value.ownBlock] using hb
  omega
theorem below_src {w w' a : World} {gs B : Nat} (h : Below B a w) (hg : w.grownBy w' (some gs)) (hB : B ≤ gs) (hw : B ≤ w.heap.size) : Below B a w' := by
  refine grown_below (v := .slice (some ⟨gs, 0, none⟩) 0 0) h hg hw (fun b hb => ?_)
  have h2 : gs = b := by simpa [Value.ownBlock] using hb
  omega
theorem cell_src {w w' : World} {gs b o : Nat} {v : Value} (h : w.cell? ⟨b, o, none⟩ = some v) (hg : w.grownBy w' (some gs)) (hb : b ≠ gs) : w'.cell? ⟨b, o, none⟩ = some v := hg.cell h (fun e => hb (by simpa using e))
theorem frz_src {w w' : World} {gs b o : Nat} (h : w.frozen? ⟨b, o, none⟩ = false) (hg : w.grownBy w' (some gs)) (hb : b ≠ gs) (hl : b < w.heap.size) : w'.frozen? ⟨b, o, none⟩ = false := (hg.frozen_far ⟨b, o, none⟩ hl (fun e => hb (by simpa using e))).trans h
theorem and_255 (E : Int) (h0 : 0 ≤ E) (h1 : E ≤ 18446744073709551615) : 0 ≤ bits BinOp.and IntKind.u64 E 255 ∧ bits BinOp.and IntKind.u64 E 255 ≤ 255 := by
  have h := bits_and_u64_nat E.toNat 255 (by omega) (by omega)
  rw [Int.toNat_of_nonneg h0] at h
  have h2 : bits BinOp.and IntKind.u64 E 255 = ((E.toNat &&& 255 : Nat) : Int) := h
  have h3 : E.toNat &&& 255 ≤ 255 := Nat.and_le_right
  omega

theorem low_byte (x : Int) : 0 ≤ RowKit.wrap64 (bits BinOp.and IntKind.u64 (IntKind.u64.wrap x / 1099511627776) 255) ∧ RowKit.wrap64 (bits BinOp.and IntKind.u64 (IntKind.u64.wrap x / 1099511627776) 255) ≤ 255 := by
  have h1 : 0 ≤ IntKind.u64.wrap x ∧ IntKind.u64.wrap x ≤ 18446744073709551615 := by
    have e : IntKind.u64.wrap x = x % 18446744073709551616 := by simp [IntKind.wrap, IntKind.signed, IntKind.bits]
    omega
  generalize IntKind.u64.wrap x = y at h1
  have h2 := and_255 (y / 1099511627776) (by omega) (by omega)
  rw [IntWalk.wrap64_in _ (by omega)]
  exact h2
theorem src_set {w : World} {gs k a : Nat} {v : Value} {s S : Int} (hv : Bytes w gs 5000 v) (c0 : w.cell? ⟨gs, 0, none⟩ = some v) (c1 : w.cell? ⟨gs, 1, none⟩ = some (.int .i64 (a : Nat))) (c2 : w.cell? ⟨gs, 2, none⟩ = some (.int .u64 s)) (ha : a ≤ k)
    (f1 : w.frozen? ⟨gs, 1, none⟩ = false) (f2 : w.frozen? ⟨gs, 2, none⟩ = false) (m m' : Nat) :
    SrcAt ((((w.drewN m).setCell ⟨gs, 1, none⟩ (.int .i64 ((a : Int) + 1))).setCell ⟨gs, 2, none⟩ (.int .u64 S)).drewN m') gs (k + 1) ∧ w.grownBy ((((w.drewN m).setCell ⟨gs, 1, none⟩ (.int .i64 ((a : Int) + 1))).setCell ⟨gs, 2, none⟩ (.int .u64 S)).drewN m') (some gs) := by
  have d0 : (w.drewN m).cell? ⟨gs, 0, none⟩ = some v := c0
  have d1 : (w.drewN m).cell? ⟨gs, 1, none⟩ = some (.int .i64 (a : Nat)) := c1
  have d2 : (w.drewN m).cell? ⟨gs, 2, none⟩ = some (.int .u64 s) := c2
  have e2 : ((w.drewN m).setCell ⟨gs, 1, none⟩ (.int .i64 ((a : Int) + 1))).cell? ⟨gs, 2, none⟩ = some (.int .u64 s) := (World.cell?_setCell_other _ _ _ _ (by simp)).trans d2
  have e1 : ((w.drewN m).setCell ⟨gs, 1, none⟩ (.int .i64 ((a : Int) + 1))).cell? ⟨gs, 1, none⟩ = some (.int .i64 ((a : Int) + 1)) := World.cell?_setCell_same _ _ _ d1
  refine ⟨⟨⟨v, a + 1, S, ?_, ?_, ?_, ?_, by omega⟩, ?_, ?_⟩, gr_drewN (gr_set (gr_set (gr_drewN (World.grownBy.refl _ _))))⟩
  · exact (World.cell?_setCell_other _ _ _ _ (by simp)).trans ((World.cell?_setCell_other _ _ _ _ (by simp)).trans d0)
  · refine hv.keep fun p hp => ?_
    exact (cell_far (by simp only; omega)).trans ((cell_far (by simp only; omega)).trans rfl)
  · exact ((World.cell?_setCell_other _ _ _ _ (by simp)).trans e1).trans (by go_num)
  · exact World.cell?_setCell_same _ _ _ e2
  · show (((w.drewN m).setCell ⟨gs, 1, none⟩ (.int .i64 ((a : Int) + 1))).setCell ⟨gs, 2, none⟩ (.int .u64 S)).frozen? ⟨gs, 1, none⟩ = false
    rw [World.frozen?_setCell, World.frozen?_setCell]; exact f1
  · show (((w.drewN m).setCell ⟨gs, 1, none⟩ (.int .i64 ((a : Int) + 1))).setCell ⟨gs, 2, none⟩ (.int .u64 S)).frozen? ⟨gs, 2, none⟩ = false
    rw [World.frozen?_setCell, World.frozen?_setCell]; exact f2
set_option maxRecDepth 100000 in
theorem next_any (gs k : Nat) (w : World) (h : SrcAt w gs k) (hk : k ≤ 1000000) :
    Calls Tryz.prog 69 #[.pointer (some ⟨gs, 0, none⟩)] w fun e w' => ∃ r, e = .returned (.int .i64 r) ∧ 0 ≤ r ∧ r ≤ 255 ∧ SrcAt w' gs (k + 1) ∧ w.grownBy w' (some gs) := by
  obtain ⟨⟨v, a, s, c0, hv, c1, c2, ha⟩, f1, f2⟩ := h
  have key := fun S m m' => src_set (S := S) hv c0 c1 c2 ha f1 f2 m m'
  obtain ⟨A, n, c, xs, rfl, hn, hx, hz⟩ := hv
  have KEY := hid key
  clear key
  by_cases hlt : a < n
  · obtain ⟨z, b, off, Hx, rfl, hb, cb⟩ := hx.byte hlt
    have hz2 := hz z (List.mem_of_getElem? Hx.out)
    have ai : (0 : Int) ≤ (a : Int) := by omega
    have an : (a : Int) < (n : Int) := by omega
    clear hx hz
    go_enter Tryz.func69, Tryz.ntmps69
    go_wp2
    go_quiet (fail)
    go_wp2
    go_quiet (fail)
    go_wp2
    go_quiet (fail)
    go_wp2
    go_ret
    exact ⟨z, rfl, hz2.1, hz2.2, KEY.out _ _ _⟩
  · have ai : (0 : Int) ≤ (a : Int) := by omega
    have an : ¬ (a : Int) < (n : Int) := by omega
    have an2 : ¬ (a : Int) + 1 ≤ (n : Int) := by omega
    clear hx hz
    go_enter Tryz.func69, Tryz.ntmps69
    go_wp2
    go_quiet (fail)
    go_wp2
    go_quiet (fail)
    go_wp2
    go_ret
    exact ⟨_, rfl, (low_byte _).1, (low_byte _).2, KEY.out _ _ _⟩
/-- a number from 0 to n - 1; 0 where n is 1 or less -/
theorem pick_any (gs k : Nat) (n : Int) (w : World) (h : SrcAt w gs k) (hk : k ≤ 900000) (hn : n ≤ 1000000) :
    Calls Tryz.prog 44 #[.pointer (some ⟨gs, 0, none⟩), .int .i64 n] w fun e w' => ∃ r, e = .returned (.int .i64 r) ∧ 0 ≤ r ∧ (r < n ∨ (r = 0 ∧ n ≤ 1)) ∧ SrcAt w' gs (k + 2) ∧ w.grownBy w' (some gs) := by
  by_cases h1 : n ≤ 1
  · go_enter Tryz.func44, Tryz.ntmps44
    go_wp2_with fail
    go_ret
    exact ⟨0, rfl, by omega, .inr ⟨rfl, h1⟩, h.mono (by omega), World.grownBy.refl _ _⟩
  · have n0 : 0 < n := by omega
    have nz : ¬ n = 0 := by omega
    have H := hid h
    clear h
    by_cases h2 : n > 200
    · go_enter Tryz.func44, Tryz.ntmps44
      go_wp2_with fail
      refine (next_any gs k _ H.out (by omega)).mono ?_
      rintro e w1 ⟨r, rfl, r0, r1, hs1, hg1⟩
      have HS := hid hs1
      have HG := hid hg1
      clear hs1 hg1
      go_wp2_with fail
      refine (next_any gs (k + 1) _ HS.out (by omega)).mono ?_
      rintro e w2 ⟨q, rfl, q0, q1, hs2, hg2⟩
      have HS2 := hid hs2
      have HG2 := hid hg2
      clear hs2 hg2
      have m0 := Int.emod_nonneg (r * 256 + q) nz
      have m1 := Int.emod_lt_of_pos (r * 256 + q) n0
      go_wp2_with fail
      go_ret
      exact ⟨_, rfl, m0, .inl m1, HS2.out, HG.out.trans HG2.out⟩
    · go_enter Tryz.func44, Tryz.ntmps44
      go_wp2_with fail
      refine (next_any gs k _ H.out (by omega)).mono ?_
      rintro e w1 ⟨r, rfl, r0, r1, hs1, hg1⟩
      have HS := hid hs1
      have HG := hid hg1
      clear hs1 hg1
      have m0 := Int.emod_nonneg r nz
      have m1 := Int.emod_lt_of_pos r n0
      go_wp2_with fail
      go_ret
      exact ⟨_, rfl, m0, .inl m1, HS.out.mono (by omega), HG.out⟩
/-- one of some numbers -/
theorem among_any (gs k : Nat) (A : Option Addr) (n c : Nat) (xs : List Int) (w : World) (h : SrcAt w gs k) (hk : k ≤ 900000) (hn : n ≤ 1000) (hn0 : 0 < n) (hx : Sl w w.heap.size 1 encI A n xs) (hA : ∀ b off s, A = some ⟨b, off, s⟩ → b ≠ gs) :
    Calls Tryz.prog 45 #[.pointer (some ⟨gs, 0, none⟩), .slice A n c] w fun e w' => ∃ r, e = .returned (.int .i64 r) ∧ r ∈ xs ∧ SrcAt w' gs (k + 2) ∧ w.grownBy w' (some gs) := by
  have hp := pick_any gs k n w h hk (by omega)
  have hpost : ∀ (r : Int) (w1 : World), 0 ≤ r → (r < n ∨ (r = 0 ∧ (n : Int) ≤ 1)) → w.grownBy w1 (some gs) → ∃ (i : Nat) (z : Int) (b off : Nat), r = i ∧ (i : Int) < (n : Int) ∧ z ∈ xs ∧ A = some ⟨b, off, none⟩ ∧ w1.cell? ⟨b, off + i, none⟩ = some (.int .i64 z) := by
    intro r w1 r0 r1 hg
    have hi : r.toNat < n := by omega
    obtain ⟨z, b, off, Hx, e, hb, cb⟩ := hx.int hi
    refine ⟨r.toNat, z, b, off, by omega, by omega, List.mem_of_getElem? Hx.out, e, hg.cell cb (fun e2 => hA _ _ _ e (by simpa using e2))⟩
  have HP := hid hpost
  clear h hx hpost
  go_enter Tryz.func45, Tryz.ntmps45
  go_wp2_with (go_at_call 44; refine hp.mono ?_; rintro e w1 ⟨r, rfl, r0, r1, hs, hg⟩; obtain ⟨i, z, b, off, rfl, hin, hz, rfl, cz⟩ := HP.out _ _ r0 r1 hg; have hi0 : (0 : Int) ≤ (i : Int) := Int.natCast_nonneg i)
  go_ret
  exact ⟨z, rfl, hz, hs, hg⟩
/-- a new source -/
theorem l00From_any (v : Value) (w : World) (hv : Bytes w w.heap.size 5000 v) :
    Calls Tryz.prog 39 #[v] w fun e w' => e = .returned (.pointer (some ⟨w.heap.size, 0, none⟩)) ∧ SrcAt w' w.heap.size 0 ∧ Below w.heap.size w w' ∧ w.heap.size < w'.heap.size := by
  have hv0 := hv
  obtain ⟨A, n, c, xs, rfl, hn, hx, hz⟩ := hv
  have HV := hid hv0
  clear hv0 hx hz
  go_enter Tryz.func39, Tryz.ntmps39
  go_wp2_with fail
  go_ret
  refine ⟨rfl, ⟨⟨_, 0, 0, ?_, HV.out.keep fun p hp => World.cell?_alloc_lt w _ p hp, ?_, ?_, Nat.le_refl _⟩, ?_, ?_⟩, (Below.refl _ _).alloc (Nat.le_refl _) _, by simp⟩
  all_goals go_simp
end Go.Proofs.YtcgkcfmiabninaaGreatDoor
/-
  From a row to the walk and back: how an argument that is a slice of structs reads; the row's last step. No condition.
-/
namespace Go.Proofs.YtcgkcfmiabninaaGreatDoor
open Go.ChangeShapes Go.WideShapes Go.ChangeAt Go.RowKit Go.Deep

/-- an address under which a cell is read lies at no spot -/
theorem spot_none {w : World} {b o : Nat} {s : Option Nat} {v : Value} (h : w.cell? ⟨b, o, s⟩ = some v) : s = none := by
  cases s with
  | none => rfl
  | some n => unfold World.cell? at h; cases hb : w.heap[b]? with
    | none => simp [hb] at h
    | some o => cases o <;> simp [hb] at h

/-- the number in a cell -/
def numAt (w : World) (a : Addr) : Int := match w.cell? a with | some (.int _ z) => z | _ => 0
theorem numAt_of {w : World} {a : Addr} {k : IntKind} {z : Int} (h : w.cell? a = some (.int k z)) : numAt w a = z := by unfold numAt; rw [h]

theorem own : ownKnob Tryz.prog.godebug = none := by kernel_rfl
theorem laidOut : laidOutB Tryz.prog = true := by kernel_rfl

section
variable {H : Type} {enc : TypeId × Value → H} {P : Program} {w : World} {base : Nat} {spare : Nat → Bool} {held : Bool}
theorem open_slice_fields {t e : TypeId} {fs : Array Field} {fuel : Nat} {cs : List Value} {x : DataW H × List MemPlace} (ht : P.underlying t = some (.slice e)) (he : P.underlying e = some (.struct fs))
    (hone : oneCellFields P fs = true) (hC : P.cellsOf e = fs.size) (h : DataW.trod enc P w base spare held fuel t cs = some x) :
    (cs = [.slice none 0 0] ∧ x = (.nil, [])) ∨
    ∃ (a : Addr) (len cap m : Nat) (D : Nat → DataW H) (Pl : Nat → List MemPlace), cs = [.slice (some a) len cap] ∧ base ≤ a.block ∧ len ≤ cap ∧ cap ≤ maxLen ∧ m = (if spare a.block then cap else len) ∧
      x = (.slice ((List.range len).map D) ((List.range (m - len)).map fun j => D (len + j)), MemPlace.row a (m * fs.size) ++ (List.range m).flatMap Pl) ∧
      ∀ i, i < m → ∃ (ys : List (DataW H × List MemPlace)) (n : Nat), D i = .agg (ys.map (·.1)) ∧ Pl i = ys.flatMap (·.2) ∧ ys.length = fs.size ∧
        ∀ (j : Nat) (f : Field), fs[j]? = some f → ∃ (v : Value) (y : DataW H × List MemPlace), w.cell? (a.add (i * fs.size + j)) = some v ∧ ys[j]? = some y ∧ DataW.trod enc P w base spare held n f.type [v] = some y := by
  rcases open_slice ht h with h0 | ⟨a, len, cap, m, n, D, Pl, hcs, hb, hl, hm, hmm, hx, hi⟩
  · exact .inl h0
  · refine .inr ⟨a, len, cap, m, D, Pl, hcs, hb, hl, hm, hmm, by rw [hC] at hx; exact hx, fun i him => ?_⟩
    obtain ⟨cs', hc, ht'⟩ := hi i him
    rw [hC] at hc
    obtain ⟨ys, n', hn', hy, hlen, hyl, hf⟩ := DataW.trod_struct he ht'
    obtain ⟨_, hcl, hat⟩ := World.cells?_some hc
    simp only [Prod.mk.injEq] at hy
    refine ⟨ys, n', hy.1, hy.2, hyl, fun j f hj => ?_⟩
    obtain ⟨ho, hk⟩ := hone_of hone j f hj
    have hjl : j < fs.size := (Array.getElem?_eq_some_iff.1 hj).1
    have hcell := hat j hjl
    have hv : cs'[j]? = some (cs'[j]'(by omega)) := List.getElem?_eq_getElem (by omega)
    have h1 := hf j f hj
    rw [ho, hk] at h1
    have hone' : (cs'.drop j).take 1 = [cs'[j]'(by omega)] := by
      rw [List.drop_eq_getElem_cons (by omega)]
      rfl
    rw [hone'] at h1
    have hys : ys[j]? = some (ys[j]'(by omega)) := List.getElem?_eq_getElem (by omega)
    refine ⟨_, _, ?_, hys, h1.trans hys⟩
    rw [← Go.Deep.add_add, hcell, hv]
end

section
variable {H : Type} {enc : TypeId × Value → H} {P : Program}
theorem post_of_below {f : Func} {s : ChangeSpec} {apart fresh handsOn again : Bool} {W W' : World} {args : Array Value} {v : Value} {ds gs : List (DataW H)} {before pa pv : List MemPlace}
    (hW : DataW.Whole enc P f.params.toList s.vars apart W args.toList ds gs before)
    (hres : ∀ (b : Nat) (sp : Nat → Bool) (hd : Bool), DataW.TrodAll enc P W' b sp hd f.resultTypes.toList (v.resultList f.resultTypes.size) (s.fn H (ds ++ gs)).results [])
    (hargs : ∀ sp : Nat → Bool, (∀ p ∈ before, sp p.block = true) → DataW.TrodAll enc P W' 0 sp true f.params.toList args.toList (s.fn H (ds ++ gs)).args pa)
    (hvars : ∀ sp : Nat → Bool, (∀ p ∈ before, sp p.block = true) → DataW.TrodVars enc P W' sp s.vars (s.fn H (ds ++ gs)).vars pv)
    (hps : before = pa ++ pv) (hb : Below W.heap.size W W')
    (hok : ∀ (j : Nat) (t : TypeId) (r : Value), f.resultTypes[j]? = some t → (v.resultList f.resultTypes.size)[j]? = some r → Value.okWide P W' .any 0 t r) :
    s.post enc P f apart fresh handsOn again W args v W' := by
  have hlt : ∀ p ∈ before, p.block < W.heap.size := fun p hp => hW.lt p hp
  have hold : ∀ p ∈ before, (fun b => decide (b < W.heap.size)) p.block = true := fun p hp => by simpa using hlt p hp
  refine ⟨ds, gs, before, [], pa, pv, hW, hres _ _ _, hargs _ hold, hvars _ hold, World.keptBut_mono (fun p hp => ⟨hp, ?_⟩) (hb.frame (· ∈ before)), fun _ => ?_⟩
  · rw [hps, List.mem_append] at hp
    exact Or.inr hp
  · obtain ⟨_, _, _, _, _, hz, hn⟩ := hW
    refine ⟨hok, _, _, ([] ++ pa) ++ pv, ⟨[] ++ pa, pv, trodAll_append (hargs _ (fun _ _ => rfl)) (hres _ _ _), hvars _ (fun _ _ => rfl), rfl, ?_, ?_⟩, ?_⟩
    · intro b off hp
      have hin : MemPlace.cell b off ∈ before := by rw [hps]; simpa using hp
      rw [hb.frozen (hlt _ hin)]
      exact hz b off hin
    · intro ha
      have := hn ha
      rw [hps] at this
      simpa using this
    · intro p hp _
      rw [hps]
      simpa using hp
end

section
variable {H : Type} {enc : TypeId × Value → H} {P : Program}
/-- an argument reads as it did where nothing that was there has turned -/
theorem trod_below {t : TypeId} (hl : laidOutB P = true) (hr : P.readableRec t = true) (hrow : t < P.types.size) {W W' : World} {v : Value} {d : DataW H} {ps : List MemPlace} {sp : Nat → Bool}
    (h : DataW.Trod enc P W 0 (fun _ => true) true t v d ps) (hb : Below W.heap.size W W') (hlt : ∀ x ∈ ps, x.block < W.heap.size) (hsp : ∀ x ∈ ps, sp x.block = true) : DataW.Trod enc P W' 0 sp true t v d ps :=
  WideElems.Trod_stays hl hr hrow h (fun x hx => hb.same (hlt x hx)) hsp
theorem open_i64 {t : TypeId} {W : World} {base : Nat} {v : Value} {d : DataW H} {p : List MemPlace} (ht : P.underlying t = some (.int .i64)) (hv : Value.okWide P W .any base t v)
    (h : DataW.Trod enc P W 0 (fun _ => true) true t v d p) : ∃ x, v = .int .i64 x ∧ -9223372036854775808 ≤ x ∧ x ≤ 9223372036854775807 := by
  obtain ⟨x, rfl, _, _, wx⟩ := open_int ht hv h
  refine ⟨x, rfl, ?_⟩
  simp [Lit.wf, IntKind.min, IntKind.max, IntKind.signed, IntKind.bits] at wx
  exact wx
theorem open_bool' {t : TypeId} {W : World} {base : Nat} {v : Value} {d : DataW H} {p : List MemPlace} (ht : P.underlying t = some .bool) (hv : Value.okWide P W .any base t v)
    (h : DataW.Trod enc P W 0 (fun _ => true) true t v d p) : ∃ x, v = .bool x := by
  obtain ⟨x, rfl, _, _⟩ := open_bool ht hv h
  exact ⟨x, rfl⟩
end
end Go.Proofs.YtcgkcfmiabninaaGreatDoor
/-
  Strings and lists of strings: how they read, their copies, comparisons, sizes and marks. No condition.
-/
namespace Go.Proofs.YtcgkcfmiabninaaGreatDoor
open Go.RowKit Go.ChangeShapes Go.WideShapes Go.ChangeAt Go.Deep
set_option maxHeartbeats 400000

def encS (s : ByteArray) : List Value := [.string s]
theorem encS_len (s : ByteArray) : (encS s).length = 1 := rfl
theorem Sl.str {w : World} {B : Nat} {A : Option Addr} {n : Nat} {xs : List ByteArray} (h : Sl w B 1 encS A n xs) {i : Nat} (hi : i < n) :
    ∃ z b off, Hid (xs[i]? = some z) ∧ A = some ⟨b, off, none⟩ ∧ b < B ∧ w.cell? ⟨b, off + i, none⟩ = some (.string z) := by
  obtain ⟨z, b, off, hx, e, hb, hc⟩ := h.at_ hi
  have := hc 0 _ rfl
  simp only [Nat.mul_one, Nat.add_zero] at this
  exact ⟨z, b, off, hx, e, hb, this⟩
/-- the bytes of some strings together -/
def totS (xs : List ByteArray) : Nat := (xs.map ByteArray.size).sum
theorem totS_take {xs : List ByteArray} {k : Nat} {z : ByteArray} (h : xs[k]? = some z) : totS (xs.take (k + 1)) = totS (xs.take k) + z.size := by
  rw [take_at h]; simp [totS]
theorem totS_mem {xs : List ByteArray} {z : ByteArray} (h : z ∈ xs) : z.size ≤ totS xs := by
  induction xs with
  | nil => simp at h
  | cons x l ih =>
    simp only [totS, List.map_cons, List.sum_cons]
    rcases List.mem_cons.1 h with rfl | h
    · omega
    · have := ih h
      simp only [totS] at this
      omega
theorem totS_le {xs : List ByteArray} {k : Nat} : totS (xs.take k) ≤ totS xs := by
  induction xs generalizing k with
  | nil => simp
  | cons x l ih =>
    cases k with
    | zero => simp [totS]
    | succ k =>
      have := @ih k
      simp only [totS, List.take_succ_cons, List.map_cons, List.sum_cons] at this ⊢
      omega
theorem bs_eq {x y : ByteArray} : (x.toList == y.toList) = decide (x = y) := by
  rw [ByteArray.toList_eq, ByteArray.toList_eq]
  by_cases h : x = y
  · subst h; simp
  · have h2 : x.data.toList ≠ y.data.toList := fun e => h (by
      obtain ⟨⟨a⟩⟩ := x
      obtain ⟨⟨b⟩⟩ := y
      simp only at e
      rw [e])
    rw [decide_eq_false h]
    simpa using h2
theorem bs_ne {x y : ByteArray} (h : x ≠ y) : (x.toList == y.toList) = false := by rw [bs_eq]; simpa using h
theorem bs_in {x y : ByteArray} (h : x = y) : (x.toList == y.toList) = true := by rw [bs_eq]; simpa using h
def strAt (w : World) (a : Addr) : ByteArray := match w.cell? a with | some (.string z) => z | _ => ByteArray.empty
theorem strAt_of {w : World} {a : Addr} {z : ByteArray} (h : w.cell? a = some (.string z)) : strAt w a = z := by unfold strAt; rw [h]
theorem Span0 {w w' : World} (h : Below w.heap.size w w') (row : Option Nat) : w.grownBy w' row := ⟨h.os, h.tape, h.output, h.size, fun i hi _ => h.block i hi⟩
/-- what is left of a measure: -1 if it does not do -/
def szF (left : Int) (n : Nat) : Int := if left < n then -1 else left - n
theorem szF_yes {left : Int} {n : Nat} (h : (n : Int) ≤ left) : szF left n = left - n := by unfold szF; rw [if_neg (by omega)]
theorem szF_no {left : Int} {n : Nat} (h : left < (n : Int)) : szF left n = -1 := by unfold szF; rw [if_pos h]

/-- the digits of a mark -/
def digs : Nat → Nat → List UInt8
  | 0, _ => []
  | f + 1, k => if k = 0 then [] else digs f (k / 10) ++ [UInt8.ofNat (48 + k % 10)]
theorem digs_more : ∀ (f k g : Nat), k ≤ f → k ≤ g → digs f k = digs g k := by
  intro f
  induction f with
  | zero => intro k g h _; obtain rfl : k = 0 := (by omega); cases g <;> simp [digs]
  | succ f ih =>
    intro k g h h2
    cases g with
    | zero => obtain rfl : k = 0 := (by omega); simp [digs]
    | succ g =>
      simp only [digs]
      split
      · rfl
      · rw [ih (k / 10) g (by omega) (by omega)]
def mtxt (k : Int) : ByteArray := if k ≤ 0 then ⟨#[109, 48]⟩ else ⟨(109 :: digs k.toNat k.toNat).toArray⟩
theorem digs_step {k : Nat} (h : 0 < k) : digs k k = digs (k / 10) (k / 10) ++ [UInt8.ofNat (48 + k % 10)] := by
  obtain ⟨f, rfl⟩ : ∃ f, k = f + 1 := ⟨k - 1, by omega⟩
  simp only [digs]
  rw [if_neg (by omega), digs_more f ((f + 1) / 10) ((f + 1) / 10) (by omega) (Nat.le_refl _)]
theorem digs_zero : digs 0 0 = [] := rfl

end Go.Proofs.YtcgkcfmiabninaaGreatDoor
/-
  Regions that draw their order and hold calls that make memory, but store nothing: walked once, in the order of the text. No condition.
-/
namespace Go.Proofs.YtcgkcfmiabninaaGreatDoor
open Go.RowKit

/-- the worlds in which all that lay in W lies untouched -/
structure After (W : World) where
  w : World
  below : Below W.heap.size W w
instance (W : World) : Nonempty (After W) := ⟨⟨W, Below.refl _ _⟩⟩
theorem wp_after {P : Program} {id : Nat} {Q : Exit → Act → World → Prop} {a : Act} {w : World} {l : List Oper} (hm : P.follows .mixedOrders = true) (hB : Region.lexB .any l.toArray = true)
    (h : wpQuiet P l.toArray (fun w' => ∃ i : After w, w' = i.w) (fun a' => ∀ w', (∃ i : After w, w' = i.w) → Q .normal a' w') l a) : (Code.region id l.toArray true).wp P Q a w :=
  wp_region_quiet (C := fun w' => ∃ i : After w, w' = i.w) hm hB ⟨⟨w.drew, (Below.refl _ _).drew⟩, rfl⟩ (by simpa using h)
theorem Calls.after {P : Program} {f : FuncId} {args : Array Value} {W : World} {i : After W} {v : Value} (h : Calls P f args i.w fun e w' => e = .returned v ∧ Below i.w.heap.size i.w w') :
    Calls P f args i.w fun e w'' => e = .returned v ∧ ∃ j : After W, w'' = j.w :=
  h.mono fun _ _ ⟨he, hb⟩ => ⟨he, ⟨_, i.below.trans (hb.mono i.below.size)⟩, rfl⟩
theorem Calls.after_same {P : Program} {f : FuncId} {args : Array Value} {W : World} {i : After W} {v : Value} (h : Calls P f args i.w fun e w' => e = .returned v ∧ w' = i.w) :
    Calls P f args i.w fun e w'' => e = .returned v ∧ ∃ j : After W, w'' = j.w :=
  h.mono fun _ _ ⟨he, hb⟩ => ⟨he, i, hb⟩
theorem After.cell {W : World} {p : Addr} {v : Value} (h : W.cell? p = some v) (i : After W) : i.w.cell? p = some v := below_cell h i.below
end Go.Proofs.YtcgkcfmiabninaaGreatDoor
/-
  The marks of strings. No condition.
-/
namespace Go.Proofs.YtcgkcfmiabninaaGreatDoor
open Go.RowKit
set_option maxHeartbeats 400000

theorem bs_ext {x y : ByteArray} (h : x.data.toList = y.data.toList) : x = y := by
  obtain ⟨⟨a⟩⟩ := x
  obtain ⟨⟨b⟩⟩ := y
  simp only at h
  rw [h]
theorem bs_app (x y : ByteArray) : (x ++ y).data.toList = x.data.toList ++ y.data.toList := by simp
set_option maxHeartbeats 2000000 in
set_option maxRecDepth 100000 in
theorem markText_any (m : Int) (w : World) (h0 : 0 ≤ m) (h1 : m ≤ 90000000) :
    Calls Tryz.prog 66 #[.int .i64 m] w fun r w' => r = .returned (.string (mtxt m)) ∧ Below w.heap.size w w' := by
  by_cases hz : m ≤ 0
  · have E : Hid (mtxt m = ⟨#[109, 48]⟩) := by simp [Hid, mtxt, hz]
    go_enter Tryz.func66, Tryz.ntmps66
    go_wp2
    go_ret
    exact ⟨by rw [E.out]; rfl, Below.refl _ _⟩
  · obtain ⟨n, rfl⟩ : ∃ n : Nat, m = n := ⟨m.toNat, by omega⟩
    have E : Hid (mtxt n = ⟨(109 :: digs n n).toArray⟩) := by (rw [Hid, mtxt, if_neg hz, Int.toNat_natCast])
    go_enter Tryz.func66, Tryz.ntmps66
    go_wp2
    go_loopw [0, 3] (fun k s w1 => ∃ (q : Nat) (o : ByteArray), k = .int .i64 q ∧ s = .string o ∧ o.size + q ≤ n ∧ Hid (digs n n = digs q q ++ o.data.toList) ∧ Below w.heap.size w w1) (fun k _ _ => (intOf k).toNat)
    case atStart => exact ⟨n, ⟨#[]⟩, rfl, rfl, Nat.le_of_eq (Nat.zero_add _), (List.append_nil _).symm, Below.refl _ _⟩
    case round =>
      obtain ⟨q, o, rfl, rfl, hs, he, hb⟩ := hrel
      by_cases hq : 0 < q
      · have hb1 : ((UInt8.ofNat (48 + q % 10)).toNat : Int) = 48 + (q : Int) % 10 := by
          rw [UInt8.toNat_ofNat', Nat.mod_eq_of_lt (by omega)]; omega
        have hdg := digs_step hq
        generalize UInt8.ofNat (48 + q % 10) = ch at hb1 hdg
        have hcv : (convert 34 9 (.slice (some ⟨wr.heap.size, 0, none⟩) 1 1)).run Tryz.prog (wr.alloc (.cells #[.int .u8 (48 + (q : Int) % 10)] 5)) = .ok (.string ⟨#[ch]⟩) (wr.alloc (.cells #[.int .u8 (48 + (q : Int) % 10)] 5)) := by
          have := run_convert_bytes_back (P := Tryz.prog) (wr.alloc (.cells #[.int .u8 (48 + (q : Int) % 10)] 5)) 34 9 5 ⟨wr.heap.size, 0, none⟩ 1 [ch] Tryz.underlying34 Tryz.underlying5 Tryz.underlying9 (fun j hj => by
            simp at hj
            subst hj
            simp only [List.getElem_cons_zero, hb1]
            go_simp)
          exact this
        have E2 : Hid (digs n n = digs (q / 10) (q / 10) ++ ((⟨#[ch]⟩ : ByteArray) ++ o).data.toList) := by
          rw [Hid, he.out, hdg, bs_app, List.append_assoc]
        have hsz : ((⟨#[ch]⟩ : ByteArray) ++ o).size = 1 + o.size := by simp [ByteArray.size_append]; rfl
        have hsz2 : ((⟨#[ch]⟩ : ByteArray) ++ o).size + q / 10 ≤ n := by omega
        have hbw : Below w.heap.size w (wr.alloc (.cells #[.int .u8 (48 + (q : Int) % 10)] 5)) := hb.alloc hb.size _
        have hone : (⟨#[ch]⟩ : ByteArray).size ≤ 1 := Nat.le_refl _
        clear hb1 hsz he hdg
        go_wp2
        go_roundw
        case rel => exact ⟨q / 10, _, by go_num, rfl, hsz2, E2, hbw⟩
        case measure => simp [intOf]; omega
      · have : q = 0 := by omega
        subst this
        have E2 : Hid ((⟨#[109]⟩ : ByteArray) ++ o = mtxt n) := by
          rw [Hid, E.out]
          apply bs_ext
          rw [bs_app, he.out, digs_zero]
          rfl
        clear he E
        go_wp2
        rw [E2.out]
        go_ret
        exact ⟨rfl, hb⟩
end Go.Proofs.YtcgkcfmiabninaaGreatDoor
/-
  Slices of slices of numbers: how they read, a frame that leaves a span of blocks free. No condition.
-/
namespace Go.Proofs.YtcgkcfmiabninaaGreatDoor
open Go.RowKit
set_option maxHeartbeats 400000

/-- one row of a table: the slice that its cell holds, and its numbers -/
structure Row where
  A : Option Addr
  n : Nat
  c : Nat
  xs : List Int
def encR (r : Row) : List Value := [.slice r.A r.n r.c]
theorem encR_len (r : Row) : (encR r).length = 1 := rfl
def SlS (w : World) (B : Nat) (A : Option Addr) (n : Nat) (rs : List Row) : Prop := Sl w B 1 encR A n rs ∧ ∀ r ∈ rs, Sl w B 1 encI r.A r.n r.xs
def cont (rs : List Row) : List (List Int) := rs.map Row.xs
theorem cont_len (rs : List Row) : (cont rs).length = rs.length := by simp [cont]
theorem cont_at {rs : List Row} {i : Nat} {r : Row} (h : rs[i]? = some r) : (cont rs)[i]? = some r.xs := by simp [cont, h]

namespace SlS
variable {w w' : World} {B B' : Nat} {A : Option Addr} {n : Nat} {rs : List Row}
theorem len (h : SlS w B A n rs) : rs.length = n := h.1.len
theorem below (h : SlS w B A n rs) (hb : Below B w w') : SlS w' B A n rs := ⟨h.1.below hb, fun r hr => (h.2 r hr).below hb⟩
theorem more (h : SlS w B A n rs) (hB : B ≤ B') : SlS w B' A n rs := ⟨h.1.more hB, fun r hr => (h.2 r hr).more hB⟩
theorem row (h : SlS w B A n rs) {i : Nat} (hi : i < n) :
    ∃ Ai ni ci xi b off, Hid (rs[i]? = some ⟨Ai, ni, ci, xi⟩) ∧ A = some ⟨b, off, none⟩ ∧ b < B ∧ w.cell? ⟨b, off + i, none⟩ = some (.slice Ai ni ci) ∧ Sl w B 1 encI Ai ni xi := by
  obtain ⟨⟨Ai, ni, ci, xi⟩, b, off, hx, e, hb, hc⟩ := h.1.at_ hi
  have := hc 0 _ rfl
  simp only [Nat.mul_one, Nat.add_zero] at this
  exact ⟨Ai, ni, ci, xi, b, off, hx, e, hb, this, h.2 _ (List.mem_of_getElem? hx)⟩
end SlS

/-- all that lay outside the blocks lo .. hi is left as it was -/
structure Span (lo hi : Nat) (w w' : World) : Prop where
  os : w'.os = w.os
  tape : w'.tape = w.tape
  output : w'.output = w.output
  size : w.heap.size ≤ w'.heap.size
  block : ∀ i, i < w.heap.size → ¬ (lo ≤ i ∧ i < hi) → w'.heap[i]? = w.heap[i]?
namespace Span
variable {lo hi : Nat} {a w w' : World}
theorem refl (lo hi : Nat) (w : World) : Span lo hi w w := ⟨rfl, rfl, rfl, Nat.le_refl _, fun _ _ _ => rfl⟩
theorem trans (h : Span lo hi a w) (g : Span lo hi w w') : Span lo hi a w' :=
  ⟨g.os.trans h.os, g.tape.trans h.tape, g.output.trans h.output, Nat.le_trans h.size g.size, fun i hi hn => (g.block i (Nat.lt_of_lt_of_le hi h.size) hn).trans (h.block i hi hn)⟩
theorem ofGrown {row : Option Nat} (h : a.grownBy w row) (hr : ∀ b, row = some b → lo ≤ b ∧ b < hi) : Span lo hi a w :=
  ⟨h.os, h.tape, h.output, h.size, fun i hi hn => h.block i hi (fun e => hn (hr i e.symm))⟩
theorem ofBelow (h : Below a.heap.size a w) : Span lo hi a w := ⟨h.os, h.tape, h.output, h.size, fun i hi _ => h.block i hi⟩
theorem toBelow {B : Nat} {a0 : World} (h0 : Below B a0 a) (h : Span lo hi a w) (hB : B ≤ lo) (hz : B ≤ a.heap.size) : Below B a0 w :=
  ⟨h.os.trans h0.os, h.tape.trans h0.tape, h.output.trans h0.output, Nat.le_trans h0.size h.size, fun i hi => (h.block i (Nat.lt_of_lt_of_le hi hz) (by omega)).trans (h0.block i hi)⟩
theorem own {l T k : Nat} {v : Value} {n : Nat} {xs : List Value} (h : Span lo hi a w) (o : a.ownsRow l T k v n xs) (hv : ∀ b, v.ownBlock = some b → ¬ (lo ≤ b ∧ b < hi)) : w.ownsRow l T k v n xs :=
  ⟨o.1, o.2.imp id fun ⟨g, cap, cur, e, hg, hh, r⟩ => ⟨g, cap, cur, e, hg, (h.block g (by
    rcases Nat.lt_or_ge g a.heap.size with hlt | hge
    · exact hlt
    · rw [Array.getElem?_eq_none hge] at hh; cases hh) (hv g (by rw [e]; rfl))).trans hh, r⟩⟩
end Span

/-- the cell of a table -/
def cAt (css : List (List Int)) (i k : Nat) : Int := (css.getD i []).getD k 0
theorem cAt_of {rs : List Row} {i k : Nat} {r : Row} {z : Int} (h : rs[i]? = some r) (hz : r.xs[k]? = some z) : cAt (cont rs) i k = z := by
  simp [cAt, List.getD, cont_at h, hz]

/-- what a row of slices that a function made owns: rows of their own, each in a block of its own -/
structure OwnS (w : World) (lo T Ti : Nat) (A : Option Addr) (n c : Nat) (rs : List Row) : Prop where
  top : w.ownsRow lo T 1 (.slice A n c) n (rs.flatMap encR)
  row : ∀ (i : Nat) (r : Row), rs[i]? = some r → w.ownsRow lo Ti 1 (.slice r.A r.n r.c) r.n (r.xs.flatMap encI)
  apart : ∀ (i : Nat) (r : Row), rs[i]? = some r → ∀ b, (Value.slice r.A r.n r.c).ownBlock = some b → (Value.slice A n c).ownBlock ≠ some b
  each : ∀ (i j : Nat) (r s : Row), i ≠ j → rs[i]? = some r → rs[j]? = some s → ∀ b, (Value.slice r.A r.n r.c).ownBlock = some b → (Value.slice s.A s.n s.c).ownBlock ≠ some b
theorem OwnS.slS {w : World} {lo T Ti : Nat} {A : Option Addr} {n c : Nat} {rs : List Row} (h : OwnS w lo T Ti A n c rs) : SlS w w.heap.size A n rs :=
  ⟨own_sl encR_len (by omega) h.top, fun r hr => by
    obtain ⟨i, hi, rfl⟩ := List.getElem_of_mem hr
    exact own_sl encI_len (by omega) (h.row i _ (List.getElem?_eq_getElem hi))⟩
theorem OwnS.below {w w' : World} {lo T Ti : Nat} {A : Option Addr} {n c : Nat} {rs : List Row} (h : OwnS w lo T Ti A n c rs) (hb : Below w.heap.size w w') : OwnS w' lo T Ti A n c rs :=
  ⟨own_below h.top hb, fun i r hi => own_below (h.row i r hi) hb, h.apart, h.each⟩
def tot (rs : List Row) : Nat := (rs.map Row.n).sum
theorem tot_take {rs : List Row} {k : Nat} {r : Row} (h : rs[k]? = some r) : tot (rs.take (k + 1)) = tot (rs.take k) + r.n := by
  rw [take_at h]; simp [tot]
theorem tot_le {rs : List Row} {k : Nat} : tot (rs.take k) ≤ tot rs := by
  induction rs generalizing k with
  | nil => simp
  | cons x l ih =>
    cases k with
    | zero => simp [tot]
    | succ k =>
      have := @ih k
      simp only [tot, List.take_succ_cons, List.map_cons, List.sum_cons] at this ⊢
      omega
theorem tot_mem {rs : List Row} {r : Row} (h : r ∈ rs) : r.n ≤ tot rs := by
  induction rs with
  | nil => simp at h
  | cons x l ih =>
    simp only [tot, List.map_cons, List.sum_cons]
    rcases List.mem_cons.1 h with rfl | h
    · omega
    · have := ih h
      simp only [tot] at this
      omega
theorem own_len {α : Type} {enc : α → List Value} {k : Nat} (hk : ∀ x, (enc x).length = k) (hk0 : 0 < k) {w : World} {lo T : Nat} {v : Value} {n : Nat} {xs : List α} (h : w.ownsRow lo T k v n (xs.flatMap enc)) : n = xs.length := by
  have hl := h.1
  rw [flatMap_len hk] at hl
  exact (Nat.eq_of_mul_eq_mul_right hk0 hl).symm
theorem cont_eq {rs rs' : List Row} (hl : rs'.length = rs.length) (h : ∀ (i : Nat) (r r' : Row), rs[i]? = some r → rs'[i]? = some r' → r'.xs = r.xs) : cont rs' = cont rs := by
  apply List.ext_getElem
  · simp [cont, hl]
  · intro i h1 h2
    simp only [cont, List.length_map] at h1 h2
    simp only [cont, List.getElem_map]
    exact h i _ _ (List.getElem?_eq_getElem h2) (List.getElem?_eq_getElem h1)
end Go.Proofs.YtcgkcfmiabninaaGreatDoor
