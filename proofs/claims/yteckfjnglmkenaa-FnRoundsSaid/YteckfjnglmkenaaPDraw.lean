/-
  Drawn paths. No condition.
-/
import Derived.Test.YteckfjnglmkenaaGDraw
import Derived.Deep.RegionHeld3
namespace Go.Proofs.Yteckfjnglmkenaa
open Go.RowKit
set_option maxHeartbeats 400000

theorem own_apart {w w' : World} {lo T k n : Nat} {v : Value} {l : List Value} {row : Option Nat} (h : w.ownsRow lo T k v n l) (hg : w.grownBy w' row) (hn : ∀ b, row = some b → v.ownBlock ≠ some b) : w'.ownsRow lo T k v n l := by
  cases row with
  | none => exact own_keep (v2 := .slice none 0 0) h (fun b hb => by simp [Value.ownBlock] at hb) hg
  | some b => exact own_keep (v2 := .slice (some ⟨b, 0, none⟩) 0 0) h (fun q hq => by simp [Value.ownBlock] at hq; subst hq; exact hn _ rfl) hg
theorem set_encI' : ∀ (xs : List Int) (m : Nat) (z : Int), (xs.set m z).flatMap encI = (xs.flatMap encI).set m (.int .i64 z)
  | [], m, z => by simp
  | x :: xs, 0, z => by simp [encI]
  | x :: xs, m + 1, z => by simp only [List.set_cons_succ, List.flatMap_cons, set_encI' xs m z, encI]; rfl
theorem set_encR : ∀ (rs : List Row) (m : Nat) (r : Row), (rs.set m r).flatMap encR = (rs.flatMap encR).set m (.slice r.A r.n r.c)
  | [], m, r => by simp
  | x :: xs, 0, r => by simp [encR]
  | x :: xs, m + 1, r => by simp only [List.set_cons_succ, List.flatMap_cons, set_encR xs m r, encR]; rfl
theorem tot_set : ∀ (l : List Row) (i : Nat) (hil : i < l.length) (q : Row), tot (l.set i q) + l[i].n = tot l + q.n := by
  intro l
  induction l with
  | nil => intro i hil; simp at hil
  | cons x l ih =>
    intro i hil q
    cases i with
    | zero => simp only [List.set_cons_zero, tot, List.map_cons, List.sum_cons, List.getElem_cons_zero]; omega
    | succ i =>
      have := ih i (by simpa using hil) q
      simp only [List.set_cons_succ, tot, List.map_cons, List.sum_cons, List.getElem_cons_succ] at this ⊢
      omega
/-- a table of one's own -/
structure OwnP (w : World) (gs : Nat) (A : Option Addr) (c : Nat) (rs : List Row) : Prop where
  top : w.ownsRow (gs + 1) 23 1 (.slice A rs.length c) rs.length (rs.flatMap encR)
  row : ∀ r ∈ rs, w.ownsRow (gs + 1) 2 1 (.slice r.A r.n r.c) r.n (r.xs.flatMap encI)
theorem OwnP.src {w w' : World} {gs : Nat} {A : Option Addr} {c : Nat} {rs : List Row} (h : OwnP w gs A c rs) (hg : w.grownBy w' (some gs)) : OwnP w' gs A c rs :=
  ⟨own_src h.top hg (Nat.lt_succ_self gs), fun r hr => own_src (h.row r hr) hg (Nat.lt_succ_self gs)⟩
theorem OwnP.below {w w' : World} {gs : Nat} {A : Option Addr} {c : Nat} {rs : List Row} (h : OwnP w gs A c rs) (hb : Below w.heap.size w w') : OwnP w' gs A c rs :=
  ⟨own_below h.top hb, fun r hr => own_below (h.row r hr) hb⟩
theorem OwnP.slS {w : World} {gs : Nat} {A : Option Addr} {c : Nat} {rs : List Row} (h : OwnP w gs A c rs) : SlS w w.heap.size A rs.length rs :=
  ⟨own_sl encR_len (by omega) h.top, fun r hr => own_sl encI_len (by omega) (h.row r hr)⟩
/-- a table under way: each row in a block of its own -/
structure MadeP (w : World) (gs : Nat) (A : Option Addr) (c : Nat) (rs : List Row) : Prop where
  top : w.ownsRow (gs + 1) 23 1 (.slice A rs.length c) rs.length (rs.flatMap encR)
  row : ∀ r ∈ rs, w.ownsRow (gs + 1) 2 1 (.slice r.A r.n r.c) r.n (r.xs.flatMap encI)
  apart : ∀ r ∈ rs, ∀ b, (Value.slice r.A r.n r.c).ownBlock = some b → (Value.slice A rs.length c).ownBlock ≠ some b
  each : ∀ (i j : Nat) (r s : Row), i ≠ j → rs[i]? = some r → rs[j]? = some s → ∀ b, (Value.slice r.A r.n r.c).ownBlock = some b → (Value.slice s.A s.n s.c).ownBlock ≠ some b
namespace MadeP
variable {w w' : World} {gs : Nat} {A : Option Addr} {c : Nat} {rs : List Row}
theorem src (h : MadeP w gs A c rs) (hg : w.grownBy w' (some gs)) : MadeP w' gs A c rs :=
  ⟨own_src h.top hg (Nat.lt_succ_self gs), fun r hr => own_src (h.row r hr) hg (Nat.lt_succ_self gs), h.apart, h.each⟩
theorem below (h : MadeP w gs A c rs) (hb : Below w.heap.size w w') : MadeP w' gs A c rs := ⟨own_below h.top hb, fun r hr => own_below (h.row r hr) hb, h.apart, h.each⟩
theorem alloc (h : MadeP w gs A c rs) (o : Obj) : MadeP (w.alloc o) gs A c rs := h.below ((Below.refl _ _).alloc (Nat.le_refl _) o)
theorem far {row : Option Nat} {hi : Nat} (h : MadeP w gs A c rs) (hg : w.grownBy w' row) (hb : ∀ b, (Value.slice A rs.length c).ownBlock = some b → b < hi) (hr : ∀ r ∈ rs, ∀ b, (Value.slice r.A r.n r.c).ownBlock = some b → b < hi) (hrow : ∀ b, row = some b → hi ≤ b) : MadeP w' gs A c rs :=
  ⟨own_apart h.top hg (fun b e q => by have := hb b q; have := hrow b e; omega), fun r hm => own_apart (h.row r hm) hg (fun b e q => by have := hr r hm b q; have := hrow b e; omega), h.apart, h.each⟩
theorem snoc {g cap : Nat} {r : Row} (h : MadeP w gs A c rs) (ho : w'.ownsRow (gs + 1) 23 1 (.slice (some ⟨g, 0, none⟩) (rs.length + 1) cap) (rs.length + 1) (rs.flatMap encR ++ [.slice r.A r.n r.c]))
    (hg : w.grownBy w' (Value.slice A rs.length c).ownBlock) (hat : (Value.slice A rs.length c).ownBlock = some g ∨ w.heap.size ≤ g) (hr : w.ownsRow (gs + 1) 2 1 (.slice r.A r.n r.c) r.n (r.xs.flatMap encI))
    (hap : ∀ b, (Value.slice r.A r.n r.c).ownBlock = some b → (Value.slice A rs.length c).ownBlock ≠ some b ∧ ∀ s ∈ rs, (Value.slice s.A s.n s.c).ownBlock ≠ some b) : MadeP w' gs (some ⟨g, 0, none⟩) cap (rs ++ [r]) := by
  have hall : ∀ q ∈ rs ++ [r], w.ownsRow (gs + 1) 2 1 (.slice q.A q.n q.c) q.n (q.xs.flatMap encI) ∧ ∀ b, (Value.slice q.A q.n q.c).ownBlock = some b → (Value.slice A rs.length c).ownBlock ≠ some b := by
    intro q hq
    rcases List.mem_append.1 hq with hq | hq
    · exact ⟨h.row q hq, h.apart q hq⟩
    · obtain rfl := List.mem_singleton.1 hq
      exact ⟨hr, fun b hb => (hap b hb).1⟩
  refine ⟨?_, fun q hq => ?_, fun q hq b hb e => ?_, fun i j p q hij hp hq b hb e => ?_⟩
  · simpa [encR] using ho
  · obtain ⟨h1, h2⟩ := hall q hq
    exact own_keep h1 (fun b hb e => h2 b e hb) hg
  · obtain ⟨h1, h2⟩ := hall q hq
    have hg2 : g = b := by simpa [Value.ownBlock] using e
    subst hg2
    rcases hat with h3 | h3
    · exact h2 g hb h3
    · have := (h1.lt g hb).2
      omega
  · have key : ∀ (k : Nat) (s : Row), (rs ++ [r])[k]? = some s → (k < rs.length ∧ rs[k]? = some s) ∨ (k = rs.length ∧ s = r) := fun k s hs => by
      rw [List.getElem?_append] at hs
      split at hs
      · exact .inl ⟨by assumption, hs⟩
      · have hk := (List.getElem?_eq_some_iff.1 hs).1
        have : k - rs.length = 0 := by simpa using hk
        rw [this] at hs
        simp only [List.getElem?_cons_zero, Option.some.injEq] at hs
        exact .inr ⟨by omega, hs.symm⟩
    rcases key i p hp with ⟨_, hp'⟩ | ⟨h1, hp'⟩ <;> rcases key j q hq with ⟨_, hq'⟩ | ⟨h2, hq'⟩
    · exact h.each i j p q hij hp' hq' b hb e
    · rw [hq'] at e
      exact (hap b e).2 p (List.mem_of_getElem? hp') hb
    · rw [hp'] at hb
      exact (hap b hb).2 q (List.mem_of_getElem? hq') e
    · omega
theorem span2 {g : Nat} (h : MadeP w g A c rs) (hs : Span g (g + 1) w w') : MadeP w' g A c rs :=
  ⟨hs.own h.top (fun b hb => by have := (h.top.lt b hb).1; omega), fun r hr => hs.own (h.row r hr) (fun b hb => by have := ((h.row r hr).lt b hb).1; omega), h.apart, h.each⟩
theorem ownP (h : MadeP w gs A c rs) : OwnP w gs A c rs := ⟨h.top, h.row⟩
theorem slS (h : MadeP w gs A c rs) : SlS w w.heap.size A rs.length rs :=
  ⟨own_sl encR_len (by omega) h.top, fun r hr => own_sl encI_len (by omega) (h.row r hr)⟩
/-- a number of a row overwritten -/
theorem put {i j g : Nat} {r : Row} (h : MadeP w gs A c rs) (hi : rs[i]? = some r) (hA : r.A = some ⟨g, 0, none⟩) (z : Int) :
    ∃ rs' : List Row, rs'.length = rs.length ∧ tot rs' = tot rs ∧ OwnP (w.setCell ⟨g, j, none⟩ (.int .i64 z)) gs A c rs' := by
  obtain ⟨A0, n0, c0, xs0⟩ := r
  simp only at hA
  subst hA
  have hil := (List.getElem?_eq_some_iff.1 hi).1
  have hgi : rs[i] = ⟨some ⟨g, 0, none⟩, n0, c0, xs0⟩ := (List.getElem?_eq_some_iff.1 hi).2
  refine ⟨rs.set i ⟨some ⟨g, 0, none⟩, n0, c0, xs0.set j z⟩, by simp, ?_, ?_, fun q hq => ?_⟩
  · have := tot_set rs i hil ⟨some ⟨g, 0, none⟩, n0, c0, xs0.set j z⟩
    rw [hgi] at this
    simp only at this
    omega
  · have hs : (rs.set i ⟨some ⟨g, 0, none⟩, n0, c0, xs0.set j z⟩).flatMap encR = rs.flatMap encR := by
      rw [set_encR]
      apply List.ext_getElem?
      intro k
      rw [List.getElem?_set]
      split
      · rename_i hk
        subst hk
        have := flatMap_get encR_len (j := 0) (u := .slice (some ⟨g, 0, none⟩) n0 c0) rs i hi rfl
        simp only [Nat.mul_one, Nat.add_zero] at this
        rw [this, if_pos (List.getElem?_eq_some_iff.1 this).1]
      · rfl
    have ht : (w.setCell ⟨g, j, none⟩ (.int .i64 z)).ownsRow (gs + 1) 23 1 (.slice A rs.length c) rs.length (rs.flatMap encR) := ow_set (fun e => h.apart _ (List.mem_of_getElem? hi) g rfl e) h.top
    rw [← hs] at ht
    rw [List.length_set]
    exact ht
  · obtain ⟨k, hk⟩ := List.mem_iff_getElem?.1 hq
    rw [List.getElem?_set] at hk
    split at hk
    · rename_i hik
      subst hik
      simp only [Option.some.injEq] at hk
      subst hk
      have := ((h.row _ (List.mem_of_getElem? hi)).stored j (.int .i64 z)).1
      rw [← set_encI'] at this
      exact this
    · rename_i hik
      exact ow_set (fun e => h.each i k _ q hik hi hk g rfl e) (h.row q (List.mem_of_getElem? hk))
/-- a number appended to a row, which is put back into the table -/
theorem grow {i gt gg cap : Nat} {r : Row} {w2 : World} (h : MadeP w gs A c rs) (hi : rs[i]? = some r) (hT : A = some ⟨gt, 0, none⟩) {z : Int}
    (ho : w2.ownsRow (gs + 1) 2 1 (.slice (some ⟨gg, 0, none⟩) (r.n + 1) cap) (r.n + 1) (r.xs.flatMap encI ++ [.int .i64 z])) (hg : w.grownBy w2 (Value.slice r.A r.n r.c).ownBlock) (hat : (Value.slice r.A r.n r.c).ownBlock = some gg ∨ w.heap.size ≤ gg) :
    ∃ rs' : List Row, rs'.length = rs.length ∧ tot rs' = tot rs + 1 ∧ OwnP (w2.setCell ⟨gt, i, none⟩ (.slice (some ⟨gg, 0, none⟩) (r.n + 1) cap)) gs (some ⟨gt, 0, none⟩) c rs' := by
  subst hT
  have hil := (List.getElem?_eq_some_iff.1 hi).1
  have hgi : rs[i] = r := (List.getElem?_eq_some_iff.1 hi).2
  have htl := h.top.lt gt rfl
  have hngt : gg ≠ gt := by
    rcases hat with q | q
    · intro e; subst e; exact h.apart r (List.mem_of_getElem? hi) gg q rfl
    · omega
  refine ⟨rs.set i ⟨some ⟨gg, 0, none⟩, r.n + 1, cap, r.xs ++ [z]⟩, by simp, ?_, ?_, fun q hq => ?_⟩
  · have := tot_set rs i hil ⟨some ⟨gg, 0, none⟩, r.n + 1, cap, r.xs ++ [z]⟩
    rw [hgi] at this
    simp only at this
    omega
  · have ht := ((own_apart h.top hg (fun b e q => h.apart r (List.mem_of_getElem? hi) b e q)).stored i (.slice (some ⟨gg, 0, none⟩) (r.n + 1) cap)).1
    have e := set_encR rs i ⟨some ⟨gg, 0, none⟩, r.n + 1, cap, r.xs ++ [z]⟩
    simp only at e
    rw [← e] at ht
    rw [List.length_set]
    exact ht
  · obtain ⟨k, hk⟩ := List.mem_iff_getElem?.1 hq
    rw [List.getElem?_set] at hk
    split at hk
    · rename_i hik
      subst hik
      simp only [hil, if_true, Option.some.injEq] at hk
      subst hk
      have h3 : (w2.setCell ⟨gt, i, none⟩ (.slice (some ⟨gg, 0, none⟩) (r.n + 1) cap)).ownsRow (gs + 1) 2 1 (.slice (some ⟨gg, 0, none⟩) (r.n + 1) cap) (r.n + 1) ((r.xs ++ [z]).flatMap encI) := ow_set (by simp [Value.ownBlock]; omega) (by simpa [encI] using ho)
      exact h3
    · rename_i hik
      have h3 := own_apart (h.row q (List.mem_of_getElem? hk)) hg (fun b e q' => h.each i k r q hik hi hk b e q')
      exact ow_set (p := ⟨gt, i, none⟩) (u := .slice (some ⟨gg, 0, none⟩) (r.n + 1) cap) (fun e => h.apart q (List.mem_of_getElem? hk) gt e rfl) h3
end MadeP
end Go.Proofs.Yteckfjnglmkenaa
