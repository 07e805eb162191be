/-
  Drawn tables of costs, drawn trees, drawn demands. No condition.
-/
import Derived.Test.YteckfjnglmkenaaSrc
import Derived.Test.YteckfjnglmkenaaGTab
import Derived.Test.YteckfjnglmkenaaGCosts
import Derived.Test.YteckfjnglmkenaaGTree
namespace Go.Proofs.Yteckfjnglmkenaa
open Go.RowKit
set_option maxHeartbeats 400000

theorem Span.grow {lo hi : Nat} {a w w' : World} {row : Option Nat} (h : Span lo hi a w) (g : w.grownBy w' row) (hr : ∀ b, row = some b → a.heap.size ≤ b ∨ (lo ≤ b ∧ b < hi)) : Span lo hi a w' :=
  ⟨g.os.trans h.os, g.tape.trans h.tape, g.output.trans h.output, Nat.le_trans h.size g.size, fun i hi' hn => (g.block i (Nat.lt_of_lt_of_le hi' h.size) (fun e => by rcases hr i e.symm with h1 | h1 <;> omega)).trans (h.block i hi' hn)⟩
theorem Span.alloc {lo hi : Nat} {a w : World} (h : Span lo hi a w) (o : Obj) : Span lo hi a (w.alloc o) :=
  h.trans (Span.ofBelow ((Below.refl _ _).alloc (Nat.le_refl _) o))
/-- a table under way: k rows, all of numbers -/
structure Made (w : World) (lo T Ti : Nat) (A : Option Addr) (c : Nat) (rs : List Row) : Prop where
  top : w.ownsRow lo T 1 (.slice A rs.length c) rs.length (rs.flatMap encR)
  row : ∀ r ∈ rs, w.ownsRow lo Ti 1 (.slice r.A r.n r.c) r.n (r.xs.flatMap encI)
  apart : ∀ r ∈ rs, ∀ b, (Value.slice r.A r.n r.c).ownBlock = some b → (Value.slice A rs.length c).ownBlock ≠ some b
theorem Made.span {w w' : World} {lo T Ti : Nat} {A : Option Addr} {c gs : Nat} {rs : List Row} (h : Made w lo T Ti A c rs) (hs : Span gs (gs + 1) w w') (hlo : gs < lo) : Made w' lo T Ti A c rs :=
  ⟨hs.own h.top (fun b hb => by have := (h.top.lt b hb).1; omega), fun r hr => hs.own (h.row r hr) (fun b hb => by have := ((h.row r hr).lt b hb).1; omega), h.apart⟩
theorem Made.alloc {w : World} {lo T Ti : Nat} {A : Option Addr} {c : Nat} {rs : List Row} (h : Made w lo T Ti A c rs) (o : Obj) : Made (w.alloc o) lo T Ti A c rs :=
  ⟨h.top.alloc o, fun r hr => (h.row r hr).alloc o, h.apart⟩
/-- a row that is appended -/
theorem Made.snoc {w w' : World} {lo T Ti : Nat} {A : Option Addr} {c g cap : Nat} {rs : List Row} {r : Row} {m : Nat} (h : Made w lo T Ti A c rs) (hm : m = rs.length) (ho : w'.ownsRow lo T 1 (.slice (some ⟨g, 0, none⟩) (m + 1) cap) (m + 1) (rs.flatMap encR ++ [.slice r.A r.n r.c]))
    (hg : w.grownBy w' (Value.slice A m c).ownBlock) (hat : (Value.slice A m c).ownBlock = some g ∨ w.heap.size ≤ g) (hr : w.ownsRow lo Ti 1 (.slice r.A r.n r.c) r.n (r.xs.flatMap encI))
    (hap : ∀ b, (Value.slice r.A r.n r.c).ownBlock = some b → (Value.slice A m c).ownBlock ≠ some b) : Made w' lo T Ti (some ⟨g, 0, none⟩) cap (rs ++ [r]) := by
  subst hm
  have hall : ∀ q ∈ rs ++ [r], w.ownsRow lo Ti 1 (.slice q.A q.n q.c) q.n (q.xs.flatMap encI) ∧ ∀ b, (Value.slice q.A q.n q.c).ownBlock = some b → (Value.slice A rs.length c).ownBlock ≠ some b := by
    intro q hq
    rcases List.mem_append.1 hq with hq | hq
    · exact ⟨h.row q hq, h.apart q hq⟩
    · obtain rfl := List.mem_singleton.1 hq
      exact ⟨hr, hap⟩
  refine ⟨?_, fun q hq => ?_, fun q hq b hb e => ?_⟩
  · simpa [encR] using ho
  · obtain ⟨h1, h2⟩ := hall q hq
    exact own_keep h1 (fun b hb e => h2 b e hb) hg
  · obtain ⟨h1, h2⟩ := hall q hq
    have hg2 : g = b := by simpa [Value.ownBlock] using e
    subst hg2
    rcases hat with h3 | h3
    · exact h2 g hb h3
    · have := (h1.lt g hb).2
      omega
theorem Made.slS {w : World} {lo T Ti : Nat} {A : Option Addr} {c : Nat} {rs : List Row} (h : Made w lo T Ti A c rs) : SlS w w.heap.size A rs.length rs :=
  ⟨own_sl encR_len (by omega) h.top, fun r hr => own_sl encI_len (by omega) (h.row r hr)⟩

/-- the row under way: what is copied from the rows before, then 0, then what is drawn -/
def rowIn (css : List (List Int)) (i : Nat) (xs : List Int) : Prop :=
  ∀ (k : Nat) (z : Int), xs[k]? = some z → (k < i → z = cAt css k i) ∧ (k = i → z = 0) ∧ (i < k → 1 ≤ z ∧ z ≤ 12)
/-- a table under way: n numbers in each row, each as it should be -/
def tabIn (n : Nat) (css : List (List Int)) : Prop := ∀ (i : Nat) (xs : List Int), css[i]? = some xs → xs.length = n ∧ rowIn css i xs
theorem rowIn_nil (css : List (List Int)) (i : Nat) : rowIn css i [] := fun k z h => by simp at h
theorem rowIn_snoc {css : List (List Int)} {i : Nat} {xs : List Int} {z : Int} (h : rowIn css i xs) (hz : (xs.length < i → z = cAt css xs.length i) ∧ (xs.length = i → z = 0) ∧ (i < xs.length → 1 ≤ z ∧ z ≤ 12)) : rowIn css i (xs ++ [z]) := fun k y hy => by
  rw [List.getElem?_append] at hy
  split at hy
  · exact h k y hy
  · rename_i hk
    have h1 := (List.getElem?_eq_some_iff.1 hy).1
    have hk2 : k = xs.length := by simp at h1; omega
    subst hk2
    simp at hy
    subst hy
    exact hz
theorem cAt_snoc {css : List (List Int)} {row : List Int} {i k : Nat} (h : i < css.length) : cAt (css ++ [row]) i k = cAt css i k := by
  simp [cAt, List.getD, List.getElem?_append_left h]
theorem tabIn_snoc {n : Nat} {css : List (List Int)} {xs : List Int} (h : tabIn n css) (hl : xs.length = n) (hr : rowIn css css.length xs) : tabIn n (css ++ [xs]) := fun i ys hy => by
  rw [List.getElem?_append] at hy
  split at hy
  · rename_i hi
    obtain ⟨h1, h2⟩ := h i ys hy
    refine ⟨h1, fun k z hz => ?_⟩
    obtain ⟨g1, g2, g3⟩ := h2 k z hz
    exact ⟨fun hk => by rw [cAt_snoc (by omega)]; exact g1 hk, g2, g3⟩
  · rename_i hi
    have h1 := (List.getElem?_eq_some_iff.1 hy).1
    have hi2 : i = css.length := by simp at h1; omega
    subst hi2
    simp at hy
    subst hy
    refine ⟨hl, fun k z hz => ?_⟩
    obtain ⟨g1, g2, g3⟩ := hr k z hz
    exact ⟨fun hk => by rw [cAt_snoc hk]; exact g1 hk, g2, g3⟩
theorem tabIn_valid {n : Nat} {css : List (List Int)} (h : tabIn n css) (hl : css.length = n) (h2 : 2 ≤ n) (h6 : n ≤ 6) : validC css = true := by
  have hat : ∀ i k, i < n → k < n → (k < i → cAt css i k = cAt css k i) ∧ (k = i → cAt css i k = 0) ∧ (i < k → 1 ≤ cAt css i k ∧ cAt css i k ≤ 12) := by
    intro i k hi hk
    have hx : css[i]? = some css[i] := List.getElem?_eq_getElem (by omega)
    obtain ⟨g1, g2⟩ := h i _ hx
    have hz : css[i][k]? = some (css[i][k]'(by omega)) := List.getElem?_eq_getElem (by omega)
    have hc : cAt css i k = css[i][k]'(by omega) := by simp [cAt, List.getD, hx, hz]
    rw [hc]
    exact g2 k _ hz
  rw [validC_iff]
  refine ⟨⟨by omega, by omega⟩, fun i hi => ?_, fun i hi k hk => ?_⟩
  · rw [List.getD, List.getElem?_eq_getElem hi]
    exact (h i _ (List.getElem?_eq_getElem hi)).1.trans hl.symm
  · obtain ⟨a1, a2, a3⟩ := hat i k (by omega) (by omega)
    obtain ⟨b1, b2, b3⟩ := hat k i (by omega) (by omega)
    rcases Nat.lt_trichotomy i k with h | h | h
    · have := a3 h
      have := b1 h
      refine ⟨fun _ => by omega, fun _ => by omega, by omega⟩
    · have := a2 h.symm
      have := b2 h
      refine ⟨fun _ => by omega, fun hh => absurd h hh, by omega⟩
    · have := b3 h
      have := a1 h
      refine ⟨fun _ => by omega, fun _ => by omega, by omega⟩
theorem tot_of {m : Nat} : ∀ (rs : List Row), (∀ r ∈ rs, r.n ≤ m) → tot rs ≤ m * rs.length
  | [], _ => by simp [tot]
  | r :: rs, h => by
    have h1 := tot_of rs (fun q hq => h q (List.mem_cons_of_mem _ hq))
    have h2 := h r List.mem_cons_self
    simp only [tot, List.map_cons, List.sum_cons, List.length_cons] at h1 ⊢
    rw [Nat.mul_succ]
    omega
/-- what a draw of costs leaves -/
def CostsPost (w : World) (e : Ending) (w' : World) : Prop :=
  ∃ A c rs, e = .returned (.slice A rs.length c) ∧ 2 ≤ rs.length ∧ rs.length ≤ 5 ∧ Hid (validC (cont rs) = true) ∧ tot rs ≤ 25 ∧ Hid (SlS w' w'.heap.size A rs.length rs) ∧ Below w.heap.size w w'
/-- parents, each before its place -/
def treeIn (ps : List Int) : Prop := ∀ (j : Nat) (z : Int), ps[j]? = some z → 0 ≤ z ∧ z ≤ (j : Nat)
def demIn (ps : List Int) : Prop := ∀ (j : Nat) (z : Int), ps[j]? = some z → 0 ≤ z ∧ z ≤ 11
theorem snoc_at {xs : List Int} {a : Int} {j : Nat} {z : Int} (h : (xs ++ [a])[j]? = some z) : xs[j]? = some z ∨ (j = xs.length ∧ z = a) := by
  rw [List.getElem?_append] at h
  split at h
  · exact .inl h
  · have h1 := (List.getElem?_eq_some_iff.1 h).1
    have hk2 : j = xs.length := by simp at h1; omega
    subst hk2
    simp at h
    exact .inr ⟨rfl, h.symm⟩
/-- what a draw of numbers leaves -/
def IntsDraw (P : List Int → Prop) (n : Nat) (w : World) (e : Ending) (w' : World) : Prop :=
  ∃ A c ps, e = .returned (.slice A ps.length c) ∧ ps.length + 1 = n ∧ Hid (P ps) ∧ Hid (w'.ownsRow (w.heap.size + 1) 2 1 (.slice A ps.length c) ps.length (ps.flatMap encI)) ∧ Below w.heap.size w w'
end Go.Proofs.Yteckfjnglmkenaa
