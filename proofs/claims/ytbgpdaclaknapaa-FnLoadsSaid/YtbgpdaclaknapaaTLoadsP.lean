/-
  What the statement on loads says, in plain Lean. No condition.
-/
import Derived.Test.YtbgpdaclaknapaaTCheapP
import Derived.Test.YtbgpdaclaknapaaTPriceFor
import Derived.Test.YtbgpdaclaknapaaTRaise
import Derived.Test.YtbgpdaclaknapaaTSame
namespace Go.Proofs.Ytbgpdaclaknapaa
open Go.RowKit

theorem raised_len (p : Int) (xs : List Step) : (raisedS p xs).length = xs.length := by simp [raisedS]
theorem raiseT_len (xs : List Step) (h e p : Int) : (raiseT xs h e p).1.length ≤ xs.length := by
  unfold raiseT
  split
  · split
    · split
      · exact Nat.le_of_eq (raised_len _ _)
      · exact Nat.zero_le _
    · exact Nat.zero_le _
  · exact Nat.zero_le _
theorem splitStep_in {xs : List Step} {h e m g z : Int} {st : SSt} {p : Int × Int} (hs : splitStep xs h e m g z st = some p) : st = some p ∨ p.1 = z := by
  unfold splitStep at hs
  split at hs
  · split at hs
    · right
      rw [← Option.some.inj hs]
    · exact .inl hs
  · exact .inl hs
theorem splitStep_less {xs : List Step} {h e m g z b l c : Int} {p : Int × Int} (hl : l ≤ c) (hs : splitStep xs h e m g z (some (b, l)) = some p) : p.2 ≤ c := by
  unfold splitStep at hs
  split at hs
  · split at hs
    · rename_i hb
      rw [← Option.some.inj hs]
      simp only [better, decide_eq_true_eq] at hb
      simp only
      omega
    · rw [← Option.some.inj hs]
      exact hl
  · rw [← Option.some.inj hs]
    exact hl
theorem splitStep_some {xs : List Step} {h e m g z : Int} {q : Int × Int} : ∃ p, splitStep xs h e m g z (some q) = some p := by
  unfold splitStep
  split
  · split
    · exact ⟨_, rfl⟩
    · exact ⟨_, rfl⟩
  · exact ⟨_, rfl⟩
theorem splitN_in {xs : List Step} {h e m g : Int} : ∀ (k : Nat) (p : Int × Int), splitN xs h e m g k = some p → 1 ≤ p.1 ∧ p.1 ≤ k
  | 0, p, hs => by cases hs
  | k + 1, p, hs => by
    rcases splitStep_in hs with h1 | h1
    · have := splitN_in k p h1
      omega
    · omega
theorem splitN_less {xs : List Step} {h e m g c : Int} (hc : costOf xs h e m g false = some c) : ∀ k : Nat, ∃ p, splitN xs h e m g (k + 1) = some p ∧ p.2 ≤ c
  | 0 => by
    refine ⟨(1, c), ?_, Int.le_refl _⟩
    have e1 : (m + 1 - 1).tdiv 1 = m := by rw [Int.tdiv_one]; omega
    have e2 : m.tdiv 1 = m := Int.tdiv_one _
    show splitStep xs h e m g 1 none = some (1, c)
    unfold splitStep
    rw [e1, e2, hc]
    simp [better, Int.emod_one]
  | k + 1 => by
    obtain ⟨⟨b, l⟩, h1, h2⟩ := splitN_less hc k
    obtain ⟨p, h3⟩ := splitStep_some (xs := xs) (h := h) (e := e) (m := m) (g := g) (z := ((k + 1 : Nat) : Int) + 1) (q := (b, l))
    refine ⟨p, ?_, splitStep_less h2 h3⟩
    rw [← h3, ← h1]
    rfl
/-- a load that is divided: one to ten carriers, no dearer than one -/
theorem split_law {xs : List Step} {h e m g b l : Int} (hs : splitF xs h e m g = (b, l, 0)) : (1 ≤ b ∧ b ≤ 10) ∧ ∀ z, priceF xs h e m g false = (z, 0) → l ≤ z := by
  unfold splitF at hs
  split at hs
  · rename_i hv
    split at hs
    · rename_i hz
      have hz1 : (inR m 0 5000 && inR g 0 20000) = true := by
        cases hq : inR m 0 5000 && inR g 0 20000
        · rw [hq] at hz; cases hz
        · rfl
      cases hn : splitN xs h e m g 10 with
      | none => rw [hn] at hs; simp [outS] at hs
      | some p =>
        rw [hn] at hs
        simp only [outS, Prod.mk.injEq, and_true] at hs
        have hin := splitN_in 10 p hn
        refine ⟨⟨by omega, by omega⟩, fun z hp => ?_⟩
        unfold priceF at hp
        rw [if_pos hv, if_pos hz1] at hp
        cases hc : costOf xs h e m g false with
        | none => rw [hc] at hp; simp at hp
        | some c =>
          rw [hc] at hp
          simp only [Prod.mk.injEq, and_true] at hp
          obtain ⟨p', h1, h2⟩ := splitN_less hc 9
          rw [hn] at h1
          cases h1
          omega
    · simp at hs
  · simp at hs
/-- the cheapest of the first k -/
def BestOk (ts : List Tariff) (gs ms : List Int) (k : Nat) : SSt → Prop
  | none => ∀ i, i < k → ∀ t, ts[i]? = some t → sumTo t gs ms gs.length = none
  | some p => (0 ≤ p.1 ∧ p.1 < k) ∧ ∀ i, i < k → ∀ t, ts[i]? = some t → (∀ s, sumTo t gs ms gs.length = some s → p.2 ≤ s) ∧ (p.1 = (i : Int) → sumTo t gs ms gs.length = some p.2)
theorem bestT_ok (ts : List Tariff) (gs ms : List Int) : ∀ k, k ≤ ts.length → BestOk ts gs ms k (bestT ts gs ms k)
  | 0, _ => fun i hi => absurd hi (Nat.not_lt_zero i)
  | k + 1, hk => by
    have ih := bestT_ok ts gs ms k (by omega)
    have ht : ts[k]? = some ts[k] := List.getElem?_eq_getElem (by omega)
    generalize ts[k] = t at ht
    cases hs : sumTo t gs ms gs.length with
    | none =>
      rw [bestT_none ht hs]
      cases hb : bestT ts gs ms k with
      | none =>
        rw [hb] at ih
        intro i hi t' ht'
        rcases Nat.lt_succ_iff_lt_or_eq.1 hi with h | rfl
        · exact ih i h t' ht'
        · rw [ht] at ht'; cases ht'; exact hs
      | some p =>
        rw [hb] at ih
        refine ⟨⟨ih.1.1, by have := ih.1.2; omega⟩, fun i hi t' ht' => ?_⟩
        rcases Nat.lt_succ_iff_lt_or_eq.1 hi with h | rfl
        · exact ih.2 i h t' ht'
        · rw [ht] at ht'; cases ht'
          exact ⟨fun s h => (Option.some_ne_none s (h.symm.trans hs)).elim, fun h => absurd h (by have := ih.1.2; omega)⟩
    | some s =>
      rw [bestT_some ht hs]
      cases hb : bestT ts gs ms k with
      | none =>
        rw [hb] at ih
        simp only [better, if_true]
        refine ⟨⟨by simp only; omega, by simp only; omega⟩, fun i hi t' ht' => ?_⟩
        rcases Nat.lt_succ_iff_lt_or_eq.1 hi with h | rfl
        · have hz := ih i h t' ht'
          exact ⟨fun s' h' => (Option.some_ne_none s' (h'.symm.trans hz)).elim, fun h' => absurd h' (by simp only; omega)⟩
        · rw [ht] at ht'; cases ht'
          exact ⟨fun s' h' => (by rw [hs] at h'; cases h'; exact Int.le_refl _), fun _ => hs⟩
      | some p =>
        rw [hb] at ih
        by_cases hlt : s < p.2
        · have hbt : better s (some p) = true := by simp [better, hlt]
          rw [if_pos hbt]
          refine ⟨⟨by simp only; omega, by simp only; omega⟩, fun i hi t' ht' => ?_⟩
          rcases Nat.lt_succ_iff_lt_or_eq.1 hi with h | rfl
          · exact ⟨fun s' h' => by have := (ih.2 i h t' ht').1 s' h'; simp only; omega, fun h' => absurd h' (by simp only; omega)⟩
          · rw [ht] at ht'; cases ht'
            exact ⟨fun s' h' => (by rw [hs] at h'; cases h'; exact Int.le_refl _), fun _ => hs⟩
        · have hbt : ¬ better s (some p) = true := by simp [better, hlt]
          rw [if_neg hbt]
          refine ⟨⟨ih.1.1, by have := ih.1.2; omega⟩, fun i hi t' ht' => ?_⟩
          rcases Nat.lt_succ_iff_lt_or_eq.1 hi with h | rfl
          · exact ih.2 i h t' ht'
          · rw [ht] at ht'; cases ht'
            exact ⟨fun s' h' => (by rw [hs] at h'; cases h'; omega), fun h' => absurd h' (by have := ih.1.2; omega)⟩
/-- the cheapest tariff: no dearer than the others, and one of them -/
theorem cheap_law {ts : List Tariff} {gs ms : List Int} {b l : Int} (hs : cheapT ts gs ms = (b, l, 0)) :
    ts.all validT = true ∧ gs.length = ms.length ∧ gs.length ≤ 40 ∧ numsT gs ms = true ∧ ∀ (i : Nat) (t : Tariff), ts[i]? = some t → (∀ s, sumTo t gs ms gs.length = some s → l ≤ s) ∧ (b = (i : Int) → sumTo t gs ms gs.length = some l) := by
  unfold cheapT at hs
  split at hs
  · rename_i hv
    split at hs
    · rename_i hz
      have ok := bestT_ok ts gs ms ts.length (Nat.le_refl _)
      cases hb : bestT ts gs ms ts.length with
      | none => rw [hb] at hs; simp [outT] at hs
      | some p =>
        rw [hb] at hs ok
        simp only [outT, Prod.mk.injEq, and_true] at hs
        obtain ⟨rfl, rfl⟩ := hs
        exact ⟨hv, hz.2.2.1, hz.2.1, hz.2.2.2, fun i t ht => ok.2 i (List.getElem?_eq_some_iff.1 ht).1 t ht⟩
    · simp at hs
  · simp at hs
theorem raised_ge {p a : Int} (h0 : 0 ≤ p) (a0 : 0 ≤ a) : a ≤ raised p a := by
  have q : 0 ≤ a * p := Int.mul_nonneg a0 h0
  have q2 : a * (100 + p) = 100 * a + a * p := by rw [Int.mul_add]; omega
  unfold raised upTo
  rw [q2, Int.tdiv_eq_ediv_of_nonneg (by omega)]
  omega
/-- raised prices: not less -/
theorem raise_law {xs ys : List Step} {h e p h' e' : Int} (hs : raiseT xs h e p = (ys, h', e', 0)) :
    ys.length = xs.length ∧ h ≤ h' ∧ validT ⟨ys, h', e'⟩ = true ∧ ∀ (k : Nat) (x y : Step), xs[k]? = some x → ys[k]? = some y → y.g = x.g ∧ x.p ≤ y.p := by
  unfold raiseT at hs
  split at hs
  · rename_i hv
    split at hs
    · rename_i hp
      split at hs
      · rename_i hv2
        simp only [Prod.mk.injEq, and_true] at hs
        obtain ⟨rfl, rfl, rfl⟩ := hs
        obtain ⟨hss, _, _, h0, _⟩ := validT_parts hv
        rw [inR_iff] at hp
        refine ⟨raised_len _ _, raised_ge hp.1 h0, hv2, fun k x y hx hy => ?_⟩
        have hy2 : (raisedS p xs)[k]? = some ⟨x.g, raised p x.p⟩ := by simp [raisedS, hx]
        rw [hy2] at hy
        cases hy
        exact ⟨rfl, raised_ge hp.1 (hss x (List.mem_of_getElem? hx)).2.1⟩
      · simp at hs
    · simp at hs
  · simp at hs
def prO : Option Int → Int × Int | none => (0, 5) | some z => (z, 0)
theorem priceF_in {xs : List Step} {h e g m : Int} (hv : validT ⟨xs, h, e⟩ = true) (hg : 0 ≤ g ∧ g ≤ 5000) (hm : 0 ≤ m ∧ m ≤ 20000) : priceF xs h e g m false = prO (costOf xs h e g m false) := by
  have hz : (inR g 0 5000 && inR m 0 20000) = true := by rw [Bool.and_eq_true, inR_iff, inR_iff]; exact ⟨hg, hm⟩
  unfold priceF
  rw [if_pos hv, if_pos hz]
  cases costOf xs h e g m false <;> rfl
theorem sameT_refl (xs : List Step) (h e : Int) : sameT xs xs h e h e = true := by simp [sameT]
end Go.Proofs.Ytbgpdaclaknapaa
