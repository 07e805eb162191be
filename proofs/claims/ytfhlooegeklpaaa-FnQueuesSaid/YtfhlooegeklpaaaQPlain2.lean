/-
  Starts, waits, idle ticks, the longest queue and what is overtaken, in plain Lean.
-/
import Derived.Test.YtfhlooegeklpaaaQFn
namespace Go.Proofs.Ytfhlooegeklpaaa

theorem len_le_of_subset : ∀ (o S : List Int), o.Nodup → (∀ z ∈ o, z ∈ S) → o.length ≤ S.length
  | [], S, _, _ => Nat.zero_le _
  | z :: r, S, hn, h => by
    have hz := h z (by simp)
    have hn' := List.nodup_cons.1 hn
    have := len_le_of_subset r (S.erase z) hn'.2 fun y hy => (List.mem_erase_of_ne (by rintro rfl; exact hn'.1 hy)).2 (h y (by simp [hy]))
    rw [List.length_erase_of_mem hz] at this
    have := List.length_pos_of_mem hz
    simp only [List.length_cons]; omega
/-- a list of n different places below n holds each of them -/
theorem all_places {n : Nat} {o : List Int} (hn : o.Nodup) (hm : ∀ z ∈ o, ∃ j : Nat, j < n ∧ z = j) (hl : o.length = n) : ∀ i : Nat, i < n → (i : Int) ∈ o := by
  intro i hi
  rcases Classical.em ((i : Int) ∈ o) with h | h
  · exact h
  · exfalso
    have h1 := len_le_of_subset o (((List.range n).map (fun (j : Nat) => (j : Int))).erase (i : Int)) hn fun z hz => by
      obtain ⟨j, hj, rfl⟩ := hm z hz
      exact (List.mem_erase_of_ne (by rintro e; rw [← e] at h; exact h hz)).2 (List.mem_map.2 ⟨j, List.mem_range.2 hj, rfl⟩)
    rw [List.length_erase_of_mem (List.mem_map.2 ⟨i, List.mem_range.2 hi, rfl⟩)] at h1
    simp at h1
    omega

theorem runQ_late {xs : List Item} {age : Int} (hv : validQ xs = true) : ∀ (f : Nat) (o s : List Int) (t : Int), need xs o age t ≤ f → s.length = xs.length → o.length ≤ xs.length → o.Nodup → (∀ z ∈ o, ∃ j : Nat, j < xs.length ∧ z = j) →
    (∀ (j : Nat) (x : Item) (z : Int), (j : Int) ∈ o → xs[j]? = some x → s[j]? = some z → x.a ≤ z) →
    (runQ xs age f o s t).1.Nodup ∧ (∀ z ∈ (runQ xs age f o s t).1, ∃ j : Nat, j < xs.length ∧ z = j) ∧ (runQ xs age f o s t).1.length = xs.length ∧
    ∀ (j : Nat) (x : Item) (z : Int), (j : Int) ∈ (runQ xs age f o s t).1 → xs[j]? = some x → (runQ xs age f o s t).2[j]? = some z → x.a ≤ z := by
  intro f
  induction f with
  | zero =>
    intro o s t hf h1 h2 h3 h4 h5
    refine ⟨h3, h4, ?_, h5⟩
    show o.length = xs.length
    unfold need at hf
    split at hf
    · split at hf <;> omega
    · omega
  | succ f ih =>
    intro o s t hf h1 h2 h3 h4 h5
    rw [runQ]
    split
    · rename_i hlt
      split
      · rename_i hk
        obtain ⟨j, b, e, hjn, hj, hoj, hba, hdec⟩ := round_sent hlt hk
        rw [e, Int.toNat_natCast, List.getD_eq_getElem?_getD, hj, Option.getD_some]
        have hnot : (j : Int) ∉ o := hasI_false.1 hoj
        refine ih _ _ _ (by have := hdec (t + b.t); omega) (by simpa using h1) (by simp; omega) ?_ ?_ ?_
        · rw [List.nodup_append]
          refine ⟨h3, by simp, fun a ha b hb => ?_⟩
          simp at hb; subst hb
          rintro rfl; exact hnot ha
        · intro z hz
          rcases List.mem_append.1 hz with h | h
          · exact h4 z h
          · simp at h; exact ⟨j, hjn, h⟩
        · intro i x z hi hx hz
          by_cases hij : i = j
          · subst hij
            rw [List.getElem?_set_self (by omega)] at hz
            rw [hj] at hx
            simp only [Option.some.injEq] at hx hz
            subst hx hz; exact hba
          · rw [List.getElem?_set_ne (by omega)] at hz
            rcases List.mem_append.1 hi with h | h
            · exact h5 i x z h hx hz
            · simp at h; omega
      · rename_i hk
        have hi := round_idle hv hlt (Int.lt_of_not_ge hk)
        exact ih _ _ _ (by omega) h1 h2 h3 h4 h5
    · rename_i hlt
      exact ⟨h3, h4, by show o.length = xs.length; omega, h5⟩
theorem orderQ_all {xs : List Item} {age : Int} (hv : validQ xs = true) : (orderQ xs age).Nodup ∧ (∀ z ∈ orderQ xs age, ∃ j : Nat, j < xs.length ∧ z = j) ∧ (orderQ xs age).length = xs.length :=
  let h := runQ_late (age := age) hv (2 * xs.length) [] (List.replicate xs.length 0) 0 (need_start xs age) (by simp) (by simp) (by simp) (by simp) (by simp)
  ⟨h.1, h.2.1, h.2.2.1⟩
/-- none is sent before it has arrived -/
theorem startsQ_late {xs : List Item} {age : Int} (hv : validQ xs = true) {j : Nat} {x : Item} {z : Int} (hx : xs[j]? = some x) (hz : (startsQ xs age)[j]? = some z) : x.a ≤ z := by
  have h := runQ_late (age := age) hv (2 * xs.length) [] (List.replicate xs.length 0) 0 (need_start xs age) (by simp) (by simp) (by simp) (by simp) (by simp)
  exact h.2.2.2 j x z (all_places h.1 h.2.1 h.2.2.1 j (List.getElem?_eq_some_iff.1 hx).1) hx hz

/-- items with their starts -/
def pairsQ (xs : List Item) : List (Item × Int) := xs.zip (startsQ xs 0)
theorem pairsQ_at {xs : List Item} {k : Nat} {x : Item} {s : Int} (hx : xs[k]? = some x) (hs : (startsQ xs 0)[k]? = some s) : (pairsQ xs)[k]? = some (x, s) := by
  unfold pairsQ; rw [List.getElem?_zip_eq_some]; exact ⟨hx, hs⟩
theorem pairsQ_len {xs : List Item} (hv : validQ xs = true) : (pairsQ xs).length = xs.length := by simp [pairsQ, (startsQ_inv hv).1]

def endQ : Int → List (Item × Int) → Int
  | e, [] => e
  | e, p :: r => endQ (max e (p.2 + p.1.t)) r
def workQ : Int → List (Item × Int) → Int
  | e, [] => e
  | e, p :: r => workQ (e + p.1.t) r
def idleRes (xs : List Item) : Int := if validQ xs then endQ 0 (pairsQ xs) - workQ 0 (pairsQ xs) else 0
def cntQ (tick : Int) : Int → List (Item × Int) → Int
  | c, [] => c
  | c, p :: r => cntQ tick (if p.1.a ≤ tick ∧ tick < p.2 then c + 1 else c) r
def longFrom (ps : List (Item × Int)) : Int → List Item → Int
  | m, [] => m
  | m, x :: r => longFrom ps (max m (cntQ x.a 0 ps)) r
def longRes (xs : List Item) : Int := if validQ xs then longFrom (pairsQ xs) 0 xs else 0
def waitQ (p : Item × Int) : Int := p.2 - p.1.a
def waitsQ (xs : List Item) : List Int := (pairsQ xs).map waitQ
def waitsRes (xs : List Item) : List Int := if validQ xs then waitsQ xs else []
def overCnt (a s : Int) : Int → List (Item × Int) → Int
  | c, [] => c
  | c, p :: r => overCnt a s (if a < p.1.a ∧ p.2 < s then c + 1 else c) r
def overQ (xs : List Item) : List Int := (pairsQ xs).map fun p => overCnt p.1.a p.2 0 (pairsQ xs)
def overRes (xs : List Item) : List Int := if validQ xs then overQ xs else []

/-- a list of which the first k places are those of another one -/
def mixQ (ws ss : List Int) (k : Nat) : List Int := ws.take k ++ ss.drop k
theorem mixQ_zero (ws ss : List Int) : mixQ ws ss 0 = ss := by simp [mixQ]
theorem mixQ_all {ws ss : List Int} {n : Nat} (h1 : ws.length = n) (h2 : ss.length = n) : mixQ ws ss n = ws := by
  unfold mixQ; rw [List.take_of_length_le (by omega), List.drop_of_length_le (by omega), List.append_nil]
theorem mixQ_at {ws ss : List Int} {k : Nat} (h : ws.length = ss.length) (hk : k < ss.length) : (mixQ ws ss k)[k]? = ss[k]? := by
  unfold mixQ
  rw [List.getElem?_append_right (by simp; omega), List.length_take_of_le (by omega), Nat.sub_self, List.getElem?_drop]
  rfl
theorem mixQ_set {ws ss : List Int} {k : Nat} {z : Int} (h : ws.length = ss.length) (hk : ws[k]? = some z) : (mixQ ws ss k).set k z = mixQ ws ss (k + 1) := by
  have hl := (List.getElem?_eq_some_iff.1 hk).1
  apply List.ext_getElem?
  intro i
  unfold mixQ
  by_cases h1 : i = k
  · subst h1
    rw [List.getElem?_set_self (by simp; omega), List.getElem?_append_left (by simp; omega), List.getElem?_take_of_lt (by omega), hk]
  · rw [List.getElem?_set_ne (Ne.symm h1)]
    by_cases h2 : i < k
    · rw [List.getElem?_append_left (by simp; omega), List.getElem?_append_left (by simp; omega), List.getElem?_take_of_lt h2, List.getElem?_take_of_lt (by omega)]
    · rw [List.getElem?_append_right (by simp; omega), List.getElem?_append_right (by simp; omega), List.getElem?_drop, List.getElem?_drop]
      congr 1
      simp
      omega
end Go.Proofs.Ytfhlooegeklpaaa
