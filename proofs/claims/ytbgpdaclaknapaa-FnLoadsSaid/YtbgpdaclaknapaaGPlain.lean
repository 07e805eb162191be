/-
  Tables of costs and trees over them, as plain functions. No condition.
-/
import Derived.Test.YtbgpdaclaknapaaGRow
namespace Go.Proofs.Ytbgpdaclaknapaa

/-- what a table of costs must fulfil -/
def VC (css : List (List Int)) : Prop :=
  (2 ≤ css.length ∧ css.length ≤ 6) ∧ (∀ i, i < css.length → (css.getD i []).length = css.length) ∧
  ∀ i, i < css.length → ∀ k, k < css.length → (i = k → cAt css i k = 0) ∧ (i ≠ k → 1 ≤ cAt css i k ∧ cAt css i k ≤ 10000) ∧ cAt css i k = cAt css k i
instance (css : List (List Int)) : Decidable (VC css) := inferInstanceAs (Decidable (_ ∧ _ ∧ _))
def validC (css : List (List Int)) : Bool := decide (VC css)
theorem validC_iff {css : List (List Int)} : validC css = true ↔ VC css := by simp [validC]
theorem validC_false {css : List (List Int)} (h : ¬ VC css) : validC css = false := by simp [validC, h]

/-- the tubes from a place up to 0, in some steps at most -/
def upF (ps : List Int) : Nat → Int → Option Nat
  | 0, p => if p = 0 then some 0 else none
  | f + 1, p => if p = 0 then some 0 else (upF ps f (ps.getD (p - 1).toNat 0)).map (· + 1)
theorem upF_zero (ps : List Int) (f : Nat) : upF ps f 0 = some 0 := by cases f <;> simp [upF]
theorem upF_step (ps : List Int) (f : Nat) {p : Int} (hp : p ≠ 0) : upF ps (f + 1) p = (upF ps f (ps.getD (p - 1).toNat 0)).map (· + 1) := by simp [upF, hp]
theorem up_mono {ps : List Int} : ∀ {f : Nat} {p : Int} {d : Nat}, upF ps f p = some d → d ≤ f ∧ ∀ f', d ≤ f' → upF ps f' p = some d := by
  intro f
  induction f with
  | zero =>
    intro p d h
    by_cases hp : p = 0
    · subst hp
      rw [upF_zero] at h
      injection h with h
      subst h
      exact ⟨Nat.le_refl _, fun f' _ => upF_zero _ _⟩
    · simp [upF, hp] at h
  | succ f ih =>
    intro p d h
    by_cases hp : p = 0
    · subst hp
      rw [upF_zero] at h
      injection h with h
      subst h
      exact ⟨Nat.zero_le _, fun f' _ => upF_zero _ _⟩
    · rw [upF_step _ _ hp] at h
      obtain ⟨e, he, rfl⟩ := Option.map_eq_some_iff.1 h
      obtain ⟨h1, h2⟩ := ih he
      refine ⟨by omega, fun f' hf => ?_⟩
      obtain ⟨f2, rfl⟩ : ∃ f2, f' = f2 + 1 := ⟨f' - 1, by omega⟩
      rw [upF_step _ _ hp, h2 f2 (by omega)]
      rfl
theorem pigeon : ∀ (m : Nat) (l : List Int), l.Nodup → (∀ x ∈ l, 1 ≤ x ∧ x ≤ (m : Int)) → l.length ≤ m := by
  intro m
  induction m with
  | zero =>
    intro l _ h
    cases l with
    | nil => simp
    | cons x r => have := h x (by simp); omega
  | succ m ih =>
    intro l hn h
    have h1 := ih (l.erase ((m : Int) + 1)) (hn.erase _) (fun x hx => by
      have h2 := (hn.mem_erase_iff).1 hx
      have h3 := h x h2.2
      have h4 := h2.1
      omega)
    by_cases hm : ((m : Int) + 1) ∈ l
    · rw [List.length_erase_of_mem hm] at h1; omega
    · rw [List.erase_of_not_mem hm] at h1; omega
/-- numbers of places -/
def inP (ps : List Int) : Prop := ∀ x ∈ ps, 0 ≤ x ∧ x ≤ (ps.length : Int)
theorem inP_at {ps : List Int} (h : inP ps) (k : Nat) : 0 ≤ ps.getD k 0 ∧ ps.getD k 0 ≤ (ps.length : Int) := by
  rw [List.getD]
  cases hk : ps[k]? with
  | none => simp
  | some x => exact h x (List.mem_of_getElem? hk)
theorem up_path {ps : List Int} (h : inP ps) : ∀ (d : Nat) (p : Int), upF ps d p = some d → 0 ≤ p → p ≤ ps.length →
    ∃ l : List Int, l.length = d ∧ l.Nodup ∧ (∀ x ∈ l, 1 ≤ x ∧ x ≤ (ps.length : Int)) ∧ ∀ x ∈ l, ∃ e, e ≤ d ∧ upF ps e x = some e := by
  intro d
  induction d with
  | zero => intro p _ _ _; exact ⟨[], rfl, List.nodup_nil, by simp, by simp⟩
  | succ d ih =>
    intro p hu h0 h1
    have hp : p ≠ 0 := by
      intro e
      subst e
      rw [upF_zero] at hu
      simp at hu
    rw [upF_step _ _ hp] at hu
    obtain ⟨e, he, hed⟩ := Option.map_eq_some_iff.1 hu
    obtain rfl : e = d := by omega
    obtain ⟨q0, q1⟩ := inP_at h (p - 1).toNat
    obtain ⟨l, hl, hnd, hin, hex⟩ := ih _ he q0 q1
    have hup : upF ps (e + 1) p = some (e + 1) := by rw [upF_step _ _ hp, he]; rfl
    refine ⟨p :: l, by simp [hl], List.nodup_cons.2 ⟨fun hm => ?_, hnd⟩, ?_, ?_⟩
    · obtain ⟨e', he', hu'⟩ := hex p hm
      have := (up_mono hu').2 (e + 1) (by omega)
      rw [hup] at this
      injection this with this
      omega
    · intro x hx
      rcases List.mem_cons.1 hx with rfl | hx
      · exact ⟨by omega, h1⟩
      · exact hin x hx
    · intro x hx
      rcases List.mem_cons.1 hx with rfl | hx
      · exact ⟨e + 1, Nat.le_refl _, hup⟩
      · obtain ⟨e', he', hu'⟩ := hex x hx
        exact ⟨e', by omega, hu'⟩
/-- one step more than there are places finds nothing more -/
theorem up_enough {ps : List Int} (h : inP ps) {p : Int} (h0 : 0 ≤ p) (h1 : p ≤ ps.length) : upF ps (ps.length + 1) p = upF ps ps.length p := by
  cases hu : upF ps (ps.length + 1) p with
  | some d =>
    obtain ⟨h2, h3⟩ := up_mono hu
    obtain ⟨l, hl, hnd, hin, _⟩ := up_path h d p (h3 d (Nat.le_refl _)) h0 h1
    have := pigeon _ l hnd hin
    exact (h3 ps.length (by omega)).symm
  | none =>
    cases hv : upF ps ps.length p with
    | none => rfl
    | some d =>
      have := (up_mono hv).2 (ps.length + 1) (by have := (up_mono hv).1; omega)
      rw [hu] at this
      cases this

/-- the tubes from a place up to 0, -1 for none -/
def upV (ps : List Int) (p : Int) : Int := match upF ps ps.length p with | some d => d | none => -1
def isTree (ps : List Int) : Bool := (List.range ps.length).all fun i => (upF ps ps.length ((i : Int) + 1)).isSome
/-- the code of a table and parents: 1, 2 or 0 -/
def parC (css : List (List Int)) (ps : List Int) : Int := if validC css then if (ps.all fun p => inR p 0 ((css.length : Int) - 1)) && ps.length + 1 == css.length then 0 else 2 else 1
def codeG (css : List (List Int)) (ps : List Int) : Int := if parC css ps = 0 then if isTree ps then 0 else 6 else parC css ps
def costG (css : List (List Int)) (ps : List Int) : Int := ((List.range ps.length).map fun i => cAt css (i + 1) (ps.getD i 0).toNat).sum
end Go.Proofs.Ytbgpdaclaknapaa
