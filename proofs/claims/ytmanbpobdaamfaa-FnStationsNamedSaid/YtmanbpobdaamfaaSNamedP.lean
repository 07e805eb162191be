/-
  Schemes: what a valid one fulfils, in plain words; a station that is dropped, one that is renamed and renamed back. No condition.
-/
import Derived.Test.YtmanbpobdaamfaaSRen
namespace Go.Proofs.Ytmanbpobdaamfaa
open Go.RowKit
set_option maxHeartbeats 400000

theorem hasS_iff {ss : List ByteArray} {z : ByteArray} : hasS ss z = true ↔ z ∈ ss := by simp [hasS]
theorem hasS_no {ss : List ByteArray} {z : ByteArray} : hasS ss z = false ↔ z ∉ ss := by rw [← hasS_iff]; simp
theorem stF_iff {ss : List ByteArray} {z : ByteArray} : stF ss z = 0 ↔ nameB z = true ∧ z ∉ ss ∧ ss.length < 20 := by
  unfold stF
  by_cases h1 : nameB z = true
  · rw [if_pos h1]
    by_cases h2 : hasS ss z = true
    · rw [if_pos h2]
      have := hasS_iff.1 h2
      simp [this]
    · rw [if_neg h2]
      have h3 : z ∉ ss := fun h => h2 (hasS_iff.2 h)
      by_cases h4 : ss.length < 20
      · rw [if_pos h4]; simp [h1, h3, h4]
      · rw [if_neg h4]; simp [h4]
  · rw [if_neg h1]; simp [h1]
theorem rmF_iff {ss rs : List ByteArray} {z : ByteArray} : rmF ss rs z = 0 ↔ z ∈ ss ∧ z ∉ rs := by
  unfold rmF
  by_cases h1 : hasS ss z = true
  · rw [if_pos h1]
    by_cases h2 : hasS rs z = true
    · rw [if_pos h2]
      have := hasS_iff.1 h2
      simp [this]
    · rw [if_neg h2]
      have h3 : z ∉ rs := fun h => h2 (hasS_iff.2 h)
      simp [hasS_iff.1 h1, h3]
  · rw [if_neg h1]
    have h3 : z ∉ ss := fun h => h1 (hasS_iff.2 h)
    simp [h3]
def sameEnds (a b : Way) : Prop := a.fr = b.fr ∧ a.to = b.to
def goodW (ss : List ByteArray) (y : Way) : Prop := y.fr ∈ ss ∧ y.to ∈ ss ∧ y.fr ≠ y.to ∧ 1 ≤ y.metres ∧ y.metres ≤ 2000
theorem hasW_no {ws : List Way} {y : Way} : hasW ws y.fr y.to = false ↔ ∀ q ∈ ws, ¬ sameEnds q y := by
  simp [hasW, wayIs, sameEnds]
theorem wyF_iff {ss : List ByteArray} {ws : List Way} {y : Way} : wyF ss ws y = 0 ↔ goodW ss y ∧ (∀ q ∈ ws, ¬ sameEnds q y) ∧ ws.length < 60 := by
  unfold wyF goodW
  rw [← hasW_no]
  by_cases h1 : hasS ss y.fr = true
  · by_cases h2 : hasS ss y.to = true
    · rw [if_pos h1, if_pos h2]
      have m1 := hasS_iff.1 h1
      have m2 := hasS_iff.1 h2
      by_cases h3 : y.fr = y.to
      · rw [if_pos h3]; simp [h3]
      · rw [if_neg h3]
        by_cases h4 : inR y.metres 1 2000 = true
        · rw [if_pos h4]
          simp only [inR, Bool.and_eq_true, decide_eq_true_eq] at h4
          by_cases h5 : hasW ws y.fr y.to = true
          · rw [if_pos h5]; simp [h5]
          · rw [if_neg h5]
            have h5' : hasW ws y.fr y.to = false := by simpa using h5
            by_cases h6 : ws.length < 60
            · rw [if_pos h6]; simp [m1, m2, h3, h4, h5', h6]
            · rw [if_neg h6]; simp [h6]
        · rw [if_neg h4]
          have h4' : ¬ (1 ≤ y.metres ∧ y.metres ≤ 2000) := by simpa [inR] using h4
          constructor
          · intro h; cases h
          · intro h; exact absurd ⟨h.1.2.2.2.1, h.1.2.2.2.2⟩ h4'
    · rw [if_pos h1, if_neg h2]
      have : y.to ∉ ss := fun h => h2 (hasS_iff.2 h)
      simp [this]
  · rw [if_neg h1]
    have : y.fr ∉ ss := fun h => h1 (hasS_iff.2 h)
    simp [this]

theorem okSt_iff : ∀ (xs p : List ByteArray), okL stF p xs = true ↔ (∀ z ∈ xs, nameB z = true) ∧ xs.Nodup ∧ (∀ z ∈ xs, z ∉ p) ∧ (xs = [] ∨ p.length + xs.length ≤ 20) := by
  intro xs
  induction xs with
  | nil => intro p; simp [okL]
  | cons y r ih =>
    intro p
    simp only [okL, Bool.and_eq_true, decide_eq_true_eq, ih, stF_iff]
    constructor
    · rintro ⟨⟨a, b, c⟩, d, e, f, g⟩
      refine ⟨fun z hz => ?_, ?_, fun z hz => ?_, .inr ?_⟩
      · rcases List.mem_cons.1 hz with rfl | hz
        · exact a
        · exact d z hz
      · rw [List.nodup_cons]
        exact ⟨fun h => f y h (by simp), e⟩
      · rcases List.mem_cons.1 hz with rfl | hz
        · exact b
        · intro h; exact f z hz (by simp [h])
      · rcases g with rfl | g
        · simp; omega
        · simp at g ⊢; omega
    · rintro ⟨a, b, c, d⟩
      rw [List.nodup_cons] at b
      have d' : p.length + (r.length + 1) ≤ 20 := by simpa using d
      refine ⟨⟨a y (by simp), c y (by simp), by omega⟩, fun z hz => a z (by simp [hz]), b.2, fun z hz h => ?_, .inr (by simp; omega)⟩
      rcases List.mem_append.1 h with h | h
      · exact c z (by simp [hz]) h
      · obtain rfl : z = y := by simpa using h
        exact b.1 hz
theorem okRm_iff (ss : List ByteArray) : ∀ (xs p : List ByteArray), okL (rmF ss) p xs = true ↔ (∀ z ∈ xs, z ∈ ss) ∧ xs.Nodup ∧ ∀ z ∈ xs, z ∉ p := by
  intro xs
  induction xs with
  | nil => intro p; simp [okL]
  | cons y r ih =>
    intro p
    simp only [okL, Bool.and_eq_true, decide_eq_true_eq, ih, rmF_iff]
    constructor
    · rintro ⟨⟨a, b⟩, d, e, f⟩
      refine ⟨fun z hz => ?_, ?_, fun z hz => ?_⟩
      · rcases List.mem_cons.1 hz with rfl | hz
        · exact a
        · exact d z hz
      · rw [List.nodup_cons]
        exact ⟨fun h => f y h (by simp), e⟩
      · rcases List.mem_cons.1 hz with rfl | hz
        · exact b
        · intro h; exact f z hz (by simp [h])
    · rintro ⟨a, b, c⟩
      rw [List.nodup_cons] at b
      refine ⟨⟨a y (by simp), c y (by simp)⟩, fun z hz => a z (by simp [hz]), b.2, fun z hz h => ?_⟩
      rcases List.mem_append.1 h with h | h
      · exact c z (by simp [hz]) h
      · obtain rfl : z = y := by simpa using h
        exact b.1 hz
theorem okWy_iff (ss : List ByteArray) : ∀ (xs p : List Way), okL (wyF ss) p xs = true ↔ (∀ y ∈ xs, goodW ss y) ∧ xs.Pairwise (fun a b => ¬ sameEnds a b) ∧ (∀ y ∈ xs, ∀ q ∈ p, ¬ sameEnds q y) ∧ (xs = [] ∨ p.length + xs.length ≤ 60) := by
  intro xs
  induction xs with
  | nil => intro p; simp [okL]
  | cons y r ih =>
    intro p
    simp only [okL, Bool.and_eq_true, decide_eq_true_eq, ih, wyF_iff]
    constructor
    · rintro ⟨⟨a, b, c⟩, d, e, f, g⟩
      refine ⟨fun z hz => ?_, ?_, fun z hz => ?_, .inr ?_⟩
      · rcases List.mem_cons.1 hz with rfl | hz
        · exact a
        · exact d z hz
      · rw [List.pairwise_cons]
        exact ⟨fun z hz => f z hz y (by simp), e⟩
      · rcases List.mem_cons.1 hz with rfl | hz
        · exact b
        · intro q hq; exact f z hz q (by simp [hq])
      · rcases g with rfl | g
        · simp; omega
        · simp at g ⊢; omega
    · rintro ⟨a, b, c, d⟩
      rw [List.pairwise_cons] at b
      have d' : p.length + (r.length + 1) ≤ 60 := by simpa using d
      refine ⟨⟨a y (by simp), c y (by simp), by omega⟩, fun z hz => a z (by simp [hz]), b.2, fun z hz q hq => ?_, .inr (by simp; omega)⟩
      rcases List.mem_append.1 hq with h | h
      · exact c z (by simp [hz]) q h
      · obtain rfl : q = y := by simpa using h
        exact b.1 z hz
structure ValP (x : Sch) : Prop where
  nm : ∀ z ∈ x.st, nameB z = true
  nd : x.st.Nodup
  ln : x.st.length ≤ 20
  rs : ∀ z ∈ x.rm, z ∈ x.st
  rd : x.rm.Nodup
  wg : ∀ y ∈ x.wy, goodW x.st y
  wd : x.wy.Pairwise (fun a b => ¬ sameEnds a b)
  wl : x.wy.length ≤ 60
theorem validX_iff {x : Sch} : validX x = true ↔ ValP x := by
  simp only [validX, Bool.and_eq_true, okSt_iff, okRm_iff, okWy_iff]
  constructor
  · rintro ⟨⟨a, b, _, d⟩, ⟨e, f, _⟩, g, h, _, j⟩
    refine ⟨a, b, ?_, e, f, g, h, ?_⟩
    · rcases d with d | d
      · rw [d]; simp
      · simpa using d
    · rcases j with d | d
      · rw [d]; simp
      · simpa using d
  · rintro ⟨a, b, c, d, e, f, g, h⟩
    exact ⟨⟨a, b, by simp, .inr (by simpa using c)⟩, ⟨d, e, by simp⟩, f, g, by simp, .inr (by simpa using h)⟩

theorem codeX_iff {x : Sch} {z : ByteArray} : codeX x z = 0 ↔ ValP x ∧ z ∈ x.st := by
  rw [← validX_iff, ← hasS_iff]
  constructor
  · exact codeX_zero
  · rintro ⟨a, b⟩
    simp [codeX, a, b]

theorem stay_mem {α : Type} {p : α → Bool} {xs : List α} {a : α} : a ∈ stay p xs ↔ a ∈ xs ∧ p a = false := by
  simp [stay]
theorem stay_sub {α : Type} (p : α → Bool) (xs : List α) : (stay p xs).Sublist xs := by
  unfold stay; exact List.filter_sublist
theorem stay_one : ∀ (xs : List ByteArray) (z : ByteArray), xs.Nodup → z ∈ xs → (stay (isS z) xs).length + 1 = xs.length := by
  intro xs z
  induction xs with
  | nil => intro _ h; simp at h
  | cons y r ih =>
    intro hn h
    rw [List.nodup_cons] at hn
    by_cases e : y = z
    · subst e
      have h1 : stay (isS y) (y :: r) = stay (isS y) r := by simp [stay, isS]
      have h2 : stay (isS y) r = r := by
        unfold stay
        rw [List.filter_eq_self]
        intro a ha
        have : a ≠ y := fun e => hn.1 (e ▸ ha)
        simp [isS, this]
      rw [h1, h2]; simp
    · have h1 : stay (isS z) (y :: r) = y :: stay (isS z) r := by simp [stay, isS, e]
      have h2 : z ∈ r := by
        rcases List.mem_cons.1 h with h | h
        · exact absurd h.symm e
        · exact h
      rw [h1]
      have := ih hn.2 h2
      simp; omega
theorem drop_law {x y : Sch} {z : ByteArray} (h : dropF x z = (y, 0)) :
    hasS y.st z = false ∧ hasS y.rm z = false ∧ y.st.length + 1 = x.st.length ∧ validX y = true ∧ ∀ w ∈ y.wy, w.fr ≠ z ∧ w.to ≠ z := by
  unfold dropF at h
  split at h
  case isFalse hq =>
    exact absurd (congrArg Prod.snd h) hq
  rename_i hq
  obtain ⟨hv, hz⟩ := codeX_iff.1 hq
  have hy : y = ⟨stay (isS z) x.st, stay (isS z) x.rm, stay (atW z) x.wy⟩ := (congrArg Prod.fst h).symm
  subst hy
  refine ⟨hasS_no.2 fun h => ?_, hasS_no.2 fun h => ?_, stay_one _ _ hv.nd hz, validX_iff.2 ⟨fun a ha => ?_, ?_, ?_, fun a ha => ?_, ?_, fun a ha => ?_, ?_, ?_⟩, fun w hw => ?_⟩
  · have := (stay_mem.1 h).2; simp [isS] at this
  · have := (stay_mem.1 h).2; simp [isS] at this
  · exact hv.nm a (stay_mem.1 ha).1
  · exact hv.nd.sublist (stay_sub _ _)
  · exact Nat.le_trans (stay_sub _ _).length_le hv.ln
  · obtain ⟨h1, h2⟩ := stay_mem.1 ha
    exact stay_mem.2 ⟨hv.rs a h1, h2⟩
  · exact hv.rd.sublist (stay_sub _ _)
  · obtain ⟨h1, h2⟩ := stay_mem.1 ha
    obtain ⟨g1, g2, g3⟩ := hv.wg a h1
    simp only [atW, Bool.or_eq_false_iff, decide_eq_false_iff_not] at h2
    exact ⟨stay_mem.2 ⟨g1, by simpa [isS] using h2.1⟩, stay_mem.2 ⟨g2, by simpa [isS] using h2.2⟩, g3⟩
  · exact hv.wd.sublist (stay_sub _ _)
  · exact Nat.le_trans (stay_sub _ _).length_le hv.wl
  · have := (stay_mem.1 hw).2
    simpa [atW] using this
theorem renS_back {ss : List ByteArray} {z t a : ByteArray} (ht : t ∉ ss) (ha : a ∈ ss) : renS t z (renS z t a) = a := by
  unfold renS
  by_cases h : a = z
  · rw [if_pos h, if_pos rfl, h]
  · rw [if_neg h, if_neg (fun e : a = t => ht (e ▸ ha))]
theorem map_back {α : Type} {f g : α → α} : ∀ {xs : List α}, (∀ a ∈ xs, g (f a) = a) → (xs.map f).map g = xs := by
  intro xs h
  rw [List.map_map]
  conv => rhs; rw [← List.map_id xs]
  exact List.map_congr_left fun a ha => by simpa using h a ha
theorem nodup_map {α β : Type} {f : α → β} : ∀ {xs : List α}, xs.Nodup → (∀ a ∈ xs, ∀ b ∈ xs, f a = f b → a = b) → (xs.map f).Nodup := by
  intro xs
  induction xs with
  | nil => intro _ _; simp
  | cons x r ih =>
    intro hn hi
    rw [List.nodup_cons] at hn
    rw [List.map_cons, List.nodup_cons]
    refine ⟨fun h => ?_, ih hn.2 (fun a ha b hb => hi a (by simp [ha]) b (by simp [hb]))⟩
    obtain ⟨b, hb, e⟩ := List.mem_map.1 h
    exact hn.1 (hi b (by simp [hb]) x (by simp) e ▸ hb)
theorem pair_map {α β : Type} {R : α → α → Prop} {S : β → β → Prop} {f : α → β} : ∀ {xs : List α}, xs.Pairwise R → (∀ a ∈ xs, ∀ b ∈ xs, R a b → S (f a) (f b)) → (xs.map f).Pairwise S := by
  intro xs
  induction xs with
  | nil => intro _ _; simp
  | cons x r ih =>
    intro hn hi
    rw [List.pairwise_cons] at hn
    rw [List.map_cons, List.pairwise_cons]
    refine ⟨fun b hb => ?_, ih hn.2 (fun a ha b hb => hi a (by simp [ha]) b (by simp [hb]))⟩
    obtain ⟨c, hc, rfl⟩ := List.mem_map.1 hb
    exact hi x (by simp) c (by simp [hc]) (hn.1 c hc)
theorem ren_val {x : Sch} {z t : ByteArray} (hv : ValP x) (hz : z ∈ x.st) (hn : nameB t = true) (ht : t ∉ x.st) : ValP ⟨x.st.map (renS z t), x.rm.map (renS z t), x.wy.map (renW z t)⟩ := by
  have inj : ∀ a ∈ x.st, ∀ b ∈ x.st, renS z t a = renS z t b → a = b := fun a ha b hb e => by
    rw [← renS_back (z := z) ht ha, e, renS_back ht hb]
  refine ⟨fun a ha => ?_, nodup_map hv.nd inj, by simpa using hv.ln, fun a ha => ?_, nodup_map hv.rd (fun a ha b hb => inj a (hv.rs a ha) b (hv.rs b hb)), fun a ha => ?_, ?_, by simpa using hv.wl⟩
  · obtain ⟨b, hb, rfl⟩ := List.mem_map.1 ha
    unfold renS
    split
    · exact hn
    · exact hv.nm b hb
  · obtain ⟨b, hb, rfl⟩ := List.mem_map.1 ha
    exact List.mem_map.2 ⟨b, hv.rs b hb, rfl⟩
  · obtain ⟨b, hb, rfl⟩ := List.mem_map.1 ha
    obtain ⟨g1, g2, g3, g4, g5⟩ := hv.wg b hb
    exact ⟨List.mem_map.2 ⟨_, g1, rfl⟩, List.mem_map.2 ⟨_, g2, rfl⟩, fun e => g3 (inj _ g1 _ g2 e), g4, g5⟩
  · refine pair_map hv.wd fun a ha b hb h e => h ⟨?_, ?_⟩
    · exact inj _ (hv.wg a ha).1 _ (hv.wg b hb).1 e.1
    · exact inj _ (hv.wg a ha).2.1 _ (hv.wg b hb).2.1 e.2
theorem ren_back {x y : Sch} {z t : ByteArray} (h : renF x z t = (y, 0)) : renF y t z = (x, 0) := by
  unfold renF at h
  split at h
  case isFalse hq => exact absurd (congrArg Prod.snd h) hq
  rename_i hq
  split at h
  case isFalse => exact absurd (congrArg Prod.snd h) (by simp)
  rename_i hn
  split at h
  · exact absurd (congrArg Prod.snd h) (by simp)
  rename_i ht'
  obtain ⟨hv, hz⟩ := codeX_iff.1 hq
  have ht : t ∉ x.st := fun h => ht' (hasS_iff.2 h)
  have hy : y = ⟨x.st.map (renS z t), x.rm.map (renS z t), x.wy.map (renW z t)⟩ := (congrArg Prod.fst h).symm
  subst hy
  have hv2 := ren_val hv hz hn ht
  have q0 : codeX ⟨x.st.map (renS z t), x.rm.map (renS z t), x.wy.map (renW z t)⟩ t = 0 := codeX_iff.2 ⟨hv2, List.mem_map.2 ⟨z, hz, by simp [renS]⟩⟩
  have q1 : nameB z = true := hv.nm z hz
  have q2 : hasS (x.st.map (renS z t)) z = false := by
    refine hasS_no.2 fun h => ?_
    obtain ⟨a, ha, e⟩ := List.mem_map.1 h
    unfold renS at e
    split at e
    · exact ht (e ▸ hz)
    · rename_i hne; exact hne e
  unfold renF
  rw [if_pos q0, if_pos q1, if_neg (by simp [q2])]
  have e1 : (x.st.map (renS z t)).map (renS t z) = x.st := map_back fun a ha => renS_back ht ha
  have e2 : (x.rm.map (renS z t)).map (renS t z) = x.rm := map_back fun a ha => renS_back ht (hv.rs a ha)
  have e3 : (x.wy.map (renW z t)).map (renW t z) = x.wy := map_back fun a ha => by
    obtain ⟨f, g, m⟩ := a
    have h1 := hv.wg _ ha
    simp only [renW]
    rw [renS_back ht h1.1, renS_back ht h1.2.1]
  simp only [e1, e2, e3]
theorem idxF_mem {α : Type} (p : α → Bool) (xs : List α) : ∀ (k : Nat) (i : Int), i ∈ idxF p xs k → ∃ (j : Nat) (y : α), i = j ∧ xs[j]? = some y ∧ p y = true := by
  intro k
  induction k with
  | zero => intro i h; simp [idxF] at h
  | succ k ih =>
    intro i h
    simp only [idxF] at h
    split at h
    · rename_i y hy
      split at h
      · rename_i hp
        rcases List.mem_append.1 h with h | h
        · exact ih i h
        · exact ⟨k, y, by simpa using h, hy, hp⟩
      · exact ih i h
    · exact ih i h
theorem from_law {x : Sch} {z : ByteArray} {i : Int} (h : i ∈ (fromF x z).1) : ∃ (j : Nat) (y : Way), i = j ∧ x.wy[j]? = some y ∧ y.fr = z := by
  unfold fromF at h
  split at h
  · obtain ⟨j, y, e, hy, hp⟩ := idxF_mem _ _ _ _ h
    exact ⟨j, y, e, hy, by simpa [fromP] using hp⟩
  · simp at h
end Go.Proofs.Ytmanbpobdaamfaa
