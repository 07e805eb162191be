/-
  Tariffs read back from their texts: the plain law. No condition.
-/
import Derived.Test.YtngfhpklakhehaaGreatDoorKTariff
import Derived.Test.YtngfhpklakhehaaGreatDoorRNumP
import Derived.Test.YtngfhpklakhehaaGreatDoorRSplP
namespace Go.Proofs.YtngfhpklakhehaaGreatDoor
open Go.Lib

def preH : List UInt8 := [49, 48, 48, 109, 58]
def preE : List UInt8 := [101, 120, 112, 114, 101, 115, 115, 58]
def stepW (x : Step) : List UInt8 := itoa x.g ++ 103 :: 58 :: itoa x.p
def wordsT (t : Tariff) : List (List UInt8) := t.s.map stepW ++ [preH ++ itoa t.h, preE ++ itoa t.e]
def txtT (t : Tariff) : List UInt8 := joinB 32 (wordsT t)
/-- the number behind a word -/
def partF (w pre : List UInt8) : Option Int := if w.length ≤ pre.length then none else if w.take pre.length = pre then rdN (w.drop pre.length) else none
/-- the number ahead of a unit -/
def unitF (w : List UInt8) (u : UInt8) : Option Int := if w = [] then none else if w.getLast? = some u then rdN (w.take (w.length - 1)) else none
def stepF (w : List UInt8) : Option Step :=
  if (spl 58 w).length = 2 then
    match unitF ((spl 58 w)[0]?.getD []) 103, rdN ((spl 58 w)[1]?.getD []) with
    | some g, some p => some ⟨g, p⟩
    | _, _ => none
  else none
def stepsF (acc : List Step) : List (List UInt8) → Option (List Step)
  | [] => some acc
  | w :: r => match stepF w with | none => none | some x => stepsF (acc ++ [x]) r
def wAt (ws : List (List UInt8)) (i : Nat) : List UInt8 := ws[i]?.getD []
/-- the reference's way -/
def readT (s : List UInt8) : Option Tariff :=
  if (spl 32 s).length < 3 then none else
  match partF (wAt (spl 32 s) ((spl 32 s).length - 2)) preH, partF (wAt (spl 32 s) ((spl 32 s).length - 1)) preE with
  | some h, some e => match stepsF [] ((spl 32 s).take ((spl 32 s).length - 2)) with
    | some xs => if validT ⟨xs, h, e⟩ then some ⟨xs, h, e⟩ else none
    | none => none
  | _, _ => none
/-- the program's way: read loosely, then held against the text -/
def looseF (w : List UInt8) : Option Step :=
  match rdN (cut w [103, 58]).1, rdN (cut w [103, 58]).2.1 with
  | some g, some p => some ⟨g, p⟩
  | _, _ => none
def looseS (acc : List Step) : List (List UInt8) → Option (List Step)
  | [] => some acc
  | w :: r => match looseF w with | none => none | some x => looseS (acc ++ [x]) r
def wordsI (s : List UInt8) : List (List UInt8) := splitK [32] 0 (min 11 (s.length + 1) - 1) s
def readI (s : List UInt8) : Option Tariff :=
  if (wordsI s).length < 3 then none else
  match looseS [] ((wordsI s).take ((wordsI s).length - 2)) with
  | none => none
  | some xs =>
    match rdN (trimPrefix (wAt (wordsI s) ((wordsI s).length - 2)) preH), rdN (trimPrefix (wAt (wordsI s) ((wordsI s).length - 1)) preE) with
    | some h, some e => if (tariffF xs h e).data.toList = s then some ⟨xs, h, e⟩ else none
    | _, _ => none

theorem app_data (a b : ByteArray) : (a ++ b).data.toList = a.data.toList ++ b.data.toList := by simp
theorem itoaB_data (n : Int) : (itoaB n).data.toList = itoa n := by simp [itoaB]
theorem txtK_data (xs : List Step) : ∀ k, k ≤ xs.length → (txtK xs k).data.toList = ((xs.take k).map fun x => stepW x ++ [32]).flatten := by
  intro k
  induction k with
  | zero => intro _; simp [txtK]
  | succ k ih =>
    intro hk
    have hx : xs[k]? = some xs[k] := List.getElem?_eq_getElem (by omega)
    rw [txtK_succ hx, app_data, ih (by omega), List.take_add_one, hx]
    simp only [Option.toList_some, List.map_append, List.map_cons, List.map_nil, List.flatten_append, List.flatten_cons, List.flatten_nil, List.append_nil]
    congr 1
    simp [stepTxt, stepW, itoaB_data]
theorem join_snoc (b : UInt8) : ∀ (ws : List (List UInt8)) (r : List (List UInt8)), r ≠ [] → joinB b (ws ++ r) = (ws.map fun w => w ++ [b]).flatten ++ joinB b r := by
  intro ws
  induction ws with
  | nil => intro r _; rfl
  | cons w q ih =>
    intro r hr
    rw [List.cons_append, joinB_cons b w (by simp [hr]), ih r hr]
    simp
theorem tarT_data (xs : List Step) (h e : Int) : (tarT xs h e).data.toList = txtT ⟨xs, h, e⟩ := by
  rw [txtT, wordsT, join_snoc 32 _ _ (by simp)]
  simp only [joinB]
  rw [tarT]
  simp only [app_data, itoaB_data]
  rw [txtK_data xs xs.length (Nat.le_refl _), List.take_length]
  simp [preH, preE, List.map_map, Function.comp_def]
theorem valid_parts {t : Tariff} (h : validT t = true) : (∀ x ∈ t.s, (1 ≤ x.g ∧ x.g ≤ 5000) ∧ 0 ≤ x.p ∧ x.p ≤ 100000) ∧ 1 ≤ t.s.length ∧ t.s.length ≤ 8 ∧ (0 ≤ t.h ∧ t.h ≤ 100000) ∧ 0 ≤ t.e ∧ t.e ≤ 1000 := by
  simp only [validT, Bool.and_eq_true] at h
  obtain ⟨⟨⟨h1, h2⟩, h3⟩, h4⟩ := h
  simp only [inR, Bool.and_eq_true, decide_eq_true_eq] at h2 h3 h4
  refine ⟨?_, by omega, by omega, h3, h4⟩
  have key : ∀ (l : List Step) (q : Option Step), stepsFrom q l = true → ∀ x ∈ l, (1 ≤ x.g ∧ x.g ≤ 5000) ∧ 0 ≤ x.p ∧ x.p ≤ 100000 := by
    intro l
    induction l with
    | nil => intro q _ x hx; simp at hx
    | cons y r ih =>
      intro q hq x hx
      simp only [stepsFrom, Bool.and_eq_true] at hq
      rcases List.mem_cons.1 hx with rfl | hx
      · have := hq.1.1
        simp only [okStep, inR, Bool.and_eq_true, decide_eq_true_eq] at this
        exact this
      · exact ih _ hq.2 x hx
  exact key _ _ h1
theorem notin_itoa {n : Int} (h : 0 ≤ n) {c : UInt8} (hc : c.toNat < 48 ∨ 57 < c.toNat) : c ∉ itoa n := fun hm => by have := itoa_digits h c hm; omega
theorem stepW_clean {x : Step} (h : (1 ≤ x.g ∧ x.g ≤ 5000) ∧ 0 ≤ x.p ∧ x.p ≤ 100000) : (32 : UInt8) ∉ stepW x := by
  simp only [stepW, List.mem_append, List.mem_cons, not_or]
  exact ⟨notin_itoa (by omega) (.inl (by decide)), by decide, by decide, notin_itoa (by omega) (.inl (by decide))⟩
theorem words_clean {t : Tariff} (h : validT t = true) : ∀ w ∈ wordsT t, (32 : UInt8) ∉ w := by
  obtain ⟨h1, _, _, h4, h5⟩ := valid_parts h
  intro w hw
  simp only [wordsT, List.mem_append, List.mem_map, List.mem_cons, List.not_mem_nil, or_false] at hw
  rcases hw with ⟨x, hx, rfl⟩ | rfl | rfl
  · exact stepW_clean (h1 x hx)
  · simp only [List.mem_append, not_or]; exact ⟨by decide, notin_itoa (by omega) (.inl (by decide))⟩
  · simp only [List.mem_append, not_or]; exact ⟨by decide, notin_itoa (by omega) (.inl (by decide))⟩
theorem words_len (t : Tariff) : (wordsT t).length = t.s.length + 2 := by simp [wordsT]
theorem words_ne (t : Tariff) : wordsT t ≠ [] := by simp [wordsT]
theorem words_take (t : Tariff) : (wordsT t).take ((wordsT t).length - 2) = t.s.map stepW := by
  rw [words_len, Nat.add_sub_cancel]
  simp [wordsT]
theorem words_h (t : Tariff) : wAt (wordsT t) ((wordsT t).length - 2) = preH ++ itoa t.h := by
  rw [words_len, Nat.add_sub_cancel]
  simp [wAt, wordsT]
theorem words_e (t : Tariff) : wAt (wordsT t) ((wordsT t).length - 1) = preE ++ itoa t.e := by
  rw [words_len, show t.s.length + 2 - 1 = t.s.length + 1 by omega]
  simp [wAt, wordsT]
theorem part_of {pre : List UInt8} {n : Int} (h0 : 0 ≤ n) (h1 : n < 1000000000000000000) : partF (pre ++ itoa n) pre = some n := by
  have hne : 1 ≤ (itoa n).length := by obtain ⟨c, r, e, _⟩ := itoa_head n; rw [e]; simp
  rw [partF, if_neg (by simp; omega), if_pos (by simp), List.drop_left, rdN_itoa h0 h1]
theorem trim_of {pre : List UInt8} {n : Int} (h0 : 0 ≤ n) (h1 : n < 1000000000000000000) : rdN (trimPrefix (pre ++ itoa n) pre) = some n := by
  have : hasPrefix (pre ++ itoa n) pre = true := by simp [hasPrefix]
  rw [trimPrefix, if_pos this, List.drop_left, rdN_itoa h0 h1]
theorem stepW_eq (x : Step) : stepW x = (itoa x.g ++ [103]) ++ 58 :: itoa x.p := by simp [stepW]
theorem step_of {x : Step} (h : (1 ≤ x.g ∧ x.g ≤ 5000) ∧ 0 ≤ x.p ∧ x.p ≤ 100000) : stepF (stepW x) = some x := by
  have hc : (58 : UInt8) ∉ itoa x.g ++ [103] := by
    simp only [List.mem_append, List.mem_singleton, not_or]
    exact ⟨notin_itoa (by omega) (.inr (by decide)), by decide⟩
  have hp : (58 : UInt8) ∉ itoa x.p := notin_itoa (by omega) (.inr (by decide))
  have hs : spl 58 (stepW x) = [itoa x.g ++ [103], itoa x.p] := by rw [stepW_eq, spl_cut _ hc, spl_plain hp]
  rw [stepF, hs]
  have hu : unitF (itoa x.g ++ [103]) 103 = some x.g := by
    rw [unitF, if_neg (by simp), if_pos (by simp)]
    have : (itoa x.g ++ [103]).take ((itoa x.g ++ [103]).length - 1) = itoa x.g := by simp
    rw [this, rdN_itoa (by omega) (by omega)]
  have hr : rdN (itoa x.p) = some x.p := rdN_itoa (by omega) (by omega)
  simp [hu, hr]
theorem steps_of : ∀ (xs acc : List Step), (∀ x ∈ xs, (1 ≤ x.g ∧ x.g ≤ 5000) ∧ 0 ≤ x.p ∧ x.p ≤ 100000) → stepsF acc (xs.map stepW) = some (acc ++ xs) := by
  intro xs
  induction xs with
  | nil => intro acc _; simp [stepsF]
  | cons x r ih =>
    intro acc h
    rw [List.map_cons, stepsF, step_of (h x (by simp))]
    simp only
    rw [ih _ (fun z hz => h z (by simp [hz]))]
    simp
theorem index_gp {x : Step} (h : 0 ≤ x.g) : index (stepW x) [103, 58] = (itoa x.g).length := by
  refine index_first (by simp [stepW]) (by simp [occAt, stepW]) ?_
  intro j hj
  have hd : (stepW x).drop j = (itoa x.g)[j] :: (stepW x).drop (j + 1) := by
    rw [List.drop_eq_getElem_cons (by simp [stepW]; omega)]
    congr 1
    simp only [stepW]
    rw [List.getElem_append_left hj]
  have hne : (itoa x.g)[j] ≠ 103 := fun e => notin_itoa h (c := 103) (.inr (by decide)) (by rw [← e]; exact List.getElem_mem hj)
  rw [occAt, hd]
  simp only [List.isPrefixOf, Bool.and_eq_false_iff, beq_eq_false_iff_ne, ne_eq]
  exact .inl (fun e => hne e.symm)
theorem loose_of {x : Step} (h : (1 ≤ x.g ∧ x.g ≤ 5000) ∧ 0 ≤ x.p ∧ x.p ≤ 100000) : looseF (stepW x) = some x := by
  have hi := index_gp (x := x) (by omega)
  have hc : cut (stepW x) [103, 58] = (itoa x.g, itoa x.p, true) := by
    rw [cut, if_pos (by omega), hi]
    have e : (((itoa x.g).length : Nat) : Int).toNat = (itoa x.g).length := by omega
    rw [e]
    simp [stepW, List.drop_append]
  rw [looseF, hc]
  simp only
  rw [rdN_itoa (by omega) (by omega), rdN_itoa (by omega) (by omega)]
theorem looses_of : ∀ (xs acc : List Step), (∀ x ∈ xs, (1 ≤ x.g ∧ x.g ≤ 5000) ∧ 0 ≤ x.p ∧ x.p ≤ 100000) → looseS acc (xs.map stepW) = some (acc ++ xs) := by
  intro xs
  induction xs with
  | nil => intro acc _; simp [looseS]
  | cons x r ih =>
    intro acc h
    rw [List.map_cons, looseS, loose_of (h x (by simp))]
    simp only
    rw [ih _ (fun z hz => h z (by simp [hz]))]
    simp
/-- the text of a valid tariff is read as that tariff: by the reference -/
theorem readT_txt {t : Tariff} (h : validT t = true) : readT (txtT t) = some t := by
  obtain ⟨h1, h2, h3, h4, h5⟩ := valid_parts h
  have hs : spl 32 (txtT t) = wordsT t := spl_join (words_ne t) (words_clean h)
  rw [readT, hs, if_neg (by rw [words_len]; omega), words_h, words_e, part_of (by omega) (by omega), part_of (by omega) (by omega), words_take, steps_of _ _ h1]
  simp only [List.nil_append]
  rw [if_pos h]
/-- .. and by the program -/
theorem readI_txt {t : Tariff} (h : validT t = true) : readI (txtT t) = some t := by
  obtain ⟨h1, h2, h3, h4, h5⟩ := valid_parts h
  have hl := joinB_len 32 (wordsT t)
  rw [words_len] at hl
  have hl2 : t.s.length + 2 ≤ (txtT t).length + 1 := hl
  have hs : wordsI (txtT t) = wordsT t := splitK_join (words_ne t) (words_clean h) (by rw [words_len]; omega)
  have hv : tariffF t.s t.h t.e = tarT t.s t.h t.e := tariffF_yes h
  rw [readI, hs, if_neg (by rw [words_len]; omega), words_h, words_e, words_take, looses_of _ _ h1]
  simp only [List.nil_append]
  rw [trim_of (by omega) (by omega), trim_of (by omega) (by omega)]
  simp only
  rw [hv, tarT_data, if_pos rfl]
theorem part_some {w pre : List UInt8} {n : Int} (h : partF w pre = some n) : w = pre ++ itoa n := by
  unfold partF at h
  split at h
  · cases h
  · split at h
    · rename_i h2
      have := (rdN_some h).1
      rw [this]
      conv => lhs; rw [← List.take_append_drop pre.length w, h2]
    · cases h
theorem unit_some {w : List UInt8} {u : UInt8} {n : Int} (h : unitF w u = some n) : w = itoa n ++ [u] := by
  unfold unitF at h
  split at h
  · cases h
  · rename_i hw
    split at h
    · rename_i h2
      have h3 := (rdN_some h).1
      rw [h3, ← List.dropLast_eq_take]
      have h4 := List.dropLast_concat_getLast hw
      rw [List.getLast?_eq_some_getLast hw] at h2
      simp only [Option.some.injEq] at h2
      rw [h2] at h4
      exact h4.symm
    · cases h
theorem step_some {w : List UInt8} {x : Step} (h : stepF w = some x) : w = stepW x := by
  unfold stepF at h
  split at h
  · rename_i hl
    have hj := join_spl 58 w
    generalize spl 58 w = l at hl hj h
    match l, hl with
    | [a, b], _ =>
      simp only [List.getElem?_cons_zero, Option.getD_some, List.getElem?_cons_succ] at h
      split at h
      · rename_i g p hg hp
        simp only [Option.some.injEq] at h
        subst h
        rw [← hj, joinB_cons 58 a (by simp), joinB_one, unit_some hg, ← (rdN_some hp).1]
        simp [stepW]
      · cases h
  · cases h
theorem steps_some : ∀ (ws : List (List UInt8)) (acc xs : List Step), stepsF acc ws = some xs → ∃ ys, xs = acc ++ ys ∧ ws = ys.map stepW := by
  intro ws
  induction ws with
  | nil =>
    intro acc xs h
    simp only [stepsF, Option.some.injEq] at h
    exact ⟨[], by simp [h], rfl⟩
  | cons w r ih =>
    intro acc xs h
    rw [stepsF] at h
    cases hs : stepF w with
    | none => rw [hs] at h; cases h
    | some x =>
      rw [hs] at h
      obtain ⟨ys, h1, h2⟩ := ih _ _ h
      exact ⟨x :: ys, by rw [h1]; simp, by rw [List.map_cons, ← h2, step_some hs]⟩
theorem last_two {α : Type} [Inhabited α] {l : List α} (d : α) (h : 3 ≤ l.length) : l = l.take (l.length - 2) ++ [l[l.length - 2]?.getD d, l[l.length - 1]?.getD d] := by
  have h1 : l[l.length - 2]? = some (l[l.length - 2]'(by omega)) := List.getElem?_eq_getElem (by omega)
  have h2 : l[l.length - 1]? = some (l[l.length - 1]'(by omega)) := List.getElem?_eq_getElem (by omega)
  rw [h1, h2]
  simp only [Option.getD_some]
  conv => lhs; rw [← List.take_append_drop (l.length - 2) l]
  congr 1
  rw [List.drop_eq_getElem_cons (by omega)]
  congr 1
  have e : l.length - 2 + 1 = l.length - 1 := by omega
  rw [List.drop_eq_getElem_cons (by omega)]
  simp only [e]
  congr 1
  exact List.drop_of_length_le (by omega)
/-- what the reference reads is the text of what it read -/
theorem readT_some {s : List UInt8} {t : Tariff} (h : readT s = some t) : validT t = true ∧ txtT t = s := by
  unfold readT at h
  split at h
  · cases h
  · rename_i hl
    split at h
    · rename_i hh e hp1 hp2
      cases hs : stepsF [] ((spl 32 s).take ((spl 32 s).length - 2)) with
      | none => rw [hs] at h; cases h
      | some xs =>
        rw [hs] at h
        simp only at h
        split at h
        · rename_i hv
          simp only [Option.some.injEq] at h
          subst h
          refine ⟨hv, ?_⟩
          obtain ⟨ys, h1, h2⟩ := steps_some _ _ _ hs
          rw [List.nil_append] at h1
          subst h1
          have h3 := part_some hp1
          have h4 := part_some hp2
          have h5 := last_two (l := spl 32 s) [] (by omega)
          have h6 : spl 32 s = wordsT ⟨xs, hh, e⟩ := by
            rw [h5, h2]
            simp only [wordsT]
            congr 1
            rw [← h3, ← h4]
            rfl
          rw [txtT, ← h6, join_spl]
        · cases h
    · cases h
/-- what the program reads is the text of what it read -/
theorem readI_some {s : List UInt8} {t : Tariff} (h : readI s = some t) : validT t = true ∧ txtT t = s := by
  unfold readI at h
  split at h
  · cases h
  · rename_i hl
    have hne : s ≠ [] := fun e => by subst e; simp [wordsI, splitK] at hl
    cases hls : looseS [] ((wordsI s).take ((wordsI s).length - 2)) with
    | none => rw [hls] at h; cases h
    | some xs =>
      rw [hls] at h
      simp only at h
      split at h
      · rename_i hh e _ _
        split at h
        · rename_i ht
          simp only [Option.some.injEq] at h
          subst h
          cases hv : validT ⟨xs, hh, e⟩ with
          | false =>
            exfalso
            apply hne
            rw [← ht, tariffF, hv]
            rfl
          | true =>
            refine ⟨rfl, ?_⟩
            rw [tariffF_yes hv, tarT_data] at ht
            exact ht
        · cases h
      · cases h
theorem readI_eq (s : List UInt8) : readI s = readT s := by
  cases h : readI s with
  | some t =>
    obtain ⟨h1, h2⟩ := readI_some h
    rw [← h2, readT_txt h1]
  | none =>
    cases h2 : readT s with
    | none => rfl
    | some t =>
      obtain ⟨h3, h4⟩ := readT_some h2
      rw [← h4, readI_txt h3] at h
      cases h
end Go.Proofs.YtngfhpklakhehaaGreatDoor
