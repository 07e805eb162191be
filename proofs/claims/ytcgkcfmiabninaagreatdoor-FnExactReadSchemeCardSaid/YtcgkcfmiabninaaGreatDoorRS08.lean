/-
  RS: texts RSchP, PDel, SDel, one behind the other. No condition but what each says.
-/
import Derived.Test.YtcgkcfmiabninaaGreatDoorRS07
import Derived.Deep.RegionLaw
import Derived.Lib.SliceRun
import Derived.OwnWalk
/-
  Schemes read from texts: what a row adds; what is read is valid; a text is read back. No condition.
-/
namespace Go.Proofs.YtcgkcfmiabninaaGreatDoor
open Go.Lib

def mkB (l : List UInt8) : ByteArray := ⟨l.toArray⟩
theorem mkB_data (l : List UInt8) : (mkB l).data.toList = l := by simp [mkB]
theorem mkB_of (z : ByteArray) : mkB z.data.toList = z := by cases z; simp [mkB]
theorem mkB_inj {a b : List UInt8} (h : mkB a = mkB b) : a = b := by rw [← mkB_data a, h, mkB_data]
theorem data_inj {x y : ByteArray} (h : x.data.toList = y.data.toList) : x = y := by rw [← mkB_of x, h, mkB_of]
def kST : ByteArray := ⟨#[115, 116, 97, 116, 105, 111, 110]⟩
def kRM : ByteArray := ⟨#[114, 111, 111, 109]⟩
def kTB : ByteArray := ⟨#[116, 117, 98, 101]⟩
def kPR : ByteArray := ⟨#[112, 97, 105, 114]⟩
def kDD : ByteArray := ⟨#[45, 45]⟩
/-- the words of a row -/
def wordsR (row : ByteArray) : List ByteArray := ((spl 32 row.data.toList).filter fun w => !w.isEmpty).map mkB
def bAt (ws : List ByteArray) (i : Nat) : ByteArray := ws[i]?.getD ByteArray.empty
/-- a way there and one back, or none -/
def pairF (x : Sch) (y : Way) : Sch × Int :=
  if wyF x.st x.wy y = 0 then
    if wyF x.st (x.wy ++ [y]) ⟨y.«to», y.fr, y.metres⟩ = 0 then (⟨x.st, x.rm, x.wy ++ [y] ++ [⟨y.«to», y.fr, y.metres⟩]⟩, 0)
    else (x, wyF x.st (x.wy ++ [y]) ⟨y.«to», y.fr, y.metres⟩)
  else (x, wyF x.st x.wy y)
/-- what a row adds, and its fault -/
def rowF (x : Sch) (ws : List ByteArray) : Sch × Int :=
  if ws.length = 0 then (x, 0) else
  if bAt ws 0 = kDD then (x, 0) else
  if bAt ws 0 = kST then (if ws.length = 2 then (if stF x.st (bAt ws 1) = 0 then ⟨x.st ++ [bAt ws 1], x.rm, x.wy⟩ else x, stF x.st (bAt ws 1)) else (x, 2)) else
  if bAt ws 0 = kRM then (if ws.length = 2 then (if rmF x.st x.rm (bAt ws 1) = 0 then ⟨x.st, x.rm ++ [bAt ws 1], x.wy⟩ else x, rmF x.st x.rm (bAt ws 1)) else (x, 2)) else
  if bAt ws 0 = kTB then (if ws.length = 4 then match rdN (bAt ws 3).data.toList with
    | none => (x, 4)
    | some n => (if wyF x.st x.wy ⟨bAt ws 1, bAt ws 2, n⟩ = 0 then ⟨x.st, x.rm, x.wy ++ [⟨bAt ws 1, bAt ws 2, n⟩]⟩ else x, wyF x.st x.wy ⟨bAt ws 1, bAt ws 2, n⟩) else (x, 2)) else
  if bAt ws 0 = kPR then (if ws.length = 4 then match rdN (bAt ws 3).data.toList with
    | none => (x, 4)
    | some n => pairF x ⟨bAt ws 1, bAt ws 2, n⟩ else (x, 2)) else (x, 1)
/-- the faults of some rows, from row i on, at most 20 -/
def addF (fs : List (Int × Int)) (i : Nat) (q : Int) : List (Int × Int) := if q ≠ 0 ∧ fs.length < 20 then fs ++ [((i : Int) + 1, q)] else fs
def rowsF (x : Sch) (fs : List (Int × Int)) (i : Nat) : List ByteArray → Sch × List (Int × Int)
  | [] => (x, fs)
  | r :: rs => rowsF (rowF x (wordsR r)).1 (addF fs i (rowF x (wordsR r)).2) (i + 1) rs
def rowsOf (t : ByteArray) : List ByteArray := (spl 10 t.data.toList).map mkB
def readX (t : ByteArray) : Sch × List (Int × Int) × Int :=
  if 3000 < t.size then (⟨[], [], []⟩, [], 2) else ((rowsF ⟨[], [], []⟩ [] 0 (rowsOf t)).1, (rowsF ⟨[], [], []⟩ [] 0 (rowsOf t)).2, 0)

/- what is read is valid -/
theorem okL_snoc {α : Type} {f : List α → α → Int} : ∀ (xs p : List α) (z : α), okL f p (xs ++ [z]) = (okL f p xs && decide (f (p ++ xs) z = 0)) := by
  intro xs
  induction xs with
  | nil => intro p z; simp [okL]
  | cons x r ih =>
    intro p z
    rw [List.cons_append, okL, okL, ih]
    simp [Bool.and_assoc]
theorem okL_mono {α : Type} {f g : List α → α → Int} (h : ∀ p x, f p x = 0 → g p x = 0) : ∀ (xs p : List α), okL f p xs = true → okL g p xs = true := by
  intro xs
  induction xs with
  | nil => intro p _; rfl
  | cons x r ih =>
    intro p hp
    simp only [okL, Bool.and_eq_true, decide_eq_true_eq] at hp ⊢
    exact ⟨h _ _ hp.1, ih _ hp.2⟩
theorem hasS_app {l : List ByteArray} {z y : ByteArray} (h : hasS l z = true) : hasS (l ++ [y]) z = true := by simp only [hasS, List.any_append, Bool.or_eq_true] at h ⊢; exact .inl h
theorem rm_mono {ss rs : List ByteArray} {y z : ByteArray} (h : rmF ss rs z = 0) : rmF (ss ++ [y]) rs z = 0 := by
  unfold rmF at h ⊢
  split at h
  · rename_i h1
    rw [hasS_app h1, if_pos rfl]
    exact h
  · omega
theorem wy_mono {ss : List ByteArray} {ws : List Way} {y : ByteArray} {x : Way} (h : wyF ss ws x = 0) : wyF (ss ++ [y]) ws x = 0 := by
  unfold wyF at h ⊢
  split at h
  · rename_i h1
    rw [hasS_app h1, if_pos rfl]
    split at h
    · rename_i h2
      rw [hasS_app h2, if_pos rfl]
      exact h
    · omega
  · omega
theorem valid_st {x : Sch} {z : ByteArray} (hv : validX x = true) (h : stF x.st z = 0) : validX ⟨x.st ++ [z], x.rm, x.wy⟩ = true := by
  simp only [validX, Bool.and_eq_true] at hv ⊢
  refine ⟨?_, okL_mono (fun p y hy => rm_mono hy) _ _ hv.2.1, okL_mono (fun p y hy => wy_mono hy) _ _ hv.2.2⟩
  rw [okL_snoc, hv.1, List.nil_append, h]; rfl
theorem valid_rm {x : Sch} {z : ByteArray} (hv : validX x = true) (h : rmF x.st x.rm z = 0) : validX ⟨x.st, x.rm ++ [z], x.wy⟩ = true := by
  simp only [validX, Bool.and_eq_true] at hv ⊢
  refine ⟨hv.1, ?_, hv.2.2⟩
  rw [okL_snoc, hv.2.1, List.nil_append, h]; rfl
theorem valid_wy {x : Sch} {z : Way} (hv : validX x = true) (h : wyF x.st x.wy z = 0) : validX ⟨x.st, x.rm, x.wy ++ [z]⟩ = true := by
  simp only [validX, Bool.and_eq_true] at hv ⊢
  refine ⟨hv.1, hv.2.1, ?_⟩
  rw [okL_snoc, hv.2.2, List.nil_append, h]; rfl
theorem pair_valid {x : Sch} {y : Way} (hv : validX x = true) : validX (pairF x y).1 = true := by
  unfold pairF
  split
  · rename_i h1
    split
    · rename_i h2
      exact valid_wy (valid_wy hv h1) h2
    · exact hv
  · exact hv
theorem row_valid {x : Sch} {ws : List ByteArray} (hv : validX x = true) : validX (rowF x ws).1 = true := by
  unfold rowF
  split
  · exact hv
  split
  · exact hv
  split
  · split
    · simp only
      split
      · rename_i h; exact valid_st hv h
      · exact hv
    · exact hv
  split
  · split
    · simp only
      split
      · rename_i h; exact valid_rm hv h
      · exact hv
    · exact hv
  split
  · split
    · split
      · exact hv
      · simp only
        split
        · rename_i h; exact valid_wy hv h
        · exact hv
    · exact hv
  split
  · split
    · split
      · exact hv
      · exact pair_valid hv
    · exact hv
  · exact hv
theorem rows_valid : ∀ (rs : List ByteArray) (x : Sch) (fs : List (Int × Int)) (i : Nat), validX x = true → validX (rowsF x fs i rs).1 = true := by
  intro rs
  induction rs with
  | nil => intro x fs i hv; exact hv
  | cons r rs ih => intro x fs i hv; exact ih _ _ _ (row_valid hv)
theorem readX_valid {t : ByteArray} : validX (readX t).1 = true := by
  unfold readX
  split
  · rfl
  · exact rows_valid _ _ _ _ rfl
theorem stF_in (ss : List ByteArray) (z : ByteArray) : 0 ≤ stF ss z ∧ stF ss z ≤ 8 := by unfold stF; repeat (first | split | omega)
theorem rmF_in (ss rs : List ByteArray) (z : ByteArray) : 0 ≤ rmF ss rs z ∧ rmF ss rs z ≤ 8 := by unfold rmF; repeat (first | split | omega)
theorem wyF_in (ss : List ByteArray) (ws : List Way) (x : Way) : 0 ≤ wyF ss ws x ∧ wyF ss ws x ≤ 8 := by unfold wyF; repeat (first | split | omega)
theorem row_in (x : Sch) (ws : List ByteArray) : 0 ≤ (rowF x ws).2 ∧ (rowF x ws).2 ≤ 8 := by
  unfold rowF
  split
  · simp
  split
  · simp
  split
  · split
    · exact stF_in _ _
    · simp
  split
  · split
    · exact rmF_in _ _ _
    · simp
  split
  · split
    · split
      · simp
      · exact wyF_in _ _ _
    · simp
  split
  · split
    · split
      · simp
      · unfold pairF
        split
        · split
          · simp
          · exact wyF_in _ _ _
        · exact wyF_in _ _ _
    · simp
  · simp
/-- faults: the rows rise, the kinds are those of faults -/
def FaultsOk (fs : List (Int × Int)) (i : Nat) : Prop := fs.length ≤ 20 ∧ (∀ f ∈ fs, 1 ≤ f.1 ∧ f.1 ≤ i ∧ 1 ≤ f.2 ∧ f.2 ≤ 8) ∧ fs.Pairwise (fun a b => a.1 < b.1)
theorem faults_add {fs : List (Int × Int)} {i : Nat} {q : Int} (h : FaultsOk fs i) (hq : 0 ≤ q ∧ q ≤ 8) : FaultsOk (addF fs i q) (i + 1) := by
  obtain ⟨h1, h2, h3⟩ := h
  unfold addF
  split
  · rename_i h4
    refine ⟨by simp; omega, fun f hf => ?_, ?_⟩
    · rcases List.mem_append.1 hf with hf | hf
      · have := h2 f hf; omega
      · obtain rfl := List.mem_singleton.1 hf
        simp only
        omega
    · rw [List.pairwise_append]
      refine ⟨h3, by simp, fun a ha b hb => ?_⟩
      obtain rfl := List.mem_singleton.1 hb
      have := h2 a ha
      simp only
      omega
  · exact ⟨h1, fun f hf => by have := h2 f hf; omega, h3⟩
theorem rows_faults : ∀ (rs : List ByteArray) (x : Sch) (fs : List (Int × Int)) (i : Nat), FaultsOk fs i → FaultsOk (rowsF x fs i rs).2 (i + rs.length) := by
  intro rs
  induction rs with
  | nil => intro x fs i h; exact h
  | cons r rs ih =>
    intro x fs i h
    have := ih (rowF x (wordsR r)).1 _ (i + 1) (faults_add h (row_in x (wordsR r)))
    rw [List.length_cons, show i + (rs.length + 1) = i + 1 + rs.length by omega]
    exact this
theorem rowsOf_len (t : ByteArray) : (rowsOf t).length ≤ t.size + 1 := by
  rw [rowsOf, List.length_map, spl_length]
  have h1 : List.count 10 t.data.toList ≤ t.data.toList.length := List.count_le_length
  have h2 : t.data.toList.length = t.size := by simp
  omega
theorem readX_faults (t : ByteArray) : FaultsOk (readX t).2.1 3001 := by
  unfold readX
  split
  · exact ⟨by simp, by simp, by simp⟩
  · rename_i h
    have h1 := rows_faults (rowsOf t) ⟨[], [], []⟩ [] 0 ⟨by simp, by simp, by simp⟩
    have h2 := rowsOf_len t
    obtain ⟨h3, h4, h5⟩ := h1
    exact ⟨h3, fun f hf => by have := h4 f hf; omega, h5⟩

/- a text is read back -/
theorem spl_words {b : UInt8} {ws : List (List UInt8)} (hne : ws ≠ []) (h : ∀ w ∈ ws, b ∉ w) : spl b (joinB b ws) = ws := spl_join hne h
theorem words_of {ws : List ByteArray} {row : ByteArray} (hne : ws ≠ []) (h : ∀ w ∈ ws, (32 : UInt8) ∉ w.data.toList ∧ w.data.toList ≠ []) (hr : row.data.toList = joinB 32 (ws.map fun w => w.data.toList)) : wordsR row = ws := by
  rw [wordsR, hr, spl_join (by simpa using hne) (fun w hw => by obtain ⟨z, hz, rfl⟩ := List.mem_map.1 hw; exact (h z hz).1)]
  rw [List.filter_eq_self.2 (fun w hw => by
    obtain ⟨z, hz, rfl⟩ := List.mem_map.1 hw
    have := (h z hz).2
    simpa using this)]
  rw [List.map_map]
  conv => rhs; rw [← List.map_id ws]
  exact List.map_congr_left fun z _ => mkB_of z
theorem name_bytes {z : ByteArray} (h : nameB z = true) : (∀ c ∈ z.data.toList, okC c = true) ∧ z.data.toList ≠ [] := by
  simp only [nameB, Bool.and_eq_true, decide_eq_true_eq] at h
  have h2 := h.2
  cases hl : z.data.toList with
  | nil => rw [hl] at h2; simp [nameL] at h2
  | cons c r =>
    rw [hl] at h2
    simp only [nameL, Bool.and_eq_true, List.all_eq_true] at h2
    refine ⟨fun q hq => ?_, by simp⟩
    rcases List.mem_cons.1 hq with rfl | hq
    · simp [okC, h2.1]
    · exact h2.2 q hq
theorem okC_not {c : UInt8} (h : okC c = true) : c ≠ 32 ∧ c ≠ 10 := by
  constructor
  · rintro rfl; revert h; decide
  · rintro rfl; revert h; decide
theorem name_clean {z : ByteArray} (h : nameB z = true) : (32 : UInt8) ∉ z.data.toList ∧ (10 : UInt8) ∉ z.data.toList ∧ z.data.toList ≠ [] := by
  obtain ⟨h1, h2⟩ := name_bytes h
  exact ⟨fun hm => (okC_not (h1 _ hm)).1 rfl, fun hm => (okC_not (h1 _ hm)).2 rfl, h2⟩
theorem app_bytes (a b : ByteArray) : (a ++ b).data.toList = a.data.toList ++ b.data.toList := by simp
theorem itoaB_bytes (n : Int) : (itoaB n).data.toList = itoa n := by simp [itoaB]
def lnST (z : ByteArray) : List UInt8 := kST.data.toList ++ 32 :: z.data.toList
def lnRM (z : ByteArray) : List UInt8 := kRM.data.toList ++ 32 :: z.data.toList
def lnWY (y : Way) : List UInt8 := kTB.data.toList ++ 32 :: (y.fr.data.toList ++ 32 :: (y.«to».data.toList ++ 32 :: itoa y.metres))
theorem stT_bytes (z : ByteArray) : (stT z).data.toList = lnST z ++ [10] := by simp [stT, lnST, kST]
theorem rmT_bytes (z : ByteArray) : (rmT z).data.toList = lnRM z ++ [10] := by simp [rmT, lnRM, kRM]
theorem wyT_bytes (y : Way) : (wyT y).data.toList = lnWY y ++ [10] := by simp [wyT, lnWY, kTB, itoaB_bytes]
theorem txtL_bytes {α : Type} {f : α → ByteArray} {g : α → List UInt8} (hfg : ∀ x, (f x).data.toList = g x ++ [10]) (s : ByteArray) (xs : List α) : ∀ k, k ≤ xs.length → (txtL f s xs k).data.toList = s.data.toList ++ ((xs.take k).map fun x => g x ++ [10]).flatten := by
  intro k
  induction k with
  | zero => intro _; simp [txtL]
  | succ k ih =>
    intro hk
    have hx : xs[k]? = some xs[k] := List.getElem?_eq_getElem (by omega)
    rw [txtL_succ hx, app_bytes, ih (by omega), List.take_add_one, hx]
    simp only [Option.toList_some, List.map_append, List.map_cons, List.map_nil, List.flatten_append, List.flatten_cons, List.flatten_nil, List.append_nil, hfg, List.append_assoc]
def linesX (x : Sch) : List (List UInt8) := x.st.map lnST ++ (x.rm.map lnRM ++ x.wy.map lnWY)
theorem joinN_snoc (b : UInt8) : ∀ (ws : List (List UInt8)), joinB b (ws ++ [[]]) = (ws.map fun w => w ++ [b]).flatten := by
  intro ws
  induction ws with
  | nil => rfl
  | cons w q ih =>
    rw [List.cons_append, joinB_cons b w (by simp), ih]
    simp
theorem schT_bytes (x : Sch) : (schT x).data.toList = joinB 10 (linesX x ++ [[]]) := by
  rw [joinN_snoc, schT, txtL_bytes wyT_bytes _ _ _ (Nat.le_refl _), txtL_bytes rmT_bytes _ _ _ (Nat.le_refl _), txtL_bytes stT_bytes _ _ _ (Nat.le_refl _)]
  simp [linesX, List.map_map, Function.comp_def]
theorem itoa_clean {n : Int} (h : 0 ≤ n) : (32 : UInt8) ∉ itoa n ∧ (10 : UInt8) ∉ itoa n ∧ itoa n ≠ [] := by
  refine ⟨fun hm => ?_, fun hm => ?_, ?_⟩
  · have := itoa_digits h _ hm; revert this; decide
  · have := itoa_digits h _ hm; revert this; decide
  · obtain ⟨c, r, e, _⟩ := itoa_head n; rw [e]; simp
theorem st_words {z : ByteArray} (h : nameB z = true) : wordsR (mkB (lnST z)) = [kST, z] := by
  obtain ⟨h1, h2, h3⟩ := name_clean h
  refine words_of (by simp) (fun w hw => ?_) (by rw [mkB_data]; rfl)
  simp only [List.mem_cons, List.not_mem_nil, or_false] at hw
  rcases hw with rfl | rfl
  · exact ⟨by decide, by decide⟩
  · exact ⟨h1, h3⟩
theorem rm_words {z : ByteArray} (h : nameB z = true) : wordsR (mkB (lnRM z)) = [kRM, z] := by
  obtain ⟨h1, h2, h3⟩ := name_clean h
  refine words_of (by simp) (fun w hw => ?_) (by rw [mkB_data]; rfl)
  simp only [List.mem_cons, List.not_mem_nil, or_false] at hw
  rcases hw with rfl | rfl
  · exact ⟨by decide, by decide⟩
  · exact ⟨h1, h3⟩
theorem wy_words {y : Way} (h1 : nameB y.fr = true) (h2 : nameB y.«to» = true) (h3 : 0 ≤ y.metres) : wordsR (mkB (lnWY y)) = [kTB, y.fr, y.«to», mkB (itoa y.metres)] := by
  obtain ⟨a1, a2, a3⟩ := name_clean h1
  obtain ⟨b1, b2, b3⟩ := name_clean h2
  obtain ⟨c1, c2, c3⟩ := itoa_clean h3
  refine words_of (by simp) (fun w hw => ?_) (by rw [mkB_data]; simp [joinB, mkB_data, lnWY])
  simp only [List.mem_cons, List.not_mem_nil, or_false] at hw
  rcases hw with rfl | rfl | rfl | rfl
  · exact ⟨by decide, by decide⟩
  · exact ⟨a1, a3⟩
  · exact ⟨b1, b3⟩
  · rw [mkB_data]; exact ⟨c1, c3⟩
theorem kST_dd : kST ≠ kDD := by decide
theorem kRM_dd : kRM ≠ kDD ∧ kRM ≠ kST := by decide
theorem kTB_dd : kTB ≠ kDD ∧ kTB ≠ kST ∧ kTB ≠ kRM := by decide
theorem kPR_dd : kPR ≠ kDD ∧ kPR ≠ kST ∧ kPR ≠ kRM ∧ kPR ≠ kTB := by decide
theorem row_st {x : Sch} {z : ByteArray} (h : stF x.st z = 0) : rowF x [kST, z] = (⟨x.st ++ [z], x.rm, x.wy⟩, 0) := by
  simp [rowF, bAt, kST_dd, h]
theorem row_rm {x : Sch} {z : ByteArray} (h : rmF x.st x.rm z = 0) : rowF x [kRM, z] = (⟨x.st, x.rm ++ [z], x.wy⟩, 0) := by
  simp [rowF, bAt, kRM_dd.1, kRM_dd.2, h]
theorem row_wy {x : Sch} {y : Way} (h : wyF x.st x.wy y = 0) (h0 : 0 ≤ y.metres) (h1 : y.metres < 1000000) : rowF x [kTB, y.fr, y.«to», mkB (itoa y.metres)] = (⟨x.st, x.rm, x.wy ++ [y]⟩, 0) := by
  have hr : rdN (itoa y.metres) = some y.metres := rdN_itoa h0 (by omega)
  have hy : (⟨y.fr, y.«to», y.metres⟩ : Way) = y := rfl
  simp [rowF, bAt, kTB_dd.1, kTB_dd.2.1, kTB_dd.2.2, mkB_data, hr, hy, h]
theorem rows_app : ∀ (a b : List ByteArray) (x y : Sch) (i : Nat), (∀ fs : List (Int × Int), fs = [] → rowsF x fs i a = (y, [])) → rowsF x [] i (a ++ b) = rowsF y [] (i + a.length) b := by
  intro a
  induction a with
  | nil =>
    intro b x y i h
    have := h [] rfl
    simp only [rowsF, Prod.mk.injEq] at this
    rw [this.1]; rfl
  | cons r rs ih =>
    intro b x y i h
    have h0 := h [] rfl
    rw [List.cons_append, rowsF]
    rw [rowsF] at h0
    have hf : addF [] i (rowF x (wordsR r)).2 = [] := by
      have key : ∀ (rs : List ByteArray) (x : Sch) (fs : List (Int × Int)) (i : Nat), fs ≠ [] → (rowsF x fs i rs).2 ≠ [] := by
        intro rs
        induction rs with
        | nil => intro x fs i h; exact h
        | cons r rs ih => intro x fs i h; exact ih _ _ _ (by unfold addF; split <;> simp [h])
      cases hq : addF [] i (rowF x (wordsR r)).2 with
      | nil => rfl
      | cons f q =>
        exfalso
        rw [hq] at h0
        have hk := key rs (rowF x (wordsR r)).1 (f :: q) (i + 1) (by simp)
        rw [h0] at hk
        exact hk rfl
    rw [hf] at h0 ⊢
    rw [ih b _ y (i + 1) (fun fs e => by subst e; exact h0), List.length_cons]
    congr 1
    omega
theorem rows_st : ∀ (zs : List ByteArray) (p rs : List ByteArray) (ws : List Way) (i : Nat), okL stF p zs = true → rowsF ⟨p, rs, ws⟩ [] i (zs.map fun z => mkB (lnST z)) = (⟨p ++ zs, rs, ws⟩, []) := by
  intro zs
  induction zs with
  | nil => intro p rs ws i _; simp [rowsF]
  | cons z r ih =>
    intro p rs ws i h
    simp only [okL, Bool.and_eq_true, decide_eq_true_eq] at h
    rw [List.map_cons, rowsF, st_words (stF_name h.1), row_st (x := ⟨p, rs, ws⟩) h.1]
    have := ih (p ++ [z]) rs ws (i + 1) h.2
    simp only [addF, ne_eq, not_true, false_and, if_false]
    rw [this]
    simp
theorem rows_rm {ss : List ByteArray} (hn : ∀ z ∈ ss, nameB z = true) : ∀ (zs p : List ByteArray) (ws : List Way) (i : Nat), okL (rmF ss) p zs = true → rowsF ⟨ss, p, ws⟩ [] i (zs.map fun z => mkB (lnRM z)) = (⟨ss, p ++ zs, ws⟩, []) := by
  intro zs
  induction zs with
  | nil => intro p ws i _; simp [rowsF]
  | cons z r ih =>
    intro p ws i h
    simp only [okL, Bool.and_eq_true, decide_eq_true_eq] at h
    have hz : nameB z = true := by
      have h1 := h.1
      unfold rmF at h1
      split at h1
      · rename_i h2; exact hn z (hasS_mem h2)
      · omega
    rw [List.map_cons, rowsF, rm_words hz, row_rm (x := ⟨ss, p, ws⟩) h.1]
    have := ih (p ++ [z]) ws (i + 1) h.2
    simp only [addF, ne_eq, not_true, false_and, if_false]
    rw [this]
    simp
theorem rows_wy {ss rs : List ByteArray} (hn : ∀ z ∈ ss, nameB z = true) : ∀ (zs p : List Way) (i : Nat), okL (wyF ss) p zs = true → rowsF ⟨ss, rs, p⟩ [] i (zs.map fun z => mkB (lnWY z)) = (⟨ss, rs, p ++ zs⟩, []) := by
  intro zs
  induction zs with
  | nil => intro p i _; simp [rowsF]
  | cons z r ih =>
    intro p i h
    simp only [okL, Bool.and_eq_true, decide_eq_true_eq] at h
    have h2 := wyF_zero h.1
    have hz : nameB z.fr = true ∧ nameB z.«to» = true := by
      have h1 := h.1
      unfold wyF at h1
      split at h1
      · rename_i h2
        split at h1
        · rename_i h3; exact ⟨hn _ (hasS_mem h2), hn _ (hasS_mem h3)⟩
        · omega
      · omega
    rw [List.map_cons, rowsF, wy_words hz.1 hz.2 (by omega), row_wy (x := ⟨ss, rs, p⟩) h.1 (by omega) (by omega)]
    have := ih (p ++ [z]) (i + 1) h.2
    simp only [addF, ne_eq, not_true, false_and, if_false]
    rw [this]
    simp
theorem lines_clean {x : Sch} (h : validX x = true) : ∀ l ∈ linesX x ++ [[]], (10 : UInt8) ∉ l := by
  intro l hl
  simp only [linesX, List.mem_append, List.mem_map, List.mem_singleton] at hl
  rcases hl with (⟨z, hz, rfl⟩ | ⟨z, hz, rfl⟩ | ⟨y, hy, rfl⟩) | rfl
  · have := (name_clean (validX_st h hz)).2.1
    simp only [lnST, List.mem_append, List.mem_cons, not_or]
    exact ⟨by decide, by decide, this⟩
  · have := (name_clean (validX_st h (validX_rm h hz))).2.1
    simp only [lnRM, List.mem_append, List.mem_cons, not_or]
    exact ⟨by decide, by decide, this⟩
  · obtain ⟨h1, h2⟩ := validX_wy h hy
    have a := (name_clean (validX_st h h1)).2.1
    have b := (name_clean (validX_st h h2)).2.1
    have c := (itoa_clean ((validX_short h).2.2 y hy).2.2.1).2.1
    simp only [lnWY, List.mem_append, List.mem_cons, not_or]
    exact ⟨by decide, by decide, a, by decide, b, by decide, c⟩
  · simp
/-- the text of a valid scheme is read back without faults -/
theorem readX_txt {x : Sch} (h : validX x = true) (hl : (schT x).size ≤ 3000) : readX (schT x) = (x, [], 0) := by
  have hs : spl 10 (schT x).data.toList = linesX x ++ [[]] := by rw [schT_bytes]; exact spl_join (by simp) (lines_clean h)
  have hv := h
  simp only [validX, Bool.and_eq_true] at hv
  have hn : ∀ z ∈ x.st, nameB z = true := fun z hz => validX_st h hz
  have e1 : rowsOf (schT x) = (x.st.map fun z => mkB (lnST z)) ++ ((x.rm.map fun z => mkB (lnRM z)) ++ ((x.wy.map fun z => mkB (lnWY z)) ++ [mkB []])) := by
    rw [rowsOf, hs]
    simp [linesX, List.map_map, Function.comp_def]
  have e2 : rowsF ⟨[], [], []⟩ [] 0 (rowsOf (schT x)) = (x, []) := by
    rw [e1, rows_app _ _ _ ⟨x.st, [], []⟩ _ (fun fs e => by subst e; simpa using rows_st x.st [] [] [] 0 hv.1)]
    rw [rows_app _ _ _ ⟨x.st, x.rm, []⟩ _ (fun fs e => by subst e; simpa using rows_rm hn x.rm [] [] _ hv.2.1)]
    rw [rows_app _ _ _ ⟨x.st, x.rm, x.wy⟩ _ (fun fs e => by subst e; simpa using rows_wy hn x.wy [] _ hv.2.2)]
    have hw : wordsR (mkB []) = [] := by simp [wordsR, mkB_data, spl]
    simp [rowsF, hw, rowF, addF]
  rw [readX, if_neg (by omega), e2]
end Go.Proofs.YtcgkcfmiabninaaGreatDoor
/-
  slices.Delete of one place of a row of numbers that the caller owns. No condition.
-/
namespace Go.Proofs.YtcgkcfmiabninaaGreatDoor
open Go.RowKit
set_option maxHeartbeats 400000

/-- some cells written from a place on -/
def setL {α : Type} (l : List α) : Nat → List α → List α
  | _, [] => l
  | o, v :: r => setL (l.set o v) (o + 1) r
theorem setL_len {α : Type} : ∀ (vs : List α) (l : List α) (o : Nat), (setL l o vs).length = l.length := by
  intro vs
  induction vs with
  | nil => intro l o; rfl
  | cons v r ih => intro l o; rw [setL, ih]; simp
theorem setL_eq {α : Type} : ∀ (vs : List α) (l : List α) (o : Nat), o + vs.length ≤ l.length → setL l o vs = l.take o ++ vs ++ l.drop (o + vs.length) := by
  intro vs
  induction vs with
  | nil => intro l o _; simp [setL]
  | cons v r ih =>
    intro l o h
    simp only [List.length_cons] at h
    rw [setL, ih _ _ (by simp; omega)]
    rw [List.take_set, List.drop_set, if_pos (by omega)]
    have h1 : (l.take (o + 1)).set o v = l.take o ++ [v] := by
      rw [List.take_add_one, List.getElem?_eq_getElem (by omega)]
      simp only [Option.toList_some]
      rw [List.set_append_right _ _ (by simp; omega)]
      have : o - (l.take o).length = 0 := by simp; omega
      rw [this]
      rfl
    rw [h1, show o + 1 + r.length = o + (r.length + 1) by omega]
    simp
theorem own_setCells {lo T k g n c : Nat} : ∀ (vs : List Value) (o : Nat) (w : World) (l : List Value), w.ownsRow lo T k (.slice (some ⟨g, 0, none⟩) n c) n l →
    (w.setCells g o vs).ownsRow lo T k (.slice (some ⟨g, 0, none⟩) n c) n (setL l o vs) ∧ w.grownBy (w.setCells g o vs) (some g) := by
  intro vs
  induction vs with
  | nil => intro o w l h; exact ⟨h, World.grownBy.refl _ _⟩
  | cons v r ih =>
    intro o w l h
    obtain ⟨h1, h2⟩ := h.stored o v
    obtain ⟨h3, h4⟩ := ih (o + 1) _ _ h1
    exact ⟨h3, h2.trans h4⟩
theorem own_shrink {w : World} {lo T k g n c m : Nat} {l : List Value} (h : w.ownsRow lo T k (.slice (some ⟨g, 0, none⟩) n c) n l) (hm : m ≤ n) : w.ownsRow lo T k (.slice (some ⟨g, 0, none⟩) m c) m (l.take (m * k)) := by
  have hmk : m * k ≤ n * k := Nat.mul_le_mul_right k hm
  refine ⟨by rw [List.length_take, h.1]; omega, ?_⟩
  rcases h.2 with ⟨h', _⟩ | ⟨g', cap', cur, h', hb, hg, hnc, hcm, hcs, htake⟩
  · simp at h'
  · simp only [Value.slice.injEq, Option.some.injEq, Addr.mk.injEq, and_true, true_and] at h'
    obtain ⟨rfl, rfl⟩ := h'
    refine .inr ⟨g, c, cur, rfl, hb, hg, by omega, hcm, hcs, ?_⟩
    rw [← htake, List.take_take]
    congr 1
    omega
theorem enc_map (xs : List Int) : xs.flatMap encI = xs.map (Value.int .i64) := by
  induction xs with
  | nil => rfl
  | cons x r ih => simp [encI, ih]
theorem del_list (xs : List Int) (i : Nat) (hi : i < xs.length) :
    (setL (setL (xs.flatMap encI) i ((xs.drop (i + 1)).flatMap encI)) (xs.length - 1) [.int .i64 0]).take ((xs.length - 1) * 1) = (xs.eraseIdx i).flatMap encI := by
  simp only [enc_map]
  have hl : (xs.map (Value.int .i64)).length = xs.length := by simp
  rw [setL_eq _ _ _ (by rw [setL_len]; simp; omega), setL_eq _ _ _ (by simp; omega)]
  have h1 : ((xs.map (Value.int .i64)).take i ++ (xs.drop (i + 1)).map (Value.int .i64)).length = xs.length - 1 := by simp; omega
  rw [Nat.mul_one, List.append_assoc, List.take_append_of_le_length (by simp; omega), List.take_of_length_le (by simp; omega), List.take_append_of_le_length (by rw [h1]; omega), List.take_of_length_le (by rw [h1]; omega), List.eraseIdx_eq_take_drop_succ]
  simp
end Go.Proofs.YtcgkcfmiabninaaGreatDoor
/-
  slices.Clone and slices.DeleteFunc over names. No condition.
-/
namespace Go.Proofs.YtcgkcfmiabninaaGreatDoor
open Go.RowKit
set_option maxHeartbeats 400000

theorem news_of_strs {w : World} {B b off n : Nat} {xs : List ByteArray} (hx : Sl w B 1 encS (some ⟨b, off, none⟩) n xs) : ∀ (j : Nat) (u : Value), (xs.flatMap encS)[j]? = some u → w.cell? ((⟨b, off, none⟩ : Addr).add j) = some u := by
  intro j u hj
  rw [Addr.add_lit]
  have hjl : j < xs.length := by have := (List.getElem?_eq_some_iff.1 hj).1; rwa [flatMap_len encS_len, Nat.mul_one] at this
  obtain ⟨b', off', e, _, hc⟩ := hx.2 j xs[j] (List.getElem?_eq_getElem hjl)
  injection e with e
  injection e with e1 e2
  subst e1 e2
  have := hc 0 _ rfl
  simp only [Nat.mul_one, Nat.add_zero] at this
  rw [this]
  have h2 := flatMap_get encS_len (j := 0) (u := .string xs[j]) xs j (List.getElem?_eq_getElem hjl) rfl
  rw [Nat.mul_one, Nat.add_zero, hj] at h2
  injection h2 with h2
  rw [h2]
theorem one_encS (xs : List ByteArray) : ∀ u ∈ xs.flatMap encS, u.oneCell' = true := by
  intro u hu
  obtain ⟨x, _, hx⟩ := List.mem_flatMap.1 hu
  simp [encS] at hx
  subst hx
  rfl
theorem IndexFunc_S (g : Nat) (caps : Array Value) (p : ByteArray → Bool) (eg : ∀ args w, (callFunc g args).run Tryz.prog w = .ok (.enter g args) w) (A : Option Addr) (n c : Nat) (xs : List ByteArray) (w : World) (B : Nat) (hB : B ≤ w.heap.size) (hn : n ≤ 140737488355328)
    (hx : Sl w B 1 encS A n xs) (hp : ∀ (W : World) (z : ByteArray), z ∈ xs → Below w.heap.size w W → Calls Tryz.prog g (#[.string z] ++ caps) W fun e w' => e = .returned (.bool (p z)) ∧ Below W.heap.size W w') :
    Calls Tryz.prog 94 #[.slice A n c, .func (.func g) #[] caps] w fun e w' => e = .returned (.int .i64 (findFrom p 0 xs)) ∧ Below w.heap.size w w' := by
  go_enter Tryz.func94, Tryz.ntmps94
  go_wp2
  go_loopw [5, 8] (fun _ i w1 => ∃ k : Nat, k ≤ n ∧ i = .int .i64 k ∧ Hid (findFrom p 0 xs = findFrom p k (xs.drop k)) ∧ Below w.heap.size w w1) (fun _ i _ => n - (intOf i).toNat)
  case atStart => exact ⟨0, Nat.zero_le _, rfl, hid rfl, Below.refl _ _⟩
  case round =>
    obtain ⟨k, hk, rfl, he, hb⟩ := hrel
    by_cases hlt : k < n
    · obtain ⟨z, b, off, Hx, rfl, hbB, c0⟩ := (hx.below (hb.mono hB)).str hlt
      have hcall := hp wr z (List.mem_of_getElem? Hx.out) hb
      have he2 := he.out
      rw [drop_at Hx.out, findFrom] at he2
      clear hp hx
      cases hq : p z with
      | true =>
        rw [hq] at hcall
        rw [hq, if_pos rfl] at he2
        have He2 := hid he2
        clear he2 hq
        go_wp2_with (go_at_fn g; refine hcall.mono ?_; rintro e w' ⟨rfl, hb'⟩)
        go_ret
        exact ⟨retI He2.out.symm, hb.trans (hb'.mono hb.size)⟩
      | false =>
        rw [hq] at hcall
        rw [hq, if_neg (by simp)] at he2
        have He2 := hid he2
        clear he2 hq
        go_wp2_with (go_at_fn g; refine hcall.mono ?_; rintro e w' ⟨rfl, hb'⟩)
        have hb2 := hb.trans (hb'.mono hb.size)
        go_roundw
        all_goals first | exact ⟨k + 1, by omega, by go_num, He2, hb2⟩ | exact ⟨⟨k + 1, by omega, by go_num, He2, hb2⟩, by simp [intOf]; omega⟩ | (simp [intOf]; omega)
    · have : k = n := by omega
      subst this
      have he2 := he.out
      rw [List.drop_of_length_le (by rw [hx.len]; omega), findFrom] at he2
      have He2 := hid he2
      clear he2
      go_wp2
      go_ret
      exact ⟨retI He2.out.symm, hb⟩
theorem findFrom_cases {α : Type} (p : α → Bool) : ∀ (l : List α) (i : Nat), (findFrom p i l = -1 ∧ ∀ x ∈ l, p x = false) ∨ ∃ (k : Nat) (x : α), findFrom p i l = ((i + k : Nat) : Int) ∧ l[k]? = some x ∧ p x = true ∧ ∀ y ∈ l.take k, p y = false := by
  intro l
  induction l with
  | nil => intro i; exact .inl ⟨rfl, by simp⟩
  | cons a r ih =>
    intro i
    cases ha : p a with
    | true => exact .inr ⟨0, a, by simp [findFrom, ha], by simp, ha, by simp⟩
    | false =>
      rcases ih (i + 1) with ⟨h1, h2⟩ | ⟨k, x, h1, h2, h3, h4⟩
      · exact .inl ⟨by simp [findFrom, ha, h1], by simp [ha]; exact h2⟩
      · refine .inr ⟨k + 1, x, ?_, by simpa using h2, h3, by simp [ha]; exact h4⟩
        simp only [findFrom, ha]
        rw [if_neg (by simp), h1]
        congr 1
        omega
/-- those that stay -/
def stay {α : Type} (p : α → Bool) (l : List α) : List α := l.filter fun z => !p z
theorem stay_all {α : Type} {p : α → Bool} {l : List α} (h : ∀ x ∈ l, p x = false) : stay p l = l := by
  unfold stay; rw [List.filter_eq_self]; intro x hx; simp [h x hx]
theorem stay_snoc {α : Type} {p : α → Bool} {xs : List α} {k : Nat} {x : α} (h : xs[k]? = some x) : stay p (xs.take (k + 1)) = if p x then stay p (xs.take k) else stay p (xs.take k) ++ [x] := by
  rw [take_at h, stay, List.filter_append]
  cases hp : p x <;> simp [hp, stay]
theorem stay_len {α : Type} (p : α → Bool) (l : List α) : (stay p l).length ≤ l.length := List.length_filter_le _ _
/-- a row on its way: what stays lies ahead, what is not yet looked at lies where it lay -/
structure Mid {α : Type} (enc : α → List Value) (kc : Nat) (p : α → Bool) (xs : List α) (m j : Nat) (l : List Value) : Prop where
  pre : Pre l ((stay p (xs.take j)).flatMap enc)
  num : (stay p (xs.take j)).length = m
  rest : ∀ i, j * kc ≤ i → l[i]? = (xs.flatMap enc)[i]?
theorem Mid.start {α : Type} {enc : α → List Value} {kc : Nat} {p : α → Bool} {xs : List α} {k : Nat} {x : α} (h : xs[k]? = some x) (hp : p x = true) (ha : ∀ y ∈ xs.take k, p y = false) : Mid enc kc p xs k (k + 1) (xs.flatMap enc) := by
  have hlt := (List.getElem?_eq_some_iff.1 h).1
  have e : stay p (xs.take (k + 1)) = xs.take k := by rw [stay_snoc h, if_pos hp, stay_all ha]
  refine ⟨?_, by rw [e, List.length_take]; omega, fun i _ => rfl⟩
  rw [e]
  intro j u hj
  have : xs.flatMap enc = (xs.take k).flatMap enc ++ (xs.drop k).flatMap enc := by rw [← List.flatMap_append, List.take_append_drop]
  rw [this, List.getElem?_append_left (List.getElem?_eq_some_iff.1 hj).1]
  exact hj
theorem Mid.skip {α : Type} {enc : α → List Value} {kc : Nat} {p : α → Bool} {xs : List α} {m j : Nat} {x : α} {l : List Value} (h : Mid enc kc p xs m j l) (hx : xs[j]? = some x) (hp : p x = true) : Mid enc kc p xs m (j + 1) l := by
  have e : stay p (xs.take (j + 1)) = stay p (xs.take j) := by rw [stay_snoc hx, if_pos hp]
  exact ⟨by rw [e]; exact h.pre, by rw [e]; exact h.num, fun i hi => h.rest i (by rw [Nat.succ_mul] at hi; omega)⟩
theorem Mid.done {α : Type} {enc : α → List Value} {kc : Nat} (hk : ∀ x, (enc x).length = kc) {p : α → Bool} {xs : List α} {m j : Nat} {l : List Value} (h : Mid enc kc p xs m j l) (hj : xs.length ≤ j) (hl : m * kc ≤ l.length) : l.take (m * kc) = (stay p xs).flatMap enc := by
  have hp := h.pre
  have hn := h.num
  rw [List.take_of_length_le hj] at hp hn
  have hlen : ((stay p xs).flatMap enc).length = m * kc := by rw [flatMap_len hk, hn]
  have h2 : Pre (l.take (m * kc)) ((stay p xs).flatMap enc) := fun i u hu => by
    have := (List.getElem?_eq_some_iff.1 hu).1
    rw [List.getElem?_take, if_pos (by omega)]
    exact hp i u hu
  exact h2.all (by rw [List.length_take, hlen]; omega)
theorem Mid.keepS {p : ByteArray → Bool} {xs : List ByteArray} {m j : Nat} {x : ByteArray} {l : List Value} (h : Mid encS 1 p xs m j l) (hx : xs[j]? = some x) (hp : p x = false) (hm : m < j) (hl : j < l.length) : Mid encS 1 p xs (m + 1) (j + 1) (l.set m (.string x)) := by
  have e : stay p (xs.take (j + 1)) = stay p (xs.take j) ++ [x] := by rw [stay_snoc hx, hp]; simp
  have hlen : ((stay p (xs.take j)).flatMap encS).length = m := by rw [flatMap_len encS_len, h.num, Nat.mul_one]
  refine ⟨?_, by rw [e]; simp [h.num], fun i hi => ?_⟩
  · rw [e, List.flatMap_append]
    have := h.pre.push (j := m) hlen.symm (by omega) (.string x)
    simpa [encS] using this
  · rw [List.getElem?_set_ne (by omega)]
    exact h.rest i (by omega)
set_option maxHeartbeats 4000000 in
set_option maxRecDepth 100000 in
theorem deleteS_some (g : Nat) (caps : Array Value) (p : ByteArray → Bool) (eg : ∀ args w, (callFunc g args).run Tryz.prog w = .ok (.enter g args) w) (lo gb n c : Nat) (xs : List ByteArray) (w : World) (hn : n ≤ 2000000) (hn0 : 0 < n) (ho : w.ownsRow lo 9 1 (.slice (some ⟨gb, 0, none⟩) n c) n (xs.flatMap encS))
    (hp : ∀ (W : World) (z : ByteArray), z ∈ xs → w.grownBy W (some gb) → Calls Tryz.prog g (#[.string z] ++ caps) W fun e w' => e = .returned (.bool (p z)) ∧ Below W.heap.size W w') :
    Calls Tryz.prog 81 #[.slice (some ⟨gb, 0, none⟩) n c, .func (.func g) #[] caps] w fun r w' => ∃ m, r = .returned (.slice (some ⟨gb, 0, none⟩) m c) ∧ w'.ownsRow lo 9 1 (.slice (some ⟨gb, 0, none⟩) m c) m ((stay p xs).flatMap encS) ∧ w.grownBy w' (some gb) := by
  have hl := own_len encS_len (by omega) ho
  have hix := IndexFunc_S g caps p eg (some ⟨gb, 0, none⟩) n c xs w w.heap.size (Nat.le_refl _) (by omega) (own_sl encS_len (by omega) ho) (fun W z hz hb => hp W z hz (Span0 hb _))
  obtain ⟨_, _, hfm, hnc0⟩ := own_form ho
  have hnc : n ≤ c := by injection hfm with _ _ h3; omega
  have hcm : c ≤ 9223372036854775807 := by
    rcases ho.2 with ⟨h', _⟩ | ⟨g', cap', cur, h', _, _, _, hcm, _⟩
    · simp at h'
    · injection h' with _ _ h3
      unfold maxLen at hcm
      omega
  clear hfm hnc0
  rcases findFrom_cases p xs 0 with ⟨hf, hall⟩ | ⟨k0, x0, hf, hx0, hp0, hall⟩
  · have ES : Hid (stay p xs = xs) := stay_all hall
    rw [hf] at hix
    clear hf hall hp hl
    go_enter Tryz.func81, Tryz.ntmps81
    go_wp2_with (go_at_call 94; refine hix.mono ?_; rintro r w1 ⟨rfl, b1⟩)
    go_ret
    exact ⟨n, rfl, by rw [ES.out]; exact own_below ho b1, Span0 b1 _⟩
  · rw [hf, Nat.zero_add] at hix
    have M0 := hid (Mid.start (enc := encS) (kc := 1) hx0 hp0 hall)
    have hk0 : k0 < n := by have := (List.getElem?_eq_some_iff.1 hx0).1; omega
    have hne : ((k0 : Int) == -1) = false := by simp
    have v3 : ∀ w, (zeroValue 9).run Tryz.prog w = .ok (.string ByteArray.empty) w := fun w => by kernel_rfl
    have HP := hid hp
    have HL := hid hl
    have HO := hid ho
    clear hf hall hp hl hx0 hp0 ho
    go_enter Tryz.func81, Tryz.ntmps81
    go_wp2_with (go_at_call 94; refine hix.mono ?_; rintro r w1 ⟨rfl, b1⟩)
    go_loopw [5, 6, 7] (fun i j _ wl => ∃ (m q : Nat) (l : List Value), i = .int .i64 m ∧ j = .int .i64 q ∧ m < q ∧ q ≤ n ∧ Hid (Mid encS 1 p xs m q l) ∧ Hid (wl.ownsRow lo 9 1 (.slice (some ⟨gb, 0, none⟩) n c) n l) ∧ w.grownBy wl (some gb)) (fun _ j _ _ => n - (intOf j).toNat)
    case atStart => exact ⟨k0, k0 + 1, _, rfl, by go_num, by omega, by omega, M0, own_below HO.out b1, Span0 b1 _⟩
    case round =>
      obtain ⟨m, q, l, rfl, rfl, hmq, hqn, hM, ho2, hgr⟩ := hrel
      have hlen : Hid (l.length = n) := by have := ho2.out.1; rw [Nat.mul_one] at this; exact this
      by_cases hlt : q < n
      · have hqx : q < xs.length := by rw [← HL.out]; exact hlt
        have hz := List.getElem?_eq_getElem hqx
        have hcell := ho2.out.cellAt q (by omega)
        rw [hM.out.rest q (by omega), show (xs.flatMap encS)[q]? = some (.string xs[q]) by
          have := flatMap_get encS_len (j := 0) (u := .string xs[q]) xs q hz rfl
          simpa using this] at hcell
        have hcall := HP.out wr xs[q] (List.getElem_mem hqx) hgr
        have hzz := hid hz
        generalize xs[q] = z at hcell hcall hzz
        clear hz
        have q0 : (0 : Int) ≤ (q : Int) := by omega
        have q1 : (q : Int) < (n : Int) := by omega
        cases hpz : p z with
        | true =>
          have M2 := hid (hM.out.skip hzz.out hpz)
          rw [hpz] at hcall
          clear hpz
          go_wp2_with (go_at_fn g; refine hcall.mono ?_; rintro r w2 ⟨rfl, b2⟩)
          have hg2 := hgr.trans (Span0 b2 _)
          have o3 := hid (own_below ho2.out b2)
          go_roundw
          all_goals first | exact ⟨m, q + 1, l, rfl, by go_num, by omega, by omega, M2, o3, hg2⟩ | exact ⟨⟨m, q + 1, l, rfl, by go_num, by omega, by omega, M2, o3, hg2⟩, by simp [intOf]; omega⟩ | (simp [intOf]; omega)
        | false =>
          have M2 := hid (hM.out.keepS hzz.out hpz hmq (by rw [hlen.out]; exact hlt))
          rw [hpz] at hcall
          clear hpz
          have m0 : (0 : Int) ≤ (m : Int) := by omega
          have m1 : (m : Int) < (n : Int) := by omega
          go_wp2_with (go_at_fn g; refine hcall.mono ?_; rintro r w2 ⟨rfl, b2⟩; have o3 := own_below ho2.out b2; obtain ⟨⟨u, e0⟩, f0⟩ := own_at o3 (Below.refl _ _) m (by omega); have o4 := o3.stored m (.string z))
          have hg2 := (hgr.trans (Span0 b2 _)).trans o4.2
          have o5 := hid o4.1
          go_roundw
          all_goals first | exact ⟨m + 1, q + 1, _, by go_num, by go_num, by omega, by omega, M2, o5, hg2⟩ | exact ⟨⟨m + 1, q + 1, _, by go_num, by go_num, by omega, by omega, M2, o5, hg2⟩, by simp [intOf]; omega⟩ | (simp [intOf]; omega)
      · have hqe : q = n := by omega
        subst hqe
        have hat : ∀ t, t < q → (wr.cell? ⟨gb, t, none⟩).isSome = true ∧ wr.frozen? ⟨gb, t, none⟩ = false := fun t ht => by
          obtain ⟨⟨u, hu⟩, hf⟩ := own_at ho2.out (Below.refl _ _) t (by omega)
          exact ⟨by rw [hu]; rfl, hf⟩
        have hcl : ∀ ty, (Builtin.clear_ #[22] ty #[.slice (some ⟨gb, m, none⟩) (q - m) (c - m)]).run Tryz.prog wr = .ok (.tuple #[]) (wr.setCells gb m (List.replicate (q - m) (.string ByteArray.empty))) := fun ty =>
          Lib.run_clear_slice (P := Tryz.prog) wr 22 9 ty _ Tryz.underlying22 v3 rfl rfl gb m (q - m) (c - m) (by omega) (fun t ht => (hat _ (by omega)).1) (fun t ht => (hat _ (by omega)).2)
        obtain ⟨o6, g6⟩ := own_setCells (List.replicate (q - m) (.string ByteArray.empty)) m wr l ho2.out
        have o7 := own_shrink (m := m) o6 (by omega)
        have e7 : (setL l m (List.replicate (q - m) (.string ByteArray.empty))).take (m * 1) = (stay p xs).flatMap encS := by
          rw [← hM.out.done encS_len (by rw [← HL.out]; exact Nat.le_refl _) (by rw [hlen.out]; omega), setL_eq _ _ _ (by rw [hlen.out, List.length_replicate]; omega), Nat.mul_one, List.append_assoc, List.take_append_of_le_length (by rw [List.length_take, hlen.out]; omega), List.take_take]
          simp
        rw [e7] at o7
        have O7 := hid o7
        have G7 := hid (hgr.trans g6)
        have hmc : ¬ c = m := by omega
        have m2 : (m : Int) ≤ (q : Int) := by omega
        have m3 : (m : Int) ≤ (c : Int) := by omega
        have m0 : (0 : Int) ≤ (m : Int) := by omega
        clear o6 g6 o7 e7 hat hM ho2
        go_wp2_with fail
        go_ret
        exact ⟨m, rfl, O7.out, G7.out⟩
theorem deleteS_any (g : Nat) (caps : Array Value) (p : ByteArray → Bool) (eg : ∀ args w, (callFunc g args).run Tryz.prog w = .ok (.enter g args) w) (lo : Nat) (A : Option Addr) (n c : Nat) (xs : List ByteArray) (w : World) (hn : n ≤ 2000000) (ho : w.ownsRow lo 9 1 (.slice A n c) n (xs.flatMap encS))
    (hp : ∀ (W : World) (z : ByteArray), z ∈ xs → w.grownBy W (Value.slice A n c).ownBlock → Calls Tryz.prog g (#[.string z] ++ caps) W fun e w' => e = .returned (.bool (p z)) ∧ Below W.heap.size W w') :
    Calls Tryz.prog 81 #[.slice A n c, .func (.func g) #[] caps] w fun r w' => ∃ m, r = .returned (.slice A m c) ∧ w'.ownsRow lo 9 1 (.slice A m c) m ((stay p xs).flatMap encS) ∧ w.grownBy w' (Value.slice A n c).ownBlock := by
  rcases Nat.eq_zero_or_pos n with h0 | h0
  · subst h0
    have hl := own_len encS_len (by omega) ho
    have hxs : xs = [] := List.eq_nil_of_length_eq_zero hl.symm
    subst hxs
    have hix := IndexFunc_S g caps p eg A 0 c [] w w.heap.size (Nat.le_refl _) (by omega) ⟨rfl, fun i x h => by simp at h⟩ (fun W z hz hb => by simp at hz)
    simp only [findFrom] at hix
    clear hp hl
    go_enter Tryz.func81, Tryz.ntmps81
    go_wp2_with (go_at_call 94; refine hix.mono ?_; rintro r w1 ⟨rfl, b1⟩)
    go_ret
    exact ⟨0, rfl, own_below ho b1, Span0 b1 _⟩
  · obtain ⟨gb, rfl, _, _⟩ := own_some ho h0
    exact deleteS_some g caps p eg lo gb n c xs w hn h0 ho hp
end Go.Proofs.YtcgkcfmiabninaaGreatDoor
