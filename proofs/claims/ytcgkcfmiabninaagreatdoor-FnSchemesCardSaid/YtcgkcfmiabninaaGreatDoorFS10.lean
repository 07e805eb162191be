/-
  FS: texts RSplit, RSchP, SAddG, one behind the other. No condition but what each says.
-/
import Derived.Test.YtcgkcfmiabninaaGreatDoorFS09
import Derived.Deep.Heap
/-
  A text cut at a byte: the reference's loop. No condition.
-/
namespace Go.Proofs.YtcgkcfmiabninaaGreatDoor
open Go.RowKit
set_option maxHeartbeats 400000

/-- the bytes of some texts -/
def bytesL (xs : List ByteArray) : List (List UInt8) := xs.map fun z => z.data.toList
theorem ext_data (s : ByteArray) (a b : Nat) : (s.extract a b).data.toList = (s.data.toList.drop a).take (b - a) := Lib.extract_data s a b
theorem ext_end (s : ByteArray) (a : Nat) : (s.extract a s.size).data.toList = s.data.toList.drop a := Lib.extract_to_end s a
theorem bs_get {s : ByteArray} {k : Nat} (h : k < s.size) : s.data.toList[k]? = some s[k] := by
  rw [List.getElem?_eq_getElem (by simpa using h)]; rfl
theorem bs_len (s : ByteArray) : s.data.toList.length = s.size := by simp
/-- a piece that ends at the byte -/
theorem spl_piece {s : ByteArray} {b : UInt8} {f k : Nat} (hfk : f ≤ k) (hk : k < s.size) (hb : s[k] = b) (hno : ∀ j, f ≤ j → j < k → s.data.toList[j]? ≠ some b) :
    spl b (s.data.toList.drop f) = (s.extract f k).data.toList :: spl b (s.data.toList.drop (k + 1)) := by
  have h1 : s.data.toList.drop f = (s.extract f k).data.toList ++ b :: s.data.toList.drop (k + 1) := by
    rw [ext_data]
    conv => lhs; rw [← List.take_append_drop (k - f) (s.data.toList.drop f)]
    rw [List.drop_drop, show f + (k - f) = k by omega, drop_at (bs_get hk), hb]
  have h2 : b ∉ (s.extract f k).data.toList := fun hm => by
    rw [ext_data] at hm
    obtain ⟨j, hj⟩ := List.mem_iff_getElem?.1 hm
    rw [List.getElem?_take] at hj
    split at hj
    · rw [List.getElem?_drop] at hj
      exact hno (f + j) (by omega) (by omega) hj
    · cases hj
  rw [h1, spl_cut _ h2]
theorem spl_last {s : ByteArray} {b : UInt8} {f : Nat} (hno : ∀ j, f ≤ j → j < s.size → s.data.toList[j]? ≠ some b) : spl b (s.data.toList.drop f) = [(s.extract f s.size).data.toList] := by
  have h2 : b ∉ s.data.toList.drop f := fun hm => by
    obtain ⟨j, hj⟩ := List.mem_iff_getElem?.1 hm
    rw [List.getElem?_drop] at hj
    have := (List.getElem?_eq_some_iff.1 hj).1
    rw [bs_len] at this
    exact hno (f + j) (by omega) (by omega) hj
  rw [spl_plain h2, ext_end]
theorem snocZ (l : List ByteArray) (x : ByteArray) : l.flatMap encS ++ [.string x] = (l ++ [x]).flatMap encS := by simp [encS]
theorem bytesL_snoc (l : List ByteArray) (x : ByteArray) : bytesL (l ++ [x]) = bytesL l ++ [x.data.toList] := by simp [bytesL]
/-- the parts of a text in a list of one's own -/
def PartsP (w : World) (ws : List (List UInt8)) (r : Ending) (w' : World) : Prop :=
  ∃ (g c : Nat) (xs : List ByteArray), r = .returned (.slice (some ⟨g, 0, none⟩) xs.length c) ∧ bytesL xs = ws ∧ w'.ownsRow w.heap.size 9 1 (.slice (some ⟨g, 0, none⟩) xs.length c) xs.length (xs.flatMap encS) ∧ Below w.heap.size w w'
set_option maxHeartbeats 4000000 in
set_option maxRecDepth 100000 in
theorem l01Split_any (s : ByteArray) (b : UInt8) (w : World) (hs : s.size ≤ 1048576) :
    Calls Tryz.prog 27 #[.string s, .int .u8 (b.toNat : Int)] w (PartsP w (spl b s.data.toList)) := by
  obtain ⟨i0, hi, hz0, hz1, hz2⟩ := info_parts str_info
  have o0 := World.ownsRow_lit (base := w.heap.size) (e := 9) (size := 1) w #[] 0 (Nat.le_refl _) (by simp [maxLen]) (by simp)
  have O0 := hid o0
  clear o0
  go_enter Tryz.func27, Tryz.ntmps27
  go_wp2_with fail
  go_loopw [5, 6, 7] (fun vo vf vi wl => ∃ (g c f k : Nat) (xs : List ByteArray), k ≤ s.size ∧ f ≤ k ∧ xs.length ≤ k ∧ vo = .slice (some ⟨g, 0, none⟩) xs.length c ∧ vf = .int .i64 (f : Nat) ∧ vi = .int .i64 (k : Nat) ∧ Hid (spl b s.data.toList = bytesL xs ++ spl b (s.data.toList.drop f)) ∧ Hid (∀ j, f ≤ j → j < k → s.data.toList[j]? ≠ some b) ∧ Hid (wl.ownsRow w.heap.size 9 1 (.slice (some ⟨g, 0, none⟩) xs.length c) xs.length (xs.flatMap encS)) ∧ Below w.heap.size w wl) (fun _ _ i _ => s.size - (intOf i).toNat)
  case atStart => exact ⟨_, _, 0, 0, [], by omega, by omega, by simp, rfl, rfl, rfl, hid (by simp [bytesL]), hid (fun j h1 h2 => by omega), O0, (Below.refl _ _).alloc (Nat.le_refl _) _⟩
  case round =>
    clear O0
    obtain ⟨g, c, f, k, xs, hk, hfk, hxk, rfl, rfl, rfl, hE, hN, hO, hb⟩ := hrel
    have hbs := hb.size
    have hlo := hO.out.lt
    by_cases hlt : k < s.size
    · by_cases hc : s[k] = b
      · have e1 : (((s[k].toNat : Nat) : Int) == ((b.toNat : Nat) : Int)) = true := by rw [hc]; simp
        have E2 : Hid (spl b s.data.toList = bytesL (xs ++ [s.extract f k]) ++ spl b (s.data.toList.drop (k + 1))) := by
          rw [Hid, hE.out, spl_piece hfk hlt hc hN.out, bytesL_snoc]; simp
        have N2 : Hid (∀ j, k + 1 ≤ j → j < k + 1 → s.data.toList[j]? ≠ some b) := fun j h1 h2 => by omega
        have hlen : (xs ++ [s.extract f k]).length = xs.length + 1 := by simp
        have HL := hid hlen
        have f1 : (f : Int) ≤ (k : Int) := by omega
        have f2 : (k : Int) ≤ (s.size : Int) := by omega
        clear hE hN hc hlen
        go_wp2_with (at_builtin; refine wpList_append_lies _ rfl _ _ 22 rfl w.heap.size 9 i0 (.string ByteArray.empty) 1 16 Tryz.underlying22 hi hz0 hz1 hz2 rfl (by omega) (.slice (some ⟨g, 0, none⟩) xs.length c) xs.length (xs.flatMap encS) rfl (hO.out.alloc _) ⟨wr.heap.size, 0, none⟩ 1 1 [.string (s.extract f k)] rfl rfl (World.news_of_block (cs := #[.string (s.extract f k)]) (t := 9) (fr := (0, 0)) (heap_alloc_new _ _)) (by simp [Value.oneCell']) (by omega) (by simp only [maxLen]; omega) (by omega) (by simp; omega) (wr.heap.size + 1) (by simp) ?_; intro gg cap w3 ho3 hg3 hat3 hlt3)
        rw [snocZ] at ho3
        have O3 : Hid (w3.ownsRow w.heap.size 9 1 (.slice (some ⟨gg, 0, none⟩) (xs ++ [s.extract f k]).length cap) (xs ++ [s.extract f k]).length ((xs ++ [s.extract f k]).flatMap encS)) := by rw [HL.out]; exact hid ho3
        have b3 : Below w.heap.size w w3 := (hb.alloc hbs _).grown hg3 (by simp; omega) (fun q hq => (hlo q hq).1)
        clear hO ho3 hg3 hat3 hlo hlt3
        go_roundw
        all_goals first | exact ⟨_, _, k + 1, k + 1, xs ++ [s.extract f k], by omega, by omega, by rw [HL.out]; omega, by rw [HL.out], by go_num, by go_num, E2, N2, O3, b3⟩ | exact ⟨⟨_, _, k + 1, k + 1, xs ++ [s.extract f k], by omega, by omega, by rw [HL.out]; omega, by rw [HL.out], by go_num, by go_num, E2, N2, O3, b3⟩, by simp [intOf]; omega⟩ | (simp [intOf]; omega)
      · have e1 : (((s[k].toNat : Nat) : Int) == ((b.toNat : Nat) : Int)) = false := by
          rw [beq_eq_false_iff_ne]
          intro e
          exact hc (UInt8.toNat_inj.1 (by omega))
        have N2 : Hid (∀ j, f ≤ j → j < k + 1 → s.data.toList[j]? ≠ some b) := fun j h1 h2 => by
          rcases Nat.lt_or_ge j k with h3 | h3
          · exact hN.out j h1 h3
          · obtain rfl : j = k := by omega
            rw [bs_get hlt]
            exact fun e => hc (Option.some.inj e)
        clear hc hN
        go_wp2_with fail
        go_roundw
        all_goals first | exact ⟨_, _, f, k + 1, xs, by omega, by omega, by omega, rfl, rfl, by go_num, hE, N2, hO, hb⟩ | exact ⟨⟨_, _, f, k + 1, xs, by omega, by omega, by omega, rfl, rfl, by go_num, hE, N2, hO, hb⟩, by simp [intOf]; omega⟩ | (simp [intOf]; omega)
    · obtain rfl : k = s.size := by omega
      have E2 : Hid (spl b s.data.toList = bytesL (xs ++ [s.extract f s.size])) := by
        rw [Hid, hE.out, spl_last hN.out, bytesL_snoc]
      have hlen : (xs ++ [s.extract f s.size]).length = xs.length + 1 := by simp
      have HL := hid hlen
      have f1 : (f : Int) ≤ (s.size : Int) := by omega
      clear hE hN hlen
      go_wp2_with (at_builtin; refine wpList_append_lies _ rfl _ _ 22 rfl w.heap.size 9 i0 (.string ByteArray.empty) 1 16 Tryz.underlying22 hi hz0 hz1 hz2 rfl (by omega) (.slice (some ⟨g, 0, none⟩) xs.length c) xs.length (xs.flatMap encS) rfl (hO.out.alloc _) ⟨wr.heap.size, 0, none⟩ 1 1 [.string (s.extract f s.size)] rfl rfl (World.news_of_block (cs := #[.string (s.extract f s.size)]) (t := 9) (fr := (0, 0)) (heap_alloc_new _ _)) (by simp [Value.oneCell']) (by omega) (by simp only [maxLen]; omega) (by omega) (by simp; omega) (wr.heap.size + 1) (by simp) ?_; intro gg cap w3 ho3 hg3 hat3 hlt3)
      rw [snocZ] at ho3
      have O3 : Hid (w3.ownsRow w.heap.size 9 1 (.slice (some ⟨gg, 0, none⟩) (xs ++ [s.extract f s.size]).length cap) (xs ++ [s.extract f s.size]).length ((xs ++ [s.extract f s.size]).flatMap encS)) := by rw [HL.out]; exact hid ho3
      have b3 : Below w.heap.size w w3 := (hb.alloc hbs _).grown hg3 (by simp; omega) (fun q hq => (hlo q hq).1)
      clear hO ho3 hg3 hat3 hlo hlt3
      go_wp2_with fail
      go_ret
      exact ⟨gg, cap, xs ++ [s.extract f s.size], (by rw [HL.out]; rfl), E2.out.symm, O3.out, b3⟩
end Go.Proofs.YtcgkcfmiabninaaGreatDoor
/-
  Schemes read from texts: what a row adds; what is read is valid; a text is read back. No condition.
-/
namespace Go.Proofs.YtcgkcfmiabninaaGreatDoor
open Go.Lib

def mkB (l : List UInt8) : ByteArray := ⟨l.toArray⟩
theorem mkB_data (l : List UInt8) : (mkB l).data.toList = l := by simp [mkB]
theorem mkB_of (z : ByteArray) : mkB z.data.toList = z := by cases z; simp [mkB]
theorem mkB_inj {a b : List UInt8} (h : mkB a = mkB b) : a = b := by rw [← mkB_data a, h, mkB_data]
theorem data_inj {x y : ByteArray} (h : x.data.toList = y.data.toList) : x = y := by rw [← mkB_of x, h, mkB_of]
def kST : ByteArray := ⟨#[115, 116, 97, 116, 105, 111, 110]⟩
def kRM : ByteArray := ⟨#[114, 111, 111, 109]⟩
def kTB : ByteArray := ⟨#[116, 117, 98, 101]⟩
def kPR : ByteArray := ⟨#[112, 97, 105, 114]⟩
def kDD : ByteArray := ⟨#[45, 45]⟩
/-- the words of a row -/
def wordsR (row : ByteArray) : List ByteArray := ((spl 32 row.data.toList).filter fun w => !w.isEmpty).map mkB
def bAt (ws : List ByteArray) (i : Nat) : ByteArray := ws[i]?.getD ByteArray.empty
/-- a way there and one back, or none -/
def pairF (x : Sch) (y : Way) : Sch × Int :=
  if wyF x.st x.wy y = 0 then
    if wyF x.st (x.wy ++ [y]) ⟨y.«to», y.fr, y.metres⟩ = 0 then (⟨x.st, x.rm, x.wy ++ [y] ++ [⟨y.«to», y.fr, y.metres⟩]⟩, 0)
    else (x, wyF x.st (x.wy ++ [y]) ⟨y.«to», y.fr, y.metres⟩)
  else (x, wyF x.st x.wy y)
/-- what a row adds, and its fault -/
def rowF (x : Sch) (ws : List ByteArray) : Sch × Int :=
  if ws.length = 0 then (x, 0) else
  if bAt ws 0 = kDD then (x, 0) else
  if bAt ws 0 = kST then (if ws.length = 2 then (if stF x.st (bAt ws 1) = 0 then ⟨x.st ++ [bAt ws 1], x.rm, x.wy⟩ else x, stF x.st (bAt ws 1)) else (x, 2)) else
  if bAt ws 0 = kRM then (if ws.length = 2 then (if rmF x.st x.rm (bAt ws 1) = 0 then ⟨x.st, x.rm ++ [bAt ws 1], x.wy⟩ else x, rmF x.st x.rm (bAt ws 1)) else (x, 2)) else
  if bAt ws 0 = kTB then (if ws.length = 4 then match rdN (bAt ws 3).data.toList with
    | none => (x, 4)
    | some n => (if wyF x.st x.wy ⟨bAt ws 1, bAt ws 2, n⟩ = 0 then ⟨x.st, x.rm, x.wy ++ [⟨bAt ws 1, bAt ws 2, n⟩]⟩ else x, wyF x.st x.wy ⟨bAt ws 1, bAt ws 2, n⟩) else (x, 2)) else
  if bAt ws 0 = kPR then (if ws.length = 4 then match rdN (bAt ws 3).data.toList with
    | none => (x, 4)
    | some n => pairF x ⟨bAt ws 1, bAt ws 2, n⟩ else (x, 2)) else (x, 1)
/-- the faults of some rows, from row i on, at most 20 -/
def addF (fs : List (Int × Int)) (i : Nat) (q : Int) : List (Int × Int) := if q ≠ 0 ∧ fs.length < 20 then fs ++ [((i : Int) + 1, q)] else fs
def rowsF (x : Sch) (fs : List (Int × Int)) (i : Nat) : List ByteArray → Sch × List (Int × Int)
  | [] => (x, fs)
  | r :: rs => rowsF (rowF x (wordsR r)).1 (addF fs i (rowF x (wordsR r)).2) (i + 1) rs
def rowsOf (t : ByteArray) : List ByteArray := (spl 10 t.data.toList).map mkB
def readX (t : ByteArray) : Sch × List (Int × Int) × Int :=
  if 3000 < t.size then (⟨[], [], []⟩, [], 2) else ((rowsF ⟨[], [], []⟩ [] 0 (rowsOf t)).1, (rowsF ⟨[], [], []⟩ [] 0 (rowsOf t)).2, 0)

/- what is read is valid -/
theorem okL_snoc {α : Type} {f : List α → α → Int} : ∀ (xs p : List α) (z : α), okL f p (xs ++ [z]) = (okL f p xs && decide (f (p ++ xs) z = 0)) := by
  intro xs
  induction xs with
  | nil => intro p z; simp [okL]
  | cons x r ih =>
    intro p z
    rw [List.cons_append, okL, okL, ih]
    simp [Bool.and_assoc]
theorem okL_mono {α : Type} {f g : List α → α → Int} (h : ∀ p x, f p x = 0 → g p x = 0) : ∀ (xs p : List α), okL f p xs = true → okL g p xs = true := by
  intro xs
  induction xs with
  | nil => intro p _; rfl
  | cons x r ih =>
    intro p hp
    simp only [okL, Bool.and_eq_true, decide_eq_true_eq] at hp ⊢
    exact ⟨h _ _ hp.1, ih _ hp.2⟩
theorem hasS_app {l : List ByteArray} {z y : ByteArray} (h : hasS l z = true) : hasS (l ++ [y]) z = true := by simp only [hasS, List.any_append, Bool.or_eq_true] at h ⊢; exact .inl h
theorem rm_mono {ss rs : List ByteArray} {y z : ByteArray} (h : rmF ss rs z = 0) : rmF (ss ++ [y]) rs z = 0 := by
  unfold rmF at h ⊢
  split at h
  · rename_i h1
    rw [hasS_app h1, if_pos rfl]
    exact h
  · omega
theorem wy_mono {ss : List ByteArray} {ws : List Way} {y : ByteArray} {x : Way} (h : wyF ss ws x = 0) : wyF (ss ++ [y]) ws x = 0 := by
  unfold wyF at h ⊢
  split at h
  · rename_i h1
    rw [hasS_app h1, if_pos rfl]
    split at h
    · rename_i h2
      rw [hasS_app h2, if_pos rfl]
      exact h
    · omega
  · omega
theorem valid_st {x : Sch} {z : ByteArray} (hv : validX x = true) (h : stF x.st z = 0) : validX ⟨x.st ++ [z], x.rm, x.wy⟩ = true := by
  simp only [validX, Bool.and_eq_true] at hv ⊢
  refine ⟨?_, okL_mono (fun p y hy => rm_mono hy) _ _ hv.2.1, okL_mono (fun p y hy => wy_mono hy) _ _ hv.2.2⟩
  rw [okL_snoc, hv.1, List.nil_append, h]; rfl
theorem valid_rm {x : Sch} {z : ByteArray} (hv : validX x = true) (h : rmF x.st x.rm z = 0) : validX ⟨x.st, x.rm ++ [z], x.wy⟩ = true := by
  simp only [validX, Bool.and_eq_true] at hv ⊢
  refine ⟨hv.1, ?_, hv.2.2⟩
  rw [okL_snoc, hv.2.1, List.nil_append, h]; rfl
theorem valid_wy {x : Sch} {z : Way} (hv : validX x = true) (h : wyF x.st x.wy z = 0) : validX ⟨x.st, x.rm, x.wy ++ [z]⟩ = true := by
  simp only [validX, Bool.and_eq_true] at hv ⊢
  refine ⟨hv.1, hv.2.1, ?_⟩
  rw [okL_snoc, hv.2.2, List.nil_append, h]; rfl
theorem pair_valid {x : Sch} {y : Way} (hv : validX x = true) : validX (pairF x y).1 = true := by
  unfold pairF
  split
  · rename_i h1
    split
    · rename_i h2
      exact valid_wy (valid_wy hv h1) h2
    · exact hv
  · exact hv
theorem row_valid {x : Sch} {ws : List ByteArray} (hv : validX x = true) : validX (rowF x ws).1 = true := by
  unfold rowF
  split
  · exact hv
  split
  · exact hv
  split
  · split
    · simp only
      split
      · rename_i h; exact valid_st hv h
      · exact hv
    · exact hv
  split
  · split
    · simp only
      split
      · rename_i h; exact valid_rm hv h
      · exact hv
    · exact hv
  split
  · split
    · split
      · exact hv
      · simp only
        split
        · rename_i h; exact valid_wy hv h
        · exact hv
    · exact hv
  split
  · split
    · split
      · exact hv
      · exact pair_valid hv
    · exact hv
  · exact hv
theorem rows_valid : ∀ (rs : List ByteArray) (x : Sch) (fs : List (Int × Int)) (i : Nat), validX x = true → validX (rowsF x fs i rs).1 = true := by
  intro rs
  induction rs with
  | nil => intro x fs i hv; exact hv
  | cons r rs ih => intro x fs i hv; exact ih _ _ _ (row_valid hv)
theorem readX_valid {t : ByteArray} : validX (readX t).1 = true := by
  unfold readX
  split
  · rfl
  · exact rows_valid _ _ _ _ rfl
theorem stF_in (ss : List ByteArray) (z : ByteArray) : 0 ≤ stF ss z ∧ stF ss z ≤ 8 := by unfold stF; repeat (first | split | omega)
theorem rmF_in (ss rs : List ByteArray) (z : ByteArray) : 0 ≤ rmF ss rs z ∧ rmF ss rs z ≤ 8 := by unfold rmF; repeat (first | split | omega)
theorem wyF_in (ss : List ByteArray) (ws : List Way) (x : Way) : 0 ≤ wyF ss ws x ∧ wyF ss ws x ≤ 8 := by unfold wyF; repeat (first | split | omega)
theorem row_in (x : Sch) (ws : List ByteArray) : 0 ≤ (rowF x ws).2 ∧ (rowF x ws).2 ≤ 8 := by
  unfold rowF
  split
  · simp
  split
  · simp
  split
  · split
    · exact stF_in _ _
    · simp
  split
  · split
    · exact rmF_in _ _ _
    · simp
  split
  · split
    · split
      · simp
      · exact wyF_in _ _ _
    · simp
  split
  · split
    · split
      · simp
      · unfold pairF
        split
        · split
          · simp
          · exact wyF_in _ _ _
        · exact wyF_in _ _ _
    · simp
  · simp
/-- faults: the rows rise, the kinds are those of faults -/
def FaultsOk (fs : List (Int × Int)) (i : Nat) : Prop := fs.length ≤ 20 ∧ (∀ f ∈ fs, 1 ≤ f.1 ∧ f.1 ≤ i ∧ 1 ≤ f.2 ∧ f.2 ≤ 8) ∧ fs.Pairwise (fun a b => a.1 < b.1)
theorem faults_add {fs : List (Int × Int)} {i : Nat} {q : Int} (h : FaultsOk fs i) (hq : 0 ≤ q ∧ q ≤ 8) : FaultsOk (addF fs i q) (i + 1) := by
  obtain ⟨h1, h2, h3⟩ := h
  unfold addF
  split
  · rename_i h4
    refine ⟨by simp; omega, fun f hf => ?_, ?_⟩
    · rcases List.mem_append.1 hf with hf | hf
      · have := h2 f hf; omega
      · obtain rfl := List.mem_singleton.1 hf
        simp only
        omega
    · rw [List.pairwise_append]
      refine ⟨h3, by simp, fun a ha b hb => ?_⟩
      obtain rfl := List.mem_singleton.1 hb
      have := h2 a ha
      simp only
      omega
  · exact ⟨h1, fun f hf => by have := h2 f hf; omega, h3⟩
theorem rows_faults : ∀ (rs : List ByteArray) (x : Sch) (fs : List (Int × Int)) (i : Nat), FaultsOk fs i → FaultsOk (rowsF x fs i rs).2 (i + rs.length) := by
  intro rs
  induction rs with
  | nil => intro x fs i h; exact h
  | cons r rs ih =>
    intro x fs i h
    have := ih (rowF x (wordsR r)).1 _ (i + 1) (faults_add h (row_in x (wordsR r)))
    rw [List.length_cons, show i + (rs.length + 1) = i + 1 + rs.length by omega]
    exact this
theorem rowsOf_len (t : ByteArray) : (rowsOf t).length ≤ t.size + 1 := by
  rw [rowsOf, List.length_map, spl_length]
  have h1 : List.count 10 t.data.toList ≤ t.data.toList.length := List.count_le_length
  have h2 : t.data.toList.length = t.size := by simp
  omega
theorem readX_faults (t : ByteArray) : FaultsOk (readX t).2.1 3001 := by
  unfold readX
  split
  · exact ⟨by simp, by simp, by simp⟩
  · rename_i h
    have h1 := rows_faults (rowsOf t) ⟨[], [], []⟩ [] 0 ⟨by simp, by simp, by simp⟩
    have h2 := rowsOf_len t
    obtain ⟨h3, h4, h5⟩ := h1
    exact ⟨h3, fun f hf => by have := h4 f hf; omega, h5⟩

/- a text is read back -/
theorem spl_words {b : UInt8} {ws : List (List UInt8)} (hne : ws ≠ []) (h : ∀ w ∈ ws, b ∉ w) : spl b (joinB b ws) = ws := spl_join hne h
theorem words_of {ws : List ByteArray} {row : ByteArray} (hne : ws ≠ []) (h : ∀ w ∈ ws, (32 : UInt8) ∉ w.data.toList ∧ w.data.toList ≠ []) (hr : row.data.toList = joinB 32 (ws.map fun w => w.data.toList)) : wordsR row = ws := by
  rw [wordsR, hr, spl_join (by simpa using hne) (fun w hw => by obtain ⟨z, hz, rfl⟩ := List.mem_map.1 hw; exact (h z hz).1)]
  rw [List.filter_eq_self.2 (fun w hw => by
    obtain ⟨z, hz, rfl⟩ := List.mem_map.1 hw
    have := (h z hz).2
    simpa using this)]
  rw [List.map_map]
  conv => rhs; rw [← List.map_id ws]
  exact List.map_congr_left fun z _ => mkB_of z
theorem name_bytes {z : ByteArray} (h : nameB z = true) : (∀ c ∈ z.data.toList, okC c = true) ∧ z.data.toList ≠ [] := by
  simp only [nameB, Bool.and_eq_true, decide_eq_true_eq] at h
  have h2 := h.2
  cases hl : z.data.toList with
  | nil => rw [hl] at h2; simp [nameL] at h2
  | cons c r =>
    rw [hl] at h2
    simp only [nameL, Bool.and_eq_true, List.all_eq_true] at h2
    refine ⟨fun q hq => ?_, by simp⟩
    rcases List.mem_cons.1 hq with rfl | hq
    · simp [okC, h2.1]
    · exact h2.2 q hq
theorem okC_not {c : UInt8} (h : okC c = true) : c ≠ 32 ∧ c ≠ 10 := by
  constructor
  · rintro rfl; revert h; decide
  · rintro rfl; revert h; decide
theorem name_clean {z : ByteArray} (h : nameB z = true) : (32 : UInt8) ∉ z.data.toList ∧ (10 : UInt8) ∉ z.data.toList ∧ z.data.toList ≠ [] := by
  obtain ⟨h1, h2⟩ := name_bytes h
  exact ⟨fun hm => (okC_not (h1 _ hm)).1 rfl, fun hm => (okC_not (h1 _ hm)).2 rfl, h2⟩
theorem app_bytes (a b : ByteArray) : (a ++ b).data.toList = a.data.toList ++ b.data.toList := by simp
theorem itoaB_bytes (n : Int) : (itoaB n).data.toList = itoa n := by simp [itoaB]
def lnST (z : ByteArray) : List UInt8 := kST.data.toList ++ 32 :: z.data.toList
def lnRM (z : ByteArray) : List UInt8 := kRM.data.toList ++ 32 :: z.data.toList
def lnWY (y : Way) : List UInt8 := kTB.data.toList ++ 32 :: (y.fr.data.toList ++ 32 :: (y.«to».data.toList ++ 32 :: itoa y.metres))
theorem stT_bytes (z : ByteArray) : (stT z).data.toList = lnST z ++ [10] := by simp [stT, lnST, kST]
theorem rmT_bytes (z : ByteArray) : (rmT z).data.toList = lnRM z ++ [10] := by simp [rmT, lnRM, kRM]
theorem wyT_bytes (y : Way) : (wyT y).data.toList = lnWY y ++ [10] := by simp [wyT, lnWY, kTB, itoaB_bytes]
theorem txtL_bytes {α : Type} {f : α → ByteArray} {g : α → List UInt8} (hfg : ∀ x, (f x).data.toList = g x ++ [10]) (s : ByteArray) (xs : List α) : ∀ k, k ≤ xs.length → (txtL f s xs k).data.toList = s.data.toList ++ ((xs.take k).map fun x => g x ++ [10]).flatten := by
  intro k
  induction k with
  | zero => intro _; simp [txtL]
  | succ k ih =>
    intro hk
    have hx : xs[k]? = some xs[k] := List.getElem?_eq_getElem (by omega)
    rw [txtL_succ hx, app_bytes, ih (by omega), List.take_add_one, hx]
    simp only [Option.toList_some, List.map_append, List.map_cons, List.map_nil, List.flatten_append, List.flatten_cons, List.flatten_nil, List.append_nil, hfg, List.append_assoc]
def linesX (x : Sch) : List (List UInt8) := x.st.map lnST ++ (x.rm.map lnRM ++ x.wy.map lnWY)
theorem joinN_snoc (b : UInt8) : ∀ (ws : List (List UInt8)), joinB b (ws ++ [[]]) = (ws.map fun w => w ++ [b]).flatten := by
  intro ws
  induction ws with
  | nil => rfl
  | cons w q ih =>
    rw [List.cons_append, joinB_cons b w (by simp), ih]
    simp
theorem schT_bytes (x : Sch) : (schT x).data.toList = joinB 10 (linesX x ++ [[]]) := by
  rw [joinN_snoc, schT, txtL_bytes wyT_bytes _ _ _ (Nat.le_refl _), txtL_bytes rmT_bytes _ _ _ (Nat.le_refl _), txtL_bytes stT_bytes _ _ _ (Nat.le_refl _)]
  simp [linesX, List.map_map, Function.comp_def]
theorem itoa_clean {n : Int} (h : 0 ≤ n) : (32 : UInt8) ∉ itoa n ∧ (10 : UInt8) ∉ itoa n ∧ itoa n ≠ [] := by
  refine ⟨fun hm => ?_, fun hm => ?_, ?_⟩
  · have := itoa_digits h _ hm; revert this; decide
  · have := itoa_digits h _ hm; revert this; decide
  · obtain ⟨c, r, e, _⟩ := itoa_head n; rw [e]; simp
theorem st_words {z : ByteArray} (h : nameB z = true) : wordsR (mkB (lnST z)) = [kST, z] := by
  obtain ⟨h1, h2, h3⟩ := name_clean h
  refine words_of (by simp) (fun w hw => ?_) (by rw [mkB_data]; rfl)
  simp only [List.mem_cons, List.not_mem_nil, or_false] at hw
  rcases hw with rfl | rfl
  · exact ⟨by decide, by decide⟩
  · exact ⟨h1, h3⟩
theorem rm_words {z : ByteArray} (h : nameB z = true) : wordsR (mkB (lnRM z)) = [kRM, z] := by
  obtain ⟨h1, h2, h3⟩ := name_clean h
  refine words_of (by simp) (fun w hw => ?_) (by rw [mkB_data]; rfl)
  simp only [List.mem_cons, List.not_mem_nil, or_false] at hw
  rcases hw with rfl | rfl
  · exact ⟨by decide, by decide⟩
  · exact ⟨h1, h3⟩
theorem wy_words {y : Way} (h1 : nameB y.fr = true) (h2 : nameB y.«to» = true) (h3 : 0 ≤ y.metres) : wordsR (mkB (lnWY y)) = [kTB, y.fr, y.«to», mkB (itoa y.metres)] := by
  obtain ⟨a1, a2, a3⟩ := name_clean h1
  obtain ⟨b1, b2, b3⟩ := name_clean h2
  obtain ⟨c1, c2, c3⟩ := itoa_clean h3
  refine words_of (by simp) (fun w hw => ?_) (by rw [mkB_data]; simp [joinB, mkB_data, lnWY])
  simp only [List.mem_cons, List.not_mem_nil, or_false] at hw
  rcases hw with rfl | rfl | rfl | rfl
  · exact ⟨by decide, by decide⟩
  · exact ⟨a1, a3⟩
  · exact ⟨b1, b3⟩
  · rw [mkB_data]; exact ⟨c1, c3⟩
theorem kST_dd : kST ≠ kDD := by decide
theorem kRM_dd : kRM ≠ kDD ∧ kRM ≠ kST := by decide
theorem kTB_dd : kTB ≠ kDD ∧ kTB ≠ kST ∧ kTB ≠ kRM := by decide
theorem kPR_dd : kPR ≠ kDD ∧ kPR ≠ kST ∧ kPR ≠ kRM ∧ kPR ≠ kTB := by decide
theorem row_st {x : Sch} {z : ByteArray} (h : stF x.st z = 0) : rowF x [kST, z] = (⟨x.st ++ [z], x.rm, x.wy⟩, 0) := by
  simp [rowF, bAt, kST_dd, h]
theorem row_rm {x : Sch} {z : ByteArray} (h : rmF x.st x.rm z = 0) : rowF x [kRM, z] = (⟨x.st, x.rm ++ [z], x.wy⟩, 0) := by
  simp [rowF, bAt, kRM_dd.1, kRM_dd.2, h]
theorem row_wy {x : Sch} {y : Way} (h : wyF x.st x.wy y = 0) (h0 : 0 ≤ y.metres) (h1 : y.metres < 1000000) : rowF x [kTB, y.fr, y.«to», mkB (itoa y.metres)] = (⟨x.st, x.rm, x.wy ++ [y]⟩, 0) := by
  have hr : rdN (itoa y.metres) = some y.metres := rdN_itoa h0 (by omega)
  have hy : (⟨y.fr, y.«to», y.metres⟩ : Way) = y := rfl
  simp [rowF, bAt, kTB_dd.1, kTB_dd.2.1, kTB_dd.2.2, mkB_data, hr, hy, h]
theorem rows_app : ∀ (a b : List ByteArray) (x y : Sch) (i : Nat), (∀ fs : List (Int × Int), fs = [] → rowsF x fs i a = (y, [])) → rowsF x [] i (a ++ b) = rowsF y [] (i + a.length) b := by
  intro a
  induction a with
  | nil =>
    intro b x y i h
    have := h [] rfl
    simp only [rowsF, Prod.mk.injEq] at this
    rw [this.1]; rfl
  | cons r rs ih =>
    intro b x y i h
    have h0 := h [] rfl
    rw [List.cons_append, rowsF]
    rw [rowsF] at h0
    have hf : addF [] i (rowF x (wordsR r)).2 = [] := by
      have key : ∀ (rs : List ByteArray) (x : Sch) (fs : List (Int × Int)) (i : Nat), fs ≠ [] → (rowsF x fs i rs).2 ≠ [] := by
        intro rs
        induction rs with
        | nil => intro x fs i h; exact h
        | cons r rs ih => intro x fs i h; exact ih _ _ _ (by unfold addF; split <;> simp [h])
      cases hq : addF [] i (rowF x (wordsR r)).2 with
      | nil => rfl
      | cons f q =>
        exfalso
        rw [hq] at h0
        have hk := key rs (rowF x (wordsR r)).1 (f :: q) (i + 1) (by simp)
        rw [h0] at hk
        exact hk rfl
    rw [hf] at h0 ⊢
    rw [ih b _ y (i + 1) (fun fs e => by subst e; exact h0), List.length_cons]
    congr 1
    omega
theorem rows_st : ∀ (zs : List ByteArray) (p rs : List ByteArray) (ws : List Way) (i : Nat), okL stF p zs = true → rowsF ⟨p, rs, ws⟩ [] i (zs.map fun z => mkB (lnST z)) = (⟨p ++ zs, rs, ws⟩, []) := by
  intro zs
  induction zs with
  | nil => intro p rs ws i _; simp [rowsF]
  | cons z r ih =>
    intro p rs ws i h
    simp only [okL, Bool.and_eq_true, decide_eq_true_eq] at h
    rw [List.map_cons, rowsF, st_words (stF_name h.1), row_st (x := ⟨p, rs, ws⟩) h.1]
    have := ih (p ++ [z]) rs ws (i + 1) h.2
    simp only [addF, ne_eq, not_true, false_and, if_false]
    rw [this]
    simp
theorem rows_rm {ss : List ByteArray} (hn : ∀ z ∈ ss, nameB z = true) : ∀ (zs p : List ByteArray) (ws : List Way) (i : Nat), okL (rmF ss) p zs = true → rowsF ⟨ss, p, ws⟩ [] i (zs.map fun z => mkB (lnRM z)) = (⟨ss, p ++ zs, ws⟩, []) := by
  intro zs
  induction zs with
  | nil => intro p ws i _; simp [rowsF]
  | cons z r ih =>
    intro p ws i h
    simp only [okL, Bool.and_eq_true, decide_eq_true_eq] at h
    have hz : nameB z = true := by
      have h1 := h.1
      unfold rmF at h1
      split at h1
      · rename_i h2; exact hn z (hasS_mem h2)
      · omega
    rw [List.map_cons, rowsF, rm_words hz, row_rm (x := ⟨ss, p, ws⟩) h.1]
    have := ih (p ++ [z]) ws (i + 1) h.2
    simp only [addF, ne_eq, not_true, false_and, if_false]
    rw [this]
    simp
theorem rows_wy {ss rs : List ByteArray} (hn : ∀ z ∈ ss, nameB z = true) : ∀ (zs p : List Way) (i : Nat), okL (wyF ss) p zs = true → rowsF ⟨ss, rs, p⟩ [] i (zs.map fun z => mkB (lnWY z)) = (⟨ss, rs, p ++ zs⟩, []) := by
  intro zs
  induction zs with
  | nil => intro p i _; simp [rowsF]
  | cons z r ih =>
    intro p i h
    simp only [okL, Bool.and_eq_true, decide_eq_true_eq] at h
    have h2 := wyF_zero h.1
    have hz : nameB z.fr = true ∧ nameB z.«to» = true := by
      have h1 := h.1
      unfold wyF at h1
      split at h1
      · rename_i h2
        split at h1
        · rename_i h3; exact ⟨hn _ (hasS_mem h2), hn _ (hasS_mem h3)⟩
        · omega
      · omega
    rw [List.map_cons, rowsF, wy_words hz.1 hz.2 (by omega), row_wy (x := ⟨ss, rs, p⟩) h.1 (by omega) (by omega)]
    have := ih (p ++ [z]) (i + 1) h.2
    simp only [addF, ne_eq, not_true, false_and, if_false]
    rw [this]
    simp
theorem lines_clean {x : Sch} (h : validX x = true) : ∀ l ∈ linesX x ++ [[]], (10 : UInt8) ∉ l := by
  intro l hl
  simp only [linesX, List.mem_append, List.mem_map, List.mem_singleton] at hl
  rcases hl with (⟨z, hz, rfl⟩ | ⟨z, hz, rfl⟩ | ⟨y, hy, rfl⟩) | rfl
  · have := (name_clean (validX_st h hz)).2.1
    simp only [lnST, List.mem_append, List.mem_cons, not_or]
    exact ⟨by decide, by decide, this⟩
  · have := (name_clean (validX_st h (validX_rm h hz))).2.1
    simp only [lnRM, List.mem_append, List.mem_cons, not_or]
    exact ⟨by decide, by decide, this⟩
  · obtain ⟨h1, h2⟩ := validX_wy h hy
    have a := (name_clean (validX_st h h1)).2.1
    have b := (name_clean (validX_st h h2)).2.1
    have c := (itoa_clean ((validX_short h).2.2 y hy).2.2.1).2.1
    simp only [lnWY, List.mem_append, List.mem_cons, not_or]
    exact ⟨by decide, by decide, a, by decide, b, by decide, c⟩
  · simp
/-- the text of a valid scheme is read back without faults -/
theorem readX_txt {x : Sch} (h : validX x = true) (hl : (schT x).size ≤ 3000) : readX (schT x) = (x, [], 0) := by
  have hs : spl 10 (schT x).data.toList = linesX x ++ [[]] := by rw [schT_bytes]; exact spl_join (by simp) (lines_clean h)
  have hv := h
  simp only [validX, Bool.and_eq_true] at hv
  have hn : ∀ z ∈ x.st, nameB z = true := fun z hz => validX_st h hz
  have e1 : rowsOf (schT x) = (x.st.map fun z => mkB (lnST z)) ++ ((x.rm.map fun z => mkB (lnRM z)) ++ ((x.wy.map fun z => mkB (lnWY z)) ++ [mkB []])) := by
    rw [rowsOf, hs]
    simp [linesX, List.map_map, Function.comp_def]
  have e2 : rowsF ⟨[], [], []⟩ [] 0 (rowsOf (schT x)) = (x, []) := by
    rw [e1, rows_app _ _ _ ⟨x.st, [], []⟩ _ (fun fs e => by subst e; simpa using rows_st x.st [] [] [] 0 hv.1)]
    rw [rows_app _ _ _ ⟨x.st, x.rm, []⟩ _ (fun fs e => by subst e; simpa using rows_rm hn x.rm [] [] _ hv.2.1)]
    rw [rows_app _ _ _ ⟨x.st, x.rm, x.wy⟩ _ (fun fs e => by subst e; simpa using rows_wy hn x.wy [] _ hv.2.2)]
    have hw : wordsR (mkB []) = [] := by simp [wordsR, mkB_data, spl]
    simp [rowsF, hw, rowF, addF]
  rw [readX, if_neg (by omega), e2]
end Go.Proofs.YtcgkcfmiabninaaGreatDoor
/-
  Schemes of one's own: a name, a way is added; where its lists lie then and what is kept. No condition.
-/
namespace Go.Proofs.YtcgkcfmiabninaaGreatDoor
open Go.RowKit
set_option maxHeartbeats 400000

/-- the blocks of a scheme's lists -/
def SV.has (s : SV) (q : Nat) : Prop := (Value.slice s.A1 s.n1 s.c1).ownBlock = some q ∨ (Value.slice s.A2 s.n2 s.c2).ownBlock = some q ∨ (Value.slice s.A3 s.n3 s.c3).ownBlock = some q
/-- s2's lists lie in s's blocks or in new ones -/
def Kin (s s2 : SV) (H : Nat) : Prop := ∀ q, s2.has q → s.has q ∨ H ≤ q
theorem Kin.refl (s : SV) (H : Nat) : Kin s s H := fun _ h => .inl h
theorem Kin.trans {s s2 s3 : SV} {H H2 : Nat} (h : Kin s s2 H) (h2 : Kin s2 s3 H2) (hH : H ≤ H2) : Kin s s3 H := fun q hq => by
  rcases h2 q hq with h3 | h3
  · exact h q h3
  · exact .inr (Nat.le_trans hH h3)
/-- every block is kept but gs and those of s -/
def FarB (gs : Nat) (s : SV) (w w' : World) : Prop := ∀ b, b < w.heap.size → b ≠ gs → ¬ s.has b → w'.heap[b]? = w.heap[b]?
theorem FarB.of {gs : Nat} {s : SV} {w w' : World} (h : Below w.heap.size w w') : FarB gs s w w' := fun b hb _ _ => h.block b hb
theorem FarB.cell {gs : Nat} {s : SV} {w w' : World} (h : FarB gs s w w') {p : Addr} {v : Value} (hc : w.cell? p = some v) (h1 : p.block ≠ gs) (h2 : ¬ s.has p.block) : w'.cell? p = some v :=
  (World.cell?_of_block (h p.block (World.block_lt_of_cell? _ _ hc) h1 h2)).trans hc
theorem blk_far (w : World) (a : Addr) (u : Value) {b : Nat} (h : b ≠ a.block) : (w.setCell a u).heap[b]? = w.heap[b]? := Go.Deep.blk_setCell_other w a u b h
theorem own_is {g n c q : Nat} (h : (Value.slice (some ⟨g, 0, none⟩) n c).ownBlock = some q) : g = q := by simpa [Value.ownBlock] using h
theorem Kin.put1 {A1 A2 A3 : Option Addr} {n1 c1 n2 c2 n3 c3 gg cap n H H2 : Nat} (hat : (Value.slice A1 n1 c1).ownBlock = some gg ∨ gg = H2) (hH : H ≤ H2) : Kin ⟨A1, n1, c1, A2, n2, c2, A3, n3, c3⟩ ⟨some ⟨gg, 0, none⟩, n, cap, A2, n2, c2, A3, n3, c3⟩ H := fun q hq => by
  rcases hq with h | h | h
  · have := own_is h
    subst this
    rcases hat with h1 | h1
    · exact .inl (.inl h1)
    · exact .inr (by omega)
  · exact .inl (.inr (.inl h))
  · exact .inl (.inr (.inr h))
theorem Kin.put2 {A1 A2 A3 : Option Addr} {n1 c1 n2 c2 n3 c3 gg cap n H H2 : Nat} (hat : (Value.slice A2 n2 c2).ownBlock = some gg ∨ gg = H2) (hH : H ≤ H2) : Kin ⟨A1, n1, c1, A2, n2, c2, A3, n3, c3⟩ ⟨A1, n1, c1, some ⟨gg, 0, none⟩, n, cap, A3, n3, c3⟩ H := fun q hq => by
  rcases hq with h | h | h
  · exact .inl (.inl h)
  · have := own_is h
    subst this
    rcases hat with h1 | h1
    · exact .inl (.inr (.inl h1))
    · exact .inr (by omega)
  · exact .inl (.inr (.inr h))
theorem Kin.put3 {A1 A2 A3 : Option Addr} {n1 c1 n2 c2 n3 c3 gg cap n H H2 : Nat} (hat : (Value.slice A3 n3 c3).ownBlock = some gg ∨ gg = H2) (hH : H ≤ H2) : Kin ⟨A1, n1, c1, A2, n2, c2, A3, n3, c3⟩ ⟨A1, n1, c1, A2, n2, c2, some ⟨gg, 0, none⟩, n, cap⟩ H := fun q hq => by
  rcases hq with h | h | h
  · exact .inl (.inl h)
  · exact .inl (.inr (.inl h))
  · have := own_is h
    subst this
    rcases hat with h1 | h1
    · exact .inl (.inr (.inr h1))
    · exact .inr (by omega)
/-- what adding leaves, with where it lies -/
def AddG (gs lo B0 : Nat) (s : SV) (w : World) (f : Int) (x : Sch) (r : Ending) (w' : World) : Prop :=
  r = .returned (.int .i64 f) ∧ (∃ s2, XAt w' gs lo s2 x ∧ Kin s s2 w.heap.size) ∧ Below B0 w w' ∧ FarB gs s w w'
theorem AddG.post {gs lo B0 : Nat} {s : SV} {w w' : World} {f : Int} {x : Sch} {r : Ending} (h : AddG gs lo B0 s w f x r w') : AddPost gs lo B0 w f x r w' := by
  obtain ⟨h1, ⟨s2, h2, _⟩, h3, _⟩ := h
  exact ⟨h1, ⟨s2, h2⟩, h3⟩

set_option maxHeartbeats 2000000 in
set_option maxRecDepth 100000 in
theorem addStationG_any (gs lo B0 : Nat) (s : SV) (x : Sch) (z : ByteArray) (w : World) (hg0 : B0 ≤ gs) (hlo : B0 ≤ lo) (hlw : lo ≤ w.heap.size) (hz : z.size ≤ 9223372036854775807) (hl : x.st.length ≤ 20) (h : XAt w gs lo s x) :
    Calls Tryz.prog 54 #[.pointer (some ⟨gs, 0, none⟩), .string z] w (AddG gs lo B0 s w (stF x.st z) (addSt x z)) := by
  obtain ⟨A1, n1, c1, A2, n2, c2, A3, n3, c3⟩ := s
  obtain ⟨ln1, ln2, ln3⟩ := h.len
  simp only at ln1 ln2 ln3
  have k0 := h.k0
  have k1 := h.k1
  simp only at k0 k1
  have hsl := h.own.sl
  have hlt := h.lt
  have h1 := hasStation_any gs A1 n1 c1 x.st z w _ (by omega) hsl.st k0
  have h0 := implIsName_any z w hz
  have E := hid (show stF x.st z = if nameB z then if hasS x.st z then 5 else if x.st.length < 20 then 0 else 8 else 3 from rfl)
  have EA := hid (show addSt x z = if stF x.st z = 0 then ⟨x.st ++ [z], x.rm, x.wy⟩ else x from rfl)
  have Ln := hid ln1
  rw [← ln1] at E
  generalize nameB z = p0 at h0 E
  generalize hasS x.st z = p1 at h1 E
  have hr := h.own.st
  simp only at hr
  obtain ⟨i0, hi, hz0, hz1, hz2⟩ := info_parts str_info
  have hp := fun (W : World) (gg cap H : Nat) => h.put1 (w3 := W) (z := z) (gg := gg) (cap := cap) (H := H)
  simp only at hp
  have q1 : (Value.slice A1 n1 c1).ownBlock ≠ some gs := h.o1
  have hn20 : n1 ≤ 20 := by omega
  have Hh := hid h
  have hlr := hid hr.lt
  have HP := hid hp
  have fz := h.f0
  clear h ln1 ln2 ln3 hsl hp
  by_cases hall : (p0 = true ∧ p1 = false) ∧ n1 < 20
  · obtain ⟨⟨rfl, rfl⟩, hlt20⟩ := hall
    have hne : ((n1 : Int) == 20) = false := by simp; omega
    have E0 : Hid (stF x.st z = 0) := by rw [Hid, E.out]; simp; omega
    have EX : Hid (addSt x z = ⟨x.st ++ [z], x.rm, x.wy⟩) := by rw [Hid, EA.out, if_pos E0.out]
    clear E EA
    go_enter Tryz.func54, Tryz.ntmps54
    go_wp2_with (first | (go_at_call 70; refine h0.mono ?_; rintro r w0 ⟨rfl, e⟩; replace e := e.symm; subst e) | (go_at_call 71; refine h1.mono ?_; rintro r w1 ⟨rfl, e⟩; replace e := e.symm; subst e) | (at_builtin; refine wpList_append_lies _ rfl _ _ 22 rfl lo 9 i0 (.string ByteArray.empty) 1 16 Tryz.underlying22 hi hz0 hz1 hz2 rfl (by omega) (.slice A1 n1 c1) n1 (x.st.flatMap encS) rfl (hr.alloc _) ⟨w.heap.size, 0, none⟩ 1 1 [.string z] rfl rfl (World.news_of_block (cs := #[.string z]) (t := 9) (fr := (0, 0)) (heap_alloc_new w _)) (by simp [Value.oneCell']) (by omega) (by simp only [maxLen]; omega) (by omega) (by simp; omega) (w.heap.size + 1) (by simp) ?_; intro gg cap w3 ho3 hg3 hat3 hlt3; have hgg := (gr_alloc (World.grownBy.refl w _)).trans hg3; have f3 := (hgg.frozen_far ⟨gs, 0, none⟩ hlt (fun e => q1 e.symm)).trans fz; have k3 : ∃ v, w3.cell? ⟨gs, 0, none⟩ = some v := ⟨_, hgg.cell k0 (fun e => q1 e.symm)⟩; obtain ⟨v3, k3⟩ := k3))
    go_ret
    refine ⟨retI E0.out.symm, ⟨⟨some ⟨gg, 0, none⟩, n1 + 1, cap, A2, n2, c2, A3, n3, c3⟩, ?_, Kin.put1 hat3 (by omega)⟩, ?_, fun b hb h1 h2 => ?_⟩
    · rw [EX.out]
      exact HP.out _ _ _ (w.heap.size + 1) hgg (by omega) hat3 (by simpa [encS] using ho3)
    · refine bl_set hg0 ?_
      exact ((Below.refl B0 w).alloc (by omega) _).grown hg3 (by simp; omega) (fun b hb => by have := (hlr.out b hb).1; omega)
    · exact (blk_far _ _ _ h1).trans (hgg.block b hb (fun e => h2 (.inl e.symm)))
  · have hcase : ∃ f : Int, f ≠ 0 ∧ Hid (stF x.st z = f) := by
      refine ⟨_, ?_, rfl⟩
      rw [E.out]
      cases p0 <;> cases p1 <;> first | (simp; done) | (simp at hall ⊢; omega)
    by_cases hlt20 : n1 < 20
    · have hne : ((n1 : Int) == 20) = false := by simp; omega
      cases p0 <;> cases p1 <;> first | (exact absurd ⟨⟨rfl, rfl⟩, hlt20⟩ hall) | skip
      all_goals
        obtain ⟨f, hf, F⟩ := hcase
        clear hall
        go_enter Tryz.func54, Tryz.ntmps54
        go_wp2_with (first | (go_at_call 70; refine h0.mono ?_; rintro r w0 ⟨rfl, e⟩; replace e := e.symm; subst e) | (go_at_call 71; refine h1.mono ?_; rintro r w1 ⟨rfl, e⟩; replace e := e.symm; subst e))
        go_ret
        exact ⟨retI (by rw [E.out]; simp), ⟨_, (by rw [EA.out, if_neg (by rw [F.out]; exact hf)]; exact Hh.out), Kin.refl _ _⟩, Below.refl _ _, FarB.of (Below.refl _ _)⟩
    · have hne : ((n1 : Int) == 20) = true := by simp; omega
      have hge : ¬ ((n1 : Int) < 20) := by omega
      clear hall
      cases p0 <;> cases p1
      all_goals
        obtain ⟨f, hf, F⟩ := hcase
        have Hlt := hid hlt20
        go_enter Tryz.func54, Tryz.ntmps54
        go_wp2_with (first | (go_at_call 70; refine h0.mono ?_; rintro r w0 ⟨rfl, e⟩; replace e := e.symm; subst e) | (go_at_call 71; refine h1.mono ?_; rintro r w1 ⟨rfl, e⟩; replace e := e.symm; subst e))
        go_ret
        exact ⟨retI (by rw [E.out]; simp [Hlt.out]), ⟨_, (by rw [EA.out, if_neg (by rw [F.out]; exact hf)]; exact Hh.out), Kin.refl _ _⟩, Below.refl _ _, FarB.of (Below.refl _ _)⟩
set_option maxHeartbeats 2000000 in
set_option maxRecDepth 100000 in
theorem l21StationG_any (gs lo B0 : Nat) (s : SV) (x : Sch) (z : ByteArray) (w : World) (hg0 : B0 ≤ gs) (hlo : B0 ≤ lo) (hlw : lo ≤ w.heap.size) (hz : z.size ≤ 9223372036854775807) (hl : x.st.length ≤ 20) (h : XAt w gs lo s x) :
    Calls Tryz.prog 58 #[.pointer (some ⟨gs, 0, none⟩), .string z] w (AddG gs lo B0 s w (stF x.st z) (addSt x z)) := by
  obtain ⟨A1, n1, c1, A2, n2, c2, A3, n3, c3⟩ := s
  obtain ⟨ln1, ln2, ln3⟩ := h.len
  simp only at ln1 ln2 ln3
  have k0 := h.k0
  have k1 := h.k1
  simp only at k0 k1
  have hsl := h.own.sl
  have hlt := h.lt
  have h1 := l21Has_any A1 n1 c1 x.st z w _ (by omega) hsl.st
  have h0 := specIsName_any z w hz
  have E := hid (show stF x.st z = if nameB z then if hasS x.st z then 5 else if x.st.length < 20 then 0 else 8 else 3 from rfl)
  have EA := hid (show addSt x z = if stF x.st z = 0 then ⟨x.st ++ [z], x.rm, x.wy⟩ else x from rfl)
  have Ln := hid ln1
  rw [← ln1] at E
  generalize nameB z = p0 at h0 E
  generalize hasS x.st z = p1 at h1 E
  have hr := h.own.st
  simp only at hr
  obtain ⟨i0, hi, hz0, hz1, hz2⟩ := info_parts str_info
  have hp := fun (W : World) (gg cap H : Nat) => h.put1 (w3 := W) (z := z) (gg := gg) (cap := cap) (H := H)
  simp only at hp
  have q1 : (Value.slice A1 n1 c1).ownBlock ≠ some gs := h.o1
  have hn20 : n1 ≤ 20 := by omega
  have Hh := hid h
  have hlr := hid hr.lt
  have HP := hid hp
  have fz := h.f0
  clear h ln1 ln2 ln3 hsl hp
  by_cases hall : (p0 = true ∧ p1 = false) ∧ n1 < 20
  · obtain ⟨⟨rfl, rfl⟩, hlt20⟩ := hall
    have hne : ((n1 : Int) == 20) = false := by simp; omega
    have E0 : Hid (stF x.st z = 0) := by rw [Hid, E.out]; simp; omega
    have EX : Hid (addSt x z = ⟨x.st ++ [z], x.rm, x.wy⟩) := by rw [Hid, EA.out, if_pos E0.out]
    clear E EA
    go_enter Tryz.func58, Tryz.ntmps58
    go_wp2_with (first | (go_at_call 74; refine h0.mono ?_; rintro r w0 ⟨rfl, e⟩; replace e := e.symm; subst e) | (go_at_call 75; refine h1.mono ?_; rintro r w1 ⟨rfl, e⟩; replace e := e.symm; subst e) | (at_builtin; refine wpList_append_lies _ rfl _ _ 22 rfl lo 9 i0 (.string ByteArray.empty) 1 16 Tryz.underlying22 hi hz0 hz1 hz2 rfl (by omega) (.slice A1 n1 c1) n1 (x.st.flatMap encS) rfl (hr.alloc _) ⟨w.heap.size, 0, none⟩ 1 1 [.string z] rfl rfl (World.news_of_block (cs := #[.string z]) (t := 9) (fr := (0, 0)) (heap_alloc_new w _)) (by simp [Value.oneCell']) (by omega) (by simp only [maxLen]; omega) (by omega) (by simp; omega) (w.heap.size + 1) (by simp) ?_; intro gg cap w3 ho3 hg3 hat3 hlt3; have hgg := (gr_alloc (World.grownBy.refl w _)).trans hg3; have f3 := (hgg.frozen_far ⟨gs, 0, none⟩ hlt (fun e => q1 e.symm)).trans fz; have k3 : ∃ v, w3.cell? ⟨gs, 0, none⟩ = some v := ⟨_, hgg.cell k0 (fun e => q1 e.symm)⟩; obtain ⟨v3, k3⟩ := k3))
    go_ret
    refine ⟨retI E0.out.symm, ⟨⟨some ⟨gg, 0, none⟩, n1 + 1, cap, A2, n2, c2, A3, n3, c3⟩, ?_, Kin.put1 hat3 (by omega)⟩, ?_, fun b hb h1 h2 => ?_⟩
    · rw [EX.out]
      exact HP.out _ _ _ (w.heap.size + 1) hgg (by omega) hat3 (by simpa [encS] using ho3)
    · refine bl_set hg0 ?_
      exact ((Below.refl B0 w).alloc (by omega) _).grown hg3 (by simp; omega) (fun b hb => by have := (hlr.out b hb).1; omega)
    · exact (blk_far _ _ _ h1).trans (hgg.block b hb (fun e => h2 (.inl e.symm)))
  · have hcase : ∃ f : Int, f ≠ 0 ∧ Hid (stF x.st z = f) := by
      refine ⟨_, ?_, rfl⟩
      rw [E.out]
      cases p0 <;> cases p1 <;> first | (simp; done) | (simp at hall ⊢; omega)
    by_cases hlt20 : n1 < 20
    · have hne : ((n1 : Int) == 20) = false := by simp; omega
      cases p0 <;> cases p1 <;> first | (exact absurd ⟨⟨rfl, rfl⟩, hlt20⟩ hall) | skip
      all_goals
        obtain ⟨f, hf, F⟩ := hcase
        clear hall
        go_enter Tryz.func58, Tryz.ntmps58
        go_wp2_with (first | (go_at_call 74; refine h0.mono ?_; rintro r w0 ⟨rfl, e⟩; replace e := e.symm; subst e) | (go_at_call 75; refine h1.mono ?_; rintro r w1 ⟨rfl, e⟩; replace e := e.symm; subst e))
        go_ret
        exact ⟨retI (by rw [E.out]; simp), ⟨_, (by rw [EA.out, if_neg (by rw [F.out]; exact hf)]; exact Hh.out), Kin.refl _ _⟩, Below.refl _ _, FarB.of (Below.refl _ _)⟩
    · have hne : ((n1 : Int) == 20) = true := by simp; omega
      have hge : ¬ ((n1 : Int) < 20) := by omega
      clear hall
      cases p0 <;> cases p1
      all_goals
        obtain ⟨f, hf, F⟩ := hcase
        have Hlt := hid hlt20
        go_enter Tryz.func58, Tryz.ntmps58
        go_wp2_with (first | (go_at_call 74; refine h0.mono ?_; rintro r w0 ⟨rfl, e⟩; replace e := e.symm; subst e) | (go_at_call 75; refine h1.mono ?_; rintro r w1 ⟨rfl, e⟩; replace e := e.symm; subst e))
        go_ret
        exact ⟨retI (by rw [E.out]; simp [Hlt.out]), ⟨_, (by rw [EA.out, if_neg (by rw [F.out]; exact hf)]; exact Hh.out), Kin.refl _ _⟩, Below.refl _ _, FarB.of (Below.refl _ _)⟩
set_option maxHeartbeats 2000000 in
set_option maxRecDepth 100000 in
theorem addRoomG_any (gs lo B0 : Nat) (s : SV) (x : Sch) (z : ByteArray) (w : World) (hg0 : B0 ≤ gs) (hlo : B0 ≤ lo) (hlw : lo ≤ w.heap.size) (_hz : z.size ≤ 9223372036854775807) (hl : x.st.length ≤ 20) (hl2 : x.rm.length ≤ 2000000) (h : XAt w gs lo s x) :
    Calls Tryz.prog 55 #[.pointer (some ⟨gs, 0, none⟩), .string z] w (AddG gs lo B0 s w (rmF x.st x.rm z) (addRm x z)) := by
  obtain ⟨A1, n1, c1, A2, n2, c2, A3, n3, c3⟩ := s
  obtain ⟨ln1, ln2, ln3⟩ := h.len
  simp only at ln1 ln2 ln3
  have k0 := h.k0
  have k1 := h.k1
  simp only at k0 k1
  have hsl := h.own.sl
  have hlt := h.lt
  have h1 := hasStation_any gs A1 n1 c1 x.st z w _ (by omega) hsl.st k0
  have h2 := ContainsS_any A2 n2 c2 x.rm z w _ (by omega) hsl.rm
  have E := hid (show rmF x.st x.rm z = if hasS x.st z then if hasS x.rm z then 5 else 0 else 6 from rfl)
  have EA := hid (show addRm x z = if rmF x.st x.rm z = 0 then ⟨x.st, x.rm ++ [z], x.wy⟩ else x from rfl)
  have Ln := hid ln2
  generalize hasS x.st z = p1 at h1 E
  generalize hasS x.rm z = p2 at h2 E
  have hr := h.own.rm
  simp only at hr
  obtain ⟨i0, hi, hz0, hz1, hz2⟩ := info_parts str_info
  have hp := fun (W : World) (gg cap H : Nat) => h.put2 (w3 := W) (z := z) (gg := gg) (cap := cap) (H := H)
  simp only at hp
  have q2 : (Value.slice A2 n2 c2).ownBlock ≠ some gs := h.o2
  have hn20 : n2 ≤ 2000000 := by omega
  have Hh := hid h
  have hlr := hid hr.lt
  have HP := hid hp
  have fz := h.f1
  clear h ln1 ln2 ln3 hsl hp
  by_cases hall : p1 = true ∧ p2 = false
  · obtain ⟨rfl, rfl⟩ := hall
    have E0 : Hid (rmF x.st x.rm z = 0) := by rw [Hid, E.out]; simp
    have EX : Hid (addRm x z = ⟨x.st, x.rm ++ [z], x.wy⟩) := by rw [Hid, EA.out, if_pos E0.out]
    clear E EA
    go_enter Tryz.func55, Tryz.ntmps55
    go_wp2_with (first | (go_at_call 71; refine h1.mono ?_; rintro r w1 ⟨rfl, e⟩; replace e := e.symm; subst e) | (go_at_call 72; refine h2.mono ?_; rintro r w2 ⟨rfl, e⟩; replace e := e.symm; subst e) | (at_builtin; refine wpList_append_lies _ rfl _ _ 22 rfl lo 9 i0 (.string ByteArray.empty) 1 16 Tryz.underlying22 hi hz0 hz1 hz2 rfl (by omega) (.slice A2 n2 c2) n2 (x.rm.flatMap encS) rfl (hr.alloc _) ⟨w.heap.size, 0, none⟩ 1 1 [.string z] rfl rfl (World.news_of_block (cs := #[.string z]) (t := 9) (fr := (0, 0)) (heap_alloc_new w _)) (by simp [Value.oneCell']) (by omega) (by simp only [maxLen]; omega) (by omega) (by simp; omega) (w.heap.size + 1) (by simp) ?_; intro gg cap w3 ho3 hg3 hat3 hlt3; have hgg := (gr_alloc (World.grownBy.refl w _)).trans hg3; have f3 := (hgg.frozen_far ⟨gs, 1, none⟩ hlt (fun e => q2 e.symm)).trans fz; have k3 : ∃ v, w3.cell? ⟨gs, 1, none⟩ = some v := ⟨_, hgg.cell k1 (fun e => q2 e.symm)⟩; obtain ⟨v3, k3⟩ := k3))
    go_ret
    refine ⟨retI E0.out.symm, ⟨⟨A1, n1, c1, some ⟨gg, 0, none⟩, n2 + 1, cap, A3, n3, c3⟩, ?_, Kin.put2 hat3 (by omega)⟩, ?_, fun b hb h1 h2 => ?_⟩
    · rw [EX.out]
      exact HP.out _ _ _ (w.heap.size + 1) hgg (by omega) hat3 (by simpa [encS] using ho3)
    · refine bl_set hg0 ?_
      exact ((Below.refl B0 w).alloc (by omega) _).grown hg3 (by simp; omega) (fun b hb => by have := (hlr.out b hb).1; omega)
    · exact (blk_far _ _ _ h1).trans (hgg.block b hb (fun e => h2 (.inr (.inl e.symm))))
  · have hcase : ∃ f : Int, f ≠ 0 ∧ Hid (rmF x.st x.rm z = f) := by
      refine ⟨_, ?_, rfl⟩
      rw [E.out]
      cases p1 <;> cases p2 <;> simp_all
    cases p1 <;> cases p2 <;> first | (exact absurd ⟨rfl, rfl⟩ hall) | skip
    all_goals
      obtain ⟨f, hf, F⟩ := hcase
      clear hall
      go_enter Tryz.func55, Tryz.ntmps55
      go_wp2_with (first | (go_at_call 71; refine h1.mono ?_; rintro r w1 ⟨rfl, e⟩; replace e := e.symm; subst e) | (go_at_call 72; refine h2.mono ?_; rintro r w2 ⟨rfl, e⟩; replace e := e.symm; subst e))
      go_ret
      exact ⟨retI (by rw [E.out]; simp), ⟨_, (by rw [EA.out, if_neg (by rw [F.out]; exact hf)]; exact Hh.out), Kin.refl _ _⟩, Below.refl _ _, FarB.of (Below.refl _ _)⟩
set_option maxHeartbeats 2000000 in
set_option maxRecDepth 100000 in
theorem l21RoomG_any (gs lo B0 : Nat) (s : SV) (x : Sch) (z : ByteArray) (w : World) (hg0 : B0 ≤ gs) (hlo : B0 ≤ lo) (hlw : lo ≤ w.heap.size) (_hz : z.size ≤ 9223372036854775807) (hl : x.st.length ≤ 20) (hl2 : x.rm.length ≤ 2000000) (h : XAt w gs lo s x) :
    Calls Tryz.prog 59 #[.pointer (some ⟨gs, 0, none⟩), .string z] w (AddG gs lo B0 s w (rmF x.st x.rm z) (addRm x z)) := by
  obtain ⟨A1, n1, c1, A2, n2, c2, A3, n3, c3⟩ := s
  obtain ⟨ln1, ln2, ln3⟩ := h.len
  simp only at ln1 ln2 ln3
  have k0 := h.k0
  have k1 := h.k1
  simp only at k0 k1
  have hsl := h.own.sl
  have hlt := h.lt
  have h1 := l21Has_any A1 n1 c1 x.st z w _ (by omega) hsl.st
  have h2 := l21Has_any A2 n2 c2 x.rm z w _ (by omega) hsl.rm
  have E := hid (show rmF x.st x.rm z = if hasS x.st z then if hasS x.rm z then 5 else 0 else 6 from rfl)
  have EA := hid (show addRm x z = if rmF x.st x.rm z = 0 then ⟨x.st, x.rm ++ [z], x.wy⟩ else x from rfl)
  have Ln := hid ln2
  generalize hasS x.st z = p1 at h1 E
  generalize hasS x.rm z = p2 at h2 E
  have hr := h.own.rm
  simp only at hr
  obtain ⟨i0, hi, hz0, hz1, hz2⟩ := info_parts str_info
  have hp := fun (W : World) (gg cap H : Nat) => h.put2 (w3 := W) (z := z) (gg := gg) (cap := cap) (H := H)
  simp only at hp
  have q2 : (Value.slice A2 n2 c2).ownBlock ≠ some gs := h.o2
  have hn20 : n2 ≤ 2000000 := by omega
  have Hh := hid h
  have hlr := hid hr.lt
  have HP := hid hp
  have fz := h.f1
  clear h ln1 ln2 ln3 hsl hp
  by_cases hall : p1 = true ∧ p2 = false
  · obtain ⟨rfl, rfl⟩ := hall
    have E0 : Hid (rmF x.st x.rm z = 0) := by rw [Hid, E.out]; simp
    have EX : Hid (addRm x z = ⟨x.st, x.rm ++ [z], x.wy⟩) := by rw [Hid, EA.out, if_pos E0.out]
    clear E EA
    go_enter Tryz.func59, Tryz.ntmps59
    go_wp2_with (first | (go_at_call 75; (with_reducible refine h1.mono ?_); rintro r w1 ⟨rfl, e⟩; replace e := e.symm; subst e) | (go_at_call 75; (with_reducible refine h2.mono ?_); rintro r w2 ⟨rfl, e⟩; replace e := e.symm; subst e) | (at_builtin; refine wpList_append_lies _ rfl _ _ 22 rfl lo 9 i0 (.string ByteArray.empty) 1 16 Tryz.underlying22 hi hz0 hz1 hz2 rfl (by omega) (.slice A2 n2 c2) n2 (x.rm.flatMap encS) rfl (hr.alloc _) ⟨w.heap.size, 0, none⟩ 1 1 [.string z] rfl rfl (World.news_of_block (cs := #[.string z]) (t := 9) (fr := (0, 0)) (heap_alloc_new w _)) (by simp [Value.oneCell']) (by omega) (by simp only [maxLen]; omega) (by omega) (by simp; omega) (w.heap.size + 1) (by simp) ?_; intro gg cap w3 ho3 hg3 hat3 hlt3; have hgg := (gr_alloc (World.grownBy.refl w _)).trans hg3; have f3 := (hgg.frozen_far ⟨gs, 1, none⟩ hlt (fun e => q2 e.symm)).trans fz; have k3 : ∃ v, w3.cell? ⟨gs, 1, none⟩ = some v := ⟨_, hgg.cell k1 (fun e => q2 e.symm)⟩; obtain ⟨v3, k3⟩ := k3))
    go_ret
    refine ⟨retI E0.out.symm, ⟨⟨A1, n1, c1, some ⟨gg, 0, none⟩, n2 + 1, cap, A3, n3, c3⟩, ?_, Kin.put2 hat3 (by omega)⟩, ?_, fun b hb h1 h2 => ?_⟩
    · rw [EX.out]
      exact HP.out _ _ _ (w.heap.size + 1) hgg (by omega) hat3 (by simpa [encS] using ho3)
    · refine bl_set hg0 ?_
      exact ((Below.refl B0 w).alloc (by omega) _).grown hg3 (by simp; omega) (fun b hb => by have := (hlr.out b hb).1; omega)
    · exact (blk_far _ _ _ h1).trans (hgg.block b hb (fun e => h2 (.inr (.inl e.symm))))
  · have hcase : ∃ f : Int, f ≠ 0 ∧ Hid (rmF x.st x.rm z = f) := by
      refine ⟨_, ?_, rfl⟩
      rw [E.out]
      cases p1 <;> cases p2 <;> simp_all
    cases p1 <;> cases p2 <;> first | (exact absurd ⟨rfl, rfl⟩ hall) | skip
    all_goals
      obtain ⟨f, hf, F⟩ := hcase
      clear hall
      go_enter Tryz.func59, Tryz.ntmps59
      go_wp2_with (first | (go_at_call 75; (with_reducible refine h1.mono ?_); rintro r w1 ⟨rfl, e⟩; replace e := e.symm; subst e) | (go_at_call 75; (with_reducible refine h2.mono ?_); rintro r w2 ⟨rfl, e⟩; replace e := e.symm; subst e))
      go_ret
      exact ⟨retI (by rw [E.out]; simp), ⟨_, (by rw [EA.out, if_neg (by rw [F.out]; exact hf)]; exact Hh.out), Kin.refl _ _⟩, Below.refl _ _, FarB.of (Below.refl _ _)⟩
end Go.Proofs.YtcgkcfmiabninaaGreatDoor
