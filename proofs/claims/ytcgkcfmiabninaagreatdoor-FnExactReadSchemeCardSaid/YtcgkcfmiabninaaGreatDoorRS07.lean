/-
  RS: texts SMet, SCode, KScheme, one behind the other. No condition but what each says.
-/
import Derived.Test.YtcgkcfmiabninaaGreatDoorRS06
import Derived.Deep.RegionHeld3
/-
  ValidScheme, MetresOf: both sides. No condition.
-/
namespace Go.Proofs.YtcgkcfmiabninaaGreatDoor
open Go.RowKit
set_option maxHeartbeats 400000

theorem implValidScheme_any (s : SV) (x : Sch) (w : World) (B : Nat) (hB : B ≤ w.heap.size) (hn : s.n1 ≤ 2000000 ∧ s.n2 ≤ 2000000 ∧ s.n3 ≤ 2000000) (hx : SlX w B s x) (hz : Hid (BigX x)) :
    Calls Tryz.prog 24 #[s.v] w fun r w' => r = .returned (.bool (validX x)) ∧ Below w.heap.size w w' := implValid_any s x w B hB hn hx hz
theorem specValidScheme_any (s : SV) (x : Sch) (w : World) (B : Nat) (hB : B ≤ w.heap.size) (hn : s.n1 ≤ 2000000 ∧ s.n2 ≤ 2000000 ∧ s.n3 ≤ 2000000) (hx : SlX w B s x) (hz : Hid (BigX x)) :
    Calls Tryz.prog 25 #[s.v] w fun r w' => r = .returned (.bool (validX x)) ∧ Below w.heap.size w w' := specValid_any s x w B hB hn hx hz
end Go.Proofs.YtcgkcfmiabninaaGreatDoor
/-
  Schemes: what a valid one fulfils; the code of a scheme and a name; places in a list. No condition.
-/
namespace Go.Proofs.YtcgkcfmiabninaaGreatDoor
open Go.RowKit
set_option maxHeartbeats 400000

theorem Span.cell {lo hi : Nat} {a w : World} {p : Addr} {v : Value} (h : Span lo hi a w) (hp : ¬ (lo ≤ p.block ∧ p.block < hi)) (hc : a.cell? p = some v) : w.cell? p = some v :=
  (World.cell?_of_block (h.block p.block (World.block_lt_of_cell? _ _ hc) hp)).trans hc
theorem okL_mem {α : Type} {f : List α → α → Int} : ∀ (xs p : List α), okL f p xs = true → ∀ (k : Nat) (x : α), xs[k]? = some x → f (p ++ xs.take k) x = 0 := by
  intro xs
  induction xs with
  | nil => intro p _ k x h; simp at h
  | cons y r ih =>
    intro p h k x hx
    simp only [okL, Bool.and_eq_true, decide_eq_true_eq] at h
    cases k with
    | zero => simp at hx; subst hx; simpa using h.1
    | succ k =>
      have := ih (p ++ [y]) h.2 k x (by simpa using hx)
      simpa using this
theorem validX_way {x : Sch} (h : validX x = true) {k : Nat} {y : Way} (hy : x.wy[k]? = some y) : 1 ≤ y.metres ∧ y.metres ≤ 2000 ∧ k < 60 := by
  simp only [validX, Bool.and_eq_true] at h
  have h1 := wyF_zero (okL_mem _ _ h.2.2 k y hy)
  have h2 : k < x.wy.length := (List.getElem?_eq_some_iff.1 hy).1
  simp only [List.nil_append, List.length_take] at h1
  omega
theorem validX_wyl {x : Sch} (h : validX x = true) : x.wy.length ≤ 60 := by
  rcases Nat.lt_or_ge 60 x.wy.length with hl | hl
  · have := (validX_way h (k := 60) (List.getElem?_eq_getElem hl)).2.2
    omega
  · exact hl
theorem validX_stl {x : Sch} (h : validX x = true) : x.st.length ≤ 20 := by
  rcases Nat.lt_or_ge 20 x.st.length with hl | hl
  · simp only [validX, Bool.and_eq_true] at h
    have h1 := stF_zero (okL_mem _ _ h.1 20 _ (List.getElem?_eq_getElem hl))
    simp only [List.nil_append, List.length_take] at h1
    omega
  · exact hl

/-- the places of those that fulfil p, among the first k -/
def idxF {α : Type} (p : α → Bool) (xs : List α) : Nat → List Int
  | 0 => []
  | k + 1 => match xs[k]? with
    | some x => if p x then idxF p xs k ++ [(k : Int)] else idxF p xs k
    | none => idxF p xs k
theorem idxF_yes {α : Type} {p : α → Bool} {xs : List α} {k : Nat} {x : α} (h : xs[k]? = some x) (hp : p x = true) : idxF p xs (k + 1) = idxF p xs k ++ [(k : Int)] := by simp [idxF, h, hp]
theorem idxF_no {α : Type} {p : α → Bool} {xs : List α} {k : Nat} {x : α} (h : xs[k]? = some x) (hp : p x = false) : idxF p xs (k + 1) = idxF p xs k := by simp [idxF, h, hp]
theorem idxF_len {α : Type} (p : α → Bool) (xs : List α) : ∀ k, (idxF p xs k).length ≤ k := by
  intro k
  induction k with
  | zero => simp [idxF]
  | succ k ih =>
    simp only [idxF]
    split
    · split
      · simp; omega
      · omega
    · omega
/-- a list of numbers and a code -/
def IPost (w : World) (R : List Int × Int) (r : Ending) (w' : World) : Prop :=
  ∃ A n c, r = .returned (.tuple #[.slice A n c, .int .i64 R.2]) ∧ w'.ownsRow w.heap.size 2 1 (.slice A n c) n (R.1.flatMap encI) ∧ Below w.heap.size w w'
theorem IPost.bad {w w' : World} {R : List Int × Int} {z : Int} (hR : R = ([], z)) (hb : Below w.heap.size w w') : IPost w R (.returned (.tuple #[.slice none 0 0, .int .i64 z])) w' := by
  subst hR
  exact ⟨none, 0, 0, rfl, World.ownsRow_nil _ _ _ _, hb⟩
theorem snocIx (xs : List Int) (z : Int) : xs.flatMap encI ++ [.int .i64 z] = (xs ++ [z]).flatMap encI := by simp [encI]

def codeX (x : Sch) (z : ByteArray) : Int := if validX x then if hasS x.st z then 0 else 3 else 1
end Go.Proofs.YtcgkcfmiabninaaGreatDoor
/-
  Schemes as text: the program's function and the reference's. No condition but the table that lies laid.
-/
namespace Go.Proofs.YtcgkcfmiabninaaGreatDoor
open Go.RowKit
set_option maxHeartbeats 400000

def itoaB (n : Int) : ByteArray := ⟨(Lib.itoa n).toArray⟩
theorem itoaB_size {n : Int} (h0 : 0 ≤ n) (h1 : n ≤ 1000000) : (itoaB n).size ≤ 21 := by
  have := Lib.itoa_length_le n (by omega) (by omega)
  simpa [itoaB, ByteArray.size] using this
theorem itoaV_eq (n : Int) : itoaV n = .string (itoaB n) := rfl
def stT (z : ByteArray) : ByteArray := (⟨#[115, 116, 97, 116, 105, 111, 110, 32]⟩ ++ z) ++ ⟨#[10]⟩
def rmT (z : ByteArray) : ByteArray := (⟨#[114, 111, 111, 109, 32]⟩ ++ z) ++ ⟨#[10]⟩
def wyT (y : Way) : ByteArray := (((((⟨#[116, 117, 98, 101, 32]⟩ ++ y.fr) ++ ⟨#[32]⟩) ++ y.«to») ++ ⟨#[32]⟩) ++ itoaB y.metres) ++ ⟨#[10]⟩
/-- the first k of a list as text, behind a text -/
def txtL {α : Type} (f : α → ByteArray) (s : ByteArray) (xs : List α) : Nat → ByteArray
  | 0 => s
  | k + 1 => match xs[k]? with
    | some x => txtL f s xs k ++ f x
    | none => txtL f s xs k
theorem txtL_succ {α : Type} {f : α → ByteArray} {s : ByteArray} {xs : List α} {k : Nat} {x : α} (h : xs[k]? = some x) : txtL f s xs (k + 1) = txtL f s xs k ++ f x := by
  simp only [txtL, h]
def schT (x : Sch) : ByteArray := txtL wyT (txtL rmT (txtL stT ⟨#[]⟩ x.st x.st.length) x.rm x.rm.length) x.wy x.wy.length
/-- a scheme as text -/
def schemeF (x : Sch) : ByteArray := if validX x then schT x else ⟨#[]⟩
theorem nameB_sz {z : ByteArray} (h : nameB z = true) : z.size ≤ 12 := by
  simp only [nameB, Bool.and_eq_true, decide_eq_true_eq] at h; exact h.1
theorem stF_name {ss : List ByteArray} {z : ByteArray} (h : stF ss z = 0) : nameB z = true := by
  unfold stF at h
  split at h
  · assumption
  · omega
theorem hasS_mem {ss : List ByteArray} {z : ByteArray} (h : hasS ss z = true) : z ∈ ss := by
  simpa [hasS] using h
theorem validX_st {x : Sch} (h : validX x = true) {z : ByteArray} (hz : z ∈ x.st) : nameB z = true := by
  simp only [validX, Bool.and_eq_true] at h
  obtain ⟨i, hi, rfl⟩ := List.getElem_of_mem hz
  exact stF_name (okL_mem _ _ h.1 i _ (List.getElem?_eq_getElem hi))
theorem validX_rm {x : Sch} (h : validX x = true) {z : ByteArray} (hz : z ∈ x.rm) : z ∈ x.st := by
  simp only [validX, Bool.and_eq_true] at h
  obtain ⟨i, hi, rfl⟩ := List.getElem_of_mem hz
  have h1 := okL_mem _ _ h.2.1 i _ (List.getElem?_eq_getElem hi)
  unfold rmF at h1
  split at h1
  · rename_i h2; exact hasS_mem h2
  · omega
theorem validX_wy {x : Sch} (h : validX x = true) {y : Way} (hy : y ∈ x.wy) : y.fr ∈ x.st ∧ y.«to» ∈ x.st := by
  simp only [validX, Bool.and_eq_true] at h
  obtain ⟨i, hi, rfl⟩ := List.getElem_of_mem hy
  have h1 := okL_mem _ _ h.2.2 i _ (List.getElem?_eq_getElem hi)
  unfold wyF at h1
  split at h1
  · rename_i h2
    split at h1
    · rename_i h3; exact ⟨hasS_mem h2, hasS_mem h3⟩
    · omega
  · omega
/-- the parts of a text are short -/
def ShortX (x : Sch) : Prop := (∀ z ∈ x.st, z.size ≤ 12) ∧ (∀ z ∈ x.rm, z.size ≤ 12) ∧ ∀ y ∈ x.wy, y.fr.size ≤ 12 ∧ y.«to».size ≤ 12 ∧ 0 ≤ y.metres ∧ y.metres ≤ 2000
theorem validX_short {x : Sch} (h : validX x = true) : ShortX x := by
  refine ⟨fun z hz => nameB_sz (validX_st h hz), fun z hz => nameB_sz (validX_st h (validX_rm h hz)), fun y hy => ?_⟩
  obtain ⟨h1, h2⟩ := validX_wy h hy
  obtain ⟨i, hi, rfl⟩ := List.getElem_of_mem hy
  have h3 := validX_way h (List.getElem?_eq_getElem hi)
  exact ⟨nameB_sz (validX_st h h1), nameB_sz (validX_st h h2), by omega, by omega⟩
set_option maxHeartbeats 8000000 in
set_option maxRecDepth 100000 in
theorem implSchemeText_any (s : SV) (x : Sch) (w : World) (B : Nat) (hB : B ≤ w.heap.size) (hn : s.n1 ≤ 2000000 ∧ s.n2 ≤ 2000000 ∧ s.n3 ≤ 2000000) (hx : SlX w B s x) (hz : Hid (BigX x)) (htab : TabW w) :
    Calls Tryz.prog 16 #[s.v] w fun r w' => r = .returned (.string (schemeF x)) ∧ Below w.heap.size w w' := by
  obtain ⟨A1, n1, c1, A2, n2, c2, A3, n3, c3⟩ := s
  simp only [SV.v] at hn ⊢
  obtain ⟨W0, hW0⟩ : ∃ W0, W0 = w.alloc (.cells #[.slice A1 n1 c1, .slice A2 n2 c2, .slice A3 n3 c3] 25) := ⟨_, rfl⟩
  have b0 : Below w.heap.size w W0 := by rw [hW0]; exact (Below.refl _ _).alloc (Nat.le_refl _) _
  have k0 : W0.cell? ⟨w.heap.size, 0, none⟩ = some (.slice A1 n1 c1) := by rw [hW0]; go_simp
  have k1 : W0.cell? ⟨w.heap.size, 1, none⟩ = some (.slice A2 n2 c2) := by rw [hW0]; go_simp
  have k2 : W0.cell? ⟨w.heap.size, 2, none⟩ = some (.slice A3 n3 c3) := by rw [hW0]; go_simp
  have hx0 := hx.below (b0.mono hB)
  have hc := implValid_any ⟨A1, n1, c1, A2, n2, c2, A3, n3, c3⟩ x W0 B (Nat.le_trans hB b0.size) hn hx0 hz
  simp only [SV.v] at hc
  have x1 := hx0.st
  have x2 := hx0.rm
  have x3 := hx0.wy
  simp only at x1 x2 x3
  have L1 := x1.len
  have L2 := x2.len
  have L3 := x3.len
  obtain ⟨hn1, hn2, hn3⟩ := hn
  have HW := hid hW0
  clear hW0 hx hx0 hz
  cases hv : validX x with
  | false =>
    have E : Hid (schemeF x = ⟨#[]⟩) := by simp [Hid, schemeF, hv]
    rw [hv] at hc
    clear hv x1 x2 x3 L1 L2 L3
    go_enter Tryz.func16, Tryz.ntmps16
    go_wp2_with fail
    rw [← HW.out]
    refine hc.mono ?_
    rintro r w1 ⟨rfl, b1⟩
    clear hc
    go_wp2_with fail
    go_ret
    rw [E.out]
    exact ⟨rfl, b0.trans (b1.mono b0.size)⟩
  | true =>
    have E : Hid (schemeF x = txtL wyT (txtL rmT (txtL stT ⟨#[]⟩ x.st n1) x.rm n2) x.wy n3) := by simp only [Hid, schemeF, hv, if_true, schT, L1, L2, L3]
    have V : Hid (ShortX x) := validX_short hv
    rw [hv] at hc
    clear hv L1 L2 L3
    go_enter Tryz.func16, Tryz.ntmps16
    go_wp2_with fail
    rw [← HW.out]
    refine hc.mono ?_
    rintro r w0 ⟨rfl, b1⟩
    clear hc
    replace k0 := below_cell k0 b1
    replace k1 := below_cell k1 b1
    replace k2 := below_cell k2 b1
    have hB0 := Nat.le_trans (Nat.le_trans hB b0.size) b1.size
    replace x1 := hid (x1.below (b1.mono (Nat.le_trans hB b0.size)))
    replace x2 := hid (x2.below (b1.mono (Nat.le_trans hB b0.size)))
    replace x3 := hid (x3.below (b1.mono (Nat.le_trans hB b0.size)))
    have lt0 : w.heap.size < w0.heap.size := World.block_lt_of_cell? _ _ k0
    have cc := b0.trans (b1.mono b0.size)
    have htb := hid (htab.below cc)
    clear b1 b0 htab HW
    go_wp2_with fail
    go_loopw [3, 16] (fun vs vi wl => ∃ (k : Nat) (s : ByteArray), k ≤ n1 ∧ vi = .int .i64 k ∧ vs = .string s ∧ Hid (txtL stT ⟨#[]⟩ x.st k = s) ∧ s.size ≤ 0 + 21 * k ∧ Below w0.heap.size w0 wl) (fun _ i _ => n1 - (intOf i).toNat)
    case atStart => exact ⟨0, ⟨#[]⟩, Nat.zero_le _, rfl, rfl, hid rfl, Nat.zero_le _, Below.refl _ _⟩
    case round =>
      obtain ⟨k, sa, hk, rfl, rfl, hs, za, hb⟩ := hrel
      have hbs := hb.size
      have q0 := below_cell k0 hb
      have q1 := below_cell k1 hb
      have q2 := below_cell k2 hb
      have ltr : w.heap.size < wr.heap.size := by omega
      by_cases hkn : k < n1
      · obtain ⟨y, b, off, Hy, rfl, hbb, l0⟩ := (x1.out.below (hb.mono hB0)).str hkn
        have zy := V.out.1 _ (List.mem_of_getElem? Hy.out)
        have HS := txtL_succ (f := stT) (s := ⟨#[]⟩) Hy.out
        rw [hs.out] at HS
        unfold stT at HS
        have hi0 : (0 : Int) ≤ (k : Int) := by omega
        have hi1 : (k : Int) < (n1 : Int) := by omega
        have HSS := hid HS
        have hs1 : (9223372036854775807 < 8 + y.size) = False := by simp; omega
        have hs2 : (9223372036854775807 < 8 + y.size + 1) = False := by simp; omega
        have hs3 : (9223372036854775807 < sa.size + (8 + y.size + 1)) = False := by simp; omega
        have hsz2 : (sa ++ ((⟨#[115, 116, 97, 116, 105, 111, 110, 32]⟩ ++ y) ++ ⟨#[10]⟩)).size ≤ 0 + 21 * (k + 1) := by
          have e1 : (⟨#[10]⟩ : ByteArray).size = 1 := rfl
          have e4 : (⟨#[115, 116, 97, 116, 105, 111, 110, 32]⟩ : ByteArray).size = 8 := rfl
          simp only [ByteArray.size_append] at *
          omega
        clear HS hs Hy
        have hb7 := hb
        go_wp2_with fail
        clear hs1 hs2 hs3
        go_roundw
        all_goals first
          | exact ⟨k + 1, _, by omega, by go_num, rfl, HSS.out, hsz2, hb7⟩
          | exact ⟨⟨k + 1, _, by omega, by go_num, rfl, HSS.out, hsz2, hb7⟩, by simp [intOf]; omega⟩
          | (simp [intOf]; omega)
      · obtain rfl : n1 = k := by omega
        rw [hs.out] at E
        clear hs
        go_wp2_with fail
        obtain ⟨wq, hwq⟩ : ∃ wq : World, wq = wr := ⟨_, rfl⟩
        subst hwq
        go_loopw [3, 29] (fun vs vi wl => ∃ (k : Nat) (s : ByteArray), k ≤ n2 ∧ vi = .int .i64 k ∧ vs = .string s ∧ Hid (txtL rmT sa x.rm k = s) ∧ s.size ≤ 21 * n1 + 21 * k ∧ Below w0.heap.size w0 wl) (fun _ i _ => n2 - (intOf i).toNat)
        case atStart => exact ⟨0, _, Nat.zero_le _, rfl, rfl, hid rfl, by omega, hb⟩
        case round =>
          clear hb hbs
          obtain ⟨k, sb, hk, rfl, rfl, hs, zb, hb⟩ := hrel
          have hbs := hb.size
          have q1 := below_cell k1 hb
          have q2 := below_cell k2 hb
          have ltr : w.heap.size < wr.heap.size := by omega
          by_cases hkn : k < n2
          · obtain ⟨y, b, off, Hy, rfl, hbb, l0⟩ := (x2.out.below (hb.mono hB0)).str hkn
            have zy := V.out.2.1 _ (List.mem_of_getElem? Hy.out)
            have HS := txtL_succ (f := rmT) (s := sa) Hy.out
            rw [hs.out] at HS
            unfold rmT at HS
            have hi0 : (0 : Int) ≤ (k : Int) := by omega
            have hi1 : (k : Int) < (n2 : Int) := by omega
            have HSS := hid HS
            have hs1 : (9223372036854775807 < 5 + y.size) = False := by simp; omega
            have hs2 : (9223372036854775807 < 5 + y.size + 1) = False := by simp; omega
            have hs3 : (9223372036854775807 < sb.size + (5 + y.size + 1)) = False := by simp; omega
            have hsz2 : (sb ++ ((⟨#[114, 111, 111, 109, 32]⟩ ++ y) ++ ⟨#[10]⟩)).size ≤ 21 * n1 + 21 * (k + 1) := by
              have e1 : (⟨#[10]⟩ : ByteArray).size = 1 := rfl
              have e4 : (⟨#[114, 111, 111, 109, 32]⟩ : ByteArray).size = 5 := rfl
              simp only [ByteArray.size_append] at *
              omega
            clear HS hs Hy
            have hb7 := hb
            go_wp2_with fail
            clear hs1 hs2 hs3
            go_roundw
            all_goals first
              | exact ⟨k + 1, _, by omega, by go_num, rfl, HSS.out, hsz2, hb7⟩
              | exact ⟨⟨k + 1, _, by omega, by go_num, rfl, HSS.out, hsz2, hb7⟩, by simp [intOf]; omega⟩
              | (simp [intOf]; omega)
          · obtain rfl : n2 = k := by omega
            rw [hs.out] at E
            clear hs
            go_wp2_with fail
            obtain ⟨wq, hwq⟩ : ∃ wq : World, wq = wr := ⟨_, rfl⟩
            subst hwq
            go_loopw [3, 42] (fun vs vi wl => ∃ (k : Nat) (s : ByteArray), k ≤ n3 ∧ vi = .int .i64 k ∧ vs = .string s ∧ Hid (txtL wyT sb x.wy k = s) ∧ s.size ≤ (21 * n1 + 21 * n2) + 80 * k ∧ Below w0.heap.size w0 wl) (fun _ i _ => n3 - (intOf i).toNat)
            case atStart => exact ⟨0, _, Nat.zero_le _, rfl, rfl, hid rfl, by omega, hb⟩
            case round =>
              clear hb hbs
              obtain ⟨k, sc, hk, rfl, rfl, hs, zc, hb⟩ := hrel
              have hbs := hb.size
              have q2 := below_cell k2 hb
              have ltr : w.heap.size < wr.heap.size := by omega
              by_cases hkn : k < n3
              · obtain ⟨f, g, m, b, off, Hy, rfl, hbb, l0, l1, l2⟩ := (x3.out.below (hb.mono hB0)).atWay hkn
                obtain ⟨zf, zg, m0, m1⟩ := V.out.2.2 _ (List.mem_of_getElem? Hy.out)
                simp only at zf zg m0 m1
                have HS := txtL_succ (f := wyT) (s := sb) Hy.out
                rw [hs.out] at HS
                unfold wyT at HS
                simp only at HS
                have hi0 : (0 : Int) ≤ (k : Int) := by omega
                have hi1 : (k : Int) < (n3 : Int) := by omega
                have zm := itoaB_size m0 (by omega)
                have cM := fun W hW => Decimal_any m W (by omega) (by omega) hW
                rw [itoaV_eq] at cM
                generalize itoaB m = sm at cM HS zm
                have HSS := hid HS
                have hs1 : (9223372036854775807 < 5 + f.size) = False := by simp; omega
                have hs2 : (9223372036854775807 < 5 + f.size + 1) = False := by simp; omega
                have hs3 : (9223372036854775807 < 5 + f.size + 1 + g.size) = False := by simp; omega
                have hs4 : (9223372036854775807 < 5 + f.size + 1 + g.size + 1) = False := by simp; omega
                have hs5 : (9223372036854775807 < 5 + f.size + 1 + g.size + 1 + sm.size) = False := by simp; omega
                have hs6 : (9223372036854775807 < 5 + f.size + 1 + g.size + 1 + sm.size + 1) = False := by simp; omega
                have hs7 : (9223372036854775807 < sc.size + (5 + f.size + 1 + g.size + 1 + sm.size + 1)) = False := by simp; omega
                have hsz2 : (sc ++ ((((((⟨#[116, 117, 98, 101, 32]⟩ ++ f) ++ ⟨#[32]⟩) ++ g) ++ ⟨#[32]⟩) ++ sm) ++ ⟨#[10]⟩)).size ≤ (21 * n1 + 21 * n2) + 80 * (k + 1) := by
                  have e1 : (⟨#[10]⟩ : ByteArray).size = 1 := rfl
                  have e4 : (⟨#[116, 117, 98, 101, 32]⟩ : ByteArray).size = 5 := rfl
                  have e2 : (⟨#[32]⟩ : ByteArray).size = 1 := rfl
                  simp only [ByteArray.size_append] at *
                  omega
                clear HS hs Hy
                obtain ⟨w2, hw2⟩ : ∃ w2, w2 = wr.alloc (.cells #[.string f, .string g, .int .i64 m] 62) := ⟨_, rfl⟩
                have hb2 : Below w0.heap.size w0 w2 := by rw [hw2]; exact hb.alloc hbs _
                have p0 : w2.cell? ⟨wr.heap.size, 0, none⟩ = some (.string f) := by rw [hw2]; go_simp
                have p1 : w2.cell? ⟨wr.heap.size, 1, none⟩ = some (.string g) := by rw [hw2]; go_simp
                have p2 : w2.cell? ⟨wr.heap.size, 2, none⟩ = some (.int .i64 m) := by rw [hw2]; go_simp
                have lt2 : wr.heap.size < w2.heap.size := World.block_lt_of_cell? _ _ p0
                have htb2 := htb.out.below hb2
                replace cM := fun W (hW : Below w2.heap.size w2 W) => cM W (htb2.below hW)
                have HW2 := hid hw2
                have hcur : Below w2.heap.size w2 w2.drew := (Below.refl _ _).drew
                clear hw2 htb2
                go_wp2_with fail
                rw [← HW2.out]
                go_region_held3 (fun W => W.cell? ⟨wr.heap.size, 0, none⟩ = some (.string f) ∧ W.cell? ⟨wr.heap.size, 1, none⟩ = some (.string g) ∧ W.cell? ⟨wr.heap.size, 2, none⟩ = some (.int .i64 m))
                  (first
                    | (go_keep; done)
                    | (go_split_ands; exact ⟨below_cell p0 hcur, below_cell p1 hcur, below_cell p2 hcur⟩))
                  (first
                    | (go_at_call 41; (with_reducible refine (cM _ hcur).mono ?_); rintro r wa ⟨rfl, ba⟩; replace hcur := hcur.trans (ba.mono hcur.size)))
                all_goals have hb7 := hb2.trans (hcur.mono hb2.size)
                all_goals clear hs1 hs2 hs3 hs4 hs5 hs6 hs7 cM
                all_goals (try go_wp2_with fail)
                all_goals go_roundw
                all_goals first
                  | exact ⟨k + 1, _, by omega, by go_num, rfl, HSS.out, hsz2, hb7⟩
                  | exact ⟨⟨k + 1, _, by omega, by go_num, rfl, HSS.out, hsz2, hb7⟩, by simp [intOf]; omega⟩
                  | (simp [intOf]; omega)
              · obtain rfl : n3 = k := by omega
                rw [hs.out] at E
                clear hs
                go_wp2_with fail
                go_ret
                rw [E.out]
                exact ⟨rfl, cc.trans (hb.mono cc.size)⟩
set_option maxHeartbeats 8000000 in
set_option maxRecDepth 100000 in
theorem l21Text_any (gx : Nat) (s : SV) (x : Sch) (w : World) (B : Nat) (hB0 : B ≤ w.heap.size) (hn : s.n1 ≤ 2000000 ∧ s.n2 ≤ 2000000 ∧ s.n3 ≤ 2000000) (hx : SlX w B s x) (V : Hid (ShortX x))
    (k0 : w.cell? ⟨gx, 0, none⟩ = some (.slice s.A1 s.n1 s.c1)) (k1 : w.cell? ⟨gx, 1, none⟩ = some (.slice s.A2 s.n2 s.c2)) (k2 : w.cell? ⟨gx, 2, none⟩ = some (.slice s.A3 s.n3 s.c3)) :
    Calls Tryz.prog 48 #[.pointer (some ⟨gx, 0, none⟩)] w fun r w' => r = .returned (.string (schT x)) ∧ Below w.heap.size w w' := by
  obtain ⟨A1, n1, c1, A2, n2, c2, A3, n3, c3⟩ := s
  simp only at hn k0 k1 k2
  obtain ⟨hn1, hn2, hn3⟩ := hn
  have E : Hid (schT x = txtL wyT (txtL rmT (txtL stT ⟨#[]⟩ x.st n1) x.rm n2) x.wy n3) := by
    have L1 := hx.st.len
    have L2 := hx.rm.len
    have L3 := hx.wy.len
    simp only at L1 L2 L3
    simp only [Hid, schT, L1, L2, L3]
  have x1 := hid hx.st
  have x2 := hid hx.rm
  have x3 := hid hx.wy
  simp only at x1 x2 x3
  have lt0 : gx < w.heap.size := World.block_lt_of_cell? _ _ k0
  clear hx
  go_enter Tryz.func48, Tryz.ntmps48
  go_wp2_with fail
  go_loopw [3, 4] (fun vs vi wl => ∃ (k : Nat) (s : ByteArray), k ≤ n1 ∧ vi = .int .i64 k ∧ vs = .string s ∧ Hid (txtL stT ⟨#[]⟩ x.st k = s) ∧ s.size ≤ 0 + 21 * k ∧ Below w.heap.size w wl) (fun _ i _ => n1 - (intOf i).toNat)
  case atStart => exact ⟨0, ⟨#[]⟩, Nat.zero_le _, rfl, rfl, hid rfl, Nat.zero_le _, Below.refl _ _⟩
  case round =>
    obtain ⟨k, sa, hk, rfl, rfl, hs, za, hb⟩ := hrel
    have hbs := hb.size
    have q0 := below_cell k0 hb
    have q1 := below_cell k1 hb
    have q2 := below_cell k2 hb
    have ltr : gx < wr.heap.size := by omega
    by_cases hkn : k < n1
    · obtain ⟨y, b, off, Hy, rfl, hbb, l0⟩ := (x1.out.below (hb.mono hB0)).str hkn
      have zy := V.out.1 _ (List.mem_of_getElem? Hy.out)
      have HS := txtL_succ (f := stT) (s := ⟨#[]⟩) Hy.out
      rw [hs.out] at HS
      unfold stT at HS
      have hi0 : (0 : Int) ≤ (k : Int) := by omega
      have hi1 : (k : Int) < (n1 : Int) := by omega
      have HSS := hid HS
      have hs1 : (9223372036854775807 < 8 + y.size) = False := by simp; omega
      have hs2 : (9223372036854775807 < 8 + y.size + 1) = False := by simp; omega
      have hs3 : (9223372036854775807 < sa.size + (8 + y.size + 1)) = False := by simp; omega
      have hsz2 : (sa ++ ((⟨#[115, 116, 97, 116, 105, 111, 110, 32]⟩ ++ y) ++ ⟨#[10]⟩)).size ≤ 0 + 21 * (k + 1) := by
        have e1 : (⟨#[10]⟩ : ByteArray).size = 1 := rfl
        have e4 : (⟨#[115, 116, 97, 116, 105, 111, 110, 32]⟩ : ByteArray).size = 8 := rfl
        simp only [ByteArray.size_append] at *
        omega
      clear HS hs Hy
      have hb7 := hb
      go_wp2_with fail
      clear hs1 hs2 hs3
      go_roundw
      all_goals first
        | exact ⟨k + 1, _, by omega, by go_num, rfl, HSS.out, hsz2, hb7⟩
        | exact ⟨⟨k + 1, _, by omega, by go_num, rfl, HSS.out, hsz2, hb7⟩, by simp [intOf]; omega⟩
        | (simp [intOf]; omega)
    · obtain rfl : n1 = k := by omega
      rw [hs.out] at E
      clear hs
      go_wp2_with fail
      obtain ⟨wq, hwq⟩ : ∃ wq : World, wq = wr := ⟨_, rfl⟩
      subst hwq
      go_loopw [3, 5] (fun vs vi wl => ∃ (k : Nat) (s : ByteArray), k ≤ n2 ∧ vi = .int .i64 k ∧ vs = .string s ∧ Hid (txtL rmT sa x.rm k = s) ∧ s.size ≤ 21 * n1 + 21 * k ∧ Below w.heap.size w wl) (fun _ i _ => n2 - (intOf i).toNat)
      case atStart => exact ⟨0, _, Nat.zero_le _, rfl, rfl, hid rfl, by omega, hb⟩
      case round =>
        clear hb hbs
        obtain ⟨k, sb, hk, rfl, rfl, hs, zb, hb⟩ := hrel
        have hbs := hb.size
        have q1 := below_cell k1 hb
        have q2 := below_cell k2 hb
        have ltr : gx < wr.heap.size := by omega
        by_cases hkn : k < n2
        · obtain ⟨y, b, off, Hy, rfl, hbb, l0⟩ := (x2.out.below (hb.mono hB0)).str hkn
          have zy := V.out.2.1 _ (List.mem_of_getElem? Hy.out)
          have HS := txtL_succ (f := rmT) (s := sa) Hy.out
          rw [hs.out] at HS
          unfold rmT at HS
          have hi0 : (0 : Int) ≤ (k : Int) := by omega
          have hi1 : (k : Int) < (n2 : Int) := by omega
          have HSS := hid HS
          have hs1 : (9223372036854775807 < 5 + y.size) = False := by simp; omega
          have hs2 : (9223372036854775807 < 5 + y.size + 1) = False := by simp; omega
          have hs3 : (9223372036854775807 < sb.size + (5 + y.size + 1)) = False := by simp; omega
          have hsz2 : (sb ++ ((⟨#[114, 111, 111, 109, 32]⟩ ++ y) ++ ⟨#[10]⟩)).size ≤ 21 * n1 + 21 * (k + 1) := by
            have e1 : (⟨#[10]⟩ : ByteArray).size = 1 := rfl
            have e4 : (⟨#[114, 111, 111, 109, 32]⟩ : ByteArray).size = 5 := rfl
            simp only [ByteArray.size_append] at *
            omega
          clear HS hs Hy
          have hb7 := hb
          go_wp2_with fail
          clear hs1 hs2 hs3
          go_roundw
          all_goals first
            | exact ⟨k + 1, _, by omega, by go_num, rfl, HSS.out, hsz2, hb7⟩
            | exact ⟨⟨k + 1, _, by omega, by go_num, rfl, HSS.out, hsz2, hb7⟩, by simp [intOf]; omega⟩
            | (simp [intOf]; omega)
        · obtain rfl : n2 = k := by omega
          rw [hs.out] at E
          clear hs
          go_wp2_with fail
          obtain ⟨wq, hwq⟩ : ∃ wq : World, wq = wr := ⟨_, rfl⟩
          subst hwq
          go_loopw [3, 6] (fun vs vi wl => ∃ (k : Nat) (s : ByteArray), k ≤ n3 ∧ vi = .int .i64 k ∧ vs = .string s ∧ Hid (txtL wyT sb x.wy k = s) ∧ s.size ≤ (21 * n1 + 21 * n2) + 80 * k ∧ Below w.heap.size w wl) (fun _ i _ => n3 - (intOf i).toNat)
          case atStart => exact ⟨0, _, Nat.zero_le _, rfl, rfl, hid rfl, by omega, hb⟩
          case round =>
            clear hb hbs
            obtain ⟨k, sc, hk, rfl, rfl, hs, zc, hb⟩ := hrel
            have hbs := hb.size
            have q2 := below_cell k2 hb
            have ltr : gx < wr.heap.size := by omega
            by_cases hkn : k < n3
            · obtain ⟨f, g, m, b, off, Hy, rfl, hbb, l0, l1, l2⟩ := (x3.out.below (hb.mono hB0)).atWay hkn
              obtain ⟨zf, zg, m0, m1⟩ := V.out.2.2 _ (List.mem_of_getElem? Hy.out)
              simp only at zf zg m0 m1
              have HS := txtL_succ (f := wyT) (s := sb) Hy.out
              rw [hs.out] at HS
              unfold wyT at HS
              simp only at HS
              have hi0 : (0 : Int) ≤ (k : Int) := by omega
              have hi1 : (k : Int) < (n3 : Int) := by omega
              have zm := itoaB_size m0 (by omega)
              have cM := fun W => l01Dec_any m W (by omega) (by omega)
              rw [itoaV_eq] at cM
              generalize itoaB m = sm at cM HS zm
              have HSS := hid HS
              have hs1 : (9223372036854775807 < 5 + f.size) = False := by simp; omega
              have hs2 : (9223372036854775807 < 5 + f.size + 1) = False := by simp; omega
              have hs3 : (9223372036854775807 < 5 + f.size + 1 + g.size) = False := by simp; omega
              have hs4 : (9223372036854775807 < 5 + f.size + 1 + g.size + 1) = False := by simp; omega
              have hs5 : (9223372036854775807 < 5 + f.size + 1 + g.size + 1 + sm.size) = False := by simp; omega
              have hs6 : (9223372036854775807 < 5 + f.size + 1 + g.size + 1 + sm.size + 1) = False := by simp; omega
              have hs7 : (9223372036854775807 < sc.size + (5 + f.size + 1 + g.size + 1 + sm.size + 1)) = False := by simp; omega
              have hsz2 : (sc ++ ((((((⟨#[116, 117, 98, 101, 32]⟩ ++ f) ++ ⟨#[32]⟩) ++ g) ++ ⟨#[32]⟩) ++ sm) ++ ⟨#[10]⟩)).size ≤ (21 * n1 + 21 * n2) + 80 * (k + 1) := by
                have e1 : (⟨#[10]⟩ : ByteArray).size = 1 := rfl
                have e4 : (⟨#[116, 117, 98, 101, 32]⟩ : ByteArray).size = 5 := rfl
                have e2 : (⟨#[32]⟩ : ByteArray).size = 1 := rfl
                simp only [ByteArray.size_append] at *
                omega
              clear HS hs Hy
              obtain ⟨w2, hw2⟩ : ∃ w2, w2 = wr.alloc (.cells #[.string f, .string g, .int .i64 m] 62) := ⟨_, rfl⟩
              have hb2 : Below w.heap.size w w2 := by rw [hw2]; exact hb.alloc hbs _
              have p0 : w2.cell? ⟨wr.heap.size, 0, none⟩ = some (.string f) := by rw [hw2]; go_simp
              have p1 : w2.cell? ⟨wr.heap.size, 1, none⟩ = some (.string g) := by rw [hw2]; go_simp
              have p2 : w2.cell? ⟨wr.heap.size, 2, none⟩ = some (.int .i64 m) := by rw [hw2]; go_simp
              have lt2 : wr.heap.size < w2.heap.size := World.block_lt_of_cell? _ _ p0
              have HW2 := hid hw2
              have hcur : Below w2.heap.size w2 w2.drew := (Below.refl _ _).drew
              clear hw2
              go_wp2_with fail
              rw [← HW2.out]
              go_region_held3 (fun W => W.cell? ⟨wr.heap.size, 0, none⟩ = some (.string f) ∧ W.cell? ⟨wr.heap.size, 1, none⟩ = some (.string g) ∧ W.cell? ⟨wr.heap.size, 2, none⟩ = some (.int .i64 m))
                (first
                  | (go_keep; done)
                  | (go_split_ands; exact ⟨below_cell p0 hcur, below_cell p1 hcur, below_cell p2 hcur⟩))
                (first
                  | (go_at_call 53; (with_reducible refine (cM _).mono ?_); rintro r wa ⟨rfl, ba⟩; replace hcur := hcur.trans (ba.mono hcur.size)))
              all_goals have hb7 := hb2.trans (hcur.mono hb2.size)
              all_goals clear hs1 hs2 hs3 hs4 hs5 hs6 hs7 cM
              all_goals (try go_wp2_with fail)
              all_goals go_roundw
              all_goals first
                | exact ⟨k + 1, _, by omega, by go_num, rfl, HSS.out, hsz2, hb7⟩
                | exact ⟨⟨k + 1, _, by omega, by go_num, rfl, HSS.out, hsz2, hb7⟩, by simp [intOf]; omega⟩
                | (simp [intOf]; omega)
            · obtain rfl : n3 = k := by omega
              rw [hs.out] at E
              clear hs
              go_wp2_with fail
              go_ret
              rw [E.out]
              exact ⟨rfl, hb⟩
set_option maxHeartbeats 4000000 in
set_option maxRecDepth 100000 in
theorem specSchemeText_any (s : SV) (x : Sch) (w : World) (B : Nat) (hB : B ≤ w.heap.size) (hn : s.n1 ≤ 2000000 ∧ s.n2 ≤ 2000000 ∧ s.n3 ≤ 2000000) (hx : SlX w B s x) (hz : Hid (BigX x)) :
    Calls Tryz.prog 20 #[s.v] w fun r w' => r = .returned (.string (schemeF x)) ∧ Below w.heap.size w w' := by
  obtain ⟨A1, n1, c1, A2, n2, c2, A3, n3, c3⟩ := s
  simp only [SV.v] at hn ⊢
  obtain ⟨W0, hW0⟩ : ∃ W0, W0 = w.alloc (.cells #[.slice A1 n1 c1, .slice A2 n2 c2, .slice A3 n3 c3] 25) := ⟨_, rfl⟩
  have b0 : Below w.heap.size w W0 := by rw [hW0]; exact (Below.refl _ _).alloc (Nat.le_refl _) _
  have k0 : W0.cell? ⟨w.heap.size, 0, none⟩ = some (.slice A1 n1 c1) := by rw [hW0]; go_simp
  have k1 : W0.cell? ⟨w.heap.size, 1, none⟩ = some (.slice A2 n2 c2) := by rw [hW0]; go_simp
  have k2 : W0.cell? ⟨w.heap.size, 2, none⟩ = some (.slice A3 n3 c3) := by rw [hW0]; go_simp
  have hx0 := hx.below (b0.mono hB)
  have hc := l21Ok_any w.heap.size ⟨A1, n1, c1, A2, n2, c2, A3, n3, c3⟩ x W0 B (Nat.le_trans hB b0.size) hn hx0 hz k0 k1 k2
  have HW := hid hW0
  clear hW0 hx hz
  cases hv : validX x with
  | false =>
    have E : Hid (schemeF x = ⟨#[]⟩) := by simp [Hid, schemeF, hv]
    rw [hv] at hc
    clear hv hx0
    go_enter Tryz.func20, Tryz.ntmps20
    go_wp2_with fail
    rw [← HW.out]
    refine hc.mono ?_
    rintro r w1 ⟨rfl, b1⟩
    clear hc
    go_wp2_with fail
    go_ret
    rw [E.out]
    exact ⟨rfl, b0.trans (b1.mono b0.size)⟩
  | true =>
    have E : Hid (schemeF x = schT x) := by simp only [Hid, schemeF, hv, if_true]
    have V : Hid (ShortX x) := validX_short hv
    have hT := fun W (hb : Below W0.heap.size W0 W) => l21Text_any w.heap.size ⟨A1, n1, c1, A2, n2, c2, A3, n3, c3⟩ x W B (Nat.le_trans (Nat.le_trans hB b0.size) hb.size) hn (hx0.below (hb.mono (Nat.le_trans hB b0.size))) V (below_cell k0 hb) (below_cell k1 hb) (below_cell k2 hb)
    rw [hv] at hc
    clear hv hx0 V
    go_enter Tryz.func20, Tryz.ntmps20
    go_wp2_with fail
    rw [← HW.out]
    refine hc.mono ?_
    rintro r w1 ⟨rfl, b1⟩
    clear hc
    have lt1 : w.heap.size < w1.heap.size := World.block_lt_of_cell? _ _ (below_cell k0 b1)
    have cc := b0.trans (b1.mono b0.size)
    go_wp2_with fail
    refine (hT _ b1).mono ?_
    rintro r w2 ⟨rfl, b2⟩
    clear hT
    go_wp2_with fail
    go_ret
    rw [E.out]
    exact ⟨rfl, cc.trans (b2.mono cc.size)⟩
end Go.Proofs.YtcgkcfmiabninaaGreatDoor
