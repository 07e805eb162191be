/-
  Tariffs as text: the program's function and the reference's. No condition but the table that lies laid.
-/
import Derived.Test.YtngfhpklakhehaaGreatDoorKDec2
import Derived.Test.YtngfhpklakhehaaGreatDoorBasic
import Derived.Test.YtngfhpklakhehaaGreatDoorTPrice2
import Derived.Deep.RegionHeld3
namespace Go.Proofs.YtngfhpklakhehaaGreatDoor
open Go.RowKit
set_option maxHeartbeats 400000

def itoaB (n : Int) : ByteArray := ⟨(Lib.itoa n).toArray⟩
theorem itoaB_size {n : Int} (h0 : 0 ≤ n) (h1 : n ≤ 1000000) : (itoaB n).size ≤ 21 := by
  have := Lib.itoa_length_le n (by omega) (by omega)
  simpa [itoaB, ByteArray.size] using this
theorem itoaV_eq (n : Int) : itoaV n = .string (itoaB n) := rfl
/-- a step as text -/
def stepTxt (x : Step) : ByteArray := ((itoaB x.g ++ ⟨#[103, 58]⟩) ++ itoaB x.p) ++ ⟨#[32]⟩
/-- the first k steps as text -/
def txtK (xs : List Step) : Nat → ByteArray
  | 0 => ⟨#[]⟩
  | k + 1 => match xs[k]? with
    | some x => txtK xs k ++ stepTxt x
    | none => txtK xs k
theorem txtK_succ {xs : List Step} {k : Nat} {x : Step} (h : xs[k]? = some x) : txtK xs (k + 1) = txtK xs k ++ stepTxt x := by
  simp only [txtK, h]
/-- a tariff as text -/
def tariffF (xs : List Step) (h e : Int) : ByteArray :=
  if validT ⟨xs, h, e⟩ then (((txtK xs xs.length ++ ⟨#[49, 48, 48, 109, 58]⟩) ++ itoaB h) ++ ⟨#[32, 101, 120, 112, 114, 101, 115, 115, 58]⟩) ++ itoaB e else ⟨#[]⟩
def tarT (xs : List Step) (h e : Int) : ByteArray := (((txtK xs xs.length ++ ⟨#[49, 48, 48, 109, 58]⟩) ++ itoaB h) ++ ⟨#[32, 101, 120, 112, 114, 101, 115, 115, 58]⟩) ++ itoaB e
theorem tariffF_yes {xs : List Step} {h e : Int} (hv : validT ⟨xs, h, e⟩ = true) : tariffF xs h e = tarT xs h e := by simp only [tariffF, hv, if_true, tarT]
set_option maxHeartbeats 8000000 in
set_option maxRecDepth 100000 in
theorem implTariffText_any (A : Option Addr) (n c : Nat) (xs : List Step) (h e : Int) (w : World) (B : Nat) (hB : B ≤ w.heap.size) (hn : n ≤ 2000000) (hx : Sl w B 2 encStep A n xs) (htab : TabW w) :
    Calls Tryz.prog 15 #[.agg #[.slice A n c, .int .i64 h, .int .i64 e]] w fun r w' => r = .returned (.string (tariffF xs h e)) ∧ Below w.heap.size w w' := by
  have hol := hx.len
  have hv := ValidTariff_any A n c xs h e (w.alloc (.cells #[.slice A n c, .int .i64 h, .int .i64 e] 26)) B (by simp; omega) hn (hx.alloc hB _)
  cases hvt : validT ⟨xs, h, e⟩ with
  | false =>
    have E : Hid (tariffF xs h e = ⟨#[]⟩) := by simp [Hid, tariffF, hvt]
    rw [hvt] at hv
    clear hvt hx hol
    go_enter Tryz.func15, Tryz.ntmps15
    go_wp2_with fail
    refine hv.mono ?_
    rintro r w1 ⟨rfl, b1⟩
    have e1 : Below w.heap.size w w1 := ((Below.refl _ _).alloc (Nat.le_refl _) _).trans (b1.mono (by simp))
    clear b1 hv
    go_wp2_with fail
    go_ret
    rw [E.out]
    exact ⟨rfl, e1⟩
  | true =>
    have E : Hid (tariffF xs h e = (((txtK xs n ++ ⟨#[49, 48, 48, 109, 58]⟩) ++ itoaB h) ++ ⟨#[32, 101, 120, 112, 114, 101, 115, 115, 58]⟩) ++ itoaB e) := by simp only [Hid, tariffF, hvt, if_true, hol]
    obtain ⟨hss, hl0, hl1, h0, h1, e0, e1⟩ := validT_parts hvt
    have Hss := hid hss
    rw [hvt] at hv
    have zh := itoaB_size h0 (by omega)
    have ze := itoaB_size e0 (by omega)
    have cH := fun W hW => Decimal_any h W (by omega) (by omega) hW
    have cE := fun W hW => Decimal_any e W (by omega) (by omega) hW
    rw [itoaV_eq] at cH cE
    generalize itoaB h = sh at cH E zh
    generalize itoaB e = se at cE E ze
    have hn8 : n ≤ 8 := by omega
    clear hvt hss hl0 hl1 h0 h1 e0 e1
    go_enter Tryz.func15, Tryz.ntmps15
    go_wp2_with fail
    refine hv.mono ?_
    rintro r w0 ⟨rfl, b1⟩
    have hb0 : Below w.heap.size w w0 := ((Below.refl _ _).alloc (Nat.le_refl _) _).trans (b1.mono (by simp))
    have k0 : w0.cell? ⟨w.heap.size, 0, none⟩ = some (.slice A n c) := below_cell (by go_simp) b1
    have k1 : w0.cell? ⟨w.heap.size, 1, none⟩ = some (.int .i64 h) := below_cell (by go_simp) b1
    have k2 : w0.cell? ⟨w.heap.size, 2, none⟩ = some (.int .i64 e) := below_cell (by go_simp) b1
    have lt0 : w.heap.size < w0.heap.size := World.block_lt_of_cell? _ _ k0
    have htb := hid (htab.below hb0)
    have HX := hid (hx.below (hb0.mono hB))
    have hB0 := Nat.le_trans hB hb0.size
    clear b1 htab hv hx
    go_wp2_with fail
    go_loopw [3, 12] (fun vs vi wl => ∃ (k : Nat) (s : ByteArray), k ≤ n ∧ vi = .int .i64 k ∧ vs = .string s ∧ Hid (txtK xs k = s) ∧ s.size ≤ 60 * k ∧ Below w0.heap.size w0 wl) (fun _ i _ => n - (intOf i).toNat)
    case atStart => exact ⟨0, ⟨#[]⟩, Nat.zero_le _, rfl, rfl, hid rfl, Nat.zero_le _, Below.refl _ _⟩
    case round =>
      obtain ⟨k, s, hk, rfl, rfl, hs, hsz, hb⟩ := hrel
      have hbs := hb.size
      replace k0 := below_cell k0 hb
      replace k1 := below_cell k1 hb
      replace k2 := below_cell k2 hb
      by_cases hkn : k < n
      · obtain ⟨⟨g, p⟩, b, off, hx, rfl, hbB, hc⟩ := (HX.out.below (hb.mono hB0)).at_ hkn
        have c0 : wr.cell? ⟨b, off + k * 2, none⟩ = some (.int .i64 g) := hc 0 _ rfl
        have c1 : wr.cell? ⟨b, off + k * 2 + 1, none⟩ = some (.int .i64 p) := hc 1 _ rfl
        have hgp := Hss.out _ (List.mem_of_getElem? hx)
        simp only at hgp
        have HS := txtK_succ hx
        rw [hs.out] at HS
        unfold stepTxt at HS
        simp only at HS
        have zg := itoaB_size (show 0 ≤ g by omega) (by omega)
        have zp := itoaB_size (show 0 ≤ p by omega) (by omega)
        have cG := fun W hW => Decimal_any g W (by omega) (by omega) hW
        have cP := fun W hW => Decimal_any p W (by omega) (by omega) hW
        rw [itoaV_eq] at cG cP
        generalize itoaB g = sg at cG HS zg
        generalize itoaB p = sp at cP HS zp
        have HSS := hid HS
        obtain ⟨w2, hw2⟩ : ∃ w2, w2 = wr.alloc (.cells #[.int .i64 g, .int .i64 p] 57) := ⟨_, rfl⟩
        have hb2 : Below w0.heap.size w0 w2 := by rw [hw2]; exact hb.alloc hbs _
        have q0 : w2.cell? ⟨wr.heap.size, 0, none⟩ = some (.int .i64 g) := by rw [hw2]; go_simp
        have q1 : w2.cell? ⟨wr.heap.size, 1, none⟩ = some (.int .i64 p) := by rw [hw2]; go_simp
        have lt2 : wr.heap.size < w2.heap.size := World.block_lt_of_cell? _ _ q0
        have htb2 := htb.out.below hb2
        replace cG := fun W (hW : Below w2.heap.size w2 W) => cG W (htb2.below hW)
        replace cP := fun W (hW : Below w2.heap.size w2 W) => cP W (htb2.below hW)
        have HW2 := hid hw2
        have hcur : Below w2.heap.size w2 w2.drew := (Below.refl _ _).drew
        have i0 : (0 : Int) ≤ (k : Int) := by omega
        have i1 : (k : Int) < (n : Int) := by omega
        have hs1 : (9223372036854775807 < sg.size + 2) = False := by simp; omega
        have hs2 : (9223372036854775807 < sg.size + 2 + sp.size) = False := by simp; omega
        have hs3 : (9223372036854775807 < sg.size + 2 + sp.size + 1) = False := by simp; omega
        have hs4 : (9223372036854775807 < s.size + (sg.size + 2 + sp.size + 1)) = False := by simp; omega
        have hsz2 : (s ++ (sg ++ ⟨#[103, 58]⟩ ++ sp ++ ⟨#[32]⟩)).size ≤ 60 * (k + 1) := by
          have : (⟨#[103, 58]⟩ : ByteArray).size = 2 := rfl
          have : (⟨#[32]⟩ : ByteArray).size = 1 := rfl
          simp only [ByteArray.size_append] at *
          omega
        clear HS hs hc hx hgp htb2 hw2 k0 k1 k2 cH cE E
        go_wp2_with fail
        rw [← HW2.out]
        go_region_held3 (fun W => W.cell? ⟨wr.heap.size, 0, none⟩ = some (.int .i64 g) ∧ W.cell? ⟨wr.heap.size, 1, none⟩ = some (.int .i64 p))
          (first
            | (go_keep; done)
            | (go_split_ands; exact ⟨below_cell q0 hcur, below_cell q1 hcur⟩))
          (first
            | (go_at_call 39; (with_reducible refine (cG _ hcur).mono ?_); rintro r wa ⟨rfl, ba⟩; replace hcur := hcur.trans (ba.mono hcur.size))
            | (go_at_call 39; (with_reducible refine (cP _ hcur).mono ?_); rintro r wb ⟨rfl, bb⟩; replace hcur := hcur.trans (bb.mono hcur.size)))
        all_goals have hb7 := hb2.trans (hcur.mono hb2.size)
        all_goals clear hs1 hs2 hs3 hs4 cG cP
        all_goals (try go_wp2_with fail)
        all_goals go_roundw
        all_goals first
          | exact ⟨k + 1, _, by omega, by go_num, rfl, HSS.out, hsz2, hb7⟩
          | exact ⟨⟨k + 1, _, by omega, by go_num, rfl, HSS.out, hsz2, hb7⟩, by simp [intOf]; omega⟩
          | (simp [intOf]; omega)
      · obtain rfl : k = n := by omega
        rw [hs.out] at E
        have htb2 := htb.out.below hb
        replace cH := fun W (hW : Below wr.heap.size wr W) => cH W (htb2.below hW)
        replace cE := fun W (hW : Below wr.heap.size wr W) => cE W (htb2.below hW)
        have hcur : Below wr.heap.size wr wr.drew := (Below.refl _ _).drew
        have ltr : w.heap.size < wr.heap.size := by omega
        have hs1 : (9223372036854775807 < s.size + 5) = False := by simp; omega
        have hs2 : (9223372036854775807 < s.size + 5 + sh.size) = False := by simp; omega
        have hs3 : (9223372036854775807 < s.size + 5 + sh.size + 9) = False := by simp; omega
        have hs4 : (9223372036854775807 < s.size + 5 + sh.size + 9 + se.size) = False := by simp; omega
        clear hs htb htb2
        go_wp2_with fail
        go_region_held3 (fun W => W.cell? ⟨w.heap.size, 1, none⟩ = some (.int .i64 h) ∧ W.cell? ⟨w.heap.size, 2, none⟩ = some (.int .i64 e))
          (first
            | (go_keep; done)
            | (go_split_ands; exact ⟨below_cell k1 hcur, below_cell k2 hcur⟩))
          (first
            | (go_at_call 39; (with_reducible refine (cH _ hcur).mono ?_); rintro r wa ⟨rfl, ba⟩; replace hcur := hcur.trans (ba.mono hcur.size))
            | (go_at_call 39; (with_reducible refine (cE _ hcur).mono ?_); rintro r wb ⟨rfl, bb⟩; replace hcur := hcur.trans (bb.mono hcur.size)))
        all_goals have hb7 := hb0.trans ((hb.trans (hcur.mono hbs)).mono hb0.size)
        all_goals clear hs1 hs2 hs3 hs4 cH cE
        all_goals (try go_wp2_with fail)
        all_goals go_ret
        all_goals rw [E.out]
        all_goals exact ⟨rfl, hb7⟩
set_option maxHeartbeats 8000000 in
set_option maxRecDepth 100000 in
theorem l23Text_any (gt : Nat) (A : Option Addr) (n c : Nat) (xs : List Step) (h e : Int) (w : World) (B : Nat) (hB : B ≤ w.heap.size) (hn : n ≤ 9) (hx : Sl w B 2 encStep A n xs)
    (k0 : w.cell? ⟨gt, 0, none⟩ = some (.slice A n c)) (k1 : w.cell? ⟨gt, 1, none⟩ = some (.int .i64 h)) (k2 : w.cell? ⟨gt, 2, none⟩ = some (.int .i64 e))
    (hss : Hid (∀ s ∈ xs, 0 ≤ s.g ∧ s.g ≤ 1000000 ∧ 0 ≤ s.p ∧ s.p ≤ 1000000)) (h0 : 0 ≤ h) (h1 : h ≤ 1000000) (e0 : 0 ≤ e) (e1 : e ≤ 1000000) :
    Calls Tryz.prog 45 #[.pointer (some ⟨gt, 0, none⟩)] w fun r w' => r = .returned (.string (tarT xs h e)) ∧ Below w.heap.size w w' := by
  have hol := hx.len
  have E : Hid (tarT xs h e = (((txtK xs n ++ ⟨#[49, 48, 48, 109, 58]⟩) ++ itoaB h) ++ ⟨#[32, 101, 120, 112, 114, 101, 115, 115, 58]⟩) ++ itoaB e) := by simp only [Hid, tarT, hol]
  have zh := itoaB_size h0 (by omega)
  have ze := itoaB_size e0 (by omega)
  have cH := fun W => l01Dec_any h W (by omega) (by omega)
  have cE := fun W => l01Dec_any e W (by omega) (by omega)
  rw [itoaV_eq] at cH cE
  generalize itoaB h = sh at cH E zh
  generalize itoaB e = se at cE E ze
  have lt0 : gt < w.heap.size := World.block_lt_of_cell? _ _ k0
  have HX := hid hx
  clear hol h0 h1 e0 e1 hx
  go_enter Tryz.func45, Tryz.ntmps45
  go_wp2_with fail
  go_loopw [3, 4] (fun vs vi wl => ∃ (k : Nat) (s : ByteArray), k ≤ n ∧ vi = .int .i64 k ∧ vs = .string s ∧ Hid (txtK xs k = s) ∧ s.size ≤ 60 * k ∧ Below w.heap.size w wl) (fun _ i _ => n - (intOf i).toNat)
  case atStart => exact ⟨0, ⟨#[]⟩, Nat.zero_le _, rfl, rfl, hid rfl, Nat.zero_le _, Below.refl _ _⟩
  case round =>
    obtain ⟨k, s, hk, rfl, rfl, hs, hsz, hb⟩ := hrel
    have hbs := hb.size
    replace k0 := below_cell k0 hb
    replace k1 := below_cell k1 hb
    replace k2 := below_cell k2 hb
    by_cases hkn : k < n
    · obtain ⟨⟨g, p⟩, b, off, hx, rfl, hbB, hc⟩ := (HX.out.below (hb.mono hB)).at_ hkn
      have c0 : wr.cell? ⟨b, off + k * 2, none⟩ = some (.int .i64 g) := hc 0 _ rfl
      have c1 : wr.cell? ⟨b, off + k * 2 + 1, none⟩ = some (.int .i64 p) := hc 1 _ rfl
      have hgp := hss.out _ (List.mem_of_getElem? hx)
      simp only at hgp
      have HS := txtK_succ hx
      rw [hs.out] at HS
      unfold stepTxt at HS
      simp only at HS
      have zg := itoaB_size (show 0 ≤ g by omega) (by omega)
      have zp := itoaB_size (show 0 ≤ p by omega) (by omega)
      have cG := fun W => l01Dec_any g W (by omega) (by omega)
      have cP := fun W => l01Dec_any p W (by omega) (by omega)
      rw [itoaV_eq] at cG cP
      generalize itoaB g = sg at cG HS zg
      generalize itoaB p = sp at cP HS zp
      have HSS := hid HS
      have hcur : Below wr.heap.size wr wr.drew := (Below.refl _ _).drew
      have i0 : (0 : Int) ≤ (k : Int) := by omega
      have i1 : (k : Int) < (n : Int) := by omega
      have hs1 : (9223372036854775807 < sg.size + 2) = False := by simp; omega
      have hs2 : (9223372036854775807 < sg.size + 2 + sp.size) = False := by simp; omega
      have hs3 : (9223372036854775807 < sg.size + 2 + sp.size + 1) = False := by simp; omega
      have hs4 : (9223372036854775807 < s.size + (sg.size + 2 + sp.size + 1)) = False := by simp; omega
      have hsz2 : (s ++ (sg ++ ⟨#[103, 58]⟩ ++ sp ++ ⟨#[32]⟩)).size ≤ 60 * (k + 1) := by
        have : (⟨#[103, 58]⟩ : ByteArray).size = 2 := rfl
        have : (⟨#[32]⟩ : ByteArray).size = 1 := rfl
        simp only [ByteArray.size_append] at *
        omega
      clear HS hs hc hx hgp k1 k2 cH cE E
      go_wp2_with fail
      go_region_held3 (fun W => W.cell? ⟨gt, 0, none⟩ = some (.slice (some ⟨b, off, none⟩) n c) ∧ W.cell? ⟨b, off + k * 2, none⟩ = some (.int .i64 g) ∧ W.cell? ⟨b, off + k * 2 + 1, none⟩ = some (.int .i64 p))
        (first
          | (go_keep; done)
          | (go_split_ands; exact ⟨below_cell k0 hcur, below_cell c0 hcur, below_cell c1 hcur⟩))
        (first
          | (go_at_call 65; (with_reducible refine (cG _).mono ?_); rintro r wa ⟨rfl, ba⟩; replace hcur := hcur.trans (ba.mono hcur.size))
          | (go_at_call 65; (with_reducible refine (cP _).mono ?_); rintro r wb ⟨rfl, bb⟩; replace hcur := hcur.trans (bb.mono hcur.size)))
      all_goals have hb7 := hb.trans (hcur.mono hbs)
      all_goals clear hs1 hs2 hs3 hs4 cG cP
      all_goals (try go_wp2_with fail)
      all_goals go_roundw
      all_goals first
        | exact ⟨k + 1, _, by omega, by go_num, rfl, HSS.out, hsz2, hb7⟩
        | exact ⟨⟨k + 1, _, by omega, by go_num, rfl, HSS.out, hsz2, hb7⟩, by simp [intOf]; omega⟩
        | (simp [intOf]; omega)
    · obtain rfl : k = n := by omega
      rw [hs.out] at E
      have hcur : Below wr.heap.size wr wr.drew := (Below.refl _ _).drew
      have ltr : gt < wr.heap.size := by omega
      have hs1 : (9223372036854775807 < s.size + 5) = False := by simp; omega
      have hs2 : (9223372036854775807 < s.size + 5 + sh.size) = False := by simp; omega
      have hs3 : (9223372036854775807 < s.size + 5 + sh.size + 9) = False := by simp; omega
      have hs4 : (9223372036854775807 < s.size + 5 + sh.size + 9 + se.size) = False := by simp; omega
      clear hs
      go_wp2_with fail
      go_region_held3 (fun W => W.cell? ⟨gt, 1, none⟩ = some (.int .i64 h) ∧ W.cell? ⟨gt, 2, none⟩ = some (.int .i64 e))
        (first
          | (go_keep; done)
          | (go_split_ands; exact ⟨below_cell k1 hcur, below_cell k2 hcur⟩))
        (first
          | (go_at_call 65; (with_reducible refine (cH _).mono ?_); rintro r wa ⟨rfl, ba⟩; replace hcur := hcur.trans (ba.mono hcur.size))
          | (go_at_call 65; (with_reducible refine (cE _).mono ?_); rintro r wb ⟨rfl, bb⟩; replace hcur := hcur.trans (bb.mono hcur.size)))
      all_goals have hb7 := hb.trans (hcur.mono hbs)
      all_goals clear hs1 hs2 hs3 hs4 cH cE
      all_goals (try go_wp2_with fail)
      all_goals go_ret
      all_goals rw [E.out]
      all_goals exact ⟨rfl, hb7⟩
set_option maxHeartbeats 4000000 in
set_option maxRecDepth 100000 in
theorem specTariffText_any (A : Option Addr) (n c : Nat) (xs : List Step) (h e : Int) (w : World) (B : Nat) (hB : B ≤ w.heap.size) (hn : n ≤ 2000000) (hx : Sl w B 2 encStep A n xs) :
    Calls Tryz.prog 20 #[.agg #[.slice A n c, .int .i64 h, .int .i64 e]] w fun r w' => r = .returned (.string (tariffF xs h e)) ∧ Below w.heap.size w w' := by
  have hol := hx.len
  obtain ⟨W0, hW0⟩ : ∃ W0, W0 = w.alloc (.cells #[.slice A n c, .int .i64 h, .int .i64 e] 26) := ⟨_, rfl⟩
  have b0 : Below w.heap.size w W0 := by rw [hW0]; exact (Below.refl _ _).alloc (Nat.le_refl _) _
  have k0 : W0.cell? ⟨w.heap.size, 0, none⟩ = some (.slice A n c) := by rw [hW0]; go_simp
  have k1 : W0.cell? ⟨w.heap.size, 1, none⟩ = some (.int .i64 h) := by rw [hW0]; go_simp
  have k2 : W0.cell? ⟨w.heap.size, 2, none⟩ = some (.int .i64 e) := by rw [hW0]; go_simp
  have hx0 := hx.below (b0.mono hB)
  have hv := l23Ok_any w.heap.size 0 A n c xs h e W0 B (Nat.le_trans hB b0.size) hn hx0 k0 k1 k2
  have HW := hid hW0
  clear hW0
  cases hvt : validT ⟨xs, h, e⟩ with
  | false =>
    have E : Hid (tariffF xs h e = ⟨#[]⟩) := by simp [Hid, tariffF, hvt]
    rw [hvt] at hv
    clear hvt hx hx0 hol
    go_enter Tryz.func20, Tryz.ntmps20
    go_wp2_with fail
    rw [← HW.out]
    refine hv.mono ?_
    rintro r w1 ⟨rfl, b1⟩
    clear hv
    go_wp2_with fail
    go_ret
    rw [E.out]
    exact ⟨rfl, b0.trans (b1.mono b0.size)⟩
  | true =>
    have E : Hid (tariffF xs h e = tarT xs h e) := tariffF_yes hvt
    obtain ⟨hss, hl0, hl1, h0, h1, e0, e1⟩ := validT_parts hvt
    have hT := fun W (hb : Below W0.heap.size W0 W) => l23Text_any w.heap.size A n c xs h e W B (Nat.le_trans (Nat.le_trans hB b0.size) hb.size) (by omega) (hx0.below (hb.mono (Nat.le_trans hB b0.size))) (below_cell k0 hb) (below_cell k1 hb) (below_cell k2 hb) (fun s hs => by have := hss s hs; omega) h0 (by omega) e0 (by omega)
    rw [hvt] at hv
    clear hvt hx hx0 hol hss hl0 hl1 h0 h1 e0 e1
    go_enter Tryz.func20, Tryz.ntmps20
    go_wp2_with fail
    rw [← HW.out]
    refine hv.mono ?_
    rintro r w1 ⟨rfl, b1⟩
    clear hv
    have lt1 : w.heap.size < w1.heap.size := World.block_lt_of_cell? _ _ (below_cell k0 b1)
    have c1 := b0.trans (b1.mono b0.size)
    go_wp2_with fail
    refine (hT _ b1).mono ?_
    rintro r w2 ⟨rfl, b2⟩
    clear hT
    go_wp2_with fail
    go_ret
    rw [E.out]
    exact ⟨rfl, c1.trans (b2.mono c1.size)⟩
end Go.Proofs.YtngfhpklakhehaaGreatDoor
