/-
  A text with one letter more or less; the draw of ReadTariff. No condition.
-/
import Derived.Test.YtngfhpklakhehaaGreatDoorTDrawB
import Derived.Test.YtngfhpklakhehaaGreatDoorKTariff
import Derived.Test.YtngfhpklakhehaaGreatDoorRSplit
namespace Go.Proofs.YtngfhpklakhehaaGreatDoor
open Go.RowKit
set_option maxHeartbeats 400000

theorem bs_notnil' {s : ByteArray} (hp : 0 < s.size) : ¬ s.toList = [] := by
  rw [ByteArray.toList_eq]
  intro e
  have := bs_len s
  rw [e] at this
  simp at this
  omega
/-- one of some texts -/
theorem textZ_any (gs k : Nat) (A : Option Addr) (n c : Nat) (xs : List ByteArray) (w : World) (h : SrcAt w gs k) (hk : k ≤ 900000) (hn : n ≤ 1000) (hn0 : 0 < n) (hx : Sl w w.heap.size 1 encS A n xs) (hA : ∀ b off s, A = some ⟨b, off, s⟩ → b ≠ gs) :
    Calls Tryz.prog 66 #[.pointer (some ⟨gs, 0, none⟩), .slice A n c] w fun e w' => ∃ r, e = .returned (.string r) ∧ r ∈ xs ∧ SrcAt w' gs (k + 2) ∧ w.grownBy w' (some gs) := by
  have hp := pick_any gs k n w h hk (by omega)
  have hpost : ∀ (r : Int) (w1 : World), 0 ≤ r → (r < n ∨ (r = 0 ∧ (n : Int) ≤ 1)) → w.grownBy w1 (some gs) → ∃ (i : Nat) (z : ByteArray) (b off : Nat), r = i ∧ (i : Int) < (n : Int) ∧ z ∈ xs ∧ A = some ⟨b, off, none⟩ ∧ w1.cell? ⟨b, off + i, none⟩ = some (.string z) := by
    intro r w1 r0 r1 hg
    have hi : r.toNat < n := by omega
    obtain ⟨z, b, off, Hx, e, hb, cb⟩ := hx.str hi
    refine ⟨r.toNat, z, b, off, by omega, by omega, List.mem_of_getElem? Hx.out, e, hg.cell cb (fun e2 => hA _ _ _ e (by simpa using e2))⟩
  have HP := hid hpost
  clear h hx hpost
  go_enter Tryz.func66, Tryz.ntmps66
  go_wp2_with (go_at_call 51; refine hp.mono ?_; rintro e w1 ⟨r, rfl, r0, r1, hs, hg⟩; obtain ⟨i, z, b, off, rfl, hin, hz, rfl, cz⟩ := HP.out _ _ r0 r1 hg; have hi0 : (0 : Int) ≤ (i : Int) := Int.natCast_nonneg i)
  go_ret
  exact ⟨z, rfl, hz, hs, hg⟩
theorem gr_drewN' {w : World} {row : Option Nat} (n : Nat) : w.grownBy (w.drewN n) row := gr_drewN (World.grownBy.refl _ _)
theorem one7 {z : ByteArray} (hz : z ∈ ([⟨#[32]⟩, ⟨#[48]⟩, ⟨#[45]⟩, ⟨#[120]⟩, ⟨#[49]⟩, ⟨#[57]⟩, ⟨#[46]⟩] : List ByteArray)) : z.size = 1 := by
  simp only [List.mem_cons, List.not_mem_nil, or_false] at hz
  rcases hz with rfl | rfl | rfl | rfl | rfl | rfl | rfl <;> rfl
theorem ext_size (s : ByteArray) {a b : Nat} (h : b ≤ s.size) (h' : a ≤ b) : (s.extract a b).size = b - a := by rw [ByteArray.size_extract]; omega
/-- a text with one letter more, one less, or as it was -/
def SpoilP (gs K : Nat) (s : ByteArray) (w : World) (r : Ending) (w' : World) : Prop :=
  ∃ t : ByteArray, r = .returned (.string t) ∧ t.size ≤ s.size + 1 ∧ SrcAt w' gs K ∧ w.grownBy w' (some gs)
set_option maxHeartbeats 4000000 in
set_option maxRecDepth 100000 in
theorem l01Spoil_any (gs k : Nat) (s : ByteArray) (w : World) (h : SrcAt w gs k) (hk : k ≤ 10000) (hs : s.size ≤ 100000) :
    Calls Tryz.prog 46 #[.pointer (some ⟨gs, 0, none⟩), .string s] w (SpoilP gs (k + 6) s w) := by
  have H := hid h
  have z0 : (0 : Int) ≤ (s.size : Int) := by omega
  have z1 : (s.size : Int) ≤ 100000 := by omega
  clear h
  go_enter Tryz.func46, Tryz.ntmps46
  go_wp2_with fail
  refine (pick_any gs k 5 _ H.out (by omega) (by omega)).mono ?_
  rintro r w1 ⟨q, rfl, q0, q1, hs1, hg1⟩
  have H1 := hid hs1
  have G1 := hid hg1
  clear hs1 hg1 H
  by_cases hq0 : q = 0
  · subst hq0
    go_wp2_with fail
    refine (pick_any gs _ ((s.size : Int) + 1) _ H1.out (by omega) (by omega)).mono ?_
    rintro r w2 ⟨a, rfl, a0, a1, hs2, hg2⟩
    obtain ⟨a, rfl⟩ := Int.eq_ofNat_of_zero_le a0
    have H2 := hid hs2
    have G2 := hid (G1.out.trans hg2)
    have a2 : (a : Int) ≤ (s.size : Int) := by omega
    have a3 : a ≤ s.size := by omega
    have hgl := hs2.lt
    clear hs2 hg2 H1 G1 a1
    obtain ⟨L, hL⟩ : ∃ L, L = s.extract 0 a := ⟨_, rfl⟩
    obtain ⟨R, hR⟩ : ∃ R, R = s.extract a s.size := ⟨_, rfl⟩
    have zL : L.size = a := by rw [hL, ext_size s a3 (Nat.zero_le _)]; omega
    have zR : R.size = s.size - a := by rw [hR, ext_size s (Nat.le_refl _) a3]
    have NN : Hid ((w2.drew.alloc (.cells #[.string ⟨#[32]⟩, .string ⟨#[48]⟩, .string ⟨#[45]⟩, .string ⟨#[120]⟩, .string ⟨#[49]⟩, .string ⟨#[57]⟩, .string ⟨#[46]⟩] 9)).ownsRow w2.heap.size 9 1 (.slice (some ⟨w2.heap.size, 0, none⟩) 7 7) 7 (([⟨#[32]⟩, ⟨#[48]⟩, ⟨#[45]⟩, ⟨#[120]⟩, ⟨#[49]⟩, ⟨#[57]⟩, ⟨#[46]⟩] : List ByteArray).flatMap encS)) := by
      have := World.ownsRow_lit (base := w2.heap.size) (e := 9) (size := 1) (w2.drew) #[.string ⟨#[32]⟩, .string ⟨#[48]⟩, .string ⟨#[45]⟩, .string ⟨#[120]⟩, .string ⟨#[49]⟩, .string ⟨#[57]⟩, .string ⟨#[46]⟩] 7 (Nat.le_refl _) (by simp [maxLen]) (by simp)
      simpa [Hid, encS] using this
    have hmin : min a s.size = a := by omega
    have hmin2 : s.size - a ≤ 100000 := by omega
    have ha1 : a ≤ 100000 := by omega
    have zL' : (s.extract 0 a).size = a := by rw [← hL]; exact zL
    have zR' : (s.extract a s.size).size = s.size - a := by rw [← hR]; exact zR
    have hq1 : (9223372036854775807 < a + 1) = False := by simp; omega
    have hq2 : (9223372036854775807 < a + 1 + (s.size - a)) = False := by simp; omega
    have hq5 : (9223372036854775807 < min a s.size + 1) = False := by rw [hmin]; exact hq1
    have hq6 : (9223372036854775807 < min a s.size + 1 + (s.size - a)) = False := by rw [hmin]; exact hq2
    have HL := hid hL
    have HR := hid hR
    clear hL hR
    go_wp2_with fail
    go_region_held3 (fun _ => True) (first | (try dsimp only; exact True.intro) | go_keep)
      (first | (go_at_call 66; refine (textZ_any gs _ (some ⟨w2.heap.size, 0, none⟩) 7 7 [⟨#[32]⟩, ⟨#[48]⟩, ⟨#[45]⟩, ⟨#[120]⟩, ⟨#[49]⟩, ⟨#[57]⟩, ⟨#[46]⟩] _ ((H2.out.below ((Below.refl _ _).drew)).alloc (.cells #[.string ⟨#[32]⟩, .string ⟨#[48]⟩, .string ⟨#[45]⟩, .string ⟨#[120]⟩, .string ⟨#[49]⟩, .string ⟨#[57]⟩, .string ⟨#[46]⟩] 9)) (by omega) (by omega) (by omega) (own_sl encS_len (by omega) NN.out) (fun b off s e => by injection e with e; injection e with e; omega)).mono ?_; rintro r wa ⟨z, rfl, hz, hsa, hga⟩; have zz : z.size = 1 := (one7 hz)))
    have G3 := hid (G2.out.trans ((gr_alloc (o := .cells #[.string ⟨#[32]⟩, .string ⟨#[48]⟩, .string ⟨#[45]⟩, .string ⟨#[120]⟩, .string ⟨#[49]⟩, .string ⟨#[57]⟩, .string ⟨#[46]⟩] 9) (gr_drew (World.grownBy.refl w2 (some gs)))).trans hga))
    have S3 := hid hsa
    clear hz hsa hga NN H2 G2
    go_wp2_with fail
    rw [← HL.out, ← HR.out]
    go_ret
    refine ⟨(L ++ z) ++ R, rfl, ?_, S3.out.mono (by omega), G3.out⟩
    rw [ByteArray.size_append, ByteArray.size_append]
    omega
  · by_cases hq1 : q = 1
    · subst hq1
      by_cases hz : s.size = 0
      · have e1 : s.toList = [] := by rw [ByteArray.toList_eq]; exact List.eq_nil_of_length_eq_zero (by rw [bs_len]; exact hz)
        clear hz hq0
        go_wp2_with fail
        go_ret
        exact ⟨s, rfl, by omega, H1.out.mono (by omega), G1.out⟩
      · have hp : 0 < s.size := by omega
        have e1 := bs_notnil' hp
        have e2 : s.toList.isEmpty = false := by simpa using e1
        clear hq0
        go_wp2_with fail
        refine (pick_any gs _ (s.size : Int) _ H1.out (by omega) (by omega)).mono ?_
        rintro r w2 ⟨a, rfl, a0, a1, hs2, hg2⟩
        obtain ⟨a, rfl⟩ := Int.eq_ofNat_of_zero_le a0
        have H2 := hid hs2
        have G2 := hid (G1.out.trans hg2)
        have a2 : (a : Int) ≤ (s.size : Int) := by omega
        have a3 : a + 1 ≤ s.size := by omega
        have a4 : (a : Int) + 1 ≤ (s.size : Int) := by omega
        have a5 : (0 : Int) ≤ (a : Int) + 1 := by omega
        have a6 : ((a : Int) + 1).toNat = a + 1 := by omega
        clear hs2 hg2 H1 G1 a1 hz
        obtain ⟨L, hL⟩ : ∃ L, L = s.extract 0 a := ⟨_, rfl⟩
        obtain ⟨R, hR⟩ : ∃ R, R = s.extract (a + 1) s.size := ⟨_, rfl⟩
        have zL : L.size = a := by rw [hL, ext_size s (by omega) (Nat.zero_le _)]; omega
        have zR : R.size = s.size - (a + 1) := by rw [hR, ext_size s (Nat.le_refl _) a3]
        have HL := hid hL
        have HR := hid hR
        clear hL hR
        go_wp2_with fail
        go_quiet (fail)
        go_wp2
        rw [← HL.out, ← HR.out]
        go_ret
        refine ⟨L ++ R, rfl, ?_, (H2.out.below (below_drewN (Below.refl _ _) nq)).mono (by omega), G2.out.trans (gr_drewN' nq)⟩
        rw [ByteArray.size_append]
        omega
    · have n0 : (q == 0) = false := by simpa using hq0
      have n1 : (q == 1) = false := by simpa using hq1
      go_wp2_with fail
      go_ret
      exact ⟨s, rfl, by omega, H1.out.mono (by omega), G1.out⟩
end Go.Proofs.YtngfhpklakhehaaGreatDoor
