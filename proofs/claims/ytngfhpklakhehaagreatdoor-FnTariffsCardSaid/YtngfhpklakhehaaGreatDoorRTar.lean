/-
  ReadTariff: the reference's side. No condition.
-/
import Derived.Test.YtngfhpklakhehaaGreatDoorRNum
import Derived.Test.YtngfhpklakhehaaGreatDoorRTarP
import Derived.Test.YtngfhpklakhehaaGreatDoorTariff
namespace Go.Proofs.YtngfhpklakhehaaGreatDoor
open Go.RowKit
set_option maxHeartbeats 400000

theorem bs_notnil {s : ByteArray} (hp : 0 < s.size) : ¬ s.toList = [] := by
  rw [ByteArray.toList_eq]
  intro e
  have := bs_len s
  rw [e] at this
  simp at this
  omega
theorem l03Unit_any (s : ByteArray) (b : UInt8) (w : World) (hs : s.size ≤ 1048576) : Calls Tryz.prog 49 #[.string s, .int .u8 (b.toNat : Int)] w (NumP w (unitF s.data.toList b)) := by
  by_cases h0 : s.size = 0
  · have hl : s.data.toList = [] := List.eq_nil_of_length_eq_zero (by rw [bs_len]; exact h0)
    have E : Hid (unitF s.data.toList b = none) := by rw [Hid, hl]; rfl
    have h1 : s.toList = [] := by rw [ByteArray.toList_eq, hl]
    clear hl h0
    go_enter Tryz.func49, Tryz.ntmps49
    go_wp2
    go_ret2
    exact NumP.no E.out (Below.refl _ _)
  · obtain ⟨m, hm⟩ : ∃ m, s.size = m + 1 := ⟨s.size - 1, by omega⟩
    have hp : 0 < s.size := by omega
    have h1 := bs_notnil hp
    have h2 : s.toList.isEmpty = false := by simpa using h1
    have hne : s.data.toList ≠ [] := fun e => h1 (by rw [ByteArray.toList_eq, e])
    have hz : m < s.size := by omega
    have hlast : s.data.toList.getLast? = some s[m] := by
      rw [List.getLast?_eq_getElem?, bs_len, show s.size - 1 = m by omega]
      exact bs_get hz
    have hw : IntKind.i64.wrap ((s.size : Int) - 1) = (m : Int) := by rw [IntWalk.i64_in _ (by omega)]; omega
    have hw2 : (s.size : Int) - 1 = (m : Int) := by omega
    obtain ⟨T, hT⟩ : ∃ T, T = s.extract 0 m := ⟨_, rfl⟩
    have hTd : T.data.toList = s.data.toList.take (s.data.toList.length - 1) := by rw [hT, ext_data, bs_len, show s.size - 1 = m by omega]; simp
    have hTz : T.size ≤ 1048576 := by rw [← bs_len, hTd, List.length_take, bs_len]; omega
    have m0 : (0 : Int) ≤ (m : Int) := by omega
    have m1 : (m : Int) < (s.size : Int) := by omega
    have m2 : (m : Int) ≤ (s.size : Int) := by omega
    by_cases hc : s[m] = b
    · have E : Hid (unitF s.data.toList b = rdN T.data.toList) := by rw [Hid, unitF, if_neg hne, hlast, hc, if_pos rfl, hTd]
      have e1 : (((s[m].toNat : Nat) : Int) != ((b.toNat : Nat) : Int)) = false := by rw [hc]; simp
      have cc := l01Number_any T w hTz
      have HT := hid hT
      clear hlast hc hTd hT hne hm
      go_enter Tryz.func49, Tryz.ntmps49
      go_wp2_with fail
      rw [← HT.out]
      refine cc.mono ?_
      rintro r w1 ⟨rfl, b1⟩
      rw [← E.out]
      clear cc HT E hw hw2
      cases hq : unitF s.data.toList b with
      | none => (simp only [numO]; have HQ := hid hq; clear hq; go_wp2_with fail; go_ret2; exact NumP.no HQ.out b1)
      | some n => (simp only [numO]; have HQ := hid hq; clear hq; go_wp2_with fail; go_ret2; exact NumP.yes HQ.out b1)
    · have E : Hid (unitF s.data.toList b = none) := by
        rw [Hid, unitF, if_neg hne, hlast, if_neg (fun e => hc (Option.some.inj e))]
      have e1 : (((s[m].toNat : Nat) : Int) != ((b.toNat : Nat) : Int)) = true := by
        rw [bne_iff_ne]
        intro e
        exact hc (UInt8.toNat_inj.1 (by omega))
      clear hlast hc hTd hT hne hm
      go_enter Tryz.func49, Tryz.ntmps49
      go_wp2_with fail
      go_ret2
      exact NumP.no E.out (Below.refl _ _)
theorem l23Part_any (s p : ByteArray) (w : World) (hs : s.size ≤ 1048576) (hp : p.size ≤ 100) : Calls Tryz.prog 48 #[.string s, .string p] w (NumP w (partF s.data.toList p.data.toList)) := by
  by_cases hl : s.size ≤ p.size
  · have E : Hid (partF s.data.toList p.data.toList = none) := by rw [Hid, partF, if_pos (by rw [bs_len, bs_len]; exact hl)]
    have q1 : (s.size : Int) ≤ (p.size : Int) := by omega
    go_enter Tryz.func48, Tryz.ntmps48
    go_wp2_with fail
    go_ret2
    exact NumP.no E.out (Below.refl _ _)
  · have q1 : ¬ (s.size : Int) ≤ (p.size : Int) := by omega
    have q2 : (p.size : Int) ≤ (s.size : Int) := by omega
    have q0 : (0 : Int) ≤ (p.size : Int) := by omega
    obtain ⟨H, hH⟩ : ∃ H, H = s.extract 0 p.size := ⟨_, rfl⟩
    have hHd : H.data.toList = s.data.toList.take p.data.toList.length := by rw [hH, ext_data, bs_len]; simp
    obtain ⟨T, hT⟩ : ∃ T, T = s.extract p.size s.size := ⟨_, rfl⟩
    have hTd : T.data.toList = s.data.toList.drop p.data.toList.length := by rw [hT, ext_end, bs_len]
    have hTz : T.size ≤ 1048576 := by rw [← bs_len, hTd, List.length_drop, bs_len, bs_len]; omega
    by_cases hc : H = p
    · have E : Hid (partF s.data.toList p.data.toList = rdN T.data.toList) := by
        rw [Hid, partF, if_neg (by rw [bs_len, bs_len]; exact hl), ← hHd, hc, if_pos rfl, hTd]
      have e1 : ((s.extract 0 p.size).toList == p.toList) = true := by rw [← hH]; exact bs_in hc
      have cc := l01Number_any T w hTz
      have HT := hid hT
      clear hHd hTd hT hH hc
      go_enter Tryz.func48, Tryz.ntmps48
      go_wp2_with fail
      rw [← HT.out]
      refine cc.mono ?_
      rintro r w1 ⟨rfl, b1⟩
      rw [← E.out]
      clear cc HT E
      cases hq : partF s.data.toList p.data.toList with
      | none => (simp only [numO]; have HQ := hid hq; clear hq; go_wp2_with fail; go_ret2; exact NumP.no HQ.out b1)
      | some n => (simp only [numO]; have HQ := hid hq; clear hq; go_wp2_with fail; go_ret2; exact NumP.yes HQ.out b1)
    · have E : Hid (partF s.data.toList p.data.toList = none) := by
        rw [Hid, partF, if_neg (by rw [bs_len, bs_len]; exact hl), ← hHd, if_neg (fun e => hc (by
          have h1 : H.data = p.data := Array.toList_inj.1 e
          cases H; cases p; simp at h1; rw [h1]))]
      have e1 : ((s.extract 0 p.size).toList == p.toList) = false := by rw [← hH]; exact bs_ne hc
      clear hHd hTd hT hH hc
      go_enter Tryz.func48, Tryz.ntmps48
      go_wp2_with fail
      go_ret2
      exact NumP.no E.out (Below.refl _ _)
end Go.Proofs.YtngfhpklakhehaaGreatDoor
