/-
  The statement on LengthOfRound, walked. No condition.
-/
import Derived.Test.YtadphbpmjkkokaaPLen
namespace Go.Proofs.Ytadphbpmjkkokaa
open Go.RowKit
set_option maxHeartbeats 400000

set_option maxHeartbeats 4000000 in
set_option maxRecDepth 100000 in
theorem FnExactLengthOfRound_walk (A : Option Addr) (n c : Nat) (rs : List Row) (A1 : Option Addr) (m1 c1 : Nat) (ps : List Int) (w : World) (hn : n ≤ 9223372036854775807) (hr : ∀ r ∈ rs, r.n ≤ 9223372036854775807) (hm1 : m1 ≤ 9223372036854775807) (hx : SlS w w.heap.size A n rs) (hy1 : Sl w w.heap.size 1 encI A1 m1 ps) :
    Calls Try.prog 3 #[.slice A n c, .slice A1 m1 c1] w fun r w' => r = .returned (.bool true) ∧ Below w.heap.size w w' := by
  obtain ⟨R, hR⟩ : ∃ R, R = lenF (cont rs) ps := ⟨_, rfl⟩
  obtain ⟨r1, r2⟩ := R
  have HS : ∀ (A : Option Addr) (n c : Nat) (rs' : List Row) (A1 : Option Addr) (m1 c1 : Nat) (w : World) (B : Nat), B ≤ w.heap.size → n + tot rs' ≤ 2000000 → m1 ≤ 2000000 → SlS w B A n rs' → Sl w B 1 encI A1 m1 ps → cont rs' = cont rs → Calls Try.prog 11 #[.slice A n c, .slice A1 m1 c1] w (fun r w' => r = .returned (.tuple #[.int .i64 r1, .int .i64 r2]) ∧ Below w.heap.size w w') := fun A n c rs' A1 m1 c1 w B hB hn h1 hx k1 e => by have := specLengthOfRound_any A n c rs' A1 m1 c1 ps w B hB hn h1 hx k1; rw [e, ← hR] at this; exact this
  have HI : ∀ (A : Option Addr) (n c : Nat) (rs' : List Row) (A1 : Option Addr) (m1 c1 : Nat) (w : World) (B : Nat), B ≤ w.heap.size → n + tot rs' ≤ 2000000 → m1 ≤ 2000000 → SlS w B A n rs' → Sl w B 1 encI A1 m1 ps → cont rs' = cont rs → Calls Try.prog 14 #[.slice A n c, .slice A1 m1 c1] w (fun r w' => r = .returned (.tuple #[.int .i64 r1, .int .i64 r2]) ∧ Below w.heap.size w w') := fun A n c rs' A1 m1 c1 w B hB hn h1 hx k1 e => by have := implLengthOfRound_any A n c rs' A1 m1 c1 ps w B hB hn h1 hx k1; rw [e, ← hR] at this; exact this
  clear hR
  go_enter Try.func3, Try.ntmps3
  by_cases hg1 : 1048576 < m1
  · go_wp2_with fail
    go_ret
    exact ⟨rfl, Below.refl _ _⟩
  ·
    go_wp2_with fail
    refine (szInt64SS_any _ _ _ _ _ _ _ (Nat.le_refl _) hn (by omega) (by omega) hx hr).mono ?_
    rintro e w' ⟨rfl, rfl⟩
    by_cases hb : n + tot rs ≤ 1048576
    · have h0 : ¬ szv 1048576 (n + tot rs) < 0 := by unfold szv; split <;> omega
      have c0 : Below w'.heap.size w' w' := Below.refl _ _
      go_wp2_with fail
      refine (toInt64SS_any A n c rs _ _ c0.size (by omega) (hx.below c0)).mono ?_
      rintro r w1 ⟨ga, rsa, rfl, oa, esa, tsa, b1⟩
      have z1 := b1.size
      have e1 := c0.trans (b1.mono c0.size)
      clear b1
      have Esa := hid esa
      clear esa
      go_wp2_with fail
      refine (toInt64S_any A1 m1 c1 ps _ _ e1.size (by omega) (hy1.below e1)).mono ?_
      rintro r w2 ⟨ga1, rfl, oa1, b2⟩
      replace oa := oa.below b2
      have z2 := b2.size
      have e2 := e1.trans (b2.mono e1.size)
      clear b2 e1
      go_wp2_with fail
      refine (HS _ _ _ rsa _ _ _ _ _ (Nat.le_refl _) (by omega) (by omega) oa.slS (own_sl encI_len (by omega) oa1) Esa.out).mono ?_
      rintro r w3 ⟨rfl, b3⟩
      replace oa := oa.below b3
      replace oa1 := own_below oa1 b3
      have z3 := b3.size
      have e3 := e2.trans (b3.mono e2.size)
      clear b3 e2
      clear oa
      clear oa1
      have lo0 : w3.heap.size = w3.heap.size := rfl
      go_wp2_with fail
      refine (toInt64SS_any A n c rs _ _ e3.size (by omega) (hx.below e3)).mono ?_
      rintro r w4 ⟨gx, rsx, rfl, ox, esx, tsx, b4⟩
      have z4 := b4.size
      have e4 := e3.trans (b4.mono e3.size)
      clear b4 e3
      have Esx := hid esx
      clear esx
      have kx : ∀ (i : Nat) (r : Row), rsx[i]? = some r → ∀ b, (Value.slice r.A r.n r.c).ownBlock = some b → w3.heap.size ≤ b ∧ b < w4.heap.size := fun i r hir b hb => (ox.row i r hir).lt b hb
      go_wp2_with fail
      refine (toInt64S_any A1 m1 c1 ps _ _ e4.size (by omega) (hy1.below e4)).mono ?_
      rintro r w5 ⟨gx1, rfl, ox1, b5⟩
      replace ox := ox.below b5
      have z5 := b5.size
      have e5 := e4.trans (b5.mono e4.size)
      clear b5 e4
      have kx1 := own_lt ox1
      go_wp2_with fail
      refine (HI _ _ _ rsx _ _ _ _ _ (Nat.le_refl _) (by omega) (by omega) ox.slS (own_sl encI_len (by omega) ox1) Esx.out).mono ?_
      rintro r w6 ⟨rfl, b6⟩
      replace ox := ox.below b6
      replace ox1 := own_below ox1 b6
      have z6 := b6.size
      have e6 := e5.trans (b6.mono e5.size)
      clear b6 e5
      go_wp2_with fail
      refine (toInt64SS_any A n c rs _ _ e6.size (by omega) (hx.below e6)).mono ?_
      rintro r w7 ⟨gy, rsy, rfl, oy, esy, tsy, b7⟩
      replace ox := ox.below b7
      replace ox1 := own_below ox1 b7
      have z7 := b7.size
      have e7 := e6.trans (b7.mono e6.size)
      clear b7 e6
      have Esy := hid esy
      clear esy
      go_wp2_with fail
      refine (eqInt64SS_yes _ _ _ _ _ _ _ _ (Nat.le_refl _) rsx rsy (by omega) ox.slS oy.slS (Esy.out.trans Esx.out.symm)).mono ?_
      rintro r w8 ⟨rfl, b8⟩
      replace ox := ox.below b8
      replace ox1 := own_below ox1 b8
      replace oy := oy.below b8
      have z8 := b8.size
      have e8 := e7.trans (b8.mono e7.size)
      clear b8 e7
      clear oy
      go_wp2_with fail
      refine (toInt64S_any A1 m1 c1 ps _ _ e8.size (by omega) (hy1.below e8)).mono ?_
      rintro r w9 ⟨gy1, rfl, oy1, b9⟩
      replace ox := ox.below b9
      replace ox1 := own_below ox1 b9
      have z9 := b9.size
      have e9 := e8.trans (b9.mono e8.size)
      clear b9 e8
      go_wp2_with fail
      refine (eqInt64S_yes _ _ _ _ _ _ _ _ (Nat.le_refl _) _ (by omega) (own_sl encI_len (by omega) ox1) (own_sl encI_len (by omega) oy1)).mono ?_
      rintro r w10 ⟨rfl, b10⟩
      replace ox := ox.below b10
      replace ox1 := own_below ox1 b10
      replace oy1 := own_below oy1 b10
      have z10 := b10.size
      have e10 := e9.trans (b10.mono e9.size)
      clear b10 e9
      clear oy1
      go_wp2_with fail
      go_ret
      exact ⟨rfl, e10⟩
    · have h0 : szv 1048576 (n + tot rs) < 0 := by unfold szv; split <;> omega
      go_wp2_with fail
      go_ret
      exact ⟨rfl, Below.refl _ _⟩
end Go.Proofs.Ytadphbpmjkkokaa
