/-
  The statement on VisitsBetween, walked. No condition.
-/
import Derived.Test.YtadphbpmjkkokaaPVis
import Derived.Test.YtadphbpmjkkokaaGTab
import Derived.Test.YtadphbpmjkkokaaPPtsOpen
namespace Go.Proofs.Ytadphbpmjkkokaa
open Go.RowKit
set_option maxHeartbeats 400000

set_option maxHeartbeats 4000000 in
set_option maxRecDepth 100000 in
theorem FnExactVisitsBetween_walk (A : Option Addr) (n c : Nat) (xs : List Point) (fr : Int) (to : Int) (w : World) (hn : n ≤ 9223372036854775807) (hx : Sl w w.heap.size 2 encPoint A n xs) :
    Calls Try.prog 5 #[.slice A n c, .int .i64 fr, .int .i64 to] w fun r w' => r = .returned (.bool true) ∧ Below w.heap.size w w' := by
  obtain ⟨R, hR⟩ : ∃ R, R = visF xs fr to := ⟨_, rfl⟩
  have hxl := hid hx.len
  have hlen : n ≤ 2000000 → R.1.length ≤ 2000000 := fun h => by rw [hR]; exact visF_len xs fr to (by rw [hxl.out]; exact h)
  obtain ⟨r1, r2⟩ := R
  have HS : ∀ (A : Option Addr) (n c : Nat) (w : World) (B : Nat), B ≤ w.heap.size → n ≤ 2000000 → Sl w B 2 encPoint A n xs → Calls Try.prog 25 #[.slice A n c, .int .i64 fr, .int .i64 to] w (fun r w' => ∃ A0 n0 c0, r = .returned (.tuple #[.slice A0 n0 c0, .int .i64 r2]) ∧ w'.ownsRow w.heap.size 2 1 (.slice A0 n0 c0) n0 (r1.flatMap encI) ∧ Below w.heap.size w w') := fun A n c w B hB hn hx => by have := specVisitsBetween_any A n c xs fr to w B hB hn hx; rw [← hR] at this; exact this
  have HI : ∀ (A : Option Addr) (n c : Nat) (w : World) (B : Nat), B ≤ w.heap.size → n ≤ 2000000 → Sl w B 2 encPoint A n xs → Calls Try.prog 26 #[.slice A n c, .int .i64 fr, .int .i64 to] w (fun r w' => ∃ A0 n0 c0, r = .returned (.tuple #[.slice A0 n0 c0, .int .i64 r2]) ∧ w'.ownsRow w.heap.size 2 1 (.slice A0 n0 c0) n0 (r1.flatMap encI) ∧ Below w.heap.size w w') := fun A n c w B hB hn hx => by have := implVisitsBetween_any A n c xs fr to w B hB hn hx; rw [← hR] at this; exact this
  clear hR hxl
  replace hlen : n ≤ 2000000 → r1.length ≤ 2000000 := hlen
  go_enter Try.func5, Try.ntmps5
  go_wp2_with fail
  refine (szPointS_any _ _ _ _ _ hn (by omega) (by omega)).mono ?_
  rintro e w' ⟨rfl, rfl⟩
  by_cases hb : n ≤ 1048576
  · have h0 : ¬ szPoint 1048576 n < 0 := by unfold szPoint; split <;> omega
    replace hlen := hlen (by omega)
    have c0 : Below w'.heap.size w' w' := Below.refl _ _
    go_wp2_with fail
    refine (toPointS_any A n c xs _ _ c0.size (by omega) (hx.below c0)).mono ?_
    rintro r w1 ⟨ga, rfl, oa, b1⟩
    have z1 := b1.size
    have e1 := c0.trans (b1.mono c0.size)
    clear b1
    go_wp2_with fail
    refine (HS _ _ _ _ _ (Nat.le_refl _) (by omega) (own_sl encPoint_len (by omega) oa)).mono ?_
    rintro r w2 ⟨Aw, nw, cw, rfl, pw, b2⟩
    replace oa := own_below oa b2
    have z2 := b2.size
    have e2 := e1.trans (b2.mono e1.size)
    clear b2 e1
    have hlw := pw.lt
    have HMw := hid (own_len encI_len (by omega) pw)
    clear oa
    have lo0 : w2.heap.size = w2.heap.size := rfl
    go_wp2_with fail
    refine (toPointS_any A n c xs _ _ e2.size (by omega) (hx.below e2)).mono ?_
    rintro r w3 ⟨gx, rfl, ox, b3⟩
    replace pw := own_below pw b3
    have z3 := b3.size
    have e3 := e2.trans (b3.mono e2.size)
    clear b3 e2
    have kx := own_lt ox
    go_wp2_with fail
    refine (HI _ _ _ _ _ (Nat.le_refl _) (by omega) (own_sl encPoint_len (by omega) ox)).mono ?_
    rintro r w4 ⟨Ag, ng, cg, rfl, pg, b4⟩
    replace pw := own_below pw b4
    replace ox := own_below ox b4
    have z4 := b4.size
    have e4 := e3.trans (b4.mono e3.size)
    clear b4 e3
    have hlg := pg.lt
    have HMg := hid (own_len encI_len (by omega) pg)
    have Hw := hid HMw.out
    have Hg := hid HMg.out
    have kw : ∀ b, (Value.slice Aw nw cw).ownBlock = some b → b < w2.heap.size := fun b hb => (hlw b hb).2
    have kg : ∀ b, (Value.slice Ag ng cg).ownBlock = some b → w3.heap.size ≤ b := fun b hb => (hlg b hb).1
    clear hlw hlg
    go_wp2_with fail
    refine (eqInt64S_yes _ _ _ _ _ _ _ _ (Nat.le_refl _) _ (by rw [Hg.out]; exact hlen) (own_sl encI_len (by omega) pg) (own_sl encI_len (by omega) pw)).mono ?_
    rintro r w5 ⟨rfl, b5⟩
    replace pw := own_below pw b5
    replace ox := own_below ox b5
    replace pg := own_below pg b5
    have z5 := b5.size
    have e5 := e4.trans (b5.mono e4.size)
    clear b5 e4
    go_wp2_with fail
    refine (toPointS_any A n c xs _ _ e5.size (by omega) (hx.below e5)).mono ?_
    rintro r w6 ⟨gy, rfl, oy, b6⟩
    replace pw := own_below pw b6
    replace ox := own_below ox b6
    replace pg := own_below pg b6
    have z6 := b6.size
    have e6 := e5.trans (b6.mono e5.size)
    clear b6 e5
    go_wp2_with fail
    refine (eqPointS_yes _ _ _ _ _ _ _ _ (Nat.le_refl _) _ (by omega) (own_sl encPoint_len (by omega) ox) (own_sl encPoint_len (by omega) oy)).mono ?_
    rintro r w7 ⟨rfl, b7⟩
    replace pw := own_below pw b7
    replace ox := own_below ox b7
    replace pg := own_below pg b7
    replace oy := own_below oy b7
    have z7 := b7.size
    have e7 := e6.trans (b7.mono e6.size)
    clear b7 e6
    clear oy
    go_wp2_with fail
    refine (markPointS_any _ _ _ _ _ 1 _ (by omega) (by omega) (by omega) ox).mono ?_
    rintro r w8 ⟨rfl, _, y8⟩
    have z8 := y8.size
    have e8 := grown_below e7 y8 e7.size (fun b hb => by simp [Value.ownBlock] at hb; omega)
    replace pw := own_keep pw (v2 := .slice (some ⟨gx, 0, none⟩) n n) (fun b hb e => by have := kw b e; simp [Value.ownBlock] at hb; omega) y8
    replace pg := own_keep pg (v2 := .slice (some ⟨gx, 0, none⟩) n n) (fun b hb e => by have := kg b e; simp [Value.ownBlock] at hb; omega) y8
    clear ox y8
    go_wp2_with fail
    refine (eqInt64S_yes _ _ _ _ _ _ _ _ (Nat.le_refl _) _ (by rw [Hg.out]; exact hlen) (own_sl encI_len (by omega) pg) (own_sl encI_len (by omega) pw)).mono ?_
    rintro r w9 ⟨rfl, b9⟩
    replace pw := own_below pw b9
    replace pg := own_below pg b9
    have z9 := b9.size
    have e9 := e8.trans (b9.mono e8.size)
    clear b9 e8
    go_wp2_with fail
    refine (markInt64S_any _ _ _ _ _ 1 _ (by rw [Hg.out]; exact hlen) (by omega) (by omega) pg).mono ?_
    rintro r w10 ⟨rfl, q10, y10⟩
    have z10 := y10.size
    have e10 := grown_below e9 y10 e9.size (fun b hb => by have := kg b hb; omega)
    replace pw := own_keep pw (v2 := .slice Ag ng cg) (fun b hb e => by have := kw b e; have := kg b hb; omega) y10
    replace pg := q10
    clear y10
    go_wp2_with fail
    refine (heldInt64S_any _ _ _ 1 _ _ (by rw [Hg.out]; exact hlen) (by omega) (by omega) (own_sl encI_len (by omega) pg)).mono ?_
    rintro r w11 ⟨rfl, b11⟩
    replace pw := own_below pw b11
    replace pg := own_below pg b11
    have z11 := b11.size
    have e11 := e10.trans (b11.mono e10.size)
    clear b11 e10
    go_wp2_with fail
    refine (toPointS_any A n c xs _ _ e11.size (by omega) (hx.below e11)).mono ?_
    rintro r w12 ⟨gh, rfl, oh, b12⟩
    replace pw := own_below pw b12
    replace pg := own_below pg b12
    have z12 := b12.size
    have e12 := e11.trans (b12.mono e11.size)
    clear b12 e11
    go_wp2_with fail
    refine (HI _ _ _ _ _ (Nat.le_refl _) (by omega) (own_sl encPoint_len (by omega) oh)).mono ?_
    rintro r w13 ⟨Ah, nh, ch, rfl, ph, b13⟩
    replace pw := own_below pw b13
    replace pg := own_below pg b13
    replace oh := own_below oh b13
    have z13 := b13.size
    have e13 := e12.trans (b13.mono e12.size)
    clear b13 e12
    have hlh := ph.lt
    have HMh := hid (own_len encI_len (by omega) ph)
    clear oh
    have Hh := hid HMh.out
    go_wp2_with fail
    refine (eqInt64S_yes _ _ _ _ _ _ _ _ (Nat.le_refl _) _ (by rw [Hh.out]; exact hlen) (own_sl encI_len (by omega) ph) (own_sl encI_len (by omega) pw)).mono ?_
    rintro r w14 ⟨rfl, b14⟩
    replace pw := own_below pw b14
    replace pg := own_below pg b14
    replace ph := own_below ph b14
    have z14 := b14.size
    have e14 := e13.trans (b14.mono e13.size)
    clear b14 e13
    clear ph
    go_wp2_with fail
    refine (heldInt64S_any _ _ _ 1 _ _ (by rw [Hg.out]; exact hlen) (by omega) (by omega) (own_sl encI_len (by omega) pg)).mono ?_
    rintro r w15 ⟨rfl, b15⟩
    replace pw := own_below pw b15
    replace pg := own_below pg b15
    have z15 := b15.size
    have e15 := e14.trans (b15.mono e14.size)
    clear b15 e14
    go_wp2_with fail
    go_ret
    exact ⟨rfl, e15⟩
  · have h0 : szPoint 1048576 n < 0 := by unfold szPoint; split <;> omega
    go_wp2_with fail
    go_ret
    exact ⟨rfl, Below.refl _ _⟩
end Go.Proofs.Ytadphbpmjkkokaa
