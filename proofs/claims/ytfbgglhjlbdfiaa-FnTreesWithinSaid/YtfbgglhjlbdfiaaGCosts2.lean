/-
  Valid tables of costs: the program's side; the statement on ValidCosts. No condition.
-/
import Derived.Test.YtfbgglhjlbdfiaaGCosts
import Derived.Test.YtfbgglhjlbdfiaaGOpen
namespace Go.Proofs.Ytfbgglhjlbdfiaa
open Go.RowKit
set_option maxHeartbeats 400000

def rowOk (css : List (List Int)) (i : Nat) : Prop := (∀ row : List Int, css[i]? = some row → row.length = css.length) ∧ cAt css i i = 0 ∧ ∀ q, q < i → (1 ≤ cAt css i q ∧ cAt css i q ≤ 10000) ∧ cAt css i q = cAt css q i
theorem validC_rowOk {css : List (List Int)} {i : Nat} (hi : i < css.length) (h : ¬ rowOk css i) : validC css = false :=
  validC_false fun hv => h ⟨fun row hr => by
    have := hv.2.1 i hi
    rwa [List.getD, hr] at this, (hv.2.2 i hi i hi).1 rfl, fun q hq => ⟨(hv.2.2 i hi q (by omega)).2.1 (by omega), (hv.2.2 i hi q (by omega)).2.2⟩⟩
theorem validC_rows {css : List (List Int)} (hn : inR css.length 2 6 = true) (h : ∀ i, i < css.length → rowOk css i) : validC css = true := by
  rw [← hn]
  refine validC_of (fun i row hr => (h i (List.getElem?_eq_some_iff.1 hr).1).1 row hr) fun i hi k hk => ⟨fun e => ?_, fun e => ?_, ?_⟩
  · subst e; exact (h i hi).2.1
  · rcases Nat.lt_or_gt_of_ne e with hik | hik
    · have := (h k hk).2.2 i hik
      rw [← this.2]; exact this.1
    · exact ((h i hi).2.2 k hik).1
  · rcases Nat.lt_trichotomy i k with hik | rfl | hik
    · exact ((h k hk).2.2 i hik).2.symm
    · rfl
    · exact ((h i hi).2.2 k hik).2
set_option maxHeartbeats 10000000 in
theorem implValidCosts_any (A : Option Addr) (n c : Nat) (rs : List Row) (w : World) (B : Nat) (hB : B ≤ w.heap.size) (hn : n + tot rs ≤ 2000000) (hx : SlS w B A n rs) :
    Calls Try.prog 26 #[.slice A n c] w fun e w' => e = .returned (.bool (validC (cont rs))) ∧ Below w.heap.size w w' := by
  have hl := hx.len
  have hlc : (cont rs).length = n := by rw [cont_len, hl]
  cases hz : inR n 2 6 with
  | false =>
    have E : Hid (validC (cont rs) = false) := validC_n (by rw [hlc]; exact hz)
    have hi := within_any n 2 6
    rw [hz] at hi
    clear hx hz
    go_enter Try.func26, Try.ntmps26
    go_wp2_with (go_at_call 33; refine (hi _).mono ?_; rintro r w2 ⟨rfl, rfl⟩)
    go_ret
    exact ⟨retB E.out.symm, Below.refl _ _⟩
  | true =>
    have hi := within_any n 2 6
    rw [hz] at hi
    have Hz := hid hz
    have Hlc := hid hlc
    clear hz hlc
    go_enter Try.func26, Try.ntmps26
    go_wp2_with (go_at_call 33; refine (hi _).mono ?_; rintro r w2 ⟨rfl, rfl⟩)
    go_loopw [14] (fun i w1 => ∃ k : Nat, k ≤ n ∧ i = .int .i64 k ∧ Hid (∀ i, i < k → rowOk (cont rs) i) ∧ Below w2.heap.size w2 w1) (fun i _ => n - (intOf i).toNat)
    case atStart => exact ⟨0, Nat.zero_le _, rfl, fun i h => by omega, Below.refl _ _⟩
    case round =>
      obtain ⟨k, hk, rfl, hall, hb⟩ := hrel
      by_cases hlt : k < n
      · obtain ⟨Ai, ni, ci, xi, b, off, Hx, rfl, hbB, c0, hxi⟩ := (hx.below (hb.mono hB)).row hlt
        have hxl := hxi.len
        have hc := cont_at Hx.out
        have hbad : ¬ rowOk (cont rs) k → Hid (validC (cont rs) = false) := fun h => validC_rowOk (by rw [Hlc.out]; exact hlt) h
        by_cases hq : ni = n
        · subst hq
          obtain ⟨x, bx, ox, Hv, rfl, hbx, d0⟩ := hxi.int hlt
          have Hcx : Hid (cAt (cont rs) k k = x) := cAt_of Hx.out Hv.out
          have Hrow : Hid (∀ row : List Int, (cont rs)[k]? = some row → row.length = (cont rs).length) := fun row hr => by
            rw [hc] at hr
            injection hr with hr
            rw [← hr, Hlc.out]; exact hxl
          by_cases hx0 : x = 0
          · subst hx0
            clear hc hxl Hv
            go_wp2
            go_loopw [31] (fun i w1 => ∃ m : Nat, m ≤ k ∧ i = .int .i64 m ∧ Hid (∀ q, q < m → (1 ≤ cAt (cont rs) k q ∧ cAt (cont rs) k q ≤ 10000) ∧ cAt (cont rs) k q = cAt (cont rs) q k) ∧ Below w2.heap.size w2 w1) (fun i _ => k - (intOf i).toNat)
            case atStart => exact ⟨0, Nat.zero_le _, rfl, fun i h => by omega, hb⟩
            case round =>
              clear c0 d0 hb hxi
              obtain ⟨m, hm, rfl, hcm, hb⟩ := hrel
              by_cases hmk : m < k
              · have hxr := hx.below (hb.mono hB)
                have hxi : Sl wr B 1 encI (some ⟨bx, ox, none⟩) ni xi := hxr.2 _ (List.mem_of_getElem? Hx.out)
                obtain ⟨Ai', ni', ci', xi', b', off', Hx', e2, hbB', c0', hxi'⟩ := hxr.row (show m < ni by omega)
                injection e2 with e2
                injection e2 with e2 e3
                subst e2 e3
                have hni' : ni' = ni := by
                  have h1 := (hall.out m hmk).1 _ (cont_at Hx'.out)
                  have h2 := hxi'.len
                  simp only at h1
                  have h3 := Hlc.out
                  omega
                subst hni'
                obtain ⟨x, bx2, ox2, Hv, e4, _, d0⟩ := hxi.int (show m < ni' by omega)
                injection e4 with e4
                injection e4 with e4 e5
                subst e4 e5
                obtain ⟨y, by', oy, Hv', rfl, hby, d0'⟩ := hxi'.int hlt
                have Hcx2 : Hid (cAt (cont rs) k m = x) := cAt_of Hx.out Hv.out
                have Hcy : Hid (cAt (cont rs) m k = y) := cAt_of Hx'.out Hv'.out
                have i0 : (0 : Int) ≤ (k : Int) := by omega
                have i1 : (k : Int) < (ni' : Int) := by omega
                have i2 : (0 : Int) ≤ (m : Int) := by omega
                have i3 : (m : Int) < (ni' : Int) := by omega
                have hbad2 : ¬ ((1 ≤ x ∧ x ≤ 10000) ∧ x = y) → Hid (validC (cont rs) = false) := fun h => hbad (fun hr => h (by
                  have := hr.2.2 m hmk
                  rwa [Hcx2.out, Hcy.out] at this))
                have hgood : ((1 ≤ x ∧ x ≤ 10000) ∧ x = y) → Hid (∀ q, q < m + 1 → (1 ≤ cAt (cont rs) k q ∧ cAt (cont rs) k q ≤ 10000) ∧ cAt (cont rs) k q = cAt (cont rs) q k) := fun h q hq => by
                  by_cases hqm : q = m
                  · subst hqm; rw [Hcx2.out, Hcy.out]; exact h
                  · exact hcm.out q (by omega)
                clear hcm hbad hx hxi hxi' hxr
                cases hr : inR x 1 10000 with
                | false =>
                  have E := hbad2 (fun h => by
                    have := h.1
                    simp [inR] at hr
                    omega)
                  have hi := within_any x 1 10000
                  rw [hr] at hi
                  clear hgood hbad2 hr
                  go_wp2_with fail
                  go_quiet ((go_at_call 33; exact Calls.quiet_of_same (hi _)))
                  go_wp2_with fail
                  go_ret
                  exact ⟨retB E.out.symm, below_drewN hb nq⟩
                | true =>
                  have hi := within_any x 1 10000
                  rw [hr] at hi
                  by_cases hxy : x = y
                  · have G := hgood ⟨by simp [inR] at hr; omega, hxy⟩
                    subst hxy
                    clear hgood hbad2 hr
                    go_wp2_with fail
                    go_quiet ((go_at_call 33; exact Calls.quiet_of_same (hi _)))
                    have hb2 := below_drewN hb nq
                    go_wp2_with fail
                    go_roundw
                    all_goals first | exact ⟨m + 1, by omega, by go_num, G, hb2⟩ | exact ⟨⟨m + 1, by omega, by go_num, G, hb2⟩, by simp [intOf]; omega⟩ | (simp [intOf]; omega)
                  · have E := hbad2 (fun h => hxy h.2)
                    have dx : (x == y) = false := by simpa using hxy
                    have dy : (x != y) = true := by simpa using hxy
                    clear hgood hbad2 hr hxy
                    go_wp2_with fail
                    go_quiet ((go_at_call 33; exact Calls.quiet_of_same (hi _)))
                    go_wp2_with fail
                    go_ret
                    exact ⟨retB E.out.symm, below_drewN hb nq⟩
              · have : m = k := by omega
                subst this
                have hall2 : Hid (∀ i, i < m + 1 → rowOk (cont rs) i) := fun i hi => by
                  by_cases him : i = m
                  · subst him; exact ⟨Hrow.out, Hcx.out, hcm.out⟩
                  · exact hall.out i (by omega)
                clear hall hcm hx hbad
                go_wp2
                go_roundw
                all_goals first | exact ⟨m + 1, by omega, by go_num, hall2, hb⟩ | exact ⟨⟨m + 1, by omega, by go_num, hall2, hb⟩, by simp [intOf]; omega⟩ | (simp [intOf]; omega)
          · have E := hbad (fun hr => hx0 (by rw [← Hcx.out]; exact hr.2.1))
            clear hbad hx hc hxi hall hxl
            go_wp2
            go_ret
            exact ⟨retB E.out.symm, hb⟩
        · have E := hbad (fun hr => hq (by have := hr.1 _ hc; simp only at this; have := Hlc.out; omega))
          have hq' : ¬ ((ni : Int) = (n : Int)) := by omega
          clear hbad hx hc hxi hall hxl
          go_wp2
          go_ret
          exact ⟨retB E.out.symm, hb⟩
      · have : k = n := by omega
        subst this
        have E : Hid (validC (cont rs) = true) := validC_rows (by rw [Hlc.out]; exact Hz.out) (fun i hi => hall.out i (by have := Hlc.out; omega))
        clear hall hx
        go_wp2
        go_ret
        exact ⟨retB E.out.symm, hb⟩
end Go.Proofs.Ytfbgglhjlbdfiaa
