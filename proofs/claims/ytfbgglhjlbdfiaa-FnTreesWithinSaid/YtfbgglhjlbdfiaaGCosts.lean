/-
  Valid tables of costs: the program's function and the reference's. No condition.
-/
import Derived.Test.YtfbgglhjlbdfiaaGTab
namespace Go.Proofs.Ytfbgglhjlbdfiaa
open Go.RowKit
set_option maxHeartbeats 400000

def cellOk (css : List (List Int)) (i k : Nat) : Prop := (i = k → cAt css i k = 0) ∧ (i ≠ k → 1 ≤ cAt css i k ∧ cAt css i k ≤ 10000) ∧ cAt css i k = cAt css k i
theorem validC_row {css : List (List Int)} {i : Nat} {row : List Int} (hi : css[i]? = some row) (hl : row.length ≠ css.length) : validC css = false :=
  validC_false fun h => hl (by
    have := h.2.1 i (List.getElem?_eq_some_iff.1 hi).1
    rwa [List.getD, hi] at this)
theorem validC_cell {css : List (List Int)} {i k : Nat} (hi : i < css.length) (hk : k < css.length) (h : ¬ cellOk css i k) : validC css = false :=
  validC_false fun h' => h (h'.2.2 i hi k hk)
theorem validC_n {css : List (List Int)} (h : inR css.length 2 6 = false) : validC css = false :=
  validC_false fun h' => by
    have h1 := h'.1
    have : inR css.length 2 6 = true := by simp [inR]; omega
    rw [h] at this
    cases this
theorem validC_of {css : List (List Int)} (h1 : ∀ (i : Nat) (row : List Int), css[i]? = some row → row.length = css.length) (h2 : ∀ i, i < css.length → ∀ k, k < css.length → cellOk css i k) : validC css = inR css.length 2 6 := by
  cases hn : inR css.length 2 6 with
  | false => exact validC_n hn
  | true =>
    rw [validC_iff]
    refine ⟨by simp [inR] at hn; omega, fun i hi => ?_, h2⟩
    rw [List.getD, List.getElem?_eq_getElem hi]
    exact h1 i _ (List.getElem?_eq_getElem hi)

set_option maxHeartbeats 10000000 in
theorem l20Ok_any (A : Option Addr) (n c : Nat) (rs : List Row) (w : World) (B : Nat) (hB : B ≤ w.heap.size) (hn : n + tot rs ≤ 2000000) (hx : SlS w B A n rs) :
    Calls Try.prog 36 #[.slice A n c] w fun e w' => e = .returned (.bool (validC (cont rs))) ∧ Below w.heap.size w w' := by
  have hl := hx.len
  have hlc : (cont rs).length = n := by rw [cont_len, hl]
  go_enter Try.func36, Try.ntmps36
  go_wp2
  go_loopw [4] (fun i w1 => ∃ k : Nat, k ≤ n ∧ i = .int .i64 k ∧ Hid (∀ (i : Nat) (row : List Int), i < k → (cont rs)[i]? = some row → row.length = n) ∧ Below w.heap.size w w1) (fun i _ => n - (intOf i).toNat)
  case atStart => exact ⟨0, Nat.zero_le _, rfl, fun i row h => by omega, Below.refl _ _⟩
  case round =>
    obtain ⟨k, hk, rfl, hall, hb⟩ := hrel
    by_cases hlt : k < n
    · obtain ⟨Ai, ni, ci, xi, b, off, Hx, rfl, hbB, c0, hxi⟩ := (hx.below (hb.mono hB)).row hlt
      have hxl := hxi.len
      have hc := cont_at Hx.out
      by_cases hq : ni = n
      · subst hq
        have hall' : Hid (∀ (i : Nat) (row : List Int), i < k + 1 → (cont rs)[i]? = some row → row.length = ni) := fun i row hi hr => by
          by_cases hik : i = k
          · subst hik
            rw [hc] at hr
            injection hr with hr
            subst hr
            exact hxl
          · exact hall.out i row (by omega) hr
        clear hall hx hxi hc Hx
        go_wp2
        go_roundw
        all_goals first | exact ⟨k + 1, by omega, by go_num, hall', hb⟩ | exact ⟨⟨k + 1, by omega, by go_num, hall', hb⟩, by simp [intOf]; omega⟩ | (simp [intOf]; omega)
      · have E : Hid (validC (cont rs) = false) := validC_row hc (by rw [hlc]; simp only; omega)
        have hq' : ¬ ((ni : Int) = (n : Int)) := by omega
        clear hall hx hxi hc Hx
        go_wp2
        go_ret
        exact ⟨retB E.out.symm, hb⟩
    · have : k = n := by omega
      subst this
      have Hall : Hid (∀ (i : Nat) (row : List Int), (cont rs)[i]? = some row → row.length = k) := fun i row hr => hall.out i row (by have := (List.getElem?_eq_some_iff.1 hr).1; omega) hr
      have Hlen : Hid (∀ (i : Nat) (r : Row), rs[i]? = some r → r.n = k) := fun i r hr => by
        have h1 := Hall.out i _ (cont_at hr)
        have h2 := (hx.2 r (List.mem_of_getElem? hr)).len
        omega
      clear hall
      go_wp2
      go_loopw [5] (fun i w1 => ∃ j : Nat, j ≤ k ∧ i = .int .i64 j ∧ Hid (∀ i, i < j → ∀ m, m < k → cellOk (cont rs) i m) ∧ Below w.heap.size w w1) (fun i _ => k - (intOf i).toNat)
      case atStart => exact ⟨0, Nat.zero_le _, rfl, fun i h => by omega, hb⟩
      case round =>
        clear hb
        obtain ⟨j, hj, rfl, hcs, hb⟩ := hrel
        by_cases hjk : j < k
        · go_wp2
          go_loopw [6] (fun i w1 => ∃ m : Nat, m ≤ k ∧ i = .int .i64 m ∧ Hid (∀ q, q < m → cellOk (cont rs) j q) ∧ Below w.heap.size w w1) (fun i _ => k - (intOf i).toNat)
          case atStart => exact ⟨0, Nat.zero_le _, rfl, fun i h => by omega, hb⟩
          case round =>
            clear hb
            obtain ⟨m, hm, rfl, hcm, hb⟩ := hrel
            by_cases hmk : m < k
            · have hxr := hx.below (hb.mono hB)
              obtain ⟨Ai, ni, ci, xi, b, off, Hx, rfl, hbB, c0, hxi⟩ := hxr.row hjk
              obtain ⟨Ai', ni', ci', xi', b', off', Hx', e2, hbB', c0', hxi'⟩ := hxr.row hmk
              injection e2 with e2
              injection e2 with e2 e3
              subst e2 e3
              obtain rfl : ni = k := Hlen.out _ _ Hx.out
              obtain rfl : ni' = ni := Hlen.out _ _ Hx'.out
              obtain ⟨x, bx, ox, Hv, rfl, hbx, d0⟩ := hxi.int hmk
              obtain ⟨y, by', oy, Hv', rfl, hby, d0'⟩ := hxi'.int hjk
              have hcx : cAt (cont rs) j m = x := cAt_of Hx.out Hv.out
              have hcy : cAt (cont rs) m j = y := cAt_of Hx'.out Hv'.out
              have Hcx := hid hcx
              have Hcy := hid hcy
              have i0 : (0 : Int) ≤ (j : Int) := by omega
              have i1 : (j : Int) < (ni' : Int) := by omega
              have i2 : (0 : Int) ≤ (m : Int) := by omega
              have i3 : (m : Int) < (ni' : Int) := by omega
              clear hx hxi hxi' hxr hcx hcy Hx Hx' Hv Hv' hcs
              have hbad : ¬ ((j = m → x = 0) ∧ (j ≠ m → 1 ≤ x ∧ x ≤ 10000) ∧ x = y) → Hid (validC (cont rs) = false) := fun h => validC_cell (i := j) (k := m) (by omega) (by omega) (by unfold cellOk; rw [Hcx.out, Hcy.out]; exact h)
              have hgood : ((j = m → x = 0) ∧ (j ≠ m → 1 ≤ x ∧ x ≤ 10000) ∧ x = y) → Hid (∀ q, q < m + 1 → cellOk (cont rs) j q) := fun h q hq => by
                by_cases hqm : q = m
                · subst hqm; unfold cellOk; rw [Hcx.out, Hcy.out]; exact h
                · exact hcm.out q (by omega)
              clear hcm
              by_cases hjm : j = m
              · subst hjm
                obtain rfl : x = y := Hcx.out.symm.trans Hcy.out
                clear c0' d0' Hcx Hcy
                by_cases hx0 : x = 0
                · have G := hgood ⟨fun _ => hx0, fun h => absurd rfl h, rfl⟩
                  subst hx0
                  clear hgood hbad
                  go_wp2_with fail
                  go_quiet ((go_at_call 39; exact Calls.quiet_of_same (l00In_any _ _ _ _)))
                  have hb2 := below_drewN hb nq
                  go_wp2_with fail
                  go_roundw
                  all_goals first | exact ⟨j + 1, by omega, by go_num, G, hb2⟩ | exact ⟨⟨j + 1, by omega, by go_num, G, hb2⟩, by simp [intOf]; omega⟩ | (simp [intOf]; omega)
                · have E := hbad (fun h => hx0 (h.1 rfl))
                  have dx : (x == 0) = false := by simpa using hx0
                  have dy : (x != 0) = true := by simpa using hx0
                  clear hgood hbad hx0
                  go_wp2_with fail
                  go_quiet ((go_at_call 39; exact Calls.quiet_of_same (l00In_any _ _ _ _)))
                  go_wp2_with fail
                  go_ret
                  exact ⟨retB E.out.symm, below_drewN hb nq⟩
              · have q1 : ((j : Int) == (m : Int)) = false := by simp; omega
                have q2 : ((j : Int) != (m : Int)) = true := by simp; omega
                cases hr : inR x 1 10000 with
                | false =>
                  have E := hbad (fun h => by
                    have := h.2.1 hjm
                    simp [inR] at hr
                    omega)
                  have hi := l00In_any x 1 10000
                  rw [hr] at hi
                  clear hgood hbad hr hjm
                  go_wp2_with fail
                  go_quiet ((go_at_call 39; exact Calls.quiet_of_same (hi _)))
                  go_wp2_with fail
                  go_ret
                  exact ⟨retB E.out.symm, below_drewN hb nq⟩
                | true =>
                  have hi := l00In_any x 1 10000
                  rw [hr] at hi
                  by_cases hxy : x = y
                  · have G := hgood ⟨fun h => absurd h hjm, fun _ => by simp [inR] at hr; omega, hxy⟩
                    subst hxy
                    clear hgood hbad hr hjm
                    go_wp2_with fail
                    go_quiet ((go_at_call 39; exact Calls.quiet_of_same (hi _)))
                    have hb2 := below_drewN hb nq
                    go_wp2_with fail
                    go_roundw
                    all_goals first | exact ⟨m + 1, by omega, by go_num, G, hb2⟩ | exact ⟨⟨m + 1, by omega, by go_num, G, hb2⟩, by simp [intOf]; omega⟩ | (simp [intOf]; omega)
                  · have E := hbad (fun h => hxy h.2.2)
                    have dx : (x == y) = false := by simpa using hxy
                    have dy : (x != y) = true := by simpa using hxy
                    clear hgood hbad hr hjm hxy
                    go_wp2_with fail
                    go_quiet ((go_at_call 39; exact Calls.quiet_of_same (hi _)))
                    go_wp2_with fail
                    go_ret
                    exact ⟨retB E.out.symm, below_drewN hb nq⟩
            · have : m = k := by omega
              subst this
              have hcs2 : Hid (∀ i, i < j + 1 → ∀ q, q < m → cellOk (cont rs) i q) := fun i hi q hq => by
                by_cases hij : i = j
                · subst hij; exact hcm.out q hq
                · exact hcs.out i (by omega) q hq
              clear hcs hcm hx
              go_wp2
              go_roundw
              all_goals first | exact ⟨j + 1, by omega, by go_num, hcs2, hb⟩ | exact ⟨⟨j + 1, by omega, by go_num, hcs2, hb⟩, by simp [intOf]; omega⟩ | (simp [intOf]; omega)
        · have : j = k := by omega
          subst this
          have E : Hid (validC (cont rs) = inR j 2 6) := by
            have := validC_of (css := cont rs) (fun i row hr => by rw [hlc]; exact Hall.out i row hr) (fun i hi q hq => hcs.out i (by omega) q (by omega))
            rw [hlc] at this
            exact this
          clear hcs hx
          go_wp2_with (go_at_call 39; refine (l00In_any _ _ _ _).mono ?_; rintro r w2 ⟨rfl, rfl⟩)
          go_ret
          exact ⟨retB E.out.symm, hb⟩
end Go.Proofs.Ytfbgglhjlbdfiaa
