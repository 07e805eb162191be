/-
  Paths between points and the length of a round: the program's functions and the reference's. No condition.
-/
import Derived.Test.YteckfjnglmkenaaGTree
namespace Go.Proofs.Yteckfjnglmkenaa
open Go.RowKit
set_option maxHeartbeats 400000

/-- what paths must fulfil -/
def prow (css : List (List Int)) (i : Nat) : Prop := (css.getD i []).length = css.length ∧ cAt css i i = 0 ∧ ∀ k, k < css.length → 0 ≤ cAt css i k ∧ cAt css i k ≤ 1000
def VP (css : List (List Int)) : Prop := (1 ≤ css.length ∧ css.length ≤ 30) ∧ ∀ i, i < css.length → prow css i
instance (css : List (List Int)) (i : Nat) : Decidable (prow css i) := inferInstanceAs (Decidable (_ ∧ _ ∧ _))
instance (css : List (List Int)) : Decidable (VP css) := inferInstanceAs (Decidable (_ ∧ _))
def validP (css : List (List Int)) : Bool := decide (VP css)
theorem validP_iff {css : List (List Int)} : validP css = true ↔ VP css := by simp [validP]
theorem validP_false {css : List (List Int)} (h : ¬ VP css) : validP css = false := by simp [validP, h]
theorem validP_row {css : List (List Int)} {i : Nat} (hi : i < css.length) (h : ¬ prow css i) : validP css = false := validP_false fun hv => h (hv.2 i hi)
theorem validP_n {css : List (List Int)} (h : inR css.length 1 30 = false) : validP css = false :=
  validP_false fun h' => by
    have h1 := h'.1
    have : inR css.length 1 30 = true := by simp [inR]; omega
    rw [h] at this
    cases this
theorem validP_of {css : List (List Int)} (h : ∀ i, i < css.length → prow css i) : validP css = inR css.length 1 30 := by
  cases hn : inR css.length 1 30 with
  | false => exact validP_n hn
  | true => rw [validP_iff]; exact ⟨by simp [inR] at hn; omega, h⟩
theorem validP_len {css : List (List Int)} (h : validP css = true) : 1 ≤ css.length ∧ css.length ≤ 30 := (validP_iff.1 h).1
theorem row_getD {rs : List Row} {i : Nat} {r : Row} (h : rs[i]? = some r) : (cont rs).getD i [] = r.xs := by simp [List.getD, cont_at h]
/-- the cell of valid paths -/
theorem SlS.path {w : World} {B : Nat} {A : Option Addr} {n : Nat} {rs : List Row} (h : SlS w B A n rs) (hv : validP (cont rs) = true) {i k : Nat} (hi : i < n) (hk : k < n) :
    ∃ bi oi ci bk ok x, A = some ⟨bi, oi, none⟩ ∧ bi < B ∧ w.cell? ⟨bi, oi + i, none⟩ = some (.slice (some ⟨bk, ok, none⟩) n ci) ∧ bk < B ∧ w.cell? ⟨bk, ok + k, none⟩ = some (.int .i64 x) ∧ cAt (cont rs) i k = x ∧ 0 ≤ x ∧ x ≤ 1000 := by
  obtain ⟨Ai, ni, ci, xi, b, off, Hx, rfl, hbB, c0, hxi⟩ := h.row hi
  have hl := h.len
  have hv2 := (validP_iff.1 hv).2 i (by rw [cont_len, hl]; exact hi)
  have h1 := hv2.1
  rw [row_getD Hx.out, cont_len, hl, hxi.len] at h1
  obtain rfl : ni = n := h1
  obtain ⟨x, bx, ox, Hv, rfl, hbx, d0⟩ := hxi.int hk
  have hc := cAt_of Hx.out Hv.out
  have h2 := hv2.2.2 k (by rw [cont_len, hl]; exact hk)
  rw [hc] at h2
  exact ⟨b, off, ci, bx, ox, x, rfl, hbB, c0, hbx, d0, hc, h2.1, h2.2⟩
set_option maxHeartbeats 4000000 in
theorem l19Paths_any (A : Option Addr) (n c : Nat) (rs : List Row) (w : World) (B : Nat) (hB : B ≤ w.heap.size) (hn : n + tot rs ≤ 2000000) (hx : SlS w B A n rs) :
    Calls Try.prog 41 #[.slice A n c] w fun e w' => e = .returned (.bool (validP (cont rs))) ∧ Below w.heap.size w w' := by
  have hl := hx.len
  have hlc : (cont rs).length = n := by rw [cont_len, hl]
  have Hlc := hid hlc
  clear hlc
  go_enter Try.func41, Try.ntmps41
  go_wp2
  go_loopw [3] (fun i w1 => ∃ k : Nat, k ≤ n ∧ i = .int .i64 k ∧ Hid (∀ i, i < k → prow (cont rs) i) ∧ Below w.heap.size w w1) (fun i _ => n - (intOf i).toNat)
  case atStart => exact ⟨0, Nat.zero_le _, rfl, fun i h => by omega, Below.refl _ _⟩
  case round =>
    obtain ⟨k, hk, rfl, hall, hb⟩ := hrel
    by_cases hlt : k < n
    · obtain ⟨Ai, ni, ci, xi, b, off, Hx, rfl, hbB, c0, hxi⟩ := (hx.below (hb.mono hB)).row hlt
      have hxl := hxi.len
      have hbad : ¬ prow (cont rs) k → Hid (validP (cont rs) = false) := fun h => validP_row (by rw [Hlc.out]; exact hlt) h
      by_cases hq : ni = n
      · subst hq
        obtain ⟨x, bx, ox, Hv, rfl, hbx, d0⟩ := hxi.int hlt
        have Hcx : Hid (cAt (cont rs) k k = x) := cAt_of Hx.out Hv.out
        have Hrow : Hid (((cont rs).getD k []).length = (cont rs).length) := by rw [Hid, row_getD Hx.out, Hlc.out]; exact hxl
        have i0 : (0 : Int) ≤ (k : Int) := by omega
        have i1 : (k : Int) < (ni : Int) := by omega
        by_cases hx0 : x = 0
        · subst hx0
          have dx : ((0 : Int) != 0) = false := rfl
          clear hxl Hv
          go_wp2
          go_loopw [4] (fun i w1 => ∃ m : Nat, m ≤ ni ∧ i = .int .i64 m ∧ Hid (∀ q, q < m → 0 ≤ cAt (cont rs) k q ∧ cAt (cont rs) k q ≤ 1000) ∧ Below w.heap.size w w1) (fun i _ => ni - (intOf i).toNat)
          case atStart => exact ⟨0, Nat.zero_le _, rfl, fun i h => by omega, by assumption⟩
          case round =>
            clear c0 d0 hb hxi
            obtain ⟨m, hm, rfl, hcm, hb⟩ := hrel
            by_cases hmk : m < ni
            · have hxr := hx.below (hb.mono hB)
              have hxi : Sl wr B 1 encI (some ⟨bx, ox, none⟩) ni xi := hxr.2 _ (List.mem_of_getElem? Hx.out)
              obtain ⟨_, _, _, _, b2, off2, Hx2, e2, _, c0, _⟩ := hxr.row hlt
              injection e2 with e2
              injection e2 with e2 e3
              subst e2 e3
              rw [Hx.out] at Hx2
              have e2 := Hx2.out
              injection e2 with e2
              injection e2 with e2 e3 e4 e5
              subst e2 e3 e4 e5
              obtain ⟨x, bx2, ox2, Hv, e4, _, d0⟩ := hxi.int hmk
              injection e4 with e4
              injection e4 with e4 e5
              subst e4 e5
              have Hcx2 : Hid (cAt (cont rs) k m = x) := cAt_of Hx.out Hv.out
              have i2 : (0 : Int) ≤ (m : Int) := by omega
              have i3 : (m : Int) < (ni : Int) := by omega
              have hi := l00In_any x 0 1000
              cases hr : inR x 0 1000 with
              | false =>
                have E := hbad (fun h => by
                  have := h.2.2 m (by rw [Hlc.out]; exact hmk)
                  rw [Hcx2.out] at this
                  simp [inR] at hr
                  omega)
                rw [hr] at hi
                clear hcm hbad hx hxi hxr hr Hx2
                go_wp2_with (go_at_call 42; refine (hi _).mono ?_; rintro r w2 ⟨rfl, rfl⟩)
                go_ret
                exact ⟨retB E.out.symm, hb⟩
              | true =>
                have G : Hid (∀ q, q < m + 1 → 0 ≤ cAt (cont rs) k q ∧ cAt (cont rs) k q ≤ 1000) := fun q hq => by
                  by_cases hqm : q = m
                  · subst hqm; rw [Hcx2.out]; simp [inR] at hr; omega
                  · exact hcm.out q (by omega)
                rw [hr] at hi
                clear hcm hbad hx hxi hxr hr Hx2
                go_wp2_with (go_at_call 42; refine (hi _).mono ?_; rintro r w2 ⟨rfl, rfl⟩)
                go_roundw
                all_goals first | exact ⟨m + 1, by omega, by go_num, G, hb⟩ | exact ⟨⟨m + 1, by omega, by go_num, G, hb⟩, by simp [intOf]; omega⟩ | (simp [intOf]; omega)
            · have : m = ni := by omega
              subst this
              have hall2 : Hid (∀ i, i < k + 1 → prow (cont rs) i) := fun i hi => by
                by_cases him : i = k
                · subst him; exact ⟨Hrow.out, Hcx.out, fun q hq => hcm.out q (by rw [Hlc.out] at hq; exact hq)⟩
                · exact hall.out i (by omega)
              clear hall hcm hx hbad
              go_wp2
              go_roundw
              all_goals first | exact ⟨k + 1, by omega, by go_num, hall2, hb⟩ | exact ⟨⟨k + 1, by omega, by go_num, hall2, hb⟩, by simp [intOf]; omega⟩ | (simp [intOf]; omega)
        · have E := hbad (fun hr => hx0 (by rw [← Hcx.out]; exact hr.2.1))
          have dx : (x == 0) = false := by simpa using hx0
          have dy : (x != 0) = true := by simpa using hx0
          clear hbad hx hxi hall hxl hx0
          go_wp2
          go_ret
          exact ⟨retB E.out.symm, by assumption⟩
      · have E := hbad (fun hr => hq (by have := hr.1; rw [row_getD Hx.out] at this; have := Hlc.out; simp only at *; omega))
        have hq' : ¬ ((ni : Int) = (n : Int)) := by omega
        clear hbad hx hxi hall hxl
        go_wp2
        go_ret
        exact ⟨retB E.out.symm, by assumption⟩
    · have : k = n := by omega
      subst this
      have E : Hid (validP (cont rs) = inR k 1 30) := by
        have := validP_of (css := cont rs) (fun i hi => hall.out i (by rw [Hlc.out] at hi; exact hi))
        rw [Hlc.out] at this
        exact this
      clear hall hx
      go_wp2_with (go_at_call 42; refine (l00In_any _ _ _ _).mono ?_; rintro r w2 ⟨rfl, rfl⟩)
      go_ret
      exact ⟨retB E.out.symm, hb⟩
set_option maxHeartbeats 4000000 in
theorem arePaths_any (A : Option Addr) (n c : Nat) (rs : List Row) (w : World) (B : Nat) (hB : B ≤ w.heap.size) (hn : n + tot rs ≤ 2000000) (hx : SlS w B A n rs) :
    Calls Try.prog 39 #[.slice A n c] w fun e w' => e = .returned (.bool (validP (cont rs))) ∧ Below w.heap.size w w' := by
  have hl := hx.len
  have hlc : (cont rs).length = n := by rw [cont_len, hl]
  cases hz : inR n 1 30 with
  | false =>
    have E : Hid (validP (cont rs) = false) := validP_n (by rw [hlc]; exact hz)
    have hi := within_any n 1 30
    rw [hz] at hi
    clear hx hz
    go_enter Try.func39, Try.ntmps39
    go_wp2_with (go_at_call 50; refine (hi _).mono ?_; rintro r w2 ⟨rfl, rfl⟩)
    go_ret
    exact ⟨retB E.out.symm, Below.refl _ _⟩
  | true =>
    have hi := within_any n 1 30
    rw [hz] at hi
    have Hz := hid hz
    have Hlc := hid hlc
    clear hz hlc
    go_enter Try.func39, Try.ntmps39
    go_wp2_with (go_at_call 50; refine (hi _).mono ?_; rintro r w2 ⟨rfl, rfl⟩)
    go_loopw [13] (fun i w1 => ∃ k : Nat, k ≤ n ∧ i = .int .i64 k ∧ Hid (∀ i, i < k → prow (cont rs) i) ∧ Below w2.heap.size w2 w1) (fun i _ => n - (intOf i).toNat)
    case atStart => exact ⟨0, Nat.zero_le _, rfl, fun i h => by omega, Below.refl _ _⟩
    case round =>
      obtain ⟨k, hk, rfl, hall, hb⟩ := hrel
      by_cases hlt : k < n
      · obtain ⟨Ai, ni, ci, xi, b, off, Hx, rfl, hbB, c0, hxi⟩ := (hx.below (hb.mono hB)).row hlt
        have hxl := hxi.len
        have hbad : ¬ prow (cont rs) k → Hid (validP (cont rs) = false) := fun h => validP_row (by rw [Hlc.out]; exact hlt) h
        have hni := tot_mem (List.mem_of_getElem? Hx.out)
        simp only at hni
        by_cases hq : ni = n
        · subst hq
          obtain ⟨x, bx, ox, Hv, rfl, hbx, d0⟩ := hxi.int hlt
          have Hcx : Hid (cAt (cont rs) k k = x) := cAt_of Hx.out Hv.out
          have Hrow : Hid (((cont rs).getD k []).length = (cont rs).length) := by rw [Hid, row_getD Hx.out, Hlc.out]; exact hxl
          have Hcs : Hid (∀ q, q < ni → ∃ y, xi[q]? = some y ∧ cAt (cont rs) k q = y) := fun q hq => by
            obtain ⟨y, _, _, Hv, _⟩ := hxi.int hq
            exact ⟨y, Hv.out, cAt_of Hx.out Hv.out⟩
          have ho := outside_any (some ⟨bx, ox, none⟩) ni ci xi 0 1000
          cases hr : xi.any fun x => !inR x 0 1000 with
          | true =>
            have E := hbad (fun h => by
              rw [List.any_eq_true] at hr
              obtain ⟨y, hy, hyr⟩ := hr
              obtain ⟨q, hq, rfl⟩ := List.getElem_of_mem hy
              obtain ⟨z, hz, hcz⟩ := Hcs.out q (by omega)
              rw [List.getElem?_eq_getElem hq] at hz
              injection hz with hz
              have := h.2.2 q (by rw [Hlc.out]; omega)
              rw [hcz] at this
              simp [inR] at hyr
              omega)
            rw [hr] at ho
            have ho := fun W h1 h => ho W B h1 (by omega) h
            clear hbad hall hr Hv Hcs
            go_wp2_with (go_at_call 40; refine (ho _ (Nat.le_trans hB hb.size) hxi).mono ?_; rintro r w3 ⟨rfl, b3⟩)
            go_ret
            exact ⟨retB E.out.symm, hb.trans (b3.mono hb.size)⟩
          | false =>
            have G : Hid (x = 0 → ∀ i, i < k + 1 → prow (cont rs) i) := fun h0 i hi => by
              by_cases him : i = k
              · subst him
                refine ⟨Hrow.out, Hcx.out.trans h0, fun q hq => ?_⟩
                obtain ⟨y, hy, hcy⟩ := Hcs.out q (by rw [Hlc.out] at hq; exact hq)
                rw [hcy]
                rw [List.any_eq_false] at hr
                have := hr y (List.mem_of_getElem? hy)
                simp [inR] at this
                omega
              · exact hall.out i (by omega)
            rw [hr] at ho
            have ho := fun W h1 h => ho W B h1 (by omega) h
            have hbx' := hbx
            have hbW := Nat.lt_of_lt_of_le hbx (Nat.le_trans hB hb.size)
            clear hr Hv Hcs hall
            by_cases hx0 : x = 0
            · replace G := hid (G.out hx0)
              subst hx0
              clear hbad
              go_wp2_with (go_at_call 40; refine (ho _ (Nat.le_trans hB hb.size) hxi).mono ?_; rintro r w3 ⟨rfl, b3⟩; replace d0 := below_cell d0 b3; replace hb := hb.trans (b3.mono hb.size))
              go_roundw
              all_goals first | exact ⟨k + 1, by omega, by go_num, G, hb⟩ | exact ⟨⟨k + 1, by omega, by go_num, G, hb⟩, by simp [intOf]; omega⟩ | (simp [intOf]; omega)
            · have E := hbad (fun hr => hx0 (by rw [← Hcx.out]; exact hr.2.1))
              clear hbad G
              go_wp2_with (go_at_call 40; refine (ho _ (Nat.le_trans hB hb.size) hxi).mono ?_; rintro r w3 ⟨rfl, b3⟩; replace d0 := below_cell d0 b3; replace hb := hb.trans (b3.mono hb.size))
              go_ret
              exact ⟨retB E.out.symm, hb⟩
        · have E := hbad (fun hr => hq (by have := hr.1; rw [row_getD Hx.out] at this; have := Hlc.out; simp only at *; omega))
          have hq' : ¬ ((ni : Int) = (n : Int)) := by omega
          clear hbad hx hxi hall hxl
          go_wp2
          go_ret
          exact ⟨retB E.out.symm, hb⟩
      · have : k = n := by omega
        subst this
        have E : Hid (validP (cont rs) = true) := by rw [Hid, validP_of (fun i hi => hall.out i (by rw [Hlc.out] at hi; exact hi)), Hlc.out]; exact Hz.out
        clear hall hx
        go_wp2
        go_ret
        exact ⟨retB E.out.symm, hb⟩

/-- the length of the first k steps of a round from 0, and where they end -/
def endK (ps : List Int) (k : Nat) : Int := if k = 0 then 0 else ps.getD (k - 1) 0
def sumK (css : List (List Int)) (ps : List Int) : Nat → Int
  | 0 => 0
  | k + 1 => sumK css ps k + cAt css (endK ps k).toNat (ps.getD k 0).toNat
def lenR (css : List (List Int)) (ps : List Int) : Int := sumK css ps ps.length + cAt css (endK ps ps.length).toNat 0
def inQ (n : Nat) (ps : List Int) : Prop := ∀ x ∈ ps, 0 ≤ x ∧ x < (n : Int)
theorem endK_in {n : Nat} {ps : List Int} (h : inQ n ps) (hn : 1 ≤ n) (k : Nat) : 0 ≤ endK ps k ∧ endK ps k < n := by
  unfold endK
  split
  · omega
  · rw [List.getD]
    cases hk : ps[k - 1]? with
    | none => simp; omega
    | some x => exact h x (List.mem_of_getElem? hk)
theorem cAt_in {css : List (List Int)} (hv : validP css = true) (i k : Nat) (hi : i < css.length) (hk : k < css.length) : 0 ≤ cAt css i k ∧ cAt css i k ≤ 1000 := ((validP_iff.1 hv).2 i hi).2.2 k hk
theorem sumK_in {css : List (List Int)} (hv : validP css = true) {ps : List Int} (h : inQ css.length ps) : ∀ k, k ≤ ps.length → 0 ≤ sumK css ps k ∧ sumK css ps k ≤ 1000 * k := by
  intro k
  induction k with
  | zero => intro _; simp [sumK]
  | succ k ih =>
    intro hk
    have h1 := ih (by omega)
    have h2 := endK_in h (validP_len hv).1 k
    have h3 := h (ps.getD k 0) (by rw [List.getD, List.getElem?_eq_getElem (by omega)]; exact List.getElem_mem _)
    have h4 := cAt_in hv (endK ps k).toNat (ps.getD k 0).toNat (by omega) (by omega)
    simp only [sumK]
    omega
end Go.Proofs.Yteckfjnglmkenaa
