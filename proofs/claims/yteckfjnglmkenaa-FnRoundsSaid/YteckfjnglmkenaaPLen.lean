/-
  LengthOfRound: both sides. No condition.
-/
import Derived.Test.YteckfjnglmkenaaPPath
import Derived.OwnWalk
namespace Go.Proofs.Yteckfjnglmkenaa
open Go.RowKit
set_option maxHeartbeats 400000

def lenF (css : List (List Int)) (ps : List Int) : Int × Int :=
  if validP css then if ps.any (fun x => !inR x 0 ((css.length : Int) - 1)) || decide (30 < ps.length) then (0, 2) else (lenR css ps, 0) else (0, 1)
theorem lenF_cases (css : List (List Int)) (ps : List Int) :
    (validP css = false ∧ lenF css ps = (0, 1)) ∨ (validP css = true ∧ ps.any (fun x => !inR x 0 ((css.length : Int) - 1)) = true ∧ lenF css ps = (0, 2)) ∨ (validP css = true ∧ ps.any (fun x => !inR x 0 ((css.length : Int) - 1)) = false ∧ 30 < ps.length ∧ lenF css ps = (0, 2)) ∨
      (validP css = true ∧ ps.any (fun x => !inR x 0 ((css.length : Int) - 1)) = false ∧ ps.length ≤ 30 ∧ lenF css ps = (lenR css ps, 0)) := by
  cases hv : validP css
  · exact .inl ⟨rfl, by simp [lenF, hv]⟩
  cases ha : ps.any (fun x => !inR x 0 ((css.length : Int) - 1))
  · by_cases hl : 30 < ps.length
    · exact .inr (.inr (.inl ⟨rfl, rfl, hl, by simp only [lenF, hv, ha, if_true]; simp [hl]⟩))
    · exact .inr (.inr (.inr ⟨rfl, rfl, by omega, by simp only [lenF, hv, ha, if_true]; simp [hl]⟩))
  · exact .inr (.inl ⟨rfl, rfl, by simp only [lenF, hv, ha, if_true]; simp⟩)
theorem inQ_of {n : Nat} {ps : List Int} (h : ps.any (fun x => !inR x 0 ((n : Int) - 1)) = false) : inQ n ps := fun x hx => by
  rw [List.any_eq_false] at h
  have := h x hx
  simp [inR] at this
  omega
def pairJ (p : Int × Int) : Value := .tuple #[.int .i64 p.1, .int .i64 p.2]
theorem endK_succ {ps : List Int} {k : Nat} {x : Int} (h : ps[k]? = some x) : endK ps (k + 1) = x := by simp [endK, List.getD, h]
theorem sumK_succ {css : List (List Int)} {ps : List Int} {k : Nat} {x : Int} (h : ps[k]? = some x) : sumK css ps (k + 1) = sumK css ps k + cAt css (endK ps k).toNat x.toNat := by simp [sumK, List.getD, h]
set_option maxHeartbeats 2000000 in
theorem l19Length_any (A : Option Addr) (n c : Nat) (rs : List Row) (A1 : Option Addr) (m1 c1 : Nat) (ps : List Int) (w : World) (B : Nat) (hB : B ≤ w.heap.size) (hx : SlS w B A n rs) (hy : Sl w B 1 encI A1 m1 ps) (hv : validP (cont rs) = true) (hq : inQ n ps) (hm : m1 ≤ 30) :
    Calls Try.prog 43 #[.slice A n c, .slice A1 m1 c1] w fun r w' => r = .returned (.int .i64 (lenR (cont rs) ps)) ∧ Below w.heap.size w w' := by
  have hlc : (cont rs).length = n := by rw [cont_len, hx.len]
  have hn30 := validP_len hv
  rw [hlc] at hn30
  have hl := hy.len
  have SI := hid (sumK_in hv (ps := ps) (by rw [hlc]; exact hq))
  have EI := hid (fun k => endK_in hq hn30.1 k)
  have HQ := hid hq
  have Hl := hid hl
  have Hv := hid hv
  clear hq hlc hl hv
  go_enter Try.func43, Try.ntmps43
  go_wp2
  go_loopw [5, 6, 7] (fun s a i w1 => ∃ (k j : Nat) (z : Int), k ≤ m1 ∧ i = .int .i64 k ∧ a = .int .i64 j ∧ s = .int .i64 z ∧ j < n ∧ 0 ≤ z ∧ z ≤ 1000 * k ∧ Hid (endK ps k = j) ∧ Hid (sumK (cont rs) ps k = z) ∧ Below w.heap.size w w1) (fun _ _ i _ => m1 - (intOf i).toNat)
  case atStart => exact ⟨0, 0, 0, Nat.zero_le _, rfl, rfl, rfl, by omega, by omega, by omega, by simp [Hid, endK], by simp [Hid, sumK], Below.refl _ _⟩
  case round =>
    obtain ⟨k, j, z, hk, rfl, rfl, rfl, hj, z0, z1, he, hs, hb⟩ := hrel
    by_cases hlt : k < m1
    · obtain ⟨x, b, o, Hx, rfl, hb1, c0⟩ := (hy.below (hb.mono hB)).int hlt
      have hxq := HQ.out x (List.mem_of_getElem? Hx.out)
      obtain ⟨q, rfl⟩ : ∃ q : Nat, x = q := ⟨x.toNat, by omega⟩
      obtain ⟨bi, oi, ci, bk, ok, y, rfl, hbi, d0, hbk, d1, hc, y0, y1⟩ := (hx.below (hb.mono hB)).path Hv.out hj (show q < n by omega)
      have E1 : Hid (endK ps (k + 1) = (q : Int)) := endK_succ Hx.out
      have E2 : Hid (sumK (cont rs) ps (k + 1) = z + y) := by rw [Hid, sumK_succ Hx.out, hs.out, he.out, ← hc]; simp
      have i0 : (0 : Int) ≤ (j : Int) := by omega
      have i1 : (j : Int) < (n : Int) := by omega
      have i2 : (0 : Int) ≤ (q : Int) := by omega
      have i3 : (q : Int) < (n : Int) := hxq.2
      have i4 : (0 : Int) ≤ (k : Int) := by omega
      have i5 : (k : Int) < (m1 : Int) := by omega
      have hw : IntKind.i64.wrap (z + y) = z + y := IntWalk.i64_in _ (by omega)
      have hqn : q < n := by omega
      clear hx hy hxq hc hs he
      go_wp2_with fail
      go_quiet (fail)
      have hb2 := below_drewN hb nq
      go_wp2_with fail
      go_roundw
      all_goals first | exact ⟨k + 1, q, z + y, by omega, by go_num, rfl, rfl, hqn, by omega, by omega, E1, E2, hb2⟩ | exact ⟨⟨k + 1, q, z + y, by omega, by go_num, rfl, rfl, hqn, by omega, by omega, E1, E2, hb2⟩, by simp [intOf]; omega⟩ | (simp [intOf]; omega)
    · have : k = m1 := by omega
      subst this
      obtain ⟨bi, oi, ci, bk, ok, y, rfl, hbi, d0, hbk, d1, hc, y0, y1⟩ := (hx.below (hb.mono hB)).path Hv.out hj (show 0 < n by omega)
      have E : Hid (lenR (cont rs) ps = z + y) := by rw [Hid, lenR, Hl.out, hs.out, he.out, ← hc]; simp
      simp only [Nat.add_zero] at d1
      clear hx hy hc hs he
      go_wp2
      go_ret
      exact ⟨retI E.out.symm, hb⟩
set_option maxHeartbeats 2000000 in
theorem roundLength_any (A : Option Addr) (n c : Nat) (rs : List Row) (A1 : Option Addr) (m1 c1 : Nat) (ps : List Int) (w : World) (B : Nat) (hB : B ≤ w.heap.size) (hx : SlS w B A n rs) (hy : Sl w B 1 encI A1 m1 ps) (hv : validP (cont rs) = true) (hq : inQ n ps) (hm : m1 ≤ 30) :
    Calls Try.prog 30 #[.slice A n c, .slice A1 m1 c1] w fun r w' => r = .returned (.int .i64 (lenR (cont rs) ps)) ∧ w' = w := by
  have hlc : (cont rs).length = n := by rw [cont_len, hx.len]
  have hn30 := validP_len hv
  rw [hlc] at hn30
  have hl := hy.len
  have SI := hid (sumK_in hv (ps := ps) (by rw [hlc]; exact hq))
  have HQ := hid hq
  have Hl := hid hl
  have Hv := hid hv
  clear hq hlc hl hv
  go_enter Try.func30, Try.ntmps30
  go_wp2
  go_loopw [5, 6, 11] (fun a s i w1 => ∃ (k j : Nat) (z : Int), k ≤ m1 ∧ i = .int .i64 k ∧ a = .int .i64 j ∧ s = .int .i64 z ∧ j < n ∧ 0 ≤ z ∧ z ≤ 1000 * k ∧ Hid (endK ps k = j) ∧ Hid (sumK (cont rs) ps k = z) ∧ w1 = w) (fun _ _ i _ => m1 - (intOf i).toNat)
  case atStart => exact ⟨0, 0, 0, Nat.zero_le _, rfl, rfl, rfl, by omega, by omega, by omega, by simp [Hid, endK], by simp [Hid, sumK], rfl⟩
  case round =>
    obtain ⟨k, j, z, hk, rfl, rfl, rfl, hj, z0, z1, he, hs, rfl⟩ := hrel
    by_cases hlt : k < m1
    · obtain ⟨x, b, o, Hx, rfl, hb1, c0⟩ := hy.int hlt
      have hxq := HQ.out x (List.mem_of_getElem? Hx.out)
      obtain ⟨q, rfl⟩ : ∃ q : Nat, x = q := ⟨x.toNat, by omega⟩
      obtain ⟨bi, oi, ci, bk, ok, y, rfl, hbi, d0, hbk, d1, hc, y0, y1⟩ := hx.path Hv.out hj (show q < n by omega)
      have E1 : Hid (endK ps (k + 1) = (q : Int)) := endK_succ Hx.out
      have E2 : Hid (sumK (cont rs) ps (k + 1) = z + y) := by rw [Hid, sumK_succ Hx.out, hs.out, he.out, ← hc]; simp
      have i3 : (q : Int) < (n : Int) := hxq.2
      have hqn : q < n := by omega
      clear hx hy hxq hc hs he
      go_wp2
      go_roundw
      all_goals first | exact ⟨k + 1, q, z + y, by omega, by go_num, rfl, by go_num, hqn, by omega, by omega, E1, E2, by trivial⟩ | exact ⟨⟨k + 1, q, z + y, by omega, by go_num, rfl, by go_num, hqn, by omega, by omega, E1, E2, by trivial⟩, by simp [intOf]; omega⟩ | (simp [intOf]; omega)
    · have : k = m1 := by omega
      subst this
      obtain ⟨bi, oi, ci, bk, ok, y, rfl, hbi, d0, hbk, d1, hc, y0, y1⟩ := hx.path Hv.out hj (show 0 < n by omega)
      have E : Hid (lenR (cont rs) ps = z + y) := by rw [Hid, lenR, Hl.out, hs.out, he.out, ← hc]; simp
      simp only [Nat.add_zero] at d1
      clear hx hy hc hs he
      go_wp2
      go_ret
      exact ⟨retI E.out.symm, rfl⟩
set_option maxHeartbeats 2000000 in
theorem specLengthOfRound_any (A : Option Addr) (n c : Nat) (rs : List Row) (A1 : Option Addr) (m1 c1 : Nat) (ps : List Int) (w : World) (B : Nat) (hB : B ≤ w.heap.size) (hn : n + tot rs ≤ 2000000) (hm1 : m1 ≤ 2000000) (hx : SlS w B A n rs) (hy : Sl w B 1 encI A1 m1 ps) :
    Calls Try.prog 21 #[.slice A n c, .slice A1 m1 c1] w fun r w' => r = .returned (pairJ (lenF (cont rs) ps)) ∧ Below w.heap.size w w' := by
  have hok := l19Paths_any A n c rs w B hB hn hx
  have hlc : (cont rs).length = n := by rw [cont_len, hx.len]
  have hl := hy.len
  have hle := fun W h1 h2 h3 hv hq hm => l19Length_any A n c rs A1 m1 c1 ps W B h1 h2 h3 hv hq hm
  obtain ⟨F, hF⟩ : ∃ F, lenF (cont rs) ps = F := ⟨_, rfl⟩
  cases hv : validP (cont rs) with
  | false =>
    have E : Hid (F = (0, 1)) := by rw [Hid, ← hF]; simp [lenF, hv]
    rw [hF]
    rw [hv] at hok
    clear hx hy hv hF hle
    go_enter Try.func21, Try.ntmps21
    go_wp2_with (go_at_call 41; refine hok.mono ?_; rintro r w1 ⟨rfl, b1⟩)
    go_ret2
    exact ⟨by rw [E.out]; rfl, b1⟩
  | true =>
    have EF : Hid (F = if ps.any (fun x => !inR x 0 ((n : Int) - 1)) || decide (30 < m1) then (0, 2) else (lenR (cont rs) ps, 0)) := by
      rw [Hid, ← hF]
      simp only [lenF, hv, if_true, hlc, hl]
    rw [hF]
    rw [hv] at hok
    have Hv := hid hv
    have Hl := hid hl
    have hn30 := validP_len hv
    rw [hlc] at hn30
    clear hv hF hlc hl
    go_enter Try.func21, Try.ntmps21
    go_wp2_with (go_at_call 41; refine hok.mono ?_; rintro r w2 ⟨rfl, b1⟩)
    go_loopw [6] (fun i w1 => ∃ k : Nat, k ≤ m1 ∧ i = .int .i64 k ∧ Hid (ps.any (fun x => !inR x 0 ((n : Int) - 1)) = (ps.drop k).any (fun x => !inR x 0 ((n : Int) - 1))) ∧ Below w.heap.size w w1) (fun i _ => m1 - (intOf i).toNat)
    case atStart => exact ⟨0, Nat.zero_le _, rfl, rfl, by assumption⟩
    case round =>
      obtain ⟨k, hk, rfl, he, hb⟩ := hrel
      clear hok
      by_cases hlt : k < m1
      · obtain ⟨x, b, o, Hx, rfl, hb1, c0⟩ := (hy.below (hb.mono hB)).int hlt
        have he2 := he.out
        rw [drop_at Hx.out, List.any_cons] at he2
        have hi := l00In_any x 0 ((n : Int) - 1)
        cases hr : inR x 0 ((n : Int) - 1) with
        | false =>
          have E : Hid (F = (0, 2)) := by rw [Hid, EF.out, he2, hr]; rfl
          rw [hr] at hi
          clear he he2 hr hx hy EF hle
          go_wp2_with (go_at_call 42; refine (hi _).mono ?_; rintro r w2 ⟨rfl, rfl⟩)
          go_ret2
          exact ⟨by rw [E.out]; rfl, hb⟩
        | true =>
          have E := hid he2
          rw [hr] at E
          simp only [Bool.not_true, Bool.false_or] at E
          rw [hr] at hi
          clear he he2 hr hx hy hle
          go_wp2_with (go_at_call 42; refine (hi _).mono ?_; rintro r w2 ⟨rfl, rfl⟩)
          go_roundw
          all_goals first | exact ⟨k + 1, by omega, by go_num, E, hb⟩ | exact ⟨⟨k + 1, by omega, by go_num, E, hb⟩, by simp [intOf]; omega⟩ | (simp [intOf]; omega)
      · have : k = m1 := by omega
        subst this
        have he2 := he.out
        rw [List.drop_of_length_le (by rw [Hl.out]; omega), List.any_nil] at he2
        have hq := inQ_of he2
        have EF2 : Hid (F = if decide (30 < k) then (0, 2) else (lenR (cont rs) ps, 0)) := by rw [Hid, EF.out, he2, Bool.false_or]
        clear he he2 EF
        by_cases h30 : 30 < k
        · have E : Hid (F = (0, 2)) := by rw [Hid, EF2.out]; simp [h30]
          clear hq hle EF2
          go_wp2
          go_ret2
          exact ⟨by rw [E.out]; rfl, hb⟩
        · have E : Hid (F = (lenR (cont rs) ps, 0)) := by rw [Hid, EF2.out]; simp [h30]
          have hle := hle wr (Nat.le_trans hB hb.size) (hx.below (hb.mono hB)) (hy.below (hb.mono hB)) Hv.out hq (by omega)
          clear hq EF2 hx hy
          go_wp2_with (go_at_call 43; refine hle.mono ?_; rintro r w3 ⟨rfl, b3⟩)
          go_ret2
          exact ⟨by rw [E.out]; rfl, hb.trans (b3.mono hb.size)⟩
set_option maxHeartbeats 2000000 in
theorem implLengthOfRound_any (A : Option Addr) (n c : Nat) (rs : List Row) (A1 : Option Addr) (m1 c1 : Nat) (ps : List Int) (w : World) (B : Nat) (hB : B ≤ w.heap.size) (hn : n + tot rs ≤ 2000000) (hm1 : m1 ≤ 2000000) (hx : SlS w B A n rs) (hy : Sl w B 1 encI A1 m1 ps) :
    Calls Try.prog 20 #[.slice A n c, .slice A1 m1 c1] w fun r w' => r = .returned (pairJ (lenF (cont rs) ps)) ∧ Below w.heap.size w w' := by
  have hok := arePaths_any A n c rs w B hB hn hx
  have hlc : (cont rs).length = n := by rw [cont_len, hx.len]
  have hl := hy.len
  have ho := fun W h1 h2 => outside_any A1 m1 c1 ps 0 ((n : Int) - 1) W B h1 hm1 h2
  rcases lenF_cases (cont rs) ps with ⟨hv, E⟩ | ⟨hv, ha, E⟩ | ⟨hv, ha, h30, E⟩ | ⟨hv, ha, h30, E⟩
  · replace E := hid E
    rw [hv] at hok
    clear hx hy hv ho
    go_enter Try.func20, Try.ntmps20
    go_wp2_with (go_at_call 39; refine hok.mono ?_; rintro r w1 ⟨rfl, b1⟩)
    go_ret2
    exact ⟨by rw [E.out]; rfl, b1⟩
  · replace E := hid E
    have hn30 := validP_len hv
    rw [hlc] at ha hn30
    rw [hv] at hok
    rw [ha] at ho
    clear hx hv ha
    by_cases h30 : 30 < m1
    all_goals go_enter Try.func20, Try.ntmps20
    all_goals go_wp2_with (first
      | (go_at_call 39; refine hok.mono ?_; rintro r w1 ⟨rfl, b1⟩)
      | (go_at_call 40; refine (ho _ (Nat.le_trans hB b1.size) (hy.below (b1.mono hB))).mono ?_; rintro r w2 ⟨rfl, b2⟩))
    · go_ret2
      exact ⟨by rw [E.out]; rfl, b1⟩
    · go_ret2
      exact ⟨by rw [E.out]; rfl, b1.trans (b2.mono b1.size)⟩
  · replace E := hid E
    have hn30 := validP_len hv
    rw [hlc] at hn30
    rw [hl] at h30
    rw [hv] at hok
    clear hx hy hv ha ho
    go_enter Try.func20, Try.ntmps20
    go_wp2_with (go_at_call 39; refine hok.mono ?_; rintro r w1 ⟨rfl, b1⟩)
    go_ret2
    exact ⟨by rw [E.out]; rfl, b1⟩
  · replace E := hid E
    have hn30 := validP_len hv
    rw [hlc] at ha hn30
    rw [hl] at h30
    have hle := fun W h1 h2 h3 => roundLength_any A n c rs A1 m1 c1 ps W B h1 h2 h3 hv (inQ_of ha) h30
    rw [hv] at hok
    rw [ha] at ho
    clear hv ha
    go_enter Try.func20, Try.ntmps20
    go_wp2_with (first
      | (go_at_call 39; refine hok.mono ?_; rintro r w1 ⟨rfl, b1⟩)
      | (go_at_call 40; refine (ho _ (Nat.le_trans hB b1.size) (hy.below (b1.mono hB))).mono ?_; rintro r w2 ⟨rfl, b2⟩; have b2 := b1.trans (b2.mono b1.size))
      | (go_at_call 30; refine (hle _ (Nat.le_trans hB b2.size) (hx.below (b2.mono hB)) (hy.below (b2.mono hB))).mono ?_; rintro r w3 ⟨rfl, rfl⟩))
    go_ret2
    exact ⟨by rw [E.out]; rfl, by assumption⟩
end Go.Proofs.Yteckfjnglmkenaa
