/-
  MetresOf, OneWays, WaysFromName: both sides. No condition.
-/
import Derived.Test.YtmanbpobdaamfaaSCode
namespace Go.Proofs.Ytmanbpobdaamfaa
open Go.RowKit
set_option maxHeartbeats 400000

def sumM (xs : List Way) : Int := (xs.map Way.metres).sum
theorem sumM_take {xs : List Way} {k : Nat} {y : Way} (h : xs[k]? = some y) : sumM (xs.take (k + 1)) = sumM (xs.take k) + y.metres := by
  rw [take_at h]; simp [sumM]
def metF (x : Sch) : Int × Int := if validX x then (sumM x.wy, 0) else (0, 1)
def oneP (x : Sch) (y : Way) : Bool := !hasW x.wy y.to y.fr
def oneF (x : Sch) : List Int × Int := if validX x then (idxF (oneP x) x.wy x.wy.length, 0) else ([], 1)
def fromP (z : ByteArray) (y : Way) : Bool := decide (y.fr = z)
def fromF (x : Sch) (z : ByteArray) : List Int × Int := if codeX x z = 0 then (idxF (fromP z) x.wy x.wy.length, 0) else ([], codeX x z)
theorem idxX_len {α : Type} (p : α → Bool) {x : Sch} {xs : List α} (h : xs.length ≤ x.wy.length) (HT : Hid (totX x ≤ 1048576)) : (idxF p xs xs.length).length ≤ 2000000 := by
  have := idxF_len p xs xs.length
  have := HT.out
  simp only [totX] at this
  omega
theorem oneF_len (x : Sch) (HT : Hid (totX x ≤ 1048576)) : (oneF x).1.length ≤ 2000000 := by
  unfold oneF
  split
  · exact idxX_len _ (Nat.le_refl _) HT
  · simp
theorem fromF_len (x : Sch) (z : ByteArray) (HT : Hid (totX x ≤ 1048576)) : (fromF x z).1.length ≤ 2000000 := by
  unfold fromF
  split
  · exact idxX_len _ (Nat.le_refl _) HT
  · simp
theorem codeX_zero {x : Sch} {z : ByteArray} (h : codeX x z = 0) : validX x = true ∧ hasS x.st z = true := by
  unfold codeX at h
  split at h
  · split at h
    · exact ⟨by assumption, by assumption⟩
    · cases h
  · cases h

set_option maxHeartbeats 4000000 in
set_option maxRecDepth 100000 in
theorem implMetresOf_any (s : SV) (x : Sch) (w : World) (B : Nat) (hB : B ≤ w.heap.size) (hn : s.n1 ≤ 2000000 ∧ s.n2 ≤ 2000000 ∧ s.n3 ≤ 2000000) (hx : SlX w B s x) (hz : Hid (BigX x)) :
    Calls Try.prog 24 #[s.v] w (fun r w' => r = .returned (.tuple #[.int .i64 (metF x).1, .int .i64 (metF x).2]) ∧ Below w.heap.size w w') := by
  obtain ⟨A1, n1, c1, A2, n2, c2, A3, n3, c3⟩ := s
  simp only [SV.v] at hn ⊢
  obtain ⟨W0, hW0⟩ : ∃ W0, W0 = w.alloc (.cells #[.slice A1 n1 c1, .slice A2 n2 c2, .slice A3 n3 c3] 29) := ⟨_, rfl⟩
  have b0 : Below w.heap.size w W0 := by rw [hW0]; exact (Below.refl _ _).alloc (Nat.le_refl _) _
  have k0 : W0.cell? ⟨w.heap.size, 0, none⟩ = some (.slice A1 n1 c1) := by rw [hW0]; go_simp
  have k1 : W0.cell? ⟨w.heap.size, 1, none⟩ = some (.slice A2 n2 c2) := by rw [hW0]; go_simp
  have k2 : W0.cell? ⟨w.heap.size, 2, none⟩ = some (.slice A3 n3 c3) := by rw [hW0]; go_simp
  have hx0 := hx.below (b0.mono hB)
  have hc := implValid_any ⟨A1, n1, c1, A2, n2, c2, A3, n3, c3⟩ x W0 B (Nat.le_trans hB b0.size) hn hx0 hz
  simp only [SV.v] at hc
  have hw3 := hx0.wy
  simp only at hw3
  have L3 := hid hw3.len
  obtain ⟨hn1, hn2, hn3⟩ := hn
  have HW := hid hW0
  clear hW0 hx hx0 hz
  by_cases hv : validX x = true
  · have EF : Hid (metF x = (sumM x.wy, 0)) := by rw [Hid, metF, if_pos hv]
    have Hv := hid hv
    have h60 : n3 ≤ 60 := by have := validX_wyl Hv.out; have := L3.out; omega
    rw [hv] at hc
    clear hv
    go_enter Try.func24, Try.ntmps24
    go_wp2_with fail
    rw [← HW.out]
    refine hc.mono ?_
    rintro r w1 ⟨rfl, b1⟩
    clear hc
    have z1 := b1.size
    have z0 := b0.size
    have lb := World.block_lt_of_cell? _ _ k2
    simp only at lb
    replace k2 := below_cell k2 b1
    have hw1 := hw3.below (b1.mono (Nat.le_trans hB b0.size))
    have b2 := b0.trans (b1.mono b0.size)
    have lb1 : w.heap.size < w1.heap.size := by omega
    clear hw3 k0 k1 b0 b1
    go_wp2_with fail
    go_loopw [4, 6, 13] (fun o _ i wl => ∃ (k : Nat) (q : Int), k ≤ n3 ∧ o = .int .i64 q ∧ i = .int .i64 k ∧ 0 ≤ q ∧ q ≤ 2000 * (k : Int) ∧ Hid (q = sumM (x.wy.take k)) ∧ Below w1.heap.size w1 wl) (fun _ _ i _ => n3 - (intOf i).toNat)
    case atStart => exact ⟨0, 0, Nat.zero_le _, rfl, rfl, by omega, by omega, by simp [Hid, sumM], Below.refl _ _⟩
    case round =>
      obtain ⟨k, q, hk, rfl, rfl, q0, q1, he, hb⟩ := hrel
      have kk := below_cell k2 hb
      have zb := hb.size
      have bw := b2.trans (hb.mono (by omega))
      by_cases hlt : k < n3
      · obtain ⟨f, t, m, b, off, Hy, rfl, hbb, l0, l1, l2⟩ := (hw1.below (hb.mono (by omega))).atWay hlt
        have hi0 : (0 : Int) ≤ (k : Int) := by omega
        have hi1 : (k : Int) < (n3 : Int) := by omega
        have lbr : b < wr.heap.size := by omega
        have lgr : w.heap.size < wr.heap.size := by omega
        have hm := validX_way Hv.out Hy.out
        simp only at hm
        obtain ⟨hm0, hm1, _⟩ := hm
        have He : Hid (q + m = sumM (x.wy.take (k + 1))) := by rw [Hid, sumM_take Hy.out, he.out]
        clear he hw1
        have hb5 : Below w1.heap.size w1 (wr.alloc (.cells #[.string f, .string t, .int .i64 m] 54)) := hb.alloc hb.size _
        go_wp2_with fail
        go_roundw
        all_goals first | exact ⟨k + 1, q + m, by omega, rfl, by go_num, by omega, by omega, He, hb5⟩ | exact ⟨⟨k + 1, q + m, by omega, rfl, by go_num, by omega, by omega, He, hb5⟩, by simp [intOf]; omega⟩ | (simp [intOf]; omega)
      · have hkn : k = n3 := by omega
        subst hkn
        have EE : Hid (metF x = (q, 0)) := by rw [Hid, EF.out, he.out, List.take_of_length_le (by rw [L3.out]; exact Nat.le_refl _)]
        clear hw1 he EF
        go_wp2_with fail
        go_ret2
        rw [EE.out]
        exact ⟨rfl, bw⟩
  · have EF : Hid (metF x = (0, 1)) := by rw [Hid, metF, if_neg hv]
    have hv2 : validX x = false := by simpa using hv
    rw [hv2] at hc
    clear hw3 hv k0 k1 k2 hv2
    go_enter Try.func24, Try.ntmps24
    go_wp2_with fail
    rw [← HW.out]
    refine hc.mono ?_
    rintro r w1 ⟨rfl, b1⟩
    go_wp2_with fail
    go_ret2
    rw [EF.out]
    exact ⟨rfl, b0.trans (b1.mono b0.size)⟩
set_option maxHeartbeats 4000000 in
set_option maxRecDepth 100000 in
theorem specMetresOf_any (s : SV) (x : Sch) (w : World) (B : Nat) (hB : B ≤ w.heap.size) (hn : s.n1 ≤ 2000000 ∧ s.n2 ≤ 2000000 ∧ s.n3 ≤ 2000000) (hx : SlX w B s x) (hz : Hid (BigX x)) :
    Calls Try.prog 25 #[s.v] w (fun r w' => r = .returned (.tuple #[.int .i64 (metF x).1, .int .i64 (metF x).2]) ∧ Below w.heap.size w w') := by
  obtain ⟨A1, n1, c1, A2, n2, c2, A3, n3, c3⟩ := s
  simp only [SV.v] at hn ⊢
  obtain ⟨W0, hW0⟩ : ∃ W0, W0 = w.alloc (.cells #[.slice A1 n1 c1, .slice A2 n2 c2, .slice A3 n3 c3] 29) := ⟨_, rfl⟩
  have b0 : Below w.heap.size w W0 := by rw [hW0]; exact (Below.refl _ _).alloc (Nat.le_refl _) _
  have k0 : W0.cell? ⟨w.heap.size, 0, none⟩ = some (.slice A1 n1 c1) := by rw [hW0]; go_simp
  have k1 : W0.cell? ⟨w.heap.size, 1, none⟩ = some (.slice A2 n2 c2) := by rw [hW0]; go_simp
  have k2 : W0.cell? ⟨w.heap.size, 2, none⟩ = some (.slice A3 n3 c3) := by rw [hW0]; go_simp
  have hx0 := hx.below (b0.mono hB)
  have hc := l21Ok_any w.heap.size ⟨A1, n1, c1, A2, n2, c2, A3, n3, c3⟩ x W0 B (Nat.le_trans hB b0.size) hn hx0 hz k0 k1 k2
  have hw3 := hx0.wy
  simp only at hw3
  have L3 := hid hw3.len
  obtain ⟨hn1, hn2, hn3⟩ := hn
  have HW := hid hW0
  clear hW0 hx hx0 hz
  by_cases hv : validX x = true
  · have EF : Hid (metF x = (sumM x.wy, 0)) := by rw [Hid, metF, if_pos hv]
    have Hv := hid hv
    have h60 : n3 ≤ 60 := by have := validX_wyl Hv.out; have := L3.out; omega
    rw [hv] at hc
    clear hv
    go_enter Try.func25, Try.ntmps25
    go_wp2_with fail
    rw [← HW.out]
    refine hc.mono ?_
    rintro r w1 ⟨rfl, b1⟩
    clear hc
    have z1 := b1.size
    have z0 := b0.size
    have lb := World.block_lt_of_cell? _ _ k2
    simp only at lb
    replace k2 := below_cell k2 b1
    have hw1 := hw3.below (b1.mono (Nat.le_trans hB b0.size))
    have b2 := b0.trans (b1.mono b0.size)
    have lb1 : w.heap.size < w1.heap.size := by omega
    clear hw3 k0 k1 b0 b1
    go_wp2_with fail
    go_loopw [4, 5] (fun o i wl => ∃ (k : Nat) (q : Int), k ≤ n3 ∧ o = .int .i64 q ∧ i = .int .i64 k ∧ 0 ≤ q ∧ q ≤ 2000 * (k : Int) ∧ Hid (q = sumM (x.wy.take k)) ∧ Below w1.heap.size w1 wl) (fun _ i _ => n3 - (intOf i).toNat)
    case atStart => exact ⟨0, 0, Nat.zero_le _, rfl, rfl, by omega, by omega, by simp [Hid, sumM], Below.refl _ _⟩
    case round =>
      obtain ⟨k, q, hk, rfl, rfl, q0, q1, he, hb⟩ := hrel
      have kk := below_cell k2 hb
      have zb := hb.size
      have bw := b2.trans (hb.mono (by omega))
      by_cases hlt : k < n3
      · obtain ⟨f, t, m, b, off, Hy, rfl, hbb, l0, l1, l2⟩ := (hw1.below (hb.mono (by omega))).atWay hlt
        have hi0 : (0 : Int) ≤ (k : Int) := by omega
        have hi1 : (k : Int) < (n3 : Int) := by omega
        have lbr : b < wr.heap.size := by omega
        have lgr : w.heap.size < wr.heap.size := by omega
        have hm := validX_way Hv.out Hy.out
        simp only at hm
        obtain ⟨hm0, hm1, _⟩ := hm
        have He : Hid (q + m = sumM (x.wy.take (k + 1))) := by rw [Hid, sumM_take Hy.out, he.out]
        clear he hw1
        have hb5 := hb
        go_wp2_with fail
        go_roundw
        all_goals first | exact ⟨k + 1, q + m, by omega, rfl, by go_num, by omega, by omega, He, hb5⟩ | exact ⟨⟨k + 1, q + m, by omega, rfl, by go_num, by omega, by omega, He, hb5⟩, by simp [intOf]; omega⟩ | (simp [intOf]; omega)
      · have hkn : k = n3 := by omega
        subst hkn
        have EE : Hid (metF x = (q, 0)) := by rw [Hid, EF.out, he.out, List.take_of_length_le (by rw [L3.out]; exact Nat.le_refl _)]
        clear hw1 he EF
        go_wp2_with fail
        go_ret2
        rw [EE.out]
        exact ⟨rfl, bw⟩
  · have EF : Hid (metF x = (0, 1)) := by rw [Hid, metF, if_neg hv]
    have hv2 : validX x = false := by simpa using hv
    rw [hv2] at hc
    clear hw3 hv k0 k1 k2 hv2
    go_enter Try.func25, Try.ntmps25
    go_wp2_with fail
    rw [← HW.out]
    refine hc.mono ?_
    rintro r w1 ⟨rfl, b1⟩
    go_wp2_with fail
    go_ret2
    rw [EF.out]
    exact ⟨rfl, b0.trans (b1.mono b0.size)⟩
set_option maxHeartbeats 4000000 in
set_option maxRecDepth 100000 in
theorem implOneWays_any (s : SV) (x : Sch) (w : World) (B : Nat) (hB : B ≤ w.heap.size) (hn : s.n1 ≤ 2000000 ∧ s.n2 ≤ 2000000 ∧ s.n3 ≤ 2000000) (hx : SlX w B s x) (hz : Hid (BigX x)) :
    Calls Try.prog 26 #[s.v] w (IPost w (oneF x)) := by
  obtain ⟨A1, n1, c1, A2, n2, c2, A3, n3, c3⟩ := s
  simp only [SV.v] at hn ⊢
  obtain ⟨W0, hW0⟩ : ∃ W0, W0 = w.alloc (.cells #[.slice A1 n1 c1, .slice A2 n2 c2, .slice A3 n3 c3] 29) := ⟨_, rfl⟩
  have b0 : Below w.heap.size w W0 := by rw [hW0]; exact (Below.refl _ _).alloc (Nat.le_refl _) _
  have k0 : W0.cell? ⟨w.heap.size, 0, none⟩ = some (.slice A1 n1 c1) := by rw [hW0]; go_simp
  have k1 : W0.cell? ⟨w.heap.size, 1, none⟩ = some (.slice A2 n2 c2) := by rw [hW0]; go_simp
  have k2 : W0.cell? ⟨w.heap.size, 2, none⟩ = some (.slice A3 n3 c3) := by rw [hW0]; go_simp
  have hx0 := hx.below (b0.mono hB)
  have hc := implValid_any ⟨A1, n1, c1, A2, n2, c2, A3, n3, c3⟩ x W0 B (Nat.le_trans hB b0.size) hn hx0 hz
  simp only [SV.v] at hc
  have hw3 := hx0.wy
  simp only at hw3
  have L3 := hid hw3.len
  obtain ⟨hn1, hn2, hn3⟩ := hn
  have HW := hid hW0
  clear hW0 hx hx0 hz
  by_cases hv : validX x = true
  · have EF : Hid (oneF x = (idxF (oneP x) x.wy n3, 0)) := by rw [Hid, oneF, if_pos hv, L3.out]
    have Hv := hid hv
    have h60 : n3 ≤ 60 := by have := validX_wyl Hv.out; have := L3.out; omega
    rw [hv] at hc
    clear hv
    go_enter Try.func26, Try.ntmps26
    go_wp2_with fail
    rw [← HW.out]
    refine hc.mono ?_
    rintro r w1 ⟨rfl, b1⟩
    clear hc
    have z1 := b1.size
    have z0 := b0.size
    have lb := World.block_lt_of_cell? _ _ k2
    simp only at lb
    replace k2 := below_cell k2 b1
    have hw1 := hw3.below (b1.mono (Nat.le_trans hB b0.size))
    have b2 := b0.trans (b1.mono b0.size)
    have lb1 : w.heap.size < w1.heap.size := by omega
    clear hw3 k0 k1 b0 b1
    have o0 := World.ownsRow_lit (base := w1.heap.size) (e := 2) (size := 1) w1 #[] 0 (Nat.le_refl _) (by simp [maxLen]) (by simp)
    obtain ⟨i0, hi, hz0, hz1, hz2⟩ := info_parts int_info
    go_wp2_with fail
    go_loopw [4, 5, 6, 14] (fun o _ _ i wl => ∃ (k L : Nat) (Ao : Option Addr) (co : Nat), k ≤ n3 ∧ L ≤ k ∧ o = .slice Ao L co ∧ i = .int .i64 k ∧ Hid (wl.ownsRow w1.heap.size 2 1 (.slice Ao L co) L ((idxF (oneP x) x.wy k).flatMap encI)) ∧ Below w1.heap.size w1 wl) (fun _ _ _ i _ => n3 - (intOf i).toNat)
    case atStart => exact ⟨0, 0, _, _, Nat.zero_le _, Nat.zero_le _, rfl, rfl, o0, (Below.refl _ _).alloc (Nat.le_refl _) _⟩
    case round =>
      obtain ⟨k, L, Ao, co, hk, hL, rfl, rfl, ho, hb⟩ := hrel
      clear o0
      have kk := below_cell k2 hb
      have zb := hb.size
      have bw := b2.trans (hb.mono (by omega))
      by_cases hlt : k < n3
      · obtain ⟨f, t, m, b, off, Hy, rfl, hbb, l0, l1, l2⟩ := (hw1.below (hb.mono (by omega))).atWay hlt
        have hi0 : (0 : Int) ≤ (k : Int) := by omega
        have hi1 : (k : Int) < (n3 : Int) := by omega
        have lbr : b < wr.heap.size := by omega
        have lgr : w.heap.size < wr.heap.size := by omega
        have ho5 := ho.out
        have hlo := hid ho5.lt
        have hp : oneP x ⟨f, t, m⟩ = !hasW x.wy t f := rfl
        obtain ⟨W5, hW5⟩ : ∃ W5, W5 = wr.alloc (.cells #[.string f, .string t, .int .i64 m] 54) := ⟨_, rfl⟩
        have b5 : Below wr.heap.size wr W5 := by rw [hW5]; exact (Below.refl _ _).alloc (Nat.le_refl _) _
        have hh := hasWay_any w.heap.size _ n3 c3 x.wy t f W5 _ (by have := b5.size; omega) (by omega) ((hw1.below (hb.mono (by omega))).below (b5.mono (by omega))) (below_cell kk b5)
        have HW5 := hid hW5
        have z5 := b5.size
        have hb5 := hb.trans (b5.mono hb.size)
        clear hW5
        cases hq : hasW x.wy t f with
        | false =>
          have HY := hid (idxF_yes (p := oneP x) Hy.out (by rw [hp, hq]; rfl))
          rw [hq] at hh
          clear hq hp hw1 ho
          go_wp2_with fail
          rw [← HW5.out]
          refine hh.mono ?_
          rintro r w6 ⟨rfl, b6⟩
          have hb6 := hb5.trans (b6.mono hb5.size)
          have z6 := b6.size
          have ho6 := own_below ho5 ((b5.trans (b6.mono b5.size)))
          go_wp2_with (at_builtin; refine wpList_append_lies _ rfl _ _ 43 rfl w1.heap.size 2 i0 (.int .i64 0) 1 8 Try.underlying43 hi hz0 hz1 hz2 rfl (by omega) (.slice Ao L co) L ((idxF (oneP x) x.wy k).flatMap encI) rfl (ho6.alloc _) ⟨w6.heap.size, 0, none⟩ 1 1 [.int .i64 (k : Int)] rfl rfl (World.news_of_block (cs := #[.int .i64 (k : Int)]) (t := 2) (fr := (0, 0)) (heap_alloc_new _ _)) (by simp [Value.oneCell']) (by omega) (by simp only [maxLen]; omega) (by omega) (by simp; omega) (w6.heap.size + 1) (by simp) ?_; intro gg cap w3 ho3 hg3 hat3 hlt3)
          rw [snocIx, ← HY.out] at ho3
          have hb3 : Below w1.heap.size w1 w3 := (hb6.alloc hb6.size _).grown hg3 (by simp; omega) (fun q hq => (hlo.out q hq).1)
          go_roundw
          all_goals first | exact ⟨k + 1, L + 1, _, _, by omega, by omega, rfl, by go_num, ho3, hb3⟩ | exact ⟨⟨k + 1, L + 1, _, _, by omega, by omega, rfl, by go_num, ho3, hb3⟩, by simp [intOf]; omega⟩ | (simp [intOf]; omega)
        | true =>
          have HY := hid (idxF_no (p := oneP x) Hy.out (by rw [hp, hq]; rfl))
          rw [hq] at hh
          clear hq hp hw1 ho
          go_wp2_with fail
          rw [← HW5.out]
          refine hh.mono ?_
          rintro r w6 ⟨rfl, b6⟩
          have hb6 := hb5.trans (b6.mono hb5.size)
          have z6 := b6.size
          have ho6 := own_below ho5 ((b5.trans (b6.mono b5.size)))
          go_wp2_with fail
          rw [← HY.out] at ho6
          go_roundw
          all_goals first | exact ⟨k + 1, L, _, _, by omega, by omega, rfl, by go_num, ho6, hb6⟩ | exact ⟨⟨k + 1, L, _, _, by omega, by omega, rfl, by go_num, ho6, hb6⟩, by simp [intOf]; omega⟩ | (simp [intOf]; omega)
      · have hkn : k = n3 := by omega
        subst hkn
        have ho5 := hid (ho.out.mono (show w.heap.size ≤ w1.heap.size by omega))
        clear hw1 ho
        go_wp2_with fail
        go_ret2
        rw [EF.out]
        exact ⟨_, _, _, rfl, ho5.out, bw⟩
  · have EF : Hid (oneF x = ([], 1)) := by rw [Hid, oneF, if_neg hv]
    have hv2 : validX x = false := by simpa using hv
    rw [hv2] at hc
    clear hw3 hv k0 k1 k2 hv2
    go_enter Try.func26, Try.ntmps26
    go_wp2_with fail
    rw [← HW.out]
    refine hc.mono ?_
    rintro r w1 ⟨rfl, b1⟩
    go_wp2_with fail
    go_ret2
    exact IPost.bad EF.out (b0.trans (b1.mono b0.size))
set_option maxHeartbeats 4000000 in
set_option maxRecDepth 100000 in
theorem specOneWays_any (s : SV) (x : Sch) (w : World) (B : Nat) (hB : B ≤ w.heap.size) (hn : s.n1 ≤ 2000000 ∧ s.n2 ≤ 2000000 ∧ s.n3 ≤ 2000000) (hx : SlX w B s x) (hz : Hid (BigX x)) :
    Calls Try.prog 27 #[s.v] w (IPost w (oneF x)) := by
  obtain ⟨A1, n1, c1, A2, n2, c2, A3, n3, c3⟩ := s
  simp only [SV.v] at hn ⊢
  obtain ⟨W0, hW0⟩ : ∃ W0, W0 = w.alloc (.cells #[.slice A1 n1 c1, .slice A2 n2 c2, .slice A3 n3 c3] 29) := ⟨_, rfl⟩
  have b0 : Below w.heap.size w W0 := by rw [hW0]; exact (Below.refl _ _).alloc (Nat.le_refl _) _
  have k0 : W0.cell? ⟨w.heap.size, 0, none⟩ = some (.slice A1 n1 c1) := by rw [hW0]; go_simp
  have k1 : W0.cell? ⟨w.heap.size, 1, none⟩ = some (.slice A2 n2 c2) := by rw [hW0]; go_simp
  have k2 : W0.cell? ⟨w.heap.size, 2, none⟩ = some (.slice A3 n3 c3) := by rw [hW0]; go_simp
  have hx0 := hx.below (b0.mono hB)
  have hc := l21Ok_any w.heap.size ⟨A1, n1, c1, A2, n2, c2, A3, n3, c3⟩ x W0 B (Nat.le_trans hB b0.size) hn hx0 hz k0 k1 k2
  have hw3 := hx0.wy
  simp only at hw3
  have L3 := hid hw3.len
  obtain ⟨hn1, hn2, hn3⟩ := hn
  have HW := hid hW0
  clear hW0 hx hx0 hz
  by_cases hv : validX x = true
  · have EF : Hid (oneF x = (idxF (oneP x) x.wy n3, 0)) := by rw [Hid, oneF, if_pos hv, L3.out]
    have Hv := hid hv
    have h60 : n3 ≤ 60 := by have := validX_wyl Hv.out; have := L3.out; omega
    rw [hv] at hc
    clear hv
    go_enter Try.func27, Try.ntmps27
    go_wp2_with fail
    rw [← HW.out]
    refine hc.mono ?_
    rintro r w1 ⟨rfl, b1⟩
    clear hc
    have z1 := b1.size
    have z0 := b0.size
    have lb := World.block_lt_of_cell? _ _ k2
    simp only at lb
    replace k2 := below_cell k2 b1
    have hw1 := hw3.below (b1.mono (Nat.le_trans hB b0.size))
    have b2 := b0.trans (b1.mono b0.size)
    have lb1 : w.heap.size < w1.heap.size := by omega
    clear hw3 k0 k1 b0 b1
    have o0 := World.ownsRow_lit (base := w1.heap.size) (e := 2) (size := 1) w1 #[] 0 (Nat.le_refl _) (by simp [maxLen]) (by simp)
    obtain ⟨i0, hi, hz0, hz1, hz2⟩ := info_parts int_info
    go_wp2_with fail
    go_loopw [4, 5] (fun o i wl => ∃ (k L : Nat) (Ao : Option Addr) (co : Nat), k ≤ n3 ∧ L ≤ k ∧ o = .slice Ao L co ∧ i = .int .i64 k ∧ Hid (wl.ownsRow w1.heap.size 2 1 (.slice Ao L co) L ((idxF (oneP x) x.wy k).flatMap encI)) ∧ Below w1.heap.size w1 wl) (fun _ i _ => n3 - (intOf i).toNat)
    case atStart => exact ⟨0, 0, _, _, Nat.zero_le _, Nat.zero_le _, rfl, rfl, o0, (Below.refl _ _).alloc (Nat.le_refl _) _⟩
    case round =>
      obtain ⟨k, L, Ao, co, hk, hL, rfl, rfl, ho, hb⟩ := hrel
      clear o0
      have kk := below_cell k2 hb
      have zb := hb.size
      have bw := b2.trans (hb.mono (by omega))
      by_cases hlt : k < n3
      · obtain ⟨f, t, m, b, off, Hy, rfl, hbb, l0, l1, l2⟩ := (hw1.below (hb.mono (by omega))).atWay hlt
        have hi0 : (0 : Int) ≤ (k : Int) := by omega
        have hi1 : (k : Int) < (n3 : Int) := by omega
        have lbr : b < wr.heap.size := by omega
        have lgr : w.heap.size < wr.heap.size := by omega
        have ho5 := ho.out
        have hlo := hid ho5.lt
        have hp : oneP x ⟨f, t, m⟩ = !hasW x.wy t f := rfl
        have hh := fun A W hW hk => l21Way_any w.heap.size A n3 c3 x.wy t f W B (by omega) hW hk
        have hww := hw1.below (hb.mono (by omega))
        have e5 : hasW x.wy t f = decide (0 ≤ findFrom (wayIs t f) 0 x.wy) := (findFrom_any _ _ _).symm
        have HE5 := hid e5
        clear e5
        generalize findFrom (wayIs t f) 0 x.wy = v5 at hh HE5
        cases hq : hasW x.wy t f with
        | false =>
          have HY := hid (idxF_yes (p := oneP x) Hy.out (by rw [hp, hq]; rfl))
          have hv5 : v5 < 0 := by have := HE5.out; rw [hq] at this; have := of_decide_eq_false this.symm; omega
          clear hq hp ho
          go_wp2_with fail
          go_quiet ((go_at_call 65; exact Calls.quiet_of_same (hh _ _ hww kk)))
          have b6 := below_drewN (Below.refl wr.heap.size wr) nq
          have hb6 := hb.trans (b6.mono hb.size)
          have z6 := b6.size
          have ho6 := own_below ho5 b6
          generalize wr.drewN nq = w6 at *
          go_wp2_with (at_builtin; refine wpList_append_lies _ rfl _ _ 43 rfl w1.heap.size 2 i0 (.int .i64 0) 1 8 Try.underlying43 hi hz0 hz1 hz2 rfl (by omega) (.slice Ao L co) L ((idxF (oneP x) x.wy k).flatMap encI) rfl (ho6.alloc _) ⟨w6.heap.size, 0, none⟩ 1 1 [.int .i64 (k : Int)] rfl rfl (World.news_of_block (cs := #[.int .i64 (k : Int)]) (t := 2) (fr := (0, 0)) (heap_alloc_new _ _)) (by simp [Value.oneCell']) (by omega) (by simp only [maxLen]; omega) (by omega) (by simp; omega) (w6.heap.size + 1) (by simp) ?_; intro gg cap w3 ho3 hg3 hat3 hlt3)
          rw [snocIx, ← HY.out] at ho3
          have hb3 : Below w1.heap.size w1 w3 := (hb6.alloc hb6.size _).grown hg3 (by simp; omega) (fun q hq => (hlo.out q hq).1)
          go_roundw
          all_goals first | exact ⟨k + 1, L + 1, _, _, by omega, by omega, rfl, by go_num, ho3, hb3⟩ | exact ⟨⟨k + 1, L + 1, _, _, by omega, by omega, rfl, by go_num, ho3, hb3⟩, by simp [intOf]; omega⟩ | (simp [intOf]; omega)
        | true =>
          have HY := hid (idxF_no (p := oneP x) Hy.out (by rw [hp, hq]; rfl))
          have hv5 : ¬ v5 < 0 := by have := HE5.out; rw [hq] at this; have := of_decide_eq_true this.symm; omega
          clear hq hp ho
          go_wp2_with fail
          go_quiet ((go_at_call 65; exact Calls.quiet_of_same (hh _ _ hww kk)))
          have b6 := below_drewN (Below.refl wr.heap.size wr) nq
          have hb6 := hb.trans (b6.mono hb.size)
          have z6 := b6.size
          have ho6 := own_below ho5 b6
          generalize wr.drewN nq = w6 at *
          go_wp2_with fail
          rw [← HY.out] at ho6
          go_roundw
          all_goals first | exact ⟨k + 1, L, _, _, by omega, by omega, rfl, by go_num, ho6, hb6⟩ | exact ⟨⟨k + 1, L, _, _, by omega, by omega, rfl, by go_num, ho6, hb6⟩, by simp [intOf]; omega⟩ | (simp [intOf]; omega)
      · have hkn : k = n3 := by omega
        subst hkn
        have ho5 := hid (ho.out.mono (show w.heap.size ≤ w1.heap.size by omega))
        clear hw1 ho
        go_wp2_with fail
        go_ret2
        rw [EF.out]
        exact ⟨_, _, _, rfl, ho5.out, bw⟩
  · have EF : Hid (oneF x = ([], 1)) := by rw [Hid, oneF, if_neg hv]
    have hv2 : validX x = false := by simpa using hv
    rw [hv2] at hc
    clear hw3 hv k0 k1 k2 hv2
    go_enter Try.func27, Try.ntmps27
    go_wp2_with fail
    rw [← HW.out]
    refine hc.mono ?_
    rintro r w1 ⟨rfl, b1⟩
    go_wp2_with fail
    go_ret2
    exact IPost.bad EF.out (b0.trans (b1.mono b0.size))
set_option maxHeartbeats 4000000 in
set_option maxRecDepth 100000 in
theorem implWaysFromName_any (s : SV) (x : Sch) (z : ByteArray) (w : World) (B : Nat) (hB : B ≤ w.heap.size) (hn : s.n1 ≤ 2000000 ∧ s.n2 ≤ 2000000 ∧ s.n3 ≤ 2000000) (hx : SlX w B s x) (hz : Hid (BigX x)) (_hz : z.size ≤ 9223372036854775807) :
    Calls Try.prog 18 #[s.v, .string z] w (IPost w (fromF x z)) := by
  obtain ⟨A1, n1, c1, A2, n2, c2, A3, n3, c3⟩ := s
  simp only [SV.v] at hn ⊢
  obtain ⟨W0, hW0⟩ : ∃ W0, W0 = w.alloc (.cells #[.slice A1 n1 c1, .slice A2 n2 c2, .slice A3 n3 c3] 29) := ⟨_, rfl⟩
  have b0 : Below w.heap.size w W0 := by rw [hW0]; exact (Below.refl _ _).alloc (Nat.le_refl _) _
  have k0 : W0.cell? ⟨w.heap.size, 0, none⟩ = some (.slice A1 n1 c1) := by rw [hW0]; go_simp
  have k1 : W0.cell? ⟨w.heap.size, 1, none⟩ = some (.slice A2 n2 c2) := by rw [hW0]; go_simp
  have k2 : W0.cell? ⟨w.heap.size, 2, none⟩ = some (.slice A3 n3 c3) := by rw [hW0]; go_simp
  have hx0 := hx.below (b0.mono hB)
  have hc := schemeCode_any ⟨A1, n1, c1, A2, n2, c2, A3, n3, c3⟩ x z W0 B (Nat.le_trans hB b0.size) hn hx0 hz
  simp only [SV.v] at hc
  have hw3 := hx0.wy
  simp only at hw3
  have L3 := hid hw3.len
  obtain ⟨hn1, hn2, hn3⟩ := hn
  have HW := hid hW0
  clear hW0 hx hx0 hz
  by_cases hv : codeX x z = 0
  · have EF : Hid (fromF x z = (idxF (fromP z) x.wy n3, 0)) := by rw [Hid, fromF, if_pos hv, L3.out]
    have Hv := hid (codeX_zero hv).1
    have h60 : n3 ≤ 60 := by have := validX_wyl Hv.out; have := L3.out; omega
    rw [hv] at hc
    clear hv
    go_enter Try.func18, Try.ntmps18
    go_wp2_with fail
    rw [← HW.out]
    refine hc.mono ?_
    rintro r w1 ⟨rfl, b1⟩
    clear hc
    have z1 := b1.size
    have z0 := b0.size
    have lb := World.block_lt_of_cell? _ _ k2
    simp only at lb
    replace k2 := below_cell k2 b1
    have hw1 := hw3.below (b1.mono (Nat.le_trans hB b0.size))
    have b2 := b0.trans (b1.mono b0.size)
    have lb1 : w.heap.size < w1.heap.size := by omega
    clear hw3 k0 k1 b0 b1
    have o0 := World.ownsRow_lit (base := w1.heap.size) (e := 2) (size := 1) w1 #[] 0 (Nat.le_refl _) (by simp [maxLen]) (by simp)
    obtain ⟨i0, hi, hz0, hz1, hz2⟩ := info_parts int_info
    go_wp2_with fail
    go_loopw [7, 8, 9, 20] (fun o _ _ i wl => ∃ (k L : Nat) (Ao : Option Addr) (co : Nat), k ≤ n3 ∧ L ≤ k ∧ o = .slice Ao L co ∧ i = .int .i64 k ∧ Hid (wl.ownsRow w1.heap.size 2 1 (.slice Ao L co) L ((idxF (fromP z) x.wy k).flatMap encI)) ∧ Below w1.heap.size w1 wl) (fun _ _ _ i _ => n3 - (intOf i).toNat)
    case atStart => exact ⟨0, 0, _, _, Nat.zero_le _, Nat.zero_le _, rfl, rfl, o0, (Below.refl _ _).alloc (Nat.le_refl _) _⟩
    case round =>
      obtain ⟨k, L, Ao, co, hk, hL, rfl, rfl, ho, hb⟩ := hrel
      clear o0
      have kk := below_cell k2 hb
      have zb := hb.size
      have bw := b2.trans (hb.mono (by omega))
      by_cases hlt : k < n3
      · obtain ⟨f, t, m, b, off, Hy, rfl, hbb, l0, l1, l2⟩ := (hw1.below (hb.mono (by omega))).atWay hlt
        have hi0 : (0 : Int) ≤ (k : Int) := by omega
        have hi1 : (k : Int) < (n3 : Int) := by omega
        have lbr : b < wr.heap.size := by omega
        have lgr : w.heap.size < wr.heap.size := by omega
        have ho5 := ho.out
        have hlo := hid ho5.lt
        have hp : fromP z ⟨f, t, m⟩ = decide (f = z) := rfl
        have q1 := bs_eq (x := f) (y := z)
        have hb5 : Below w1.heap.size w1 (wr.alloc (.cells #[.string f, .string t, .int .i64 m] 54)) := hb.alloc hb.size _
        have ho6 := ho5.alloc (.cells #[.string f, .string t, .int .i64 m] 54)
        have zq : (wr.alloc (.cells #[.string f, .string t, .int .i64 m] 54)).heap.size = wr.heap.size + 1 := by simp
        obtain ⟨W5, hW5⟩ : ∃ W5, W5 = wr.alloc (.cells #[.string f, .string t, .int .i64 m] 54) := ⟨_, rfl⟩
        cases hq : decide (f = z) with
        | true =>
          have HY := hid (idxF_yes (p := fromP z) Hy.out (by rw [hp, hq]))
          rw [hq] at q1
          clear hq hp hw1 ho ho5
          have HNW : Hid (∀ (j : Nat) (u : Value), (#[.int .i64 (k : Int)] : Array Value).toList[j]? = some u → ((wr.alloc (.cells #[.string f, .string t, .int .i64 m] 54)).alloc (.cells #[.int .i64 (k : Int)] 2)).cell? ((⟨wr.heap.size + 1, 0, none⟩ : Addr).add j) = some u) := by
            have h := World.news_of_block (cs := #[.int .i64 (k : Int)]) (t := 2) (fr := (0, 0)) (heap_alloc_new (wr.alloc (.cells #[.string f, .string t, .int .i64 m] 54)) (.cells #[.int .i64 (k : Int)] 2))
            rw [World.size_alloc] at h
            exact h
          go_wp2_with (at_builtin; refine wpList_append_lies _ rfl _ _ 43 rfl w1.heap.size 2 i0 (.int .i64 0) 1 8 Try.underlying43 hi hz0 hz1 hz2 rfl (by omega) (.slice Ao L co) L ((idxF (fromP z) x.wy k).flatMap encI) rfl (ho6.alloc _) ⟨wr.heap.size + 1, 0, none⟩ 1 1 [.int .i64 (k : Int)] rfl rfl HNW.out (by simp [Value.oneCell']) (by omega) (by simp only [maxLen]; omega) (by omega) (by simp; omega) (wr.heap.size + 1 + 1) (by simp) ?_; intro gg cap w3 ho3 hg3 hat3 hlt3)
          rw [snocIx, ← HY.out] at ho3
          have hb3 : Below w1.heap.size w1 w3 := (hb5.alloc hb5.size _).grown hg3 (by simp; omega) (fun q hq => (hlo.out q hq).1)
          go_roundw
          all_goals first | exact ⟨k + 1, L + 1, _, _, by omega, by omega, rfl, by go_num, ho3, hb3⟩ | exact ⟨⟨k + 1, L + 1, _, _, by omega, by omega, rfl, by go_num, ho3, hb3⟩, by simp [intOf]; omega⟩ | (simp [intOf]; omega)
        | false =>
          have HY := hid (idxF_no (p := fromP z) Hy.out (by rw [hp, hq]))
          rw [hq] at q1
          clear hq hp hw1 ho ho5
          go_wp2_with fail
          rw [← HY.out] at ho6
          go_roundw
          all_goals first | exact ⟨k + 1, L, _, _, by omega, by omega, rfl, by go_num, ho6, hb5⟩ | exact ⟨⟨k + 1, L, _, _, by omega, by omega, rfl, by go_num, ho6, hb5⟩, by simp [intOf]; omega⟩ | (simp [intOf]; omega)
      · have hkn : k = n3 := by omega
        subst hkn
        have ho5 := hid (ho.out.mono (show w.heap.size ≤ w1.heap.size by omega))
        clear hw1 ho
        go_wp2_with fail
        go_ret2
        rw [EF.out]
        exact ⟨_, _, _, rfl, ho5.out, bw⟩
  · have EF : Hid (fromF x z = ([], codeX x z)) := by rw [Hid, fromF, if_neg hv]
    generalize codeX x z = q at hc hv EF
    have q1 : (q == 0) = false := by simpa using hv
    have q2 : (q != 0) = true := by simpa using hv
    clear hw3 hv k0 k1 k2
    go_enter Try.func18, Try.ntmps18
    go_wp2_with fail
    rw [← HW.out]
    refine hc.mono ?_
    rintro r w1 ⟨rfl, b1⟩
    go_wp2_with fail
    go_ret2
    exact IPost.bad EF.out (b0.trans (b1.mono b0.size))
set_option maxHeartbeats 4000000 in
set_option maxRecDepth 100000 in
theorem specWaysFromName_any (s : SV) (x : Sch) (z : ByteArray) (w : World) (B : Nat) (hB : B ≤ w.heap.size) (hn : s.n1 ≤ 2000000 ∧ s.n2 ≤ 2000000 ∧ s.n3 ≤ 2000000) (hx : SlX w B s x) (hz : Hid (BigX x)) (_hz : z.size ≤ 9223372036854775807) :
    Calls Try.prog 19 #[s.v, .string z] w (IPost w (fromF x z)) := by
  obtain ⟨A1, n1, c1, A2, n2, c2, A3, n3, c3⟩ := s
  simp only [SV.v] at hn ⊢
  obtain ⟨W0, hW0⟩ : ∃ W0, W0 = w.alloc (.cells #[.slice A1 n1 c1, .slice A2 n2 c2, .slice A3 n3 c3] 29) := ⟨_, rfl⟩
  have b0 : Below w.heap.size w W0 := by rw [hW0]; exact (Below.refl _ _).alloc (Nat.le_refl _) _
  have k0 : W0.cell? ⟨w.heap.size, 0, none⟩ = some (.slice A1 n1 c1) := by rw [hW0]; go_simp
  have k1 : W0.cell? ⟨w.heap.size, 1, none⟩ = some (.slice A2 n2 c2) := by rw [hW0]; go_simp
  have k2 : W0.cell? ⟨w.heap.size, 2, none⟩ = some (.slice A3 n3 c3) := by rw [hW0]; go_simp
  have hx0 := hx.below (b0.mono hB)
  have hc := l21Code_any w.heap.size ⟨A1, n1, c1, A2, n2, c2, A3, n3, c3⟩ x z W0 B (Nat.le_trans hB b0.size) hn hx0 hz k0 k1 k2
  have hw3 := hx0.wy
  simp only at hw3
  have L3 := hid hw3.len
  obtain ⟨hn1, hn2, hn3⟩ := hn
  have HW := hid hW0
  clear hW0 hx hx0 hz
  by_cases hv : codeX x z = 0
  · have EF : Hid (fromF x z = (idxF (fromP z) x.wy n3, 0)) := by rw [Hid, fromF, if_pos hv, L3.out]
    have Hv := hid (codeX_zero hv).1
    have h60 : n3 ≤ 60 := by have := validX_wyl Hv.out; have := L3.out; omega
    rw [hv] at hc
    clear hv
    go_enter Try.func19, Try.ntmps19
    go_wp2_with fail
    rw [← HW.out]
    refine hc.mono ?_
    rintro r w1 ⟨rfl, b1⟩
    clear hc
    have z1 := b1.size
    have z0 := b0.size
    have lb := World.block_lt_of_cell? _ _ k2
    simp only at lb
    replace k2 := below_cell k2 b1
    have hw1 := hw3.below (b1.mono (Nat.le_trans hB b0.size))
    have b2 := b0.trans (b1.mono b0.size)
    have lb1 : w.heap.size < w1.heap.size := by omega
    clear hw3 k0 k1 b0 b1
    have o0 := World.ownsRow_lit (base := w1.heap.size) (e := 2) (size := 1) w1 #[] 0 (Nat.le_refl _) (by simp [maxLen]) (by simp)
    obtain ⟨i0, hi, hz0, hz1, hz2⟩ := info_parts int_info
    go_wp2_with fail
    go_loopw [7, 8] (fun o i wl => ∃ (k L : Nat) (Ao : Option Addr) (co : Nat), k ≤ n3 ∧ L ≤ k ∧ o = .slice Ao L co ∧ i = .int .i64 k ∧ Hid (wl.ownsRow w1.heap.size 2 1 (.slice Ao L co) L ((idxF (fromP z) x.wy k).flatMap encI)) ∧ Below w1.heap.size w1 wl) (fun _ i _ => n3 - (intOf i).toNat)
    case atStart => exact ⟨0, 0, _, _, Nat.zero_le _, Nat.zero_le _, rfl, rfl, o0, (Below.refl _ _).alloc (Nat.le_refl _) _⟩
    case round =>
      obtain ⟨k, L, Ao, co, hk, hL, rfl, rfl, ho, hb⟩ := hrel
      clear o0
      have kk := below_cell k2 hb
      have zb := hb.size
      have bw := b2.trans (hb.mono (by omega))
      by_cases hlt : k < n3
      · obtain ⟨f, t, m, b, off, Hy, rfl, hbb, l0, l1, l2⟩ := (hw1.below (hb.mono (by omega))).atWay hlt
        have hi0 : (0 : Int) ≤ (k : Int) := by omega
        have hi1 : (k : Int) < (n3 : Int) := by omega
        have lbr : b < wr.heap.size := by omega
        have lgr : w.heap.size < wr.heap.size := by omega
        have ho5 := ho.out
        have hlo := hid ho5.lt
        have hp : fromP z ⟨f, t, m⟩ = decide (f = z) := rfl
        have q1 := bs_eq (x := f) (y := z)
        have hb5 := hb
        have ho6 := ho5
        cases hq : decide (f = z) with
        | true =>
          have HY := hid (idxF_yes (p := fromP z) Hy.out (by rw [hp, hq]))
          rw [hq] at q1
          clear hq hp hw1 ho ho5
          go_wp2_with (at_builtin; refine wpList_append_lies _ rfl _ _ 43 rfl w1.heap.size 2 i0 (.int .i64 0) 1 8 Try.underlying43 hi hz0 hz1 hz2 rfl (by omega) (.slice Ao L co) L ((idxF (fromP z) x.wy k).flatMap encI) rfl (ho6.alloc _) ⟨wr.heap.size, 0, none⟩ 1 1 [.int .i64 (k : Int)] rfl rfl (World.news_of_block (cs := #[.int .i64 (k : Int)]) (t := 2) (fr := (0, 0)) (heap_alloc_new _ _)) (by simp [Value.oneCell']) (by omega) (by simp only [maxLen]; omega) (by omega) (by simp; omega) (wr.heap.size + 1) (by simp) ?_; intro gg cap w3 ho3 hg3 hat3 hlt3)
          rw [snocIx, ← HY.out] at ho3
          have hb3 : Below w1.heap.size w1 w3 := (hb5.alloc hb5.size _).grown hg3 (by simp; omega) (fun q hq => (hlo.out q hq).1)
          go_roundw
          all_goals first | exact ⟨k + 1, L + 1, _, _, by omega, by omega, rfl, by go_num, ho3, hb3⟩ | exact ⟨⟨k + 1, L + 1, _, _, by omega, by omega, rfl, by go_num, ho3, hb3⟩, by simp [intOf]; omega⟩ | (simp [intOf]; omega)
        | false =>
          have HY := hid (idxF_no (p := fromP z) Hy.out (by rw [hp, hq]))
          rw [hq] at q1
          clear hq hp hw1 ho ho5
          go_wp2_with fail
          rw [← HY.out] at ho6
          go_roundw
          all_goals first | exact ⟨k + 1, L, _, _, by omega, by omega, rfl, by go_num, ho6, hb5⟩ | exact ⟨⟨k + 1, L, _, _, by omega, by omega, rfl, by go_num, ho6, hb5⟩, by simp [intOf]; omega⟩ | (simp [intOf]; omega)
      · have hkn : k = n3 := by omega
        subst hkn
        have ho5 := hid (ho.out.mono (show w.heap.size ≤ w1.heap.size by omega))
        clear hw1 ho
        go_wp2_with fail
        go_ret2
        rw [EF.out]
        exact ⟨_, _, _, rfl, ho5.out, bw⟩
  · have EF : Hid (fromF x z = ([], codeX x z)) := by rw [Hid, fromF, if_neg hv]
    generalize codeX x z = q at hc hv EF
    have q1 : (q == 0) = false := by simpa using hv
    have q2 : (q != 0) = true := by simpa using hv
    clear hw3 hv k0 k1 k2
    go_enter Try.func19, Try.ntmps19
    go_wp2_with fail
    rw [← HW.out]
    refine hc.mono ?_
    rintro r w1 ⟨rfl, b1⟩
    go_wp2_with fail
    go_ret2
    exact IPost.bad EF.out (b0.trans (b1.mono b0.size))
end Go.Proofs.Ytmanbpobdaamfaa
