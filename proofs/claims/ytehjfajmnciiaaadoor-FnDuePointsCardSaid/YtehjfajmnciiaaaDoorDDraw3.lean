/-
  What the statement on due points draws. No condition.
-/
import Derived.Test.YtehjfajmnciiaaaDoorDDraw2
namespace Go.Proofs.YtehjfajmnciiaaaDoor
open Go.RowKit
set_option maxHeartbeats 400000

theorem own_slP {w : World} {lo n c : Nat} {A : Option Addr} {xs : List Point} (h : w.ownsRow lo 42 2 (.slice A n c) n (xs.flatMap encPoint)) : Sl w w.heap.size 2 encPoint A n xs := own_sl encPoint_len (by omega) h
def DrawD (w : World) (r : Ending) (w' : World) : Prop :=
  ∃ (A : Option Addr) (c : Nat) (xs : List Point) (d : Int), r = .returned (.tuple #[.slice A xs.length c, .int .i64 d]) ∧ xs.length ≤ 31 ∧ -9223372036854775808 ≤ d ∧ d ≤ 100001 ∧ Hid (Sl w' w'.heap.size 2 encPoint A xs.length xs) ∧ Below w.heap.size w w'
theorem below_eq {gs : Nat} {w w' : World} (h1 : gs ≤ w.heap.size) (h2 : w.heap.size ≤ gs) (h : Below gs w w') : Below w.heap.size w w' := by
  have e : w.heap.size = gs := by omega
  rw [e]; exact h
theorem l19Dated_any (v : Value) (w : World) (hv : Bytes w w.heap.size 5000 v) : Calls Tryd.prog 31 #[v] w (DrawD w) := by
  have hf := l00From_any v w hv
  obtain ⟨gs, hgs⟩ : ∃ gs, gs = w.heap.size := ⟨_, rfl⟩
  rw [← hgs] at hf
  have hgs1 : gs ≤ w.heap.size := by omega
  have hgs2 : w.heap.size ≤ gs := by omega
  clear hv hgs
  go_enter Tryd.func31, Tryd.ntmps31
  go_wp2_with fail
  refine hf.mono ?_
  rintro r w1 ⟨rfl, hs, hb, hl⟩
  have hd := l19Draw_any gs 0 w1 hs (by omega)
  have hz := hs.lt
  clear hs hf
  go_wp2_with fail
  refine hd.mono ?_
  rintro r w2 ⟨A, c, xs, rfl, hx, hxc, ho, hs2, hg2⟩
  have b2 := below_src hb hg2 (Nat.le_refl _) (by omega)
  have S2 := hid hs2
  have O2 := hid ho
  have z2 := hg2.size
  have l2 := hs2.lt
  clear hd hb hg2 hs2 ho hl
  go_wp2_with fail
  refine (l19DrawDay_any gs _ w2 S2.out (by omega)).mono ?_
  rintro r w3 ⟨d, rfl, d0, d1, hs3, hg3⟩
  have S3 := hid (own_slP (own_src O2.out hg3 hz))
  have b4 := below_eq hgs1 hgs2 (below_src b2 hg3 (Nat.le_refl _) (by omega))
  clear O2 S2 b2 hs3 hg3
  go_wp2_with fail
  go_ret2
  exact ⟨A, c, xs, d, rfl, hx, d0, d1, S3, b4⟩
theorem DrawDueOn_any (v : Value) (w : World) (hv : Bytes w w.heap.size 5000 v) : Calls Tryd.prog 5 #[v] w (DrawD w) := by
  have hd := l19Dated_any v w hv
  clear hv
  go_enter Tryd.func5, Tryd.ntmps5
  go_wp2_with fail
  refine hd.mono ?_
  rintro r w2 ⟨A, c, xs, d, rfl, hx, d0, d1, S3, b4⟩
  clear hd
  go_wp2_with fail
  go_ret2
  exact ⟨A, c, xs, d, rfl, hx, d0, d1, S3, b4⟩
theorem DrawDueDay_any (v : Value) (w : World) (hv : Bytes w w.heap.size 5000 v) : Calls Tryd.prog 18 #[v] w (DrawD w) := by
  have hf := l00From_any v w hv
  obtain ⟨gs, hgs⟩ : ∃ gs, gs = w.heap.size := ⟨_, rfl⟩
  rw [← hgs] at hf
  have hgs1 : gs ≤ w.heap.size := by omega
  have hgs2 : w.heap.size ≤ gs := by omega
  clear hv hgs
  go_enter Tryd.func18, Tryd.ntmps18
  go_wp2_with fail
  refine hf.mono ?_
  rintro r w1 ⟨rfl, hs, hb, hl⟩
  have hd := l19Draw_any gs 0 w1 hs (by omega)
  have hz := hs.lt
  clear hs hf
  go_wp2_with fail
  refine hd.mono ?_
  rintro r w2 ⟨A, c, xs, rfl, hx, hxc, ho, hs2, hg2⟩
  have b2 := below_src hb hg2 (Nat.le_refl _) (by omega)
  have S2 := hid hs2
  have O2 := hid ho
  have z2 := hg2.size
  have l2 := hs2.lt
  clear hd hb hg2 hs2 ho hl
  have hx0 : (0 : Int) ≤ (xs.length : Int) := by omega
  have hx1 : (xs.length : Int) ≤ 31 := by omega
  go_wp2_with fail
  refine (pick_any gs _ ((xs.length : Int) + 1) w2 S2.out (by omega) (by omega)).mono ?_
  rintro r w3 ⟨a, rfl, a0, a1, hs3, hg3⟩
  have a2 : a ≤ 31 := by omega
  have O3 := hid (own_src O2.out hg3 hz)
  have b3 := below_src b2 hg3 (Nat.le_refl _) (by omega)
  have S3 := hid hs3
  have z3 := hg3.size
  clear O2 S2 b2 hs3 hg3 a1
  go_wp2_with fail
  refine (pick_any gs _ 16 w3 S3.out (by omega) (by omega)).mono ?_
  rintro r w4 ⟨q, rfl, q0, q1, hs4, hg4⟩
  have q2 : q ≤ 15 := by omega
  have S4 := hid (own_slP (own_src O3.out hg4 hz))
  have b4 := below_eq hgs1 hgs2 (below_src b3 hg4 (Nat.le_refl _) (by omega))
  have e1 : q.tdiv 15 = q / 15 := Int.tdiv_eq_ediv_of_nonneg q0
  obtain ⟨p, hp⟩ : ∃ p, p = q / 15 := ⟨_, rfl⟩
  have p0 : 0 ≤ p ∧ p ≤ 1 := by omega
  have HP := hid hp.symm
  clear O3 S3 b3 hs4 hg4 q1 e1 hp
  obtain ⟨p0, p1⟩ := p0
  go_wp2_with fail
  rw [HP.out]
  go_ret2
  exact ⟨A, c, xs, _, rfl, hx, by omega, by omega, S4, b4⟩
def DrawV (w : World) (r : Ending) (w' : World) : Prop :=
  ∃ (A : Option Addr) (c : Nat) (xs : List Point) (d t : Int), r = .returned (.tuple #[.slice A xs.length c, .int .i64 d, .int .i64 t]) ∧ xs.length ≤ 31 ∧ -9223372036854775808 ≤ d ∧ d ≤ 100001 ∧ -9223372036854775808 ≤ t ∧ t ≤ 200001 ∧ Hid (Sl w' w'.heap.size 2 encPoint A xs.length xs) ∧ Below w.heap.size w w'
set_option maxHeartbeats 2000000 in
theorem DrawVisitsBetween_any (v : Value) (w : World) (hv : Bytes w w.heap.size 5000 v) : Calls Tryd.prog 15 #[v] w (DrawV w) := by
  have hd := l19Dated_any v w hv
  have HV := hid hv
  clear hv
  go_enter Tryd.func15, Tryd.ntmps15
  go_wp2_with fail
  refine hd.mono ?_
  rintro r w2 ⟨A, c, xs, d, rfl, hx, d0, d1, S2, b2⟩
  have HV2 := hid ((HV.out.below b2).more b2.size)
  clear hd HV
  have hf := l00From_any v w2 HV2.out
  obtain ⟨gs, hgs⟩ : ∃ gs, gs = w2.heap.size := ⟨_, rfl⟩
  rw [← hgs] at hf
  have hgs1 : gs ≤ w2.heap.size := by omega
  have hgs2 : w2.heap.size ≤ gs := by omega
  have hwz := b2.size
  clear hgs HV2
  go_wp2_with fail
  refine hf.mono ?_
  rintro r w3 ⟨rfl, hs3, hb3, hl3⟩
  have X3 := hid ((S2.out.below (below_eq hgs1 hgs2 hb3)).more (show w2.heap.size ≤ gs by omega))
  have b3 := b2.trans (hb3.mono (by omega))
  have S3 := hid hs3
  clear hf S2 b2 hb3 hs3
  go_wp2_with fail
  refine (one_any gs _ 8 w3 S3.out (by omega) (by omega)).mono ?_
  rintro r w4 ⟨b, rfl, hs4, hg4⟩
  have l4 := hs4.lt
  have z4 := hg4.size
  have X4 := hid (X3.out.below (below_src (Below.refl gs w3) hg4 (Nat.le_refl _) (by omega)))
  have b4 := below_src b3 hg4 (by omega) (by omega)
  have S4 := hid hs4
  clear X3 S3 b3 hs4 hg4
  cases b with
  | true =>
    have NN : Hid ((w4.alloc (.cells #[.int .i64 (-1), .int .i64 d, .int .i64 100000, .int .i64 100001] 2)).ownsRow w4.heap.size 2 1 (.slice (some ⟨w4.heap.size, 0, none⟩) 4 4) 4 (([-1, d, 100000, 100001] : List Int).flatMap encI)) := by
      have := World.ownsRow_lit (base := w4.heap.size) (e := 2) (size := 1) w4 #[.int .i64 (-1), .int .i64 d, .int .i64 100000, .int .i64 100001] 4 (Nat.le_refl _) (by simp [maxLen]) (by simp)
      simpa [Hid, encI] using this
    go_wp2_with fail
    refine (among_any gs _ (some ⟨w4.heap.size, 0, none⟩) 4 4 [-1, d, 100000, 100001] _ (S4.out.alloc _) (by omega) (by omega) (by omega) (own_sl encI_len (by omega) NN.out) (fun b off s e => by injection e with e; injection e with e; omega)).mono ?_
    rintro r w5 ⟨z, rfl, hz, hs5, hg5⟩
    have hzz : -9223372036854775808 ≤ z ∧ z ≤ 100001 := by
      simp only [List.mem_cons, List.not_mem_nil, or_false] at hz
      rcases hz with rfl | rfl | rfl | rfl <;> omega
    have ba : Below gs w4 (w4.alloc (.cells #[.int .i64 (-1), .int .i64 d, .int .i64 100000, .int .i64 100001] 2)) := (Below.refl _ _).alloc (by omega) _
    have z5 := hg5.size
    rw [World.size_alloc] at z5
    have bs := below_src ba hg5 (Nat.le_refl _) (by simp; omega)
    have X5 := hid ((X4.out.below bs).more (show gs ≤ w5.heap.size by omega))
    have b5 := b4.trans (bs.mono (by omega))
    clear hz hg5 hs5 NN S4 X4 b4 ba bs
    go_wp2_with fail
    go_ret3
    exact ⟨A, c, xs, d, z, rfl, hx, d0, d1, hzz.1, by omega, X5, b5⟩
  | false =>
    go_wp2_with fail
    refine (l00Min_any d 100000 w4).mono ?_
    rintro r w5 ⟨rfl, e⟩
    replace e := e.symm
    subst e
    obtain ⟨m, hm⟩ : ∃ m, m = min d 100000 := ⟨_, rfl⟩
    rw [← hm]
    have m0 : -9223372036854775808 ≤ m ∧ m ≤ 100000 := by omega
    obtain ⟨m0, m1⟩ := m0
    clear hm
    go_wp2_with fail
    refine (l00Max_any 0 m w4).mono ?_
    rintro r w5 ⟨rfl, e⟩
    replace e := e.symm
    subst e
    obtain ⟨n, hn⟩ : ∃ n, n = max 0 m := ⟨_, rfl⟩
    rw [← hn]
    have n0 : 0 ≤ n ∧ n ≤ 100000 := by omega
    obtain ⟨n0, n1⟩ := n0
    clear hn m0 m1
    go_wp2_with fail
    refine (pick_any gs _ 200 w4 S4.out (by omega) (by omega)).mono ?_
    rintro r w5 ⟨z, rfl, z0, z1, hs5, hg5⟩
    have z199 : z ≤ 199 := by omega
    have z5 := hg5.size
    have X5 := hid ((X4.out.below (below_src (Below.refl gs w4) hg5 (Nat.le_refl _) (by omega))).more (show gs ≤ w5.heap.size by omega))
    have b5 := below_src b4 hg5 (by omega) (by omega)
    clear hg5 hs5 S4 X4 b4 z1
    go_wp2_with fail
    go_ret3
    exact ⟨A, c, xs, d, _, rfl, hx, d0, d1, by omega, by omega, X5, b5⟩
def DrawDn (w : World) (r : Ending) (w' : World) : Prop :=
  ∃ (A : Option Addr) (c : Nat) (xs : List Point) (A1 : Option Addr) (c1 : Nat) (ks : List Int) (d : Int), r = .returned (.tuple #[.slice A xs.length c, .slice A1 ks.length c1, .int .i64 d]) ∧ xs.length ≤ 31 ∧ ks.length ≤ 40 ∧ -9223372036854775808 ≤ d ∧ d ≤ 100001 ∧ Hid (Sl w' w'.heap.size 2 encPoint A xs.length xs) ∧ Hid (Sl w' w'.heap.size 1 encI A1 ks.length ks) ∧ Below w.heap.size w w'
set_option maxHeartbeats 8000000 in
set_option maxRecDepth 100000 in
theorem DrawDonePoints_any (v : Value) (w : World) (hv : Bytes w w.heap.size 5000 v) : Calls Tryd.prog 12 #[v] w (DrawDn w) := by
  obtain ⟨i0, hi, hz0, hz1, hz2⟩ := info_parts int_info
  have hf := l00From_any v w hv
  obtain ⟨gs, hgs⟩ : ∃ gs, gs = w.heap.size := ⟨_, rfl⟩
  rw [← hgs] at hf
  have hgs1 : gs ≤ w.heap.size := by omega
  have hgs2 : w.heap.size ≤ gs := by omega
  clear hv hgs
  go_enter Tryd.func12, Tryd.ntmps12
  go_wp2_with fail
  refine hf.mono ?_
  rintro r w1 ⟨rfl, hs, hb, hl⟩
  have hd := l19Draw_any gs 0 w1 hs (by omega)
  have hz := hs.lt
  clear hs hf
  go_wp2_with fail
  refine hd.mono ?_
  rintro r w2 ⟨A, c, xs, rfl, hx, hxc, ho, hs2, hg2⟩
  have b2 := below_src hb hg2 (Nat.le_refl _) (by omega)
  have S2 := hid hs2
  have O2 := hid ho
  have z2 := hg2.size
  have l2 := hs2.lt
  clear hd hb hg2 hs2 ho hl
  have hx0 : (0 : Int) ≤ (xs.length : Int) := by omega
  have hx1 : (xs.length : Int) ≤ 31 := by omega
  have o3 := World.ownsRow_lit (base := w2.heap.size) (e := 2) (size := 1) w2 #[] 0 (Nat.le_refl _) (by simp [maxLen]) (by simp)
  have O3 : Hid ((w2.alloc (.cells #[] 2)).ownsRow w2.heap.size 2 1 (.slice (some ⟨w2.heap.size, 0, none⟩) ([] : List Int).length 0) ([] : List Int).length (([] : List Int).flatMap encI)) := o3
  have P3 := hid (O2.out.alloc (.cells #[] 2))
  have S3 := hid ((S2.out.alloc (.cells #[] 2)).mono (show _ ≤ 210 by omega))
  have b3 := b2.alloc (by omega) (.cells #[] 2)
  have hlp := hid (fun b hb => (O2.out.lt b hb).2)
  clear o3 O2 S2 b2
  go_wp2_with fail
  go_loopw [7, 8] (fun p q wl => ∃ (g c1 : Nat) (ks : List Int) (j : Nat), j ≤ xs.length ∧ ks.length ≤ j ∧ p = .slice (some ⟨g, 0, none⟩) ks.length c1 ∧ q = .int .i64 (j : Nat) ∧ Hid (wl.ownsRow w2.heap.size 2 1 (.slice (some ⟨g, 0, none⟩) ks.length c1) ks.length (ks.flatMap encI)) ∧ Hid (wl.ownsRow w1.heap.size 42 2 (.slice A xs.length c) xs.length (xs.flatMap encPoint)) ∧ Hid (SrcAt wl gs (210 + 2 * j)) ∧ Below gs w wl ∧ w2.heap.size < wl.heap.size) (fun _ q _ => xs.length - (intOf q).toNat)
  case atStart => exact ⟨_, _, [], 0, by omega, by simp, rfl, rfl, O3, P3, S3, b3, by simp⟩
  case round =>
    clear O3 P3 S3 b3
    obtain ⟨g, c1, ks, j, hj, hkj, rfl, rfl, hO, hP, hS, hb, hw⟩ := hrel
    by_cases hjl : j < xs.length
    · have j0 : (0 : Int) ≤ (j : Int) := by omega
      have j1 : (j : Int) < (xs.length : Int) := by omega
      go_wp2_with fail
      refine (one_any gs _ 2 _ hS.out (by omega) (by omega)).mono ?_
      rintro r w5 ⟨b, rfl, hs5, hg5⟩
      have O5 := hid (own_src hO.out hg5 (by omega))
      have P5 := hid (own_src hP.out hg5 (by omega))
      have S5 := hid (hs5.mono (show _ ≤ 210 + 2 * (j + 1) by omega))
      have b5 := below_src hb hg5 (Nat.le_refl _) (by omega)
      have z5 := hg5.size
      clear hO hP hS hb hs5 hg5
      cases b with
      | false =>
        have hw5 : w2.heap.size < w5.heap.size := by omega
        go_wp2_with fail
        go_roundw
        all_goals first | exact ⟨_, _, ks, j + 1, by omega, by omega, rfl, by go_num, O5, P5, S5, b5, hw5⟩ | exact ⟨⟨_, _, ks, j + 1, by omega, by omega, rfl, by go_num, O5, P5, S5, b5, hw5⟩, by simp [intOf]; omega⟩ | (simp [intOf]; omega)
      | true =>
        have hlo := O5.out.lt
        go_wp2_with (at_builtin; refine wpList_append_lies _ rfl _ _ 27 rfl w2.heap.size 2 i0 (.int .i64 0) 1 8 Tryd.underlying27 hi hz0 hz1 hz2 rfl (by omega) (.slice (some ⟨g, 0, none⟩) ks.length c1) ks.length (ks.flatMap encI) rfl (O5.out.alloc _) ⟨w5.heap.size, 0, none⟩ 1 1 [.int .i64 (j : Int)] rfl rfl (World.news_of_block (cs := #[.int .i64 (j : Int)]) (t := 2) (fr := (0, 0)) (heap_alloc_new _ _)) (by simp [Value.oneCell']) (by omega) (by simp only [maxLen]; omega) (by omega) (by simp; omega) (w5.heap.size + 1) (by simp) ?_; intro gg cap w6 ho6 hg6 hat6 hlt6)
        have hlen : (ks ++ [(j : Int)]).length = ks.length + 1 := by simp
        have O6 : Hid (w6.ownsRow w2.heap.size 2 1 (.slice (some ⟨gg, 0, none⟩) (ks ++ [(j : Int)]).length cap) (ks ++ [(j : Int)]).length ((ks ++ [(j : Int)]).flatMap encI)) := by rw [hlen]; rw [snocI] at ho6; exact hid ho6
        have P6 := hid (own_keep (P5.out.alloc (.cells #[.int .i64 (j : Int)] 2)) (fun b hb e => by have := hlp.out b e; have := (hlo b hb).1; omega) hg6)
        have S6 := hid ((S5.out.alloc (.cells #[.int .i64 (j : Int)] 2)).grown hg6 (fun b hb => by have := (hlo b hb).1; omega))
        have b6 := grown_below (b5.alloc (by omega) (.cells #[.int .i64 (j : Int)] 2)) hg6 (by simp; omega) (fun b hb => by have := (hlo b hb).1; omega)
        have z6 := hg6.size
        rw [World.size_alloc] at z6
        have hw6 : w2.heap.size < w6.heap.size := by omega
        clear O5 P5 S5 b5 ho6 hg6 hat6 hlo hlt6
        go_roundw
        all_goals first | exact ⟨_, _, ks ++ [(j : Int)], j + 1, by omega, by rw [hlen]; omega, by rw [hlen], by go_num, O6, P6, S6, b6, hw6⟩ | exact ⟨⟨_, _, ks ++ [(j : Int)], j + 1, by omega, by rw [hlen]; omega, by rw [hlen], by go_num, O6, P6, S6, b6, hw6⟩, by simp [intOf]; omega⟩ | (simp [intOf]; omega)
    · obtain rfl : j = xs.length := by omega
      have hc1 := own_form hO.out
      have hk31 : ks.length ≤ 31 := by omega
      clear hkj hj
      go_wp2_with fail
      refine (one_any gs _ 12 _ hS.out (by omega) (by omega)).mono ?_
      rintro r w5 ⟨b, rfl, hs5, hg5⟩
      have O5 := hid (own_src hO.out hg5 (by omega))
      have P5 := hid (own_src hP.out hg5 (by omega))
      have S5 := hid (hs5.mono (show _ ≤ 400 by omega))
      have b5 := below_src hb hg5 (Nat.le_refl _) (by omega)
      have z5 := hg5.size
      have l5 := hs5.lt
      clear hO hP hS hb hs5 hg5
      cases b with
      | false =>
        go_wp2_with fail
        refine (l19DrawDay_any gs _ w5 S5.out (by omega)).mono ?_
        rintro r w6 ⟨d, rfl, d0, d1, hs6, hg6⟩
        have X6 := hid (own_slP (own_src P5.out hg6 (by omega)))
        have Y6 := hid (own_sl encI_len (by omega) (own_src O5.out hg6 (by omega)))
        have b6 := below_eq hgs1 hgs2 (below_src b5 hg6 (Nat.le_refl _) (by omega))
        clear O5 P5 S5 b5 hs6 hg6
        go_wp2_with fail
        go_ret3
        exact ⟨A, c, xs, _, _, ks, d, rfl, hx, by omega, d0, d1, X6, Y6, b6⟩
      | true =>
        have NN : Hid ((w5.alloc (.cells #[.int .i64 (-1), .int .i64 0, .int .i64 (xs.length : Int)] 2)).ownsRow w5.heap.size 2 1 (.slice (some ⟨w5.heap.size, 0, none⟩) 3 3) 3 (([-1, 0, (xs.length : Int)] : List Int).flatMap encI)) := by
          have := World.ownsRow_lit (base := w5.heap.size) (e := 2) (size := 1) w5 #[.int .i64 (-1), .int .i64 0, .int .i64 (xs.length : Int)] 3 (Nat.le_refl _) (by simp [maxLen]) (by simp)
          simpa [Hid, encI] using this
        have O6 := hid (O5.out.alloc (.cells #[.int .i64 (-1), .int .i64 0, .int .i64 (xs.length : Int)] 2))
        have P6 := hid (P5.out.alloc (.cells #[.int .i64 (-1), .int .i64 0, .int .i64 (xs.length : Int)] 2))
        have S6 := hid (S5.out.alloc (.cells #[.int .i64 (-1), .int .i64 0, .int .i64 (xs.length : Int)] 2))
        have b6 := b5.alloc (by omega) (.cells #[.int .i64 (-1), .int .i64 0, .int .i64 (xs.length : Int)] 2)
        clear O5 P5 S5 b5
        go_wp2_with fail
        refine (among_any gs _ (some ⟨w5.heap.size, 0, none⟩) 3 3 [-1, 0, (xs.length : Int)] _ S6.out (by omega) (by omega) (by omega) (own_sl encI_len (by omega) NN.out) (fun b off s e => by injection e with e; injection e with e; omega)).mono ?_
        rintro r w7 ⟨z, rfl, _, hs7, hg7⟩
        have O7 := hid (own_src O6.out hg7 (by omega))
        have P7 := hid (own_src P6.out hg7 (by omega))
        have S7 := hid hs7
        have z7 := hg7.size
        rw [World.size_alloc] at z7
        have b7 := below_src b6 hg7 (Nat.le_refl _) (by simp; omega)
        have hlo := O7.out.lt
        have l7 := hs7.lt
        clear O6 P6 S6 b6 hs7 hg7 NN
        go_wp2_with (at_builtin; refine wpList_append_lies _ rfl _ _ 27 rfl w2.heap.size 2 i0 (.int .i64 0) 1 8 Tryd.underlying27 hi hz0 hz1 hz2 rfl (by omega) (.slice (some ⟨g, 0, none⟩) ks.length c1) ks.length (ks.flatMap encI) rfl (O7.out.alloc _) ⟨w7.heap.size, 0, none⟩ 1 1 [.int .i64 z] rfl rfl (World.news_of_block (cs := #[.int .i64 z]) (t := 2) (fr := (0, 0)) (heap_alloc_new _ _)) (by simp [Value.oneCell']) (by omega) (by first | (simp only [maxLen]; omega) | (simp [maxLen]; done)) (by omega) (by simp; omega) (w7.heap.size + 1) (by simp) ?_; intro gg cap w8 ho8 hg8 hat8 hlt8)
        have hlen : (ks ++ [z]).length = ks.length + 1 := by simp
        have O8 : Hid (w8.ownsRow w2.heap.size 2 1 (.slice (some ⟨gg, 0, none⟩) (ks.length + 1) cap) (ks.length + 1) ((ks ++ [z]).flatMap encI)) := by rw [snocI] at ho8; exact hid ho8
        have P8 := hid (own_keep (P7.out.alloc (.cells #[.int .i64 z] 2)) (fun b hb e => by have := hlp.out b e; have := (hlo b hb).1; omega) hg8)
        have S8 := hid ((S7.out.alloc (.cells #[.int .i64 z] 2)).grown hg8 (fun b hb => by have := (hlo b hb).1; omega))
        have b8 := grown_below (b7.alloc (by omega) (.cells #[.int .i64 z] 2)) hg8 (by simp; omega) (fun b hb => by have := (hlo b hb).1; omega)
        have z8 := hg8.size
        rw [World.size_alloc] at z8
        have l8 := S8.out.lt
        clear O7 P7 S7 b7 ho8 hg8 hat8 hlo hlt8
        go_wp2_with fail
        refine (l19DrawDay_any gs _ w8 S8.out (by omega)).mono ?_
        rintro r w9 ⟨d, rfl, d0, d1, hs9, hg9⟩
        have X9 := hid (own_slP (own_src P8.out hg9 (by omega)))
        have Y9 := own_sl encI_len (by omega) (own_src O8.out hg9 (by omega))
        rw [← hlen] at Y9
        have YY := hid Y9
        have b9 := below_eq hgs1 hgs2 (below_src b8 hg9 (Nat.le_refl _) (by omega))
        clear O8 P8 S8 b8 hs9 hg9 Y9
        go_wp2_with fail
        go_ret3
        exact ⟨A, c, xs, _, cap, ks ++ [z], d, (by rw [hlen]; rfl), hx, by rw [hlen]; omega, d0, d1, X9, YY, b9⟩
def DrawSm (w : World) (r : Ending) (w' : World) : Prop :=
  ∃ (A : Option Addr) (c : Nat) (xs : List Point) (A1 : Option Addr) (c1 : Nat) (ys : List Point), r = .returned (.tuple #[.slice A xs.length c, .slice A1 ys.length c1]) ∧ xs.length ≤ 31 ∧ ys.length ≤ 32 ∧ Hid (Sl w' w'.heap.size 2 encPoint A xs.length xs) ∧ Hid (Sl w' w'.heap.size 2 encPoint A1 ys.length ys) ∧ Below w.heap.size w w'
set_option maxHeartbeats 8000000 in
set_option maxRecDepth 100000 in
theorem DrawSamePoints_any (v : Value) (w : World) (hv : Bytes w w.heap.size 5000 v) : Calls Tryd.prog 21 #[v] w (DrawSm w) := by
  obtain ⟨i0, hi, hz0, hz1, hz2⟩ := info_parts Point_info
  have hf := l00From_any v w hv
  obtain ⟨gs, hgs⟩ : ∃ gs, gs = w.heap.size := ⟨_, rfl⟩
  rw [← hgs] at hf
  have hgs1 : gs ≤ w.heap.size := by omega
  have hgs2 : w.heap.size ≤ gs := by omega
  clear hv hgs
  go_enter Tryd.func21, Tryd.ntmps21
  go_wp2_with fail
  refine hf.mono ?_
  rintro r w1 ⟨rfl, hs, hb, hl⟩
  have hd := l19Draw_any gs 0 w1 hs (by omega)
  have hz := hs.lt
  clear hs hf
  go_wp2_with fail
  refine hd.mono ?_
  rintro r w2 ⟨A, c, xs, rfl, hx, hxc, ho, hs2, hg2⟩
  have b2 := below_src hb hg2 (Nat.le_refl _) (by omega)
  have S2 := hid hs2
  have O2 := hid ho
  have z2 := hg2.size
  have l2 := hs2.lt
  clear hd hb hg2 hs2 ho hl
  have hx0 : (0 : Int) ≤ (xs.length : Int) := by omega
  have hx1 : (xs.length : Int) ≤ 31 := by omega
  have o3 := World.ownsRow_lit (base := w2.heap.size) (e := 42) (size := 2) w2 #[] 0 (Nat.le_refl _) (by simp [maxLen]) (by simp)
  have OE : Hid ((w2.alloc (.cells #[] 42)).ownsRow w2.heap.size 42 2 (.slice (some ⟨w2.heap.size, 0, none⟩) 0 0) 0 (([] : List Point).flatMap encPoint)) := o3
  have OA := hid (O2.out.alloc (.cells #[] 42))
  have SB := hid ((S2.out.alloc (.cells #[] 42)).mono (show _ ≤ 210 by omega))
  have b3 := b2.alloc (by omega) (.cells #[] 42)
  have hlp := hid (fun b hb => (O2.out.lt b hb).2)
  clear o3 S2 b2
  by_cases hx00 : xs.length = 0
  · obtain rfl := List.eq_nil_of_length_eq_zero hx00
    have h1 : ∀ u : World, (pure #[] : Sem (Array Value)).run Tryd.prog u = .ok #[] u := fun _ => rfl
    have h2 : ∀ (p : Addr) (u : World), (storeCells p []).run Tryd.prog u = .ok () u := fun _ _ => rfl
    have hyl : ([] : List Point).length = 0 := rfl
    have nn0 : (0 : Nat) ≤ 31 := by omega
    clear hx0 hx1 O2 hx00
    cases A
    all_goals
      go_wp2_with fail
      refine (one_any gs _ 5 _ (SB.out) (by omega) (by omega)).mono ?_
      rintro r w7 ⟨q5, rfl, hs7, hg7⟩
      have OA7 := hid (own_src OA.out hg7 (by omega))
      have b7 := below_src b3 hg7 (Nat.le_refl _) (by simp; omega)
      clear b3
      have OB7 := hid (own_src OE.out hg7 (by omega))
      have S7 := hid hs7
      have l7 := hs7.lt
      have z7 := hg7.size
      (first | rw [World.size_alloc] at z7 | rw [World.size_setCell] at z7 | skip)
      have HYL := hid hyl
      clear SB OA hs7 hg7 hyl
      cases q5 with
      | false =>
        have XA := hid (own_slP OA7.out)
        have XB := own_slP OB7.out
        (try rw [← HYL.out] at XB)
        have YB := hid XB
        have b8 := below_eq hgs1 hgs2 b7
        clear OA7 OB7 S7 b7 XB OE
        go_wp2_with fail
        go_ret2
        exact ⟨_, c, [], _, _, ([] : List Point), (by first | rfl | (rw [HYL.out]; rfl)), hx, by have := HYL.out; omega, XA, YB, b8⟩
      | true =>
        have hlo := OB7.out.lt
        go_wp2_with (at_builtin; refine wpList_append_lies _ rfl _ _ 24 rfl w2.heap.size 42 i0 (.agg #[.int .i64 0, .int .i64 0]) 2 16 Tryd.underlying24 hi hz0 hz1 hz2 rfl (by omega) (.slice (some ⟨w2.heap.size, 0, none⟩) 0 0) 0 (([] : List Point).flatMap encPoint) rfl (OB7.out.alloc _) ⟨w7.heap.size, 0, none⟩ 1 1 [.int .i64 0, .int .i64 0] rfl rfl (World.news_of_block (cs := #[.int .i64 0, .int .i64 0]) (t := 42) (fr := (0, 0)) (heap_alloc_new _ _)) (by simp [Value.oneCell']) (by omega) (by first | (simp only [maxLen]; omega) | (simp [maxLen]; done)) (by omega) (by simp; omega) (w7.heap.size + 1) (by simp) ?_; intro gg8 cap8 w8 ho8 hg8 hat8 hlt8)
        have hlen : (([] : List Point) ++ [(⟨0, 0⟩ : Point)]).length = 0 + 1 := by first | (rw [List.length_append]; rfl) | (rw [List.length_append, HYL.out]; rfl)
        have e8 : ([] : List Point).flatMap encPoint ++ [.int .i64 0, .int .i64 0] = (([] : List Point) ++ [(⟨0, 0⟩ : Point)]).flatMap encPoint := by simp [encPoint]
        rw [e8] at ho8
        have XB := own_slP ho8
        rw [← hlen] at XB
        have YB := hid XB
        have XA := hid (own_slP (own_keep (OA7.out.alloc (.cells #[.int .i64 0, .int .i64 0] 42)) (fun b hb e => by have := hlp.out b e; have := (hlo b hb).1; omega) hg8))
        have b8 := below_eq hgs1 hgs2 (grown_below (b7.alloc (by omega) (.cells #[.int .i64 0, .int .i64 0] 42)) hg8 (by simp; omega) (fun b hb => by have := (hlo b hb).1; omega))
        clear OA7 OB7 S7 b7 XB OE ho8 hg8 hat8 hlt8 hlo e8
        go_wp2_with fail
        go_ret2
        exact ⟨_, c, [], _, _, ([] : List Point) ++ [⟨0, 0⟩], (by rw [hlen]; rfl), hx, by rw [hlen]; omega, XA, YB, b8⟩
  · obtain ⟨x0, x1, bb, off, Hx, rfl, hb0, _⟩ := (own_slP O2.out).atPoint (i := 0) (by omega)
    have hn0 : 0 < xs.length := by omega
    have hn1 : (0 : Int) < (xs.length : Int) := by omega
    have hnew := news_of_pts ((own_slP O2.out).alloc (Nat.le_refl _) (.cells #[] 42))
    have hlen0 : (xs.flatMap encPoint).length = xs.length * 2 := flatMap_len encPoint_len xs
    clear O2
    go_wp2_with (at_builtin; refine wpList_append_lies _ rfl _ _ 24 rfl w2.heap.size 42 i0 (.agg #[.int .i64 0, .int .i64 0]) 2 16 Tryd.underlying24 hi hz0 hz1 hz2 rfl (by omega) (.slice (some ⟨w2.heap.size, 0, none⟩) 0 0) 0 [] rfl OE.out ⟨bb, off, none⟩ xs.length c (xs.flatMap encPoint) rfl hlen0 hnew (one_encP xs) hn0 (by simp only [maxLen]; omega) (by omega) (by simp) (w2.heap.size + 1) (by simp) ?_; intro gg cap w4 ho4 hg4 hat4 hlt4)
    rw [List.nil_append] at ho4
    simp only [Nat.zero_add] at ho4
    have hloE := hid (fun b hb => (OE.out.lt b hb).1)
    have OA4 := hid (own_keep OA.out (fun b hb e => by have := hlp.out b e; have := hloE.out b hb; omega) hg4)
    have S4 := hid (SB.out.grown hg4 (fun b hb => by have := hloE.out b hb; omega))
    have b4 := grown_below b3 hg4 (by simp; omega) (fun b hb => by have := hloE.out b hb; omega)
    have OB4 := hid ho4
    have l4 := S4.out.lt
    have hgg := (ho4.lt gg rfl)
    clear hnew hlen0 OE OA SB b3 ho4 hg4 hat4 hlt4 hloE hb0
    go_wp2_with fail
    refine (one_any gs _ 2 _ S4.out (by omega) (by omega)).mono ?_
    rintro r w5 ⟨b, rfl, hs5, hg5⟩
    have OA := hid (own_src OA4.out hg5 (by omega))
    have OB5 := hid (own_src OB4.out hg5 (by omega))
    have b5 := below_src b4 hg5 (Nat.le_refl _) (by omega)
    have SB := hid hs5
    have l5 := hs5.lt
    have z5 := hg5.size
    clear OA4 OB4 S4 b4 hs5 hg5
    cases b with
    | false =>
      have hyl : xs.length = xs.length := rfl
      have OE : True := trivial
      go_wp2_with fail
      refine (one_any gs _ 5 _ (SB.out) (by omega) (by omega)).mono ?_
      rintro r w7 ⟨q5, rfl, hs7, hg7⟩
      have OA7 := hid (own_src OA.out hg7 (by omega))
      have b7 := below_src b5 hg7 (Nat.le_refl _) (by omega)
      have OB7 := hid (own_src OB5.out hg7 (by omega))
      have S7 := hid hs7
      have l7 := hs7.lt
      have z7 := hg7.size
      (first | rw [World.size_alloc] at z7 | rw [World.size_setCell] at z7 | skip)
      have HYL := hid hyl
      clear SB OA hs7 hg7 hyl
      cases q5 with
      | false =>
        have XA := hid (own_slP OA7.out)
        have XB := own_slP OB7.out
        (try rw [← HYL.out] at XB)
        have YB := hid XB
        have b8 := below_eq hgs1 hgs2 b7
        clear OA7 OB7 S7 b7 XB OE
        go_wp2_with fail
        go_ret2
        exact ⟨_, c, xs, _, _, xs, (by first | rfl | (rw [HYL.out]; rfl)), hx, by have := HYL.out; omega, XA, YB, b8⟩
      | true =>
        have hlo := OB7.out.lt
        go_wp2_with (at_builtin; refine wpList_append_lies _ rfl _ _ 24 rfl w2.heap.size 42 i0 (.agg #[.int .i64 0, .int .i64 0]) 2 16 Tryd.underlying24 hi hz0 hz1 hz2 rfl (by omega) (.slice (some ⟨gg, 0, none⟩) xs.length cap) xs.length (xs.flatMap encPoint) rfl (OB7.out.alloc _) ⟨w7.heap.size, 0, none⟩ 1 1 [.int .i64 0, .int .i64 0] rfl rfl (World.news_of_block (cs := #[.int .i64 0, .int .i64 0]) (t := 42) (fr := (0, 0)) (heap_alloc_new _ _)) (by simp [Value.oneCell']) (by omega) (by first | (simp only [maxLen]; omega) | (simp [maxLen]; done)) (by omega) (by simp; omega) (w7.heap.size + 1) (by simp) ?_; intro gg8 cap8 w8 ho8 hg8 hat8 hlt8)
        have hlen : (xs ++ [(⟨0, 0⟩ : Point)]).length = xs.length + 1 := by first | (rw [List.length_append]; rfl) | (rw [List.length_append, HYL.out]; rfl)
        have e8 : xs.flatMap encPoint ++ [.int .i64 0, .int .i64 0] = (xs ++ [(⟨0, 0⟩ : Point)]).flatMap encPoint := by simp [encPoint]
        rw [e8] at ho8
        have XB := own_slP ho8
        rw [← hlen] at XB
        have YB := hid XB
        have XA := hid (own_slP (own_keep (OA7.out.alloc (.cells #[.int .i64 0, .int .i64 0] 42)) (fun b hb e => by have := hlp.out b e; have := (hlo b hb).1; omega) hg8))
        have b8 := below_eq hgs1 hgs2 (grown_below (b7.alloc (by omega) (.cells #[.int .i64 0, .int .i64 0] 42)) hg8 (by simp; omega) (fun b hb => by have := (hlo b hb).1; omega))
        clear OA7 OB7 S7 b7 XB OE ho8 hg8 hat8 hlt8 hlo e8
        go_wp2_with fail
        go_ret2
        exact ⟨_, c, xs, _, _, xs ++ [⟨0, 0⟩], (by rw [hlen]; rfl), hx, by rw [hlen]; omega, XA, YB, b8⟩
    | true =>
      have OE : True := trivial
      obtain ⟨y0, y1, b', off', Hy, e', _, _, k1⟩ := (own_slP OB5.out).atPoint (i := 0) hn0
      injection e' with e'
      injection e' with e1 e2
      subst e1 e2
      simp only [Nat.zero_mul, Nat.zero_add] at k1
      have fr := (own_at OB5.out (Below.refl _ _) 1 (by omega)).2
      have d0 : w5.drew.cell? ⟨gg, 1, none⟩ = some (.int .i64 y1) := k1
      have S5 := hid SB.out.drewP
      have nes : (some gg : Option Nat) ≠ some gs := by simp; omega
      have hgl5 : gg < w5.heap.size := World.block_lt_of_cell? _ _ k1
      clear k1
      go_wp2_with fail
      refine wp_region_held_drew (S := (fun _ => True)) (by kernel_rfl) ?_ (fun hHeld => ?_)
      · (try dsimp only); (first | done | exact True.intro)
      refine wpAnyH_take (i := 0) (oi := ⟨some 21, Go.Op.move (Go.Operand.tmp 6), 24, "l19_maintenance.go:346", #[], none⟩) (v := ?_) rfl (by kernel_rfl) (by kernel_rfl) (by kernel_rfl) (fun _ _ _ h => h) (Or.inl ⟨by rfl, ?_⟩) (by assumption) ?_
      rotate_left
      · intro w hSw; (try dsimp only at hSw); go_split_ands; go_simp; first | done | with_reducible rfl
      (try simp only [Act.put, List.setIfInBounds_toArray, List.set_cons_zero, List.set_cons_succ])
      refine wpAnyH_take (i := 1) (oi := ⟨some 22, Go.Op.indexAddr 24 (Go.Operand.tmp 21) (Go.Operand.const (Go.Value.int Go.IntKind.i64 0)), 0, "l19_maintenance.go:346", #[⟨0, Go.Ground.data⟩], none⟩) (v := ?_) rfl (by kernel_rfl) (by kernel_rfl) (by kernel_rfl) (fun _ _ _ h => h) (Or.inl ⟨by rfl, ?_⟩) (by assumption) ?_
      rotate_left
      · intro w hSw; (try dsimp only at hSw); go_split_ands; go_simp; first | done | with_reducible rfl
      (try simp only [Act.put, List.setIfInBounds_toArray, List.set_cons_zero, List.set_cons_succ])
      refine wpAnyH_take (i := 2) (oi := ⟨some 23, Go.Op.fieldAddr 42 (Go.Operand.tmp 22) 1, 0, "l19_maintenance.go:346", #[⟨1, Go.Ground.data⟩], none⟩) (v := ?_) rfl (by kernel_rfl) (by kernel_rfl) (by kernel_rfl) (fun _ _ _ h => h) (Or.inl ⟨by rfl, ?_⟩) (by assumption) ?_
      rotate_left
      · intro w hSw; (try dsimp only at hSw); go_split_ands; go_simp; first | done | with_reducible rfl
      (try simp only [Act.put, List.setIfInBounds_toArray, List.set_cons_zero, List.set_cons_succ])
      refine wpAnyH_take (i := 4) (oi := ⟨some 25, Go.Op.move (Go.Operand.tmp 4), 54, "l19_maintenance.go:346", #[], none⟩) (v := ?_) rfl (by kernel_rfl) (by kernel_rfl) (by kernel_rfl) (fun _ _ _ h => h) (Or.inl ⟨by rfl, ?_⟩) (by assumption) ?_
      rotate_left
      · intro w hSw; (try dsimp only at hSw); go_split_ands; go_simp; first | done | with_reducible rfl
      (try simp only [Act.put, List.setIfInBounds_toArray, List.set_cons_zero, List.set_cons_succ])
      refine wpAnyH_ready (rs := [3, 5]) (by kernel_rfl) (by simp) ?_
      refine AllReadyH.cons rfl (fun K hK => ?_) ?_
      · skip
        go_simp
        refine hK.out _ _ ?_ (fun hH2 => ?_)
        · (try dsimp only); (first | done | exact True.intro)
        clear hK K hHeld; have hHeld := hH2; clear hH2
        refine wpAnyH_ready (rs := [5]) (by kernel_rfl) (by simp) ?_
        refine AllReadyH.cons rfl (fun K hK => ?_) ?_
        · skip
          go_simp
          go_wp2_with (go_at_call 47; refine (pick_any gs _ 2 _ S5.out (by omega) (by omega)).mono ?_; rintro r wa ⟨ra, rfl, ra0, ra1, hsa, hga⟩)
          have ga := hga.cell d0 nes
          have fa : wa.frozen? ⟨gg, 1, none⟩ = false := (hga.frozen_far ⟨gg, 1, none⟩ hgl5 nes).trans fr
          refine hK.out _ _ ?_ (fun hH2 => ?_)
          · (try dsimp only); (first | done | exact True.intro)
          clear hK K hHeld; have hHeld := hH2; clear hH2
          refine wpAnyH_take (i := 6) (oi := ⟨some 27, Go.Op.binOp Go.BinOp.add 2 (Go.Operand.tmp 24) (Go.Operand.tmp 26) 2, 2, "l19_maintenance.go:346", #[⟨3, Go.Ground.data⟩, ⟨5, Go.Ground.data⟩], none⟩) (v := ?_) rfl (by kernel_rfl) (by kernel_rfl) (by kernel_rfl) (fun _ _ _ h => h) (Or.inl ⟨by rfl, ?_⟩) (by assumption) ?_
          rotate_left
          · intro w hSw; (try dsimp only at hSw); go_split_ands; go_simp; first | done | with_reducible rfl
          (try simp only [Act.put, List.setIfInBounds_toArray, List.set_cons_zero, List.set_cons_succ])
          refine wpAnyH_take (i := 7) (oi := ⟨some 28, Go.Op.indexAddr 24 (Go.Operand.tmp 21) (Go.Operand.const (Go.Value.int Go.IntKind.i64 0)), 0, "l19_maintenance.go:346", #[⟨0, Go.Ground.data⟩, ⟨0, Go.Ground.phase⟩, ⟨1, Go.Ground.phase⟩, ⟨2, Go.Ground.phase⟩, ⟨3, Go.Ground.phase⟩, ⟨4, Go.Ground.phase⟩, ⟨5, Go.Ground.phase⟩, ⟨6, Go.Ground.phase⟩], none⟩) (v := ?_) rfl (by kernel_rfl) (by kernel_rfl) (by kernel_rfl) (fun _ _ _ h => h) (Or.inl ⟨by rfl, ?_⟩) (by assumption) ?_
          rotate_left
          · intro w hSw; (try dsimp only at hSw); go_split_ands; go_simp; first | done | with_reducible rfl
          (try simp only [Act.put, List.setIfInBounds_toArray, List.set_cons_zero, List.set_cons_succ])
          refine wpAnyH_take (i := 8) (oi := ⟨some 29, Go.Op.fieldAddr 42 (Go.Operand.tmp 28) 1, 0, "l19_maintenance.go:346", #[⟨7, Go.Ground.data⟩, ⟨0, Go.Ground.phase⟩, ⟨1, Go.Ground.phase⟩, ⟨2, Go.Ground.phase⟩, ⟨3, Go.Ground.phase⟩, ⟨4, Go.Ground.phase⟩, ⟨5, Go.Ground.phase⟩, ⟨6, Go.Ground.phase⟩], none⟩) (v := ?_) rfl (by kernel_rfl) (by kernel_rfl) (by kernel_rfl) (fun _ _ _ h => h) (Or.inl ⟨by rfl, ?_⟩) (by assumption) ?_
          rotate_left
          · intro w hSw; (try dsimp only at hSw); go_split_ands; go_simp; first | done | with_reducible rfl
          (try simp only [Act.put, List.setIfInBounds_toArray, List.set_cons_zero, List.set_cons_succ])
          refine wpAnyH_ready (rs := [9]) (by kernel_rfl) (by simp) ?_
          refine AllReadyH.cons rfl (fun K hK => ?_) ?_
          · skip
            go_simp
            refine hK.out _ _ ?_ (fun hH2 => ?_)
            · (try dsimp only); (first | done | exact True.intro)
            clear hK K hHeld; have hHeld := hH2; clear hH2
            refine wpAnyH_done (by kernel_rfl) ?_ _
            have OB6 := hid (own_src (show w5.drew.ownsRow _ _ _ _ _ _ from OB5.out) hga (by omega))
            have OA6 := hid (own_src (show w5.drew.ownsRow _ _ _ _ _ _ from OA.out) hga (by omega))
            have b6 := below_src (show Below gs w w5.drew from b5.drew) hga (Nat.le_refl _) (by show gs ≤ w5.heap.size; omega)
            have z6 := hga.size
            have z66 : w5.heap.size ≤ wa.heap.size := z6
            have SF : Hid (∀ z : Int, SrcAt (wa.setCell ⟨gg, 1, none⟩ (.int .i64 z)) gs 230) := fun z => (hsa.set (p := ⟨gg, 1, none⟩) (by simp only; omega)).mono (by omega)
            have AF : Hid (∀ (z : Int) (W : World), (wa.setCell ⟨gg, 1, none⟩ (.int .i64 z)).grownBy W (some gs) → W.ownsRow w1.heap.size 42 2 (.slice (some ⟨bb, off, none⟩) xs.length c) xs.length (xs.flatMap encPoint) ∧ Below gs w W) := fun z W hW =>
              ⟨own_src (ow_set (fun e => by have := hlp.out gg e; omega) OA6.out) hW (by omega), below_src (b6.setCell (p := ⟨gg, 1, none⟩) (by simp only; omega) _) hW (Nat.le_refl _) (by simp; omega)⟩
            have BF : Hid (∀ (z : Int) (W : World), (wa.setCell ⟨gg, 1, none⟩ (.int .i64 z)).grownBy W (some gs) → ∃ ys : List Point, ys.length = xs.length ∧ W.ownsRow w2.heap.size 42 2 (.slice (some ⟨gg, 0, none⟩) xs.length cap) xs.length (ys.flatMap encPoint)) := fun z W hW => by
              obtain ⟨ys, hyl, hy⟩ := own_putP (i := 0) (j := 1) OB6.out hn0 (Nat.le_refl _) z
              simp only [Nat.zero_mul, Nat.zero_add] at hy
              exact ⟨ys, hyl, own_src hy hW (by omega)⟩
            clear OB5 OB6 OA6 b5 b6 hsa hga S5 ga fa hHeld d0 fr ra1
            go_wp2_with fail
            refine (one_any gs _ 5 _ (SF.out _) (by omega) (by omega)).mono ?_
            rintro r w7 ⟨q5, rfl, hs7, hg7⟩
            have OA7 := hid ((AF.out _ _ hg7).1)
            have b7 := (AF.out _ _ hg7).2
            obtain ⟨ys, hyl, hy⟩ := BF.out _ _ hg7
            clear SF AF BF
            have OB7 := hid (hy)
            have S7 := hid hs7
            have l7 := hs7.lt
            have z7 := hg7.size
            (first | rw [World.size_alloc] at z7 | rw [World.size_setCell] at z7 | skip)
            have HYL := hid hyl
            clear SB OA hs7 hg7 hyl
            cases q5 with
            | false =>
              have XA := hid (own_slP OA7.out)
              have XB := own_slP OB7.out
              (try rw [← HYL.out] at XB)
              have YB := hid XB
              have b8 := below_eq hgs1 hgs2 b7
              clear OA7 OB7 S7 b7 XB OE
              go_wp2_with fail
              go_ret2
              exact ⟨_, c, xs, _, _, ys, (by first | rfl | (rw [HYL.out]; rfl)), hx, by have := HYL.out; omega, XA, YB, b8⟩
            | true =>
              have hlo := OB7.out.lt
              go_wp2_with (at_builtin; refine wpList_append_lies _ rfl _ _ 24 rfl w2.heap.size 42 i0 (.agg #[.int .i64 0, .int .i64 0]) 2 16 Tryd.underlying24 hi hz0 hz1 hz2 rfl (by omega) (.slice (some ⟨gg, 0, none⟩) xs.length cap) xs.length (ys.flatMap encPoint) rfl (OB7.out.alloc _) ⟨w7.heap.size, 0, none⟩ 1 1 [.int .i64 0, .int .i64 0] rfl rfl (World.news_of_block (cs := #[.int .i64 0, .int .i64 0]) (t := 42) (fr := (0, 0)) (heap_alloc_new _ _)) (by simp [Value.oneCell']) (by omega) (by first | (simp only [maxLen]; omega) | (simp [maxLen]; done)) (by omega) (by simp; omega) (w7.heap.size + 1) (by simp) ?_; intro gg8 cap8 w8 ho8 hg8 hat8 hlt8)
              have hlen : (ys ++ [(⟨0, 0⟩ : Point)]).length = xs.length + 1 := by first | (rw [List.length_append]; rfl) | (rw [List.length_append, HYL.out]; rfl)
              have e8 : ys.flatMap encPoint ++ [.int .i64 0, .int .i64 0] = (ys ++ [(⟨0, 0⟩ : Point)]).flatMap encPoint := by simp [encPoint]
              rw [e8] at ho8
              have XB := own_slP ho8
              rw [← hlen] at XB
              have YB := hid XB
              have XA := hid (own_slP (own_keep (OA7.out.alloc (.cells #[.int .i64 0, .int .i64 0] 42)) (fun b hb e => by have := hlp.out b e; have := (hlo b hb).1; omega) hg8))
              have b8 := below_eq hgs1 hgs2 (grown_below (b7.alloc (by omega) (.cells #[.int .i64 0, .int .i64 0] 42)) hg8 (by simp; omega) (fun b hb => by have := (hlo b hb).1; omega))
              clear OA7 OB7 S7 b7 XB OE ho8 hg8 hat8 hlt8 hlo e8
              go_wp2_with fail
              go_ret2
              exact ⟨_, c, xs, _, _, ys ++ [⟨0, 0⟩], (by rw [hlen]; rfl), hx, by rw [hlen]; omega, XA, YB, b8⟩
          exact AllReadyH.nil
        exact AllReadyH.nil
      refine AllReadyH.cons rfl (fun K hK => ?_) ?_
      · skip
        go_simp
        go_wp2_with (go_at_call 47; refine (pick_any gs _ 2 _ S5.out (by omega) (by omega)).mono ?_; rintro r wa ⟨ra, rfl, ra0, ra1, hsa, hga⟩)
        have ga := hga.cell d0 nes
        have fa : wa.frozen? ⟨gg, 1, none⟩ = false := (hga.frozen_far ⟨gg, 1, none⟩ hgl5 nes).trans fr
        refine hK.out _ _ ?_ (fun hH2 => ?_)
        · (try dsimp only); (first | done | exact True.intro)
        clear hK K hHeld; have hHeld := hH2; clear hH2
        refine wpAnyH_ready (rs := [3]) (by kernel_rfl) (by simp) ?_
        refine AllReadyH.cons rfl (fun K hK => ?_) ?_
        · skip
          go_simp
          refine hK.out _ _ ?_ (fun hH2 => ?_)
          · (try dsimp only); (first | done | exact True.intro)
          clear hK K hHeld; have hHeld := hH2; clear hH2
          refine wpAnyH_take (i := 6) (oi := ⟨some 27, Go.Op.binOp Go.BinOp.add 2 (Go.Operand.tmp 24) (Go.Operand.tmp 26) 2, 2, "l19_maintenance.go:346", #[⟨3, Go.Ground.data⟩, ⟨5, Go.Ground.data⟩], none⟩) (v := ?_) rfl (by kernel_rfl) (by kernel_rfl) (by kernel_rfl) (fun _ _ _ h => h) (Or.inl ⟨by rfl, ?_⟩) (by assumption) ?_
          rotate_left
          · intro w hSw; (try dsimp only at hSw); go_split_ands; go_simp; first | done | with_reducible rfl
          (try simp only [Act.put, List.setIfInBounds_toArray, List.set_cons_zero, List.set_cons_succ])
          refine wpAnyH_take (i := 7) (oi := ⟨some 28, Go.Op.indexAddr 24 (Go.Operand.tmp 21) (Go.Operand.const (Go.Value.int Go.IntKind.i64 0)), 0, "l19_maintenance.go:346", #[⟨0, Go.Ground.data⟩, ⟨0, Go.Ground.phase⟩, ⟨1, Go.Ground.phase⟩, ⟨2, Go.Ground.phase⟩, ⟨3, Go.Ground.phase⟩, ⟨4, Go.Ground.phase⟩, ⟨5, Go.Ground.phase⟩, ⟨6, Go.Ground.phase⟩], none⟩) (v := ?_) rfl (by kernel_rfl) (by kernel_rfl) (by kernel_rfl) (fun _ _ _ h => h) (Or.inl ⟨by rfl, ?_⟩) (by assumption) ?_
          rotate_left
          · intro w hSw; (try dsimp only at hSw); go_split_ands; go_simp; first | done | with_reducible rfl
          (try simp only [Act.put, List.setIfInBounds_toArray, List.set_cons_zero, List.set_cons_succ])
          refine wpAnyH_take (i := 8) (oi := ⟨some 29, Go.Op.fieldAddr 42 (Go.Operand.tmp 28) 1, 0, "l19_maintenance.go:346", #[⟨7, Go.Ground.data⟩, ⟨0, Go.Ground.phase⟩, ⟨1, Go.Ground.phase⟩, ⟨2, Go.Ground.phase⟩, ⟨3, Go.Ground.phase⟩, ⟨4, Go.Ground.phase⟩, ⟨5, Go.Ground.phase⟩, ⟨6, Go.Ground.phase⟩], none⟩) (v := ?_) rfl (by kernel_rfl) (by kernel_rfl) (by kernel_rfl) (fun _ _ _ h => h) (Or.inl ⟨by rfl, ?_⟩) (by assumption) ?_
          rotate_left
          · intro w hSw; (try dsimp only at hSw); go_split_ands; go_simp; first | done | with_reducible rfl
          (try simp only [Act.put, List.setIfInBounds_toArray, List.set_cons_zero, List.set_cons_succ])
          refine wpAnyH_ready (rs := [9]) (by kernel_rfl) (by simp) ?_
          refine AllReadyH.cons rfl (fun K hK => ?_) ?_
          · skip
            go_simp
            refine hK.out _ _ ?_ (fun hH2 => ?_)
            · (try dsimp only); (first | done | exact True.intro)
            clear hK K hHeld; have hHeld := hH2; clear hH2
            refine wpAnyH_done (by kernel_rfl) ?_ _
            have OB6 := hid (own_src (show w5.drew.ownsRow _ _ _ _ _ _ from OB5.out) hga (by omega))
            have OA6 := hid (own_src (show w5.drew.ownsRow _ _ _ _ _ _ from OA.out) hga (by omega))
            have b6 := below_src (show Below gs w w5.drew from b5.drew) hga (Nat.le_refl _) (by show gs ≤ w5.heap.size; omega)
            have z6 := hga.size
            have z66 : w5.heap.size ≤ wa.heap.size := z6
            have SF : Hid (∀ z : Int, SrcAt (wa.setCell ⟨gg, 1, none⟩ (.int .i64 z)) gs 230) := fun z => (hsa.set (p := ⟨gg, 1, none⟩) (by simp only; omega)).mono (by omega)
            have AF : Hid (∀ (z : Int) (W : World), (wa.setCell ⟨gg, 1, none⟩ (.int .i64 z)).grownBy W (some gs) → W.ownsRow w1.heap.size 42 2 (.slice (some ⟨bb, off, none⟩) xs.length c) xs.length (xs.flatMap encPoint) ∧ Below gs w W) := fun z W hW =>
              ⟨own_src (ow_set (fun e => by have := hlp.out gg e; omega) OA6.out) hW (by omega), below_src (b6.setCell (p := ⟨gg, 1, none⟩) (by simp only; omega) _) hW (Nat.le_refl _) (by simp; omega)⟩
            have BF : Hid (∀ (z : Int) (W : World), (wa.setCell ⟨gg, 1, none⟩ (.int .i64 z)).grownBy W (some gs) → ∃ ys : List Point, ys.length = xs.length ∧ W.ownsRow w2.heap.size 42 2 (.slice (some ⟨gg, 0, none⟩) xs.length cap) xs.length (ys.flatMap encPoint)) := fun z W hW => by
              obtain ⟨ys, hyl, hy⟩ := own_putP (i := 0) (j := 1) OB6.out hn0 (Nat.le_refl _) z
              simp only [Nat.zero_mul, Nat.zero_add] at hy
              exact ⟨ys, hyl, own_src hy hW (by omega)⟩
            clear OB5 OB6 OA6 b5 b6 hsa hga S5 ga fa hHeld d0 fr ra1
            go_wp2_with fail
            refine (one_any gs _ 5 _ (SF.out _) (by omega) (by omega)).mono ?_
            rintro r w7 ⟨q5, rfl, hs7, hg7⟩
            have OA7 := hid ((AF.out _ _ hg7).1)
            have b7 := (AF.out _ _ hg7).2
            obtain ⟨ys, hyl, hy⟩ := BF.out _ _ hg7
            clear SF AF BF
            have OB7 := hid (hy)
            have S7 := hid hs7
            have l7 := hs7.lt
            have z7 := hg7.size
            (first | rw [World.size_alloc] at z7 | rw [World.size_setCell] at z7 | skip)
            have HYL := hid hyl
            clear SB OA hs7 hg7 hyl
            cases q5 with
            | false =>
              have XA := hid (own_slP OA7.out)
              have XB := own_slP OB7.out
              (try rw [← HYL.out] at XB)
              have YB := hid XB
              have b8 := below_eq hgs1 hgs2 b7
              clear OA7 OB7 S7 b7 XB OE
              go_wp2_with fail
              go_ret2
              exact ⟨_, c, xs, _, _, ys, (by first | rfl | (rw [HYL.out]; rfl)), hx, by have := HYL.out; omega, XA, YB, b8⟩
            | true =>
              have hlo := OB7.out.lt
              go_wp2_with (at_builtin; refine wpList_append_lies _ rfl _ _ 24 rfl w2.heap.size 42 i0 (.agg #[.int .i64 0, .int .i64 0]) 2 16 Tryd.underlying24 hi hz0 hz1 hz2 rfl (by omega) (.slice (some ⟨gg, 0, none⟩) xs.length cap) xs.length (ys.flatMap encPoint) rfl (OB7.out.alloc _) ⟨w7.heap.size, 0, none⟩ 1 1 [.int .i64 0, .int .i64 0] rfl rfl (World.news_of_block (cs := #[.int .i64 0, .int .i64 0]) (t := 42) (fr := (0, 0)) (heap_alloc_new _ _)) (by simp [Value.oneCell']) (by omega) (by first | (simp only [maxLen]; omega) | (simp [maxLen]; done)) (by omega) (by simp; omega) (w7.heap.size + 1) (by simp) ?_; intro gg8 cap8 w8 ho8 hg8 hat8 hlt8)
              have hlen : (ys ++ [(⟨0, 0⟩ : Point)]).length = xs.length + 1 := by first | (rw [List.length_append]; rfl) | (rw [List.length_append, HYL.out]; rfl)
              have e8 : ys.flatMap encPoint ++ [.int .i64 0, .int .i64 0] = (ys ++ [(⟨0, 0⟩ : Point)]).flatMap encPoint := by simp [encPoint]
              rw [e8] at ho8
              have XB := own_slP ho8
              rw [← hlen] at XB
              have YB := hid XB
              have XA := hid (own_slP (own_keep (OA7.out.alloc (.cells #[.int .i64 0, .int .i64 0] 42)) (fun b hb e => by have := hlp.out b e; have := (hlo b hb).1; omega) hg8))
              have b8 := below_eq hgs1 hgs2 (grown_below (b7.alloc (by omega) (.cells #[.int .i64 0, .int .i64 0] 42)) hg8 (by simp; omega) (fun b hb => by have := (hlo b hb).1; omega))
              clear OA7 OB7 S7 b7 XB OE ho8 hg8 hat8 hlt8 hlo e8
              go_wp2_with fail
              go_ret2
              exact ⟨_, c, xs, _, _, ys ++ [⟨0, 0⟩], (by rw [hlen]; rfl), hx, by rw [hlen]; omega, XA, YB, b8⟩
          exact AllReadyH.nil
        exact AllReadyH.nil
      exact AllReadyH.nil
def DrawPT (w : World) (r : Ending) (w' : World) : Prop := ∃ x y, r = .returned (.agg #[.int .i64 x, .int .i64 y]) ∧ Below w.heap.size w w'
set_option maxHeartbeats 2000000 in
theorem DrawPointText_any (v : Value) (w : World) (hv : Bytes w w.heap.size 5000 v) : Calls Tryd.prog 22 #[v] w (DrawPT w) := by
  obtain ⟨W0, hW0⟩ : ∃ W0, W0 = w.alloc (.cells #[.int .i64 0, .int .i64 0] 42) := ⟨_, rfl⟩
  have b0 : Below w.heap.size w W0 := by rw [hW0]; exact (Below.refl _ _).alloc (Nat.le_refl _) _
  have c0 : W0.cell? ⟨w.heap.size, 0, none⟩ = some (.int .i64 0) := by rw [hW0]; exact (World.cell?_alloc_at _ _ _ _ rfl).trans rfl
  have c1 : W0.cell? ⟨w.heap.size, 1, none⟩ = some (.int .i64 0) := by rw [hW0]; exact (World.cell?_alloc_at _ _ _ _ rfl).trans rfl
  have y0 : W0.frozen? ⟨w.heap.size, 0, none⟩ = false := by rw [hW0]; go_simp
  have y1 : W0.frozen? ⟨w.heap.size, 1, none⟩ = false := by rw [hW0]; go_simp
  have zr : w.heap.size < W0.heap.size := World.block_lt_of_cell? _ _ c0
  have hf := l00From_any v W0 ((hv.below b0).more b0.size)
  have HW := hid hW0
  clear hv hW0
  go_enter Tryd.func22, Tryd.ntmps22
  go_wp2_with fail
  rw [← HW.out]
  clear HW
  obtain ⟨gs, hgs⟩ : ∃ gs, gs = W0.heap.size := ⟨_, rfl⟩
  rw [← hgs] at hf
  have hgs1 : gs ≤ W0.heap.size := by omega
  have hgs2 : W0.heap.size ≤ gs := by omega
  clear hgs
  refine hf.mono ?_
  rintro r w1 ⟨rfl, hs, hb, hl⟩
  have hrg : w.heap.size < gs := by omega
  replace c0 := (hb.cell (p := ⟨w.heap.size, 0, none⟩) hrg).trans c0
  replace c1 := (hb.cell (p := ⟨w.heap.size, 1, none⟩) hrg).trans c1
  replace y0 := (hb.frozen (p := ⟨w.heap.size, 0, none⟩) hrg).trans y0
  replace y1 := (hb.frozen (p := ⟨w.heap.size, 1, none⟩) hrg).trans y1
  have b1 := b0.trans (hb.mono (by omega))
  have S1 := hid hs
  clear hf hs hb b0
  go_wp2_with fail
  refine (l19New_any gs _ w1 S1.out (by omega)).mono ?_
  rintro r w2 ⟨x, y, rfl, hs2, hg2⟩
  have ne : (some w.heap.size : Option Nat) ≠ some gs := by simp; omega
  replace c0 := hg2.cell c0 ne
  replace c1 := hg2.cell c1 ne
  replace y0 := (hg2.frozen_far ⟨w.heap.size, 0, none⟩ (by simp only; omega) ne).trans y0
  replace y1 := (hg2.frozen_far ⟨w.heap.size, 1, none⟩ (by simp only; omega) ne).trans y1
  have z2 := hg2.size
  have b2 := below_src b1 hg2 (by omega) (by omega)
  obtain ⟨W3, hW3⟩ : ∃ W3, W3 = w2.alloc (.cells #[.int .i64 x, .int .i64 y] 42) := ⟨_, rfl⟩
  obtain ⟨gp, hgp⟩ : ∃ gp, gp = w2.heap.size := ⟨_, rfl⟩
  have d0 : W3.cell? ⟨gp, 0, none⟩ = some (.int .i64 x) := by rw [hW3, hgp]; exact (World.cell?_alloc_at _ _ _ _ rfl).trans rfl
  have d1 : W3.cell? ⟨gp, 1, none⟩ = some (.int .i64 y) := by rw [hW3, hgp]; exact (World.cell?_alloc_at _ _ _ _ rfl).trans rfl
  have v0 : W3.frozen? ⟨gp, 0, none⟩ = false := by rw [hW3, hgp]; go_simp
  have v1 : W3.frozen? ⟨gp, 1, none⟩ = false := by rw [hW3, hgp]; go_simp
  have ba : Below w2.heap.size w2 W3 := by rw [hW3]; exact (Below.refl _ _).alloc (Nat.le_refl _) _
  have hpg : gs < gp := by rw [hgp]; exact hs2.lt
  have hwp : w.heap.size < gp := by omega
  have zgp : gp < W3.heap.size := World.block_lt_of_cell? _ _ d0
  have hl2 : w.heap.size < w2.heap.size := by omega
  replace c0 := (ba.cell (p := ⟨w.heap.size, 0, none⟩) hl2).trans c0
  replace c1 := (ba.cell (p := ⟨w.heap.size, 1, none⟩) hl2).trans c1
  replace y0 := (ba.frozen (p := ⟨w.heap.size, 0, none⟩) hl2).trans y0
  replace y1 := (ba.frozen (p := ⟨w.heap.size, 1, none⟩) hl2).trans y1
  have S3 := hid (hs2.below (ba.mono (by have := hs2.lt; omega)))
  have b3 := b2.trans (ba.mono (by omega))
  have HW := hid hW3
  have HP := hid hgp
  have neg : (some gp : Option Nat) ≠ some gs := by simp; omega
  clear S1 b1 b2 ba hs2 hg2 hW3 hgp
  go_wp2_with fail
  rw [← HW.out, ← HP.out]
  clear HW HP
  refine (one_any gs _ 4 W3 S3.out (by omega) (by omega)).mono ?_
  rintro r w4 ⟨b, rfl, hs4, hg4⟩
  have hl3 : w.heap.size < W3.heap.size := by omega
  replace c0 := hg4.cell c0 ne
  replace c1 := hg4.cell c1 ne
  replace y0 := (hg4.frozen_far ⟨w.heap.size, 0, none⟩ hl3 ne).trans y0
  replace y1 := (hg4.frozen_far ⟨w.heap.size, 1, none⟩ hl3 ne).trans y1
  replace d0 := hg4.cell d0 neg
  replace d1 := hg4.cell d1 neg
  replace v0 := (hg4.frozen_far ⟨gp, 0, none⟩ zgp neg).trans v0
  replace v1 := (hg4.frozen_far ⟨gp, 1, none⟩ zgp neg).trans v1
  have z4 := hg4.size
  have b4 := below_src b3 hg4 (by omega) (by omega)
  have S4 := hid hs4
  have key : ∀ (W : World) (x y : Int), W.cell? ⟨w.heap.size, 0, none⟩ = some (.int .i64 0) → W.cell? ⟨w.heap.size, 1, none⟩ = some (.int .i64 0) → Below w.heap.size w W → Hid (((W.setCell ⟨w.heap.size, 0, none⟩ (.int .i64 x)).setCell ⟨w.heap.size, 1, none⟩ (.int .i64 y)).cell? ⟨w.heap.size, 0, none⟩ = some (.int .i64 x) ∧ ((W.setCell ⟨w.heap.size, 0, none⟩ (.int .i64 x)).setCell ⟨w.heap.size, 1, none⟩ (.int .i64 y)).cell? ⟨w.heap.size, 1, none⟩ = some (.int .i64 y) ∧ Below w.heap.size w ((W.setCell ⟨w.heap.size, 0, none⟩ (.int .i64 x)).setCell ⟨w.heap.size, 1, none⟩ (.int .i64 y))) := fun W x y k0 k1 kb =>
    ⟨(World.cell?_setCell_other _ _ _ _ (by simp)).trans (World.cell?_setCell_same _ _ _ k0), World.cell?_setCell_same _ _ _ ((World.cell?_setCell_other _ _ _ _ (by simp)).trans k1), (kb.setCell (by simp) _).setCell (by simp) _⟩
  have KEY := hid key
  clear S3 b3 hs4 hg4 key
  cases b with
  | false =>
    have KK := KEY.out w4 x y c0 c1 b4
    clear KEY b4 S4
    go_wp2_with fail
    refine bodyPost_ret (v := .agg #[.int .i64 x, .int .i64 y]) (by simp [results, Tryd.results22, go_sem, KK.out.1, KK.out.2.1]) rfl ⟨x, y, rfl, KK.out.2.2⟩
  | true =>
    have cS := l19Spoil_any gs _ gp 0 _ _ w4 S4.out (by omega) hpg d0 d1 v0 v1
    have CS := hid cS
    have D0 := hid d0
    have D1 := hid d1
    clear cS d0 d1 v0 v1
    go_wp2_with fail
    refine (CS.out).mono ?_
    rintro r w5 ⟨w6, j, z, rfl, hj, rfl, hs6, hg6⟩
    have hl4 : w.heap.size < w4.heap.size := by omega
    have nb : gp ≠ w.heap.size := by omega
    replace c0 := (cell_far (p := ⟨gp, 0 + j, none⟩) (v := .int .i64 z) nb).trans (hg6.cell c0 ne)
    replace c1 := (cell_far (p := ⟨gp, 0 + j, none⟩) (v := .int .i64 z) nb).trans (hg6.cell c1 ne)
    replace y0 := (World.frozen?_setCell w6 ⟨gp, 0 + j, none⟩ ⟨w.heap.size, 0, none⟩ (.int .i64 z)).trans ((hg6.frozen_far ⟨w.heap.size, 0, none⟩ hl4 ne).trans y0)
    replace y1 := (World.frozen?_setCell w6 ⟨gp, 0 + j, none⟩ ⟨w.heap.size, 1, none⟩ (.int .i64 z)).trans ((hg6.frozen_far ⟨w.heap.size, 1, none⟩ hl4 ne).trans y1)
    have b6 := (below_src b4 hg6 (by omega) (by omega)).setCell (p := ⟨gp, 0 + j, none⟩) (by simp only; omega) (.int .i64 z)
    have d0 := hg6.cell D0.out neg
    have d1 := hg6.cell D1.out neg
    have hl6 : w.heap.size < w6.heap.size := by have := hg6.size; omega
    have zgp6 : gp < w6.heap.size := World.block_lt_of_cell? _ _ d0
    rcases (show j = 0 ∨ j = 1 by omega) with rfl | rfl
    · replace d1 := (World.cell?_setCell_other w6 ⟨gp, 0 + 0, none⟩ ⟨gp, 1, none⟩ (.int .i64 z) (by simp)).trans d1
      replace d0 := World.cell?_setCell_same w6 ⟨gp, 0 + 0, none⟩ (.int .i64 z) d0
      simp only [Nat.add_zero] at c0 c1 y0 y1 b6 d0 d1
      have KK := KEY.out _ z y c0 c1 b6
      clear KEY b6 b4 S4 D0 D1 CS hs6 hg6
      go_wp2_with fail
      refine bodyPost_ret (v := .agg #[.int .i64 z, .int .i64 y]) (by simp [results, Tryd.results22, go_sem, KK.out.1, KK.out.2.1]) rfl ⟨z, y, rfl, KK.out.2.2⟩
    · replace d0 := (World.cell?_setCell_other w6 ⟨gp, 0 + 1, none⟩ ⟨gp, 0, none⟩ (.int .i64 z) (by simp)).trans d0
      replace d1 := World.cell?_setCell_same w6 ⟨gp, 0 + 1, none⟩ (.int .i64 z) d1
      simp only [Nat.zero_add] at c0 c1 y0 y1 b6 d0 d1
      have KK := KEY.out _ x z c0 c1 b6
      clear KEY b6 b4 S4 D0 D1 CS hs6 hg6
      go_wp2_with fail
      refine bodyPost_ret (v := .agg #[.int .i64 x, .int .i64 z]) (by simp [results, Tryd.results22, go_sem, KK.out.1, KK.out.2.1]) rfl ⟨x, z, rfl, KK.out.2.2⟩
end Go.Proofs.YtehjfajmnciiaaaDoor
