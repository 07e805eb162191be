/-
  FS: texts RRowS, one behind the other. No condition but what each says.
-/
import Derived.Test.YtcgkcfmiabninaaGreatDoorFS14
/-
  A row of a scheme's text is added: the reference's way. No condition.
-/
namespace Go.Proofs.YtcgkcfmiabninaaGreatDoor
open Go.RowKit
set_option maxHeartbeats 400000

theorem XAt.boxed {w : World} {lo : Nat} {s : SV} {x : Sch} (h : OwnX w lo s x) : XAt (w.alloc (.cells #[.slice s.A1 s.n1 s.c1, .slice s.A2 s.n2 s.c2, .slice s.A3 s.n3 s.c3] 25)) w.heap.size lo s x := by
  refine ⟨(World.cell?_alloc_at _ _ _ _ rfl).trans rfl, (World.cell?_alloc_at _ _ _ _ rfl).trans rfl, (World.cell?_alloc_at _ _ _ _ rfl).trans rfl, by go_simp, by go_simp, by go_simp, ⟨h.st.alloc _, h.rm.alloc _, h.wy.alloc _, h.ap12, h.ap13, h.ap23⟩, fun e => ?_, fun e => ?_, fun e => ?_⟩
  · have := (h.st.lt _ e).2; omega
  · have := (h.rm.lt _ e).2; omega
  · have := (h.wy.lt _ e).2; omega
/-- another scheme's list of ways is taken over -/
theorem XAt.take3 {w : World} {gs lo gy lo2 : Nat} {s s2 : SV} {x x2 : Sch} (h : XAt w gs lo s x) (h2 : XAt w gy lo2 s2 x2) (hl : lo ≤ lo2) (hs : ∀ q, ((Value.slice s.A1 s.n1 s.c1).ownBlock = some q ∨ (Value.slice s.A2 s.n2 s.c2).ownBlock = some q) → q < lo2) (hg : gs < lo2) :
    XAt (w.setCell ⟨gs, 2, none⟩ (.slice s2.A3 s2.n3 s2.c3)) gs lo ⟨s.A1, s.n1, s.c1, s.A2, s.n2, s.c2, s2.A3, s2.n3, s2.c3⟩ ⟨x.st, x.rm, x2.wy⟩ := by
  have n3 : (Value.slice s2.A3 s2.n3 s2.c3).ownBlock ≠ some gs := fun e => by have := (h2.own.wy.lt _ e).1; omega
  exact ⟨(World.cell?_setCell_other _ _ _ _ (by simp)).trans h.k0, (World.cell?_setCell_other _ _ _ _ (by simp)).trans h.k1, World.cell?_setCell_same _ _ _ h.k2, by simpa using h.f0, by simpa using h.f1, by simpa using h.f2,
    ⟨ow_set h.o1 h.own.st, ow_set h.o2 h.own.rm, ow_set (p := ⟨gs, 2, none⟩) n3 (h2.own.wy.mono hl), h.own.ap12, fun b hb e => by have := hs b (.inl hb); have := (h2.own.wy.lt _ e).1; omega, fun b hb e => by have := hs b (.inr hb); have := (h2.own.wy.lt _ e).1; omega⟩, h.o1, h.o2, n3⟩
theorem Kin.take3 {s s2 : SV} {H : Nat} (h : ∀ q, (Value.slice s2.A3 s2.n3 s2.c3).ownBlock = some q → H ≤ q) : Kin s ⟨s.A1, s.n1, s.c1, s.A2, s.n2, s.c2, s2.A3, s2.n3, s2.c3⟩ H := fun q hq => by
  rcases hq with h1 | h1 | h1
  · exact .inl (.inl h1)
  · exact .inl (.inr (.inl h1))
  · exact .inr (h q h1)
set_option maxHeartbeats 8000000 in
set_option maxRecDepth 100000 in
theorem l21Row_any (gs lo B0 : Nat) (s : SV) (x : Sch) (row : ByteArray) (w : World) (hg0 : B0 ≤ gs) (hlo : B0 ≤ lo) (hlw : lo ≤ w.heap.size) (hz : row.size ≤ 1048576) (hl : x.st.length ≤ 20) (hl2 : x.rm.length ≤ 1000000) (hl3 : x.wy.length ≤ 60) (h : XAt w gs lo s x) :
    Calls Tryz.prog 28 #[.pointer (some ⟨gs, 0, none⟩), .string row] w (AddG gs lo B0 s w (rowF x (wordsR row)).2 (rowF x (wordsR row)).1) := by
  have cW := splitWordsS_any row w hz
  obtain ⟨ws, hws⟩ : ∃ ws, ws = wordsR row := ⟨_, rfl⟩
  have hsz : ∀ z ∈ ws, z.size ≤ 1048576 := fun z hz2 => Nat.le_trans (words_size (by rw [← hws]; exact hz2)) hz
  rw [← hws] at cW ⊢
  have hgw := h.lt
  have hbw : B0 ≤ w.heap.size := by omega
  have Hh := hid h
  clear hws h hz
  have cS := fun (z : ByteArray) (W : World) (hz : z.size ≤ 1048576) (hb : Below w.heap.size w W) => l21StationG_any gs lo B0 s x z W hg0 hlo (Nat.le_trans hlw hb.size) (by omega) hl (Hh.out.below hb)
  have cR := fun (z : ByteArray) (W : World) (hz : z.size ≤ 1048576) (hb : Below w.heap.size w W) => l21RoomG_any gs lo B0 s x z W hg0 hlo (Nat.le_trans hlw hb.size) (by omega) hl (by omega) (Hh.out.below hb)
  have CS := hid cS
  have CR := hid cR
  clear cS cR
  rcases ws with _ | ⟨z0, rs⟩
  · skip
    have E : Hid (rowF x [] = (x, 0)) := rfl
    go_enter Tryz.func28, Tryz.ntmps28
    go_wp2_with fail
    refine cW.mono ?_
    rintro r w1 ⟨A, n, c, rfl, ho, hb⟩
    have hn := own_len encS_len (by omega) ho
    simp only [List.length_nil] at hn
    subst hn
    have HB := hid hb
    have z1w := hb.size
    clear ho cW
    go_wp2_with fail
    go_ret
    exact AddG.stay (retI (by rw [E.out])) (by rw [E.out]) Hh.out HB.out hbw
  by_cases hDD : z0 = kDD
  · have hz0 := hDD
    have E : Hid (rowF x (z0 :: rs) = (x, 0)) := by rw [hz0]; simp [Hid, rowF, bAt]
    have qDD : (z0.toList == [45, 45]) = true := bl_in hz0
    have qST : (z0.toList == [115, 116, 97, 116, 105, 111, 110]) = false := bl_ne (by rw [hz0]; decide)
    have qRM : (z0.toList == [114, 111, 111, 109]) = false := bl_ne (by rw [hz0]; decide)
    have qTB : (z0.toList == [116, 117, 98, 101]) = false := bl_ne (by rw [hz0]; decide)
    have qPR : (z0.toList == [112, 97, 105, 114]) = false := bl_ne (by rw [hz0]; decide)
    clear hDD hz0
    go_enter Tryz.func28, Tryz.ntmps28
    go_wp2_with fail
    refine cW.mono ?_
    rintro r w1 ⟨A, n, c, rfl, ho, hb⟩
    have hn := own_len encS_len (by omega) ho
    simp only [List.length_cons] at hn
    obtain ⟨g, rfl, K0⟩ := word_cell ho (i := 0) (z := z0) rfl
    have N0 : ¬ n = 0 := by omega
    have N1 : 0 < n := by omega
    have N2 : ((n : Int) == 0) = false := by simp; omega
    skip
    clear hn
    have lg := World.block_lt_of_cell? _ _ K0
    simp only at lg
    have HB := hid hb
    have z1w := hb.size
    clear ho cW
    go_wp2_with fail
    go_ret
    exact AddG.stay (retI (by rw [E.out])) (by rw [E.out]) Hh.out HB.out hbw
  have hz1 : ∀ z ∈ rs, z.size ≤ 1048576 := fun z hz => hsz z (List.mem_cons_of_mem _ hz)
  clear hsz
  by_cases hST : z0 = kST
  · have hz0 := hST
    by_cases hn2 : rs.length + 1 = 2
    · skip
      obtain ⟨z1, rfl⟩ : ∃ z1, rs = [z1] := by
        rcases rs with _ | ⟨z1, _ | ⟨z2, r⟩⟩
        · simp at hn2
        · exact ⟨z1, rfl⟩
        · simp at hn2
      have hs1 := hz1 z1 (by simp)
      have E : Hid (rowF x [z0, z1] = (addSt x z1, stF x.st z1)) := by rw [hz0]; simp [Hid, rowF, bAt, kST_dd, addSt]
      have qDD : (z0.toList == [45, 45]) = false := bl_ne (by rw [hz0]; decide)
      have qST : (z0.toList == [115, 116, 97, 116, 105, 111, 110]) = true := bl_in hz0
      have qRM : (z0.toList == [114, 111, 111, 109]) = false := bl_ne (by rw [hz0]; decide)
      have qTB : (z0.toList == [116, 117, 98, 101]) = false := bl_ne (by rw [hz0]; decide)
      have qPR : (z0.toList == [112, 97, 105, 114]) = false := bl_ne (by rw [hz0]; decide)
      clear hz0 hST hDD hz1 hn2
      go_enter Tryz.func28, Tryz.ntmps28
      go_wp2_with fail
      refine cW.mono ?_
      rintro r w1 ⟨A, n, c, rfl, ho, hb⟩
      have hn := own_len encS_len (by omega) ho
      simp only [List.length_cons, List.length_nil] at hn
      obtain ⟨g, rfl, K0⟩ := word_cell ho (i := 0) (z := z0) rfl
      obtain rfl : n = 2 := hn
      obtain ⟨g1, e1, K1⟩ := word_cell ho (i := 1) (z := z1) rfl
      obtain rfl : g = g1 := by injection e1 with e; injection e
      have lg := World.block_lt_of_cell? _ _ K0
      simp only at lg
      have HB := hid hb
      have z1w := hb.size
      clear ho cW
      go_wp2_with fail
      refine (CS.out z1 _ hs1 HB.out).mono ?_
      rintro r w2 ⟨rfl, h3⟩
      go_wp2_with fail
      go_ret
      rw [E.out]
      exact AddG.below ⟨rfl, h3⟩ HB.out hbw
    · skip
      have E : Hid (rowF x (z0 :: rs) = (x, 2)) := by rw [hz0]; exact row_bad2 (.inl rfl) hn2
      have X1 : ((rs.length + 1 : Nat) : Int) = 2 → False := fun e => hn2 (by omega)
      have qDD : (z0.toList == [45, 45]) = false := bl_ne (by rw [hz0]; decide)
      have qST : (z0.toList == [115, 116, 97, 116, 105, 111, 110]) = true := bl_in hz0
      have qRM : (z0.toList == [114, 111, 111, 109]) = false := bl_ne (by rw [hz0]; decide)
      have qTB : (z0.toList == [116, 117, 98, 101]) = false := bl_ne (by rw [hz0]; decide)
      have qPR : (z0.toList == [112, 97, 105, 114]) = false := bl_ne (by rw [hz0]; decide)
      clear hz0 hST X1 hz1
      go_enter Tryz.func28, Tryz.ntmps28
      go_wp2_with fail
      refine cW.mono ?_
      rintro r w1 ⟨A, n, c, rfl, ho, hb⟩
      have hn := own_len encS_len (by omega) ho
      simp only [List.length_cons] at hn
      obtain ⟨g, rfl, K0⟩ := word_cell ho (i := 0) (z := z0) rfl
      have N0 : ¬ n = 0 := by omega
      have N1 : 0 < n := by omega
      have N2 : ((n : Int) == 0) = false := by simp; omega
      have N5 : ((n : Int) == 2) = false := by simp; omega
      have N6 : ¬ n = 2 := by omega
      have N7 : ((n : Int) != 2) = true := by simp; omega
      clear hn
      have lg := World.block_lt_of_cell? _ _ K0
      simp only at lg
      have HB := hid hb
      have z1w := hb.size
      clear ho cW
      go_wp2_with fail
      go_ret
      exact AddG.stay (retI (by rw [E.out])) (by rw [E.out]) Hh.out HB.out hbw
  by_cases hRM : z0 = kRM
  · have hz0 := hRM
    by_cases hn2 : rs.length + 1 = 2
    · skip
      obtain ⟨z1, rfl⟩ : ∃ z1, rs = [z1] := by
        rcases rs with _ | ⟨z1, _ | ⟨z2, r⟩⟩
        · simp at hn2
        · exact ⟨z1, rfl⟩
        · simp at hn2
      have hs1 := hz1 z1 (by simp)
      have E : Hid (rowF x [z0, z1] = (addRm x z1, rmF x.st x.rm z1)) := by rw [hz0]; simp [Hid, rowF, bAt, kRM_dd.1, kRM_dd.2, addRm]
      have qDD : (z0.toList == [45, 45]) = false := bl_ne (by rw [hz0]; decide)
      have qST : (z0.toList == [115, 116, 97, 116, 105, 111, 110]) = false := bl_ne (by rw [hz0]; decide)
      have qRM : (z0.toList == [114, 111, 111, 109]) = true := bl_in hz0
      have qTB : (z0.toList == [116, 117, 98, 101]) = false := bl_ne (by rw [hz0]; decide)
      have qPR : (z0.toList == [112, 97, 105, 114]) = false := bl_ne (by rw [hz0]; decide)
      clear hz0 hRM hST hDD hz1 hn2
      go_enter Tryz.func28, Tryz.ntmps28
      go_wp2_with fail
      refine cW.mono ?_
      rintro r w1 ⟨A, n, c, rfl, ho, hb⟩
      have hn := own_len encS_len (by omega) ho
      simp only [List.length_cons, List.length_nil] at hn
      obtain ⟨g, rfl, K0⟩ := word_cell ho (i := 0) (z := z0) rfl
      obtain rfl : n = 2 := hn
      obtain ⟨g1, e1, K1⟩ := word_cell ho (i := 1) (z := z1) rfl
      obtain rfl : g = g1 := by injection e1 with e; injection e
      have lg := World.block_lt_of_cell? _ _ K0
      simp only at lg
      have HB := hid hb
      have z1w := hb.size
      clear ho cW
      go_wp2_with fail
      refine (CR.out z1 _ hs1 HB.out).mono ?_
      rintro r w2 ⟨rfl, h3⟩
      go_wp2_with fail
      go_ret
      rw [E.out]
      exact AddG.below ⟨rfl, h3⟩ HB.out hbw
    · skip
      have E : Hid (rowF x (z0 :: rs) = (x, 2)) := by rw [hz0]; exact row_bad2 (.inr rfl) hn2
      have X1 : ((rs.length + 1 : Nat) : Int) = 2 → False := fun e => hn2 (by omega)
      have qDD : (z0.toList == [45, 45]) = false := bl_ne (by rw [hz0]; decide)
      have qST : (z0.toList == [115, 116, 97, 116, 105, 111, 110]) = false := bl_ne (by rw [hz0]; decide)
      have qRM : (z0.toList == [114, 111, 111, 109]) = true := bl_in hz0
      have qTB : (z0.toList == [116, 117, 98, 101]) = false := bl_ne (by rw [hz0]; decide)
      have qPR : (z0.toList == [112, 97, 105, 114]) = false := bl_ne (by rw [hz0]; decide)
      clear hz0 hRM X1 hz1
      go_enter Tryz.func28, Tryz.ntmps28
      go_wp2_with fail
      refine cW.mono ?_
      rintro r w1 ⟨A, n, c, rfl, ho, hb⟩
      have hn := own_len encS_len (by omega) ho
      simp only [List.length_cons] at hn
      obtain ⟨g, rfl, K0⟩ := word_cell ho (i := 0) (z := z0) rfl
      have N0 : ¬ n = 0 := by omega
      have N1 : 0 < n := by omega
      have N2 : ((n : Int) == 0) = false := by simp; omega
      have N5 : ((n : Int) == 2) = false := by simp; omega
      have N6 : ¬ n = 2 := by omega
      have N7 : ((n : Int) != 2) = true := by simp; omega
      clear hn
      have lg := World.block_lt_of_cell? _ _ K0
      simp only at lg
      have HB := hid hb
      have z1w := hb.size
      clear ho cW
      go_wp2_with fail
      go_ret
      exact AddG.stay (retI (by rw [E.out])) (by rw [E.out]) Hh.out HB.out hbw
  by_cases hTB : z0 = kTB
  · have hz0 := hTB
    by_cases hn4 : rs.length + 1 = 4
    · skip
      obtain ⟨z1, z2, z3, rfl⟩ : ∃ z1 z2 z3, rs = [z1, z2, z3] := by
        rcases rs with _ | ⟨z1, _ | ⟨z2, _ | ⟨z3, _ | ⟨z4, r⟩⟩⟩⟩
        · simp at hn4
        · simp at hn4
        · simp at hn4
        · exact ⟨z1, z2, z3, rfl⟩
        · simp at hn4
      have hs3 := hz1 z3 (by simp)
      have E : Hid (rowF x [z0, z1, z2, z3] = tubeO x z1 z2 (rdN z3.data.toList)) := by rw [hz0]; exact row_tube
      have cd := fun (W : World) => l01Number_any z3 W
      generalize rdN z3.data.toList = q at E cd
      have qDD : (z0.toList == [45, 45]) = false := bl_ne (by rw [hz0]; decide)
      have qST : (z0.toList == [115, 116, 97, 116, 105, 111, 110]) = false := bl_ne (by rw [hz0]; decide)
      have qRM : (z0.toList == [114, 111, 111, 109]) = false := bl_ne (by rw [hz0]; decide)
      have qTB : (z0.toList == [116, 117, 98, 101]) = true := bl_in hz0
      have qPR : (z0.toList == [112, 97, 105, 114]) = false := bl_ne (by rw [hz0]; decide)
      clear hz0 hTB hRM hST hDD hz1 hn4
      cases q with
      | none =>
        skip
        go_enter Tryz.func28, Tryz.ntmps28
        go_wp2_with fail
        refine cW.mono ?_
        rintro r w1 ⟨A, n, c, rfl, ho, hb⟩
        have hn := own_len encS_len (by omega) ho
        simp only [List.length_cons, List.length_nil] at hn
        obtain ⟨g, rfl, K0⟩ := word_cell ho (i := 0) (z := z0) rfl
        obtain rfl : n = 4 := hn
        obtain ⟨g1, e1, K1⟩ := word_cell ho (i := 1) (z := z1) rfl
        obtain rfl : g = g1 := by injection e1 with e; injection e
        obtain ⟨g2, e2, K2⟩ := word_cell ho (i := 2) (z := z2) rfl
        obtain rfl : g = g2 := by injection e2 with e; injection e
        obtain ⟨g3, e3, K3⟩ := word_cell ho (i := 3) (z := z3) rfl
        obtain rfl : g = g3 := by injection e3 with e; injection e
        have lg := World.block_lt_of_cell? _ _ K0
        simp only at lg
        have HB := hid hb
        have z1w := hb.size
        have ho2 := ho.lt
        clear ho cW
        go_wp2_with fail
        refine (cd _ hs3).mono ?_
        rintro r w2 ⟨rfl, b2⟩
        have HB2 := hid (HB.out.trans (b2.mono z1w))
        have z2w := b2.size
        replace K0 := below_cell K0 b2
        replace K1 := below_cell K1 b2
        replace K2 := below_cell K2 b2
        replace lg := Nat.lt_of_lt_of_le lg z2w
        have hgw2 : gs ≠ g := fun e => by have := (ho2 _ rfl).1; simp only at this; omega
        clear b2 K3 cd hb
        simp only [numO]
        go_wp2_with fail
        go_ret
        exact AddG.stay (retI (by rw [E.out]; rfl)) (by rw [E.out]; rfl) Hh.out HB2.out hbw
      | some m =>
        skip
        go_enter Tryz.func28, Tryz.ntmps28
        go_wp2_with fail
        refine cW.mono ?_
        rintro r w1 ⟨A, n, c, rfl, ho, hb⟩
        have hn := own_len encS_len (by omega) ho
        simp only [List.length_cons, List.length_nil] at hn
        obtain ⟨g, rfl, K0⟩ := word_cell ho (i := 0) (z := z0) rfl
        obtain rfl : n = 4 := hn
        obtain ⟨g1, e1, K1⟩ := word_cell ho (i := 1) (z := z1) rfl
        obtain rfl : g = g1 := by injection e1 with e; injection e
        obtain ⟨g2, e2, K2⟩ := word_cell ho (i := 2) (z := z2) rfl
        obtain rfl : g = g2 := by injection e2 with e; injection e
        obtain ⟨g3, e3, K3⟩ := word_cell ho (i := 3) (z := z3) rfl
        obtain rfl : g = g3 := by injection e3 with e; injection e
        have lg := World.block_lt_of_cell? _ _ K0
        simp only at lg
        have HB := hid hb
        have z1w := hb.size
        have ho2 := ho.lt
        clear ho cW
        go_wp2_with fail
        refine (cd _ hs3).mono ?_
        rintro r w2 ⟨rfl, b2⟩
        have HB2 := hid (HB.out.trans (b2.mono z1w))
        have z2w := b2.size
        replace K0 := below_cell K0 b2
        replace K1 := below_cell K1 b2
        replace K2 := below_cell K2 b2
        replace lg := Nat.lt_of_lt_of_le lg z2w
        have hgw2 : gs ≠ g := fun e => by have := (ho2 _ rfl).1; simp only at this; omega
        clear b2 K3 cd hb
        simp only [numO]
        have cT := fun W hb => l21TubeG_any gs lo B0 s x z1 z2 m W hg0 hlo (Nat.le_trans hlw (Below.size hb)) hl hl3 (Hh.out.below hb)
        have hAo := fun q (hq : s.has q) => (Hh.out.has_lt hq).2
        go_wp2_with fail
        refine wp_region_last (n := 10) (S := (fun W => W.cell? ⟨g, 1, none⟩ = some (.string z1) ∧ W.cell? ⟨g, 2, none⟩ = some (.string z2))) (by kernel_rfl) (by kernel_rfl) ?_ (fun hHeld => ?_)
        · (try dsimp only); exact ⟨K1, K2⟩
        refine wpAnyH_take (i := 0) (oi := ⟨some 65, Go.Op.move (Go.Operand.tmp 0), 49, "l21_language.go:98", #[], none⟩) (v := ?_) rfl (by kernel_rfl) (by kernel_rfl) (by kernel_rfl) (fun _ _ _ h => h) (Or.inl ⟨by rfl, ?_⟩) (by assumption) ?_
        rotate_left
        · intro w hSw; (try dsimp only at hSw); go_split_ands; go_simp; first | done | with_reducible rfl
        (try simp only [Act.put, List.setIfInBounds_toArray, List.set_cons_zero, List.set_cons_succ])
        refine wpAnyH_take (i := 1) (oi := ⟨some 66, Go.Op.move (Go.Operand.tmp 5), 22, "l21_language.go:98", #[], none⟩) (v := ?_) rfl (by kernel_rfl) (by kernel_rfl) (by kernel_rfl) (fun _ _ _ h => h) (Or.inl ⟨by rfl, ?_⟩) (by assumption) ?_
        rotate_left
        · intro w hSw; (try dsimp only at hSw); go_split_ands; go_simp; first | done | with_reducible rfl
        (try simp only [Act.put, List.setIfInBounds_toArray, List.set_cons_zero, List.set_cons_succ])
        refine wpAnyH_take (i := 2) (oi := ⟨some 67, Go.Op.indexAddr 22 (Go.Operand.tmp 66) (Go.Operand.const (Go.Value.int Go.IntKind.i64 1)), 0, "l21_language.go:98", #[⟨1, Go.Ground.data⟩], none⟩) (v := ?_) rfl (by kernel_rfl) (by kernel_rfl) (by kernel_rfl) (fun _ _ _ h => h) (Or.inl ⟨by rfl, ?_⟩) (by assumption) ?_
        rotate_left
        · intro w hSw; (try dsimp only at hSw); go_split_ands; go_simp; first | done | with_reducible rfl
        (try simp only [Act.put, List.setIfInBounds_toArray, List.set_cons_zero, List.set_cons_succ])
        refine wpAnyH_take (i := 3) (oi := ⟨some 68, Go.Op.load 9 (Go.Operand.tmp 67), 9, "l21_language.go:98", #[⟨2, Go.Ground.data⟩], none⟩) (v := ?_) rfl (by kernel_rfl) (by kernel_rfl) (by kernel_rfl) (fun _ _ _ h => h) (Or.inl ⟨by rfl, ?_⟩) (by assumption) ?_
        rotate_left
        · intro w hSw; (try dsimp only at hSw); go_split_ands; go_simp; first | done | with_reducible rfl
        (try simp only [Act.put, List.setIfInBounds_toArray, List.set_cons_zero, List.set_cons_succ])
        refine wpAnyH_take (i := 4) (oi := ⟨some 69, Go.Op.move (Go.Operand.tmp 5), 22, "l21_language.go:98", #[], none⟩) (v := ?_) rfl (by kernel_rfl) (by kernel_rfl) (by kernel_rfl) (fun _ _ _ h => h) (Or.inl ⟨by rfl, ?_⟩) (by assumption) ?_
        rotate_left
        · intro w hSw; (try dsimp only at hSw); go_split_ands; go_simp; first | done | with_reducible rfl
        (try simp only [Act.put, List.setIfInBounds_toArray, List.set_cons_zero, List.set_cons_succ])
        refine wpAnyH_take (i := 5) (oi := ⟨some 70, Go.Op.indexAddr 22 (Go.Operand.tmp 69) (Go.Operand.const (Go.Value.int Go.IntKind.i64 2)), 0, "l21_language.go:98", #[⟨4, Go.Ground.data⟩], none⟩) (v := ?_) rfl (by kernel_rfl) (by kernel_rfl) (by kernel_rfl) (fun _ _ _ h => h) (Or.inl ⟨by rfl, ?_⟩) (by assumption) ?_
        rotate_left
        · intro w hSw; (try dsimp only at hSw); go_split_ands; go_simp; first | done | with_reducible rfl
        (try simp only [Act.put, List.setIfInBounds_toArray, List.set_cons_zero, List.set_cons_succ])
        refine wpAnyH_take (i := 6) (oi := ⟨some 71, Go.Op.load 9 (Go.Operand.tmp 70), 9, "l21_language.go:98", #[⟨5, Go.Ground.data⟩], none⟩) (v := ?_) rfl (by kernel_rfl) (by kernel_rfl) (by kernel_rfl) (fun _ _ _ h => h) (Or.inl ⟨by rfl, ?_⟩) (by assumption) ?_
        rotate_left
        · intro w hSw; (try dsimp only at hSw); go_split_ands; go_simp; first | done | with_reducible rfl
        (try simp only [Act.put, List.setIfInBounds_toArray, List.set_cons_zero, List.set_cons_succ])
        refine wpAnyH_take (i := 7) (oi := ⟨some 72, Go.Op.move (Go.Operand.tmp 7), 2, "l21_language.go:98", #[], none⟩) (v := ?_) rfl (by kernel_rfl) (by kernel_rfl) (by kernel_rfl) (fun _ _ _ h => h) (Or.inl ⟨by rfl, ?_⟩) (by assumption) ?_
        rotate_left
        · intro w hSw; (try dsimp only at hSw); go_split_ands; go_simp; first | done | with_reducible rfl
        (try simp only [Act.put, List.setIfInBounds_toArray, List.set_cons_zero, List.set_cons_succ])
        refine wpAnyH_take (i := 8) (oi := ⟨some 73, Go.Op.build 62 #[(0, Go.Operand.tmp 68), (1, Go.Operand.tmp 71), (2, Go.Operand.tmp 72)], 62, "l21_language.go:98", #[⟨3, Go.Ground.data⟩, ⟨6, Go.Ground.data⟩, ⟨7, Go.Ground.data⟩], none⟩) (v := ?_) rfl (by kernel_rfl) (by kernel_rfl) (by kernel_rfl) (fun _ _ _ h => h) (Or.inl ⟨by rfl, ?_⟩) (by assumption) ?_
        rotate_left
        · intro w hSw; (try dsimp only at hSw); go_split_ands; go_simp; first | done | with_reducible rfl
        (try simp only [Act.put, List.setIfInBounds_toArray, List.set_cons_zero, List.set_cons_succ])
        refine wpAnyH_ready (rs := [9]) (by kernel_rfl) (by simp) ?_
        refine AllReadyH.cons rfl (fun K hK => ?_) ?_
        · skip
          go_simp
          refine (cT _ HB2.out.drew).mono ?_
          rintro r w4 ⟨rfl, h4⟩
          have far4 := h4.2.2
          refine hK.out _ _ ?_ (fun hH2 => ?_)
          · (try dsimp only); exact ⟨far4.cell (p := ⟨g, 1, none⟩) K1 hgw2.symm (fun e => by have := hAo _ e; have := (ho2 _ rfl).1; simp only at *; omega), far4.cell (p := ⟨g, 2, none⟩) K2 hgw2.symm (fun e => by have := hAo _ e; have := (ho2 _ rfl).1; simp only at *; omega)⟩
          clear hK K hHeld; have hHeld := hH2; clear hH2
          refine wpAnyH_done (by kernel_rfl) ?_ _
          refine last_step rfl rfl (fun K hK => ?_)
          go_simp
          refine hK.out _ _ ?_
          clear hK K
          go_wp2_with fail
          go_ret
          rw [E.out]
          exact AddG.below ⟨rfl, h4⟩ HB2.out.drew hbw
        exact AllReadyH.nil
    · skip
      have E : Hid (rowF x (z0 :: rs) = (x, 2)) := by rw [hz0]; exact row_bad4 (.inl rfl) hn4
      have X1 : ((rs.length + 1 : Nat) : Int) = 4 → False := fun e => hn4 (by omega)
      have qDD : (z0.toList == [45, 45]) = false := bl_ne (by rw [hz0]; decide)
      have qST : (z0.toList == [115, 116, 97, 116, 105, 111, 110]) = false := bl_ne (by rw [hz0]; decide)
      have qRM : (z0.toList == [114, 111, 111, 109]) = false := bl_ne (by rw [hz0]; decide)
      have qTB : (z0.toList == [116, 117, 98, 101]) = true := bl_in hz0
      have qPR : (z0.toList == [112, 97, 105, 114]) = false := bl_ne (by rw [hz0]; decide)
      clear hz0 hTB X1 hz1
      go_enter Tryz.func28, Tryz.ntmps28
      go_wp2_with fail
      refine cW.mono ?_
      rintro r w1 ⟨A, n, c, rfl, ho, hb⟩
      have hn := own_len encS_len (by omega) ho
      simp only [List.length_cons] at hn
      obtain ⟨g, rfl, K0⟩ := word_cell ho (i := 0) (z := z0) rfl
      have N0 : ¬ n = 0 := by omega
      have N1 : 0 < n := by omega
      have N2 : ((n : Int) == 0) = false := by simp; omega
      have N5 : ((n : Int) == 4) = false := by simp; omega
      have N6 : ¬ n = 4 := by omega
      have N7 : ((n : Int) != 4) = true := by simp; omega
      clear hn
      have lg := World.block_lt_of_cell? _ _ K0
      simp only at lg
      have HB := hid hb
      have z1w := hb.size
      clear ho cW
      go_wp2_with fail
      go_ret
      exact AddG.stay (retI (by rw [E.out])) (by rw [E.out]) Hh.out HB.out hbw
  by_cases hPR : z0 = kPR
  · have hz0 := hPR
    by_cases hn4 : rs.length + 1 = 4
    · skip
      obtain ⟨z1, z2, z3, rfl⟩ : ∃ z1 z2 z3, rs = [z1, z2, z3] := by
        rcases rs with _ | ⟨z1, _ | ⟨z2, _ | ⟨z3, _ | ⟨z4, r⟩⟩⟩⟩
        · simp at hn4
        · simp at hn4
        · simp at hn4
        · exact ⟨z1, z2, z3, rfl⟩
        · simp at hn4
      have hs3 := hz1 z3 (by simp)
      have E : Hid (rowF x [z0, z1, z2, z3] = pairO x z1 z2 (rdN z3.data.toList)) := by rw [hz0]; exact row_pair
      have cd := fun (W : World) => l01Number_any z3 W
      generalize rdN z3.data.toList = q at E cd
      have qDD : (z0.toList == [45, 45]) = false := bl_ne (by rw [hz0]; decide)
      have qST : (z0.toList == [115, 116, 97, 116, 105, 111, 110]) = false := bl_ne (by rw [hz0]; decide)
      have qRM : (z0.toList == [114, 111, 111, 109]) = false := bl_ne (by rw [hz0]; decide)
      have qTB : (z0.toList == [116, 117, 98, 101]) = false := bl_ne (by rw [hz0]; decide)
      have qPR : (z0.toList == [112, 97, 105, 114]) = true := bl_in hz0
      clear hz0 hPR hTB hRM hST hDD hz1 hn4
      cases q with
      | none =>
        skip
        go_enter Tryz.func28, Tryz.ntmps28
        go_wp2_with fail
        refine cW.mono ?_
        rintro r w1 ⟨A, n, c, rfl, ho, hb⟩
        have hn := own_len encS_len (by omega) ho
        simp only [List.length_cons, List.length_nil] at hn
        obtain ⟨g, rfl, K0⟩ := word_cell ho (i := 0) (z := z0) rfl
        obtain rfl : n = 4 := hn
        obtain ⟨g1, e1, K1⟩ := word_cell ho (i := 1) (z := z1) rfl
        obtain rfl : g = g1 := by injection e1 with e; injection e
        obtain ⟨g2, e2, K2⟩ := word_cell ho (i := 2) (z := z2) rfl
        obtain rfl : g = g2 := by injection e2 with e; injection e
        obtain ⟨g3, e3, K3⟩ := word_cell ho (i := 3) (z := z3) rfl
        obtain rfl : g = g3 := by injection e3 with e; injection e
        have lg := World.block_lt_of_cell? _ _ K0
        simp only at lg
        have HB := hid hb
        have z1w := hb.size
        have ho2 := ho.lt
        clear ho cW
        go_wp2_with fail
        refine (cd _ hs3).mono ?_
        rintro r w2 ⟨rfl, b2⟩
        have HB2 := hid (HB.out.trans (b2.mono z1w))
        have z2w := b2.size
        replace K0 := below_cell K0 b2
        replace K1 := below_cell K1 b2
        replace K2 := below_cell K2 b2
        replace lg := Nat.lt_of_lt_of_le lg z2w
        have hgw2 : gs ≠ g := fun e => by have := (ho2 _ rfl).1; simp only at this; omega
        clear b2 K3 cd hb
        simp only [numO]
        go_wp2_with fail
        go_ret
        exact AddG.stay (retI (by rw [E.out]; rfl)) (by rw [E.out]; rfl) Hh.out HB2.out hbw
      | some m =>
        skip
        have EP : pairO x z1 z2 (some m) = pairF x ⟨z1, z2, m⟩ := rfl
        rw [EP, pairF] at E
        clear EP
        have EA := hid (show addWy x ⟨z1, z2, m⟩ = if wyF x.st x.wy ⟨z1, z2, m⟩ = 0 then ⟨x.st, x.rm, x.wy ++ [⟨z1, z2, m⟩]⟩ else x from rfl)
        have hW0 := fun h => (wyF_zero (ss := x.st) (ws := x.wy) (x := ⟨z1, z2, m⟩) h).1
        have cTT := fun (gy lo2 : Nat) (s2 : SV) => l21TubeG_any gy lo2 lo2 s2 x z1 z2 m
        generalize wyF x.st x.wy ⟨z1, z2, m⟩ = F1 at E EA hW0 cTT
        by_cases hf1 : F1 = 0
        · skip
          rw [if_pos hf1] at E EA
          have hl61 : (x.wy ++ [(⟨z1, z2, m⟩ : Way)]).length ≤ 60 := by have := hW0 hf1; simp only [List.length_append, List.length_cons, List.length_nil]; omega
          subst hf1
          have EA2 := hid (show addWy ⟨x.st, x.rm, x.wy ++ [⟨z1, z2, m⟩]⟩ ⟨z2, z1, m⟩ = if wyF x.st (x.wy ++ [⟨z1, z2, m⟩]) ⟨z2, z1, m⟩ = 0 then ⟨x.st, x.rm, x.wy ++ [⟨z1, z2, m⟩] ++ [⟨z2, z1, m⟩]⟩ else ⟨x.st, x.rm, x.wy ++ [⟨z1, z2, m⟩]⟩ from rfl)
          have cT2 := fun (gy lo2 : Nat) (s2 : SV) => l21TubeG_any gy lo2 lo2 s2 ⟨x.st, x.rm, x.wy ++ [⟨z1, z2, m⟩]⟩ z2 z1 m
          simp only at cT2
          generalize wyF x.st (x.wy ++ [⟨z1, z2, m⟩]) ⟨z2, z1, m⟩ = F2 at E EA2 cT2
          by_cases hf2 : F2 = 0
          · rw [if_pos hf2] at E EA2
            subst hf2
            go_enter Tryz.func28, Tryz.ntmps28
            go_wp2_with fail
            refine cW.mono ?_
            rintro r w1 ⟨A, n, c, rfl, ho, hb⟩
            have hn := own_len encS_len (by omega) ho
            simp only [List.length_cons, List.length_nil] at hn
            obtain ⟨g, rfl, K0⟩ := word_cell ho (i := 0) (z := z0) rfl
            obtain rfl : n = 4 := hn
            obtain ⟨g1, e1, K1⟩ := word_cell ho (i := 1) (z := z1) rfl
            obtain rfl : g = g1 := by injection e1 with e; injection e
            obtain ⟨g2, e2, K2⟩ := word_cell ho (i := 2) (z := z2) rfl
            obtain rfl : g = g2 := by injection e2 with e; injection e
            obtain ⟨g3, e3, K3⟩ := word_cell ho (i := 3) (z := z3) rfl
            obtain rfl : g = g3 := by injection e3 with e; injection e
            have lg := World.block_lt_of_cell? _ _ K0
            simp only at lg
            have HB := hid hb
            have z1w := hb.size
            have ho2 := ho.lt
            clear ho cW
            go_wp2_with fail
            refine (cd _ hs3).mono ?_
            rintro r w2 ⟨rfl, b2⟩
            have HB2 := hid (HB.out.trans (b2.mono z1w))
            have z2w := b2.size
            replace K0 := below_cell K0 b2
            replace K1 := below_cell K1 b2
            replace K2 := below_cell K2 b2
            replace lg := Nat.lt_of_lt_of_le lg z2w
            have hgw2 : gs ≠ g := fun e => by have := (ho2 _ rfl).1; simp only at this; omega
            clear b2 K3 cd hb
            simp only [numO]
            have X2 := hid (Hh.out.below HB2.out)
            have z2x := HB2.out.size
            obtain ⟨V1, u1, v1, V2, u2, v2, V3, u3, v3⟩ := s
            have kx0 := X2.out.k0
            have kx1 := X2.out.k1
            have kx2 := X2.out.k2
            have hlen := X2.out.len
            simp only at kx0 kx1 kx2 hlen
            have hu : u1 ≤ 2000000 ∧ u2 ≤ 2000000 ∧ u3 ≤ 2000000 := by omega
            have HLx := hid hlen
            clear hlen
            have cO := l21Own_any gs V1 V2 V3 u1 v1 u2 v2 u3 v3 x w2 w2.heap.size (Nat.le_refl _) hu.1 hu.2.1 hu.2.2 X2.out.own.sl kx0 kx1 kx2
            clear hu
            go_wp2_with fail
            refine cO.mono ?_
            rintro r w4 ⟨Y1, d1, Y2, d2, Y3, d3, rfl, hO, b4⟩
            obtain ⟨W5, hW5⟩ : ∃ W5, W5 = w4.alloc (.cells #[.slice Y1 u1 d1, .slice Y2 u2 d2, .slice Y3 u3 d3] 25) := ⟨_, rfl⟩
            have b5 : Below w2.heap.size w2 W5 := by rw [hW5]; exact b4.alloc b4.size _
            have Y5 : XAt W5 w4.heap.size w2.heap.size ⟨Y1, u1, d1, Y2, u2, d2, Y3, u3, d3⟩ x := by rw [hW5]; exact XAt.boxed hO
            have z4 := b4.size
            have z5 := b5.size
            have HB5 := hid (HB2.out.trans (b5.mono z2x))
            replace K0 := below_cell K0 b5
            replace K1 := below_cell K1 b5
            replace K2 := below_cell K2 b5
            have HW5 := hid hW5
            have c1 := cTT w4.heap.size w2.heap.size _ W5.drew z4 (Nat.le_refl _) z5 hl hl3 (Y5.below (Below.refl _ _).drew)
            clear hW5 cO hO b4 b5 kx0 kx1 kx2 Y5 cTT
            go_wp2_with fail
            rw [← HW5.out]
            clear HW5
            refine wp_region_last (n := 9) (S := (fun W => W.cell? ⟨g, 1, none⟩ = some (.string z1) ∧ W.cell? ⟨g, 2, none⟩ = some (.string z2))) (by kernel_rfl) (by kernel_rfl) ?_ (fun hHeld => ?_)
            · (try dsimp only); exact ⟨K1, K2⟩
            refine wpAnyH_take (i := 0) (oi := ⟨some 77, Go.Op.move (Go.Operand.tmp 5), 22, "l21_language.go:102", #[], none⟩) (v := ?_) rfl (by kernel_rfl) (by kernel_rfl) (by kernel_rfl) (fun _ _ _ h => h) (Or.inl ⟨by rfl, ?_⟩) (by assumption) ?_
            rotate_left
            · intro w hSw; (try dsimp only at hSw); go_split_ands; go_simp; first | done | with_reducible rfl
            (try simp only [Act.put, List.setIfInBounds_toArray, List.set_cons_zero, List.set_cons_succ])
            refine wpAnyH_take (i := 1) (oi := ⟨some 78, Go.Op.indexAddr 22 (Go.Operand.tmp 77) (Go.Operand.const (Go.Value.int Go.IntKind.i64 1)), 0, "l21_language.go:102", #[⟨0, Go.Ground.data⟩], none⟩) (v := ?_) rfl (by kernel_rfl) (by kernel_rfl) (by kernel_rfl) (fun _ _ _ h => h) (Or.inl ⟨by rfl, ?_⟩) (by assumption) ?_
            rotate_left
            · intro w hSw; (try dsimp only at hSw); go_split_ands; go_simp; first | done | with_reducible rfl
            (try simp only [Act.put, List.setIfInBounds_toArray, List.set_cons_zero, List.set_cons_succ])
            refine wpAnyH_take (i := 2) (oi := ⟨some 79, Go.Op.load 9 (Go.Operand.tmp 78), 9, "l21_language.go:102", #[⟨1, Go.Ground.data⟩], none⟩) (v := ?_) rfl (by kernel_rfl) (by kernel_rfl) (by kernel_rfl) (fun _ _ _ h => h) (Or.inl ⟨by rfl, ?_⟩) (by assumption) ?_
            rotate_left
            · intro w hSw; (try dsimp only at hSw); go_split_ands; go_simp; first | done | with_reducible rfl
            (try simp only [Act.put, List.setIfInBounds_toArray, List.set_cons_zero, List.set_cons_succ])
            refine wpAnyH_take (i := 3) (oi := ⟨some 80, Go.Op.move (Go.Operand.tmp 5), 22, "l21_language.go:102", #[], none⟩) (v := ?_) rfl (by kernel_rfl) (by kernel_rfl) (by kernel_rfl) (fun _ _ _ h => h) (Or.inl ⟨by rfl, ?_⟩) (by assumption) ?_
            rotate_left
            · intro w hSw; (try dsimp only at hSw); go_split_ands; go_simp; first | done | with_reducible rfl
            (try simp only [Act.put, List.setIfInBounds_toArray, List.set_cons_zero, List.set_cons_succ])
            refine wpAnyH_take (i := 4) (oi := ⟨some 81, Go.Op.indexAddr 22 (Go.Operand.tmp 80) (Go.Operand.const (Go.Value.int Go.IntKind.i64 2)), 0, "l21_language.go:102", #[⟨3, Go.Ground.data⟩], none⟩) (v := ?_) rfl (by kernel_rfl) (by kernel_rfl) (by kernel_rfl) (fun _ _ _ h => h) (Or.inl ⟨by rfl, ?_⟩) (by assumption) ?_
            rotate_left
            · intro w hSw; (try dsimp only at hSw); go_split_ands; go_simp; first | done | with_reducible rfl
            (try simp only [Act.put, List.setIfInBounds_toArray, List.set_cons_zero, List.set_cons_succ])
            refine wpAnyH_take (i := 5) (oi := ⟨some 82, Go.Op.load 9 (Go.Operand.tmp 81), 9, "l21_language.go:102", #[⟨4, Go.Ground.data⟩], none⟩) (v := ?_) rfl (by kernel_rfl) (by kernel_rfl) (by kernel_rfl) (fun _ _ _ h => h) (Or.inl ⟨by rfl, ?_⟩) (by assumption) ?_
            rotate_left
            · intro w hSw; (try dsimp only at hSw); go_split_ands; go_simp; first | done | with_reducible rfl
            (try simp only [Act.put, List.setIfInBounds_toArray, List.set_cons_zero, List.set_cons_succ])
            refine wpAnyH_take (i := 6) (oi := ⟨some 83, Go.Op.move (Go.Operand.tmp 7), 2, "l21_language.go:102", #[], none⟩) (v := ?_) rfl (by kernel_rfl) (by kernel_rfl) (by kernel_rfl) (fun _ _ _ h => h) (Or.inl ⟨by rfl, ?_⟩) (by assumption) ?_
            rotate_left
            · intro w hSw; (try dsimp only at hSw); go_split_ands; go_simp; first | done | with_reducible rfl
            (try simp only [Act.put, List.setIfInBounds_toArray, List.set_cons_zero, List.set_cons_succ])
            refine wpAnyH_take (i := 7) (oi := ⟨some 84, Go.Op.build 62 #[(0, Go.Operand.tmp 79), (1, Go.Operand.tmp 82), (2, Go.Operand.tmp 83)], 62, "l21_language.go:102", #[⟨2, Go.Ground.data⟩, ⟨5, Go.Ground.data⟩, ⟨6, Go.Ground.data⟩], none⟩) (v := ?_) rfl (by kernel_rfl) (by kernel_rfl) (by kernel_rfl) (fun _ _ _ h => h) (Or.inl ⟨by rfl, ?_⟩) (by assumption) ?_
            rotate_left
            · intro w hSw; (try dsimp only at hSw); go_split_ands; go_simp; first | done | with_reducible rfl
            (try simp only [Act.put, List.setIfInBounds_toArray, List.set_cons_zero, List.set_cons_succ])
            refine wpAnyH_ready (rs := [8]) (by kernel_rfl) (by simp) ?_
            refine AllReadyH.cons rfl (fun K hK => ?_) ?_
            · skip
              go_simp
              refine c1.mono ?_
              rintro r w6 ⟨rfl, ⟨s6, X6, _⟩, b6, _⟩
              refine hK.out _ _ ?_ (fun hH2 => ?_)
              · (try dsimp only); exact ⟨(b6.cell (p := ⟨g, 1, none⟩) lg).trans K1, (b6.cell (p := ⟨g, 2, none⟩) lg).trans K2⟩
              clear hK K hHeld; have hHeld := hH2; clear hH2
              refine wpAnyH_done (by kernel_rfl) ?_ _
              refine last_step rfl rfl (fun K hK => ?_)
              go_simp
              refine hK.out _ _ ?_
              clear hK K
              rw [EA.out] at X6
              have HB6 := hid (HB5.out.drew.trans (b6.mono z2x))
              have z6 := b6.size
              replace K1 : w6.cell? ⟨g, 1, none⟩ = some (.string z1) := (b6.cell (p := ⟨g, 1, none⟩) lg).trans K1
              replace K2 : w6.cell? ⟨g, 2, none⟩ = some (.string z2) := (b6.cell (p := ⟨g, 2, none⟩) lg).trans K2
              have lg6 : g < w6.heap.size := World.block_lt_of_cell? _ _ K1
              have c2 := cT2 w4.heap.size w2.heap.size s6 w6.drew z4 (Nat.le_refl _) (Nat.le_trans z5 z6) hl hl61 (X6.below (Below.refl _ _).drew)
              clear b6 c1 hHeld X6 cT2 K0 hW0
              go_wp2_with fail
              refine wp_region_last (n := 9) (S := (fun W => W.cell? ⟨g, 1, none⟩ = some (.string z1) ∧ W.cell? ⟨g, 2, none⟩ = some (.string z2))) (by kernel_rfl) (by kernel_rfl) ?_ (fun hHeld => ?_)
              · (try dsimp only); exact ⟨K1, K2⟩
              refine wpAnyH_take (i := 0) (oi := ⟨some 88, Go.Op.move (Go.Operand.tmp 5), 22, "l21_language.go:104", #[], none⟩) (v := ?_) rfl (by kernel_rfl) (by kernel_rfl) (by kernel_rfl) (fun _ _ _ h => h) (Or.inl ⟨by rfl, ?_⟩) (by assumption) ?_
              rotate_left
              · intro w hSw; (try dsimp only at hSw); go_split_ands; go_simp; first | done | with_reducible rfl
              (try simp only [Act.put, List.setIfInBounds_toArray, List.set_cons_zero, List.set_cons_succ])
              refine wpAnyH_take (i := 1) (oi := ⟨some 89, Go.Op.indexAddr 22 (Go.Operand.tmp 88) (Go.Operand.const (Go.Value.int Go.IntKind.i64 2)), 0, "l21_language.go:104", #[⟨0, Go.Ground.data⟩], none⟩) (v := ?_) rfl (by kernel_rfl) (by kernel_rfl) (by kernel_rfl) (fun _ _ _ h => h) (Or.inl ⟨by rfl, ?_⟩) (by assumption) ?_
              rotate_left
              · intro w hSw; (try dsimp only at hSw); go_split_ands; go_simp; first | done | with_reducible rfl
              (try simp only [Act.put, List.setIfInBounds_toArray, List.set_cons_zero, List.set_cons_succ])
              refine wpAnyH_take (i := 2) (oi := ⟨some 90, Go.Op.load 9 (Go.Operand.tmp 89), 9, "l21_language.go:104", #[⟨1, Go.Ground.data⟩], none⟩) (v := ?_) rfl (by kernel_rfl) (by kernel_rfl) (by kernel_rfl) (fun _ _ _ h => h) (Or.inl ⟨by rfl, ?_⟩) (by assumption) ?_
              rotate_left
              · intro w hSw; (try dsimp only at hSw); go_split_ands; go_simp; first | done | with_reducible rfl
              (try simp only [Act.put, List.setIfInBounds_toArray, List.set_cons_zero, List.set_cons_succ])
              refine wpAnyH_take (i := 3) (oi := ⟨some 91, Go.Op.move (Go.Operand.tmp 5), 22, "l21_language.go:104", #[], none⟩) (v := ?_) rfl (by kernel_rfl) (by kernel_rfl) (by kernel_rfl) (fun _ _ _ h => h) (Or.inl ⟨by rfl, ?_⟩) (by assumption) ?_
              rotate_left
              · intro w hSw; (try dsimp only at hSw); go_split_ands; go_simp; first | done | with_reducible rfl
              (try simp only [Act.put, List.setIfInBounds_toArray, List.set_cons_zero, List.set_cons_succ])
              refine wpAnyH_take (i := 4) (oi := ⟨some 92, Go.Op.indexAddr 22 (Go.Operand.tmp 91) (Go.Operand.const (Go.Value.int Go.IntKind.i64 1)), 0, "l21_language.go:104", #[⟨3, Go.Ground.data⟩], none⟩) (v := ?_) rfl (by kernel_rfl) (by kernel_rfl) (by kernel_rfl) (fun _ _ _ h => h) (Or.inl ⟨by rfl, ?_⟩) (by assumption) ?_
              rotate_left
              · intro w hSw; (try dsimp only at hSw); go_split_ands; go_simp; first | done | with_reducible rfl
              (try simp only [Act.put, List.setIfInBounds_toArray, List.set_cons_zero, List.set_cons_succ])
              refine wpAnyH_take (i := 5) (oi := ⟨some 93, Go.Op.load 9 (Go.Operand.tmp 92), 9, "l21_language.go:104", #[⟨4, Go.Ground.data⟩], none⟩) (v := ?_) rfl (by kernel_rfl) (by kernel_rfl) (by kernel_rfl) (fun _ _ _ h => h) (Or.inl ⟨by rfl, ?_⟩) (by assumption) ?_
              rotate_left
              · intro w hSw; (try dsimp only at hSw); go_split_ands; go_simp; first | done | with_reducible rfl
              (try simp only [Act.put, List.setIfInBounds_toArray, List.set_cons_zero, List.set_cons_succ])
              refine wpAnyH_take (i := 6) (oi := ⟨some 94, Go.Op.move (Go.Operand.tmp 7), 2, "l21_language.go:104", #[], none⟩) (v := ?_) rfl (by kernel_rfl) (by kernel_rfl) (by kernel_rfl) (fun _ _ _ h => h) (Or.inl ⟨by rfl, ?_⟩) (by assumption) ?_
              rotate_left
              · intro w hSw; (try dsimp only at hSw); go_split_ands; go_simp; first | done | with_reducible rfl
              (try simp only [Act.put, List.setIfInBounds_toArray, List.set_cons_zero, List.set_cons_succ])
              refine wpAnyH_take (i := 7) (oi := ⟨some 95, Go.Op.build 62 #[(0, Go.Operand.tmp 90), (1, Go.Operand.tmp 93), (2, Go.Operand.tmp 94)], 62, "l21_language.go:104", #[⟨2, Go.Ground.data⟩, ⟨5, Go.Ground.data⟩, ⟨6, Go.Ground.data⟩], none⟩) (v := ?_) rfl (by kernel_rfl) (by kernel_rfl) (by kernel_rfl) (fun _ _ _ h => h) (Or.inl ⟨by rfl, ?_⟩) (by assumption) ?_
              rotate_left
              · intro w hSw; (try dsimp only at hSw); go_split_ands; go_simp; first | done | with_reducible rfl
              (try simp only [Act.put, List.setIfInBounds_toArray, List.set_cons_zero, List.set_cons_succ])
              refine wpAnyH_ready (rs := [8]) (by kernel_rfl) (by simp) ?_
              refine AllReadyH.cons rfl (fun K hK => ?_) ?_
              · skip
                go_simp
                refine c2.mono ?_
                rintro r w7 ⟨rfl, ⟨s7, X7, _⟩, b7, _⟩
                refine hK.out _ _ ?_ (fun hH2 => ?_)
                · (try dsimp only); exact ⟨(b7.cell (p := ⟨g, 1, none⟩) lg).trans K1, (b7.cell (p := ⟨g, 2, none⟩) lg).trans K2⟩
                clear hK K hHeld; have hHeld := hH2; clear hH2
                refine wpAnyH_done (by kernel_rfl) ?_ _
                refine last_step rfl rfl (fun K hK => ?_)
                go_simp
                refine hK.out _ _ ?_
                clear hK K
                have HB7 := hid (HB6.out.drew.trans (b7.mono z2x))
                have z7 := b7.size
                clear b7 c2 hHeld K1 K2
                rw [EA2.out] at X7
                have X8 := hid (Hh.out.below HB7.out)
                have q2 := X7.k2
                have q8 := X8.out.k2
                have f8 := X8.out.f2
                have l8 := X8.out.lt
                have l7 := X7.lt
                simp only at q2 q8 f8
                have XT := hid (XAt.take3 X8.out X7 (Nat.le_trans hlw z2x) (fun q hq => by rcases hq with h | h; exact (X2.out.own.st.lt _ h).2; exact (X2.out.own.rm.lt _ h).2) X2.out.lt)
                simp only at XT
                have KT := hid (Kin.take3 (s := ⟨V1, u1, v1, V2, u2, v2, V3, u3, v3⟩) (s2 := s7) (H := w.heap.size) (fun q hq => Nat.le_trans z2x (X7.own.wy.lt q hq).1))
                clear X7
                go_wp2_with fail
                go_ret
                exact ⟨retI (by rw [E.out]), ⟨_, by rw [E.out]; exact XT.out, KT.out⟩, bl_set hg0 (HB7.out.mono hbw), (FarB.of HB7.out).set⟩
              exact AllReadyH.nil
            exact AllReadyH.nil
          · rw [if_neg hf2] at E EA2
            have e0 : (F2 == 0) = false := by simpa using hf2
            have e1 : ¬ F2 = 0 := hf2
            go_enter Tryz.func28, Tryz.ntmps28
            go_wp2_with fail
            refine cW.mono ?_
            rintro r w1 ⟨A, n, c, rfl, ho, hb⟩
            have hn := own_len encS_len (by omega) ho
            simp only [List.length_cons, List.length_nil] at hn
            obtain ⟨g, rfl, K0⟩ := word_cell ho (i := 0) (z := z0) rfl
            obtain rfl : n = 4 := hn
            obtain ⟨g1, e1, K1⟩ := word_cell ho (i := 1) (z := z1) rfl
            obtain rfl : g = g1 := by injection e1 with e; injection e
            obtain ⟨g2, e2, K2⟩ := word_cell ho (i := 2) (z := z2) rfl
            obtain rfl : g = g2 := by injection e2 with e; injection e
            obtain ⟨g3, e3, K3⟩ := word_cell ho (i := 3) (z := z3) rfl
            obtain rfl : g = g3 := by injection e3 with e; injection e
            have lg := World.block_lt_of_cell? _ _ K0
            simp only at lg
            have HB := hid hb
            have z1w := hb.size
            have ho2 := ho.lt
            clear ho cW
            go_wp2_with fail
            refine (cd _ hs3).mono ?_
            rintro r w2 ⟨rfl, b2⟩
            have HB2 := hid (HB.out.trans (b2.mono z1w))
            have z2w := b2.size
            replace K0 := below_cell K0 b2
            replace K1 := below_cell K1 b2
            replace K2 := below_cell K2 b2
            replace lg := Nat.lt_of_lt_of_le lg z2w
            have hgw2 : gs ≠ g := fun e => by have := (ho2 _ rfl).1; simp only at this; omega
            clear b2 K3 cd hb
            simp only [numO]
            have X2 := hid (Hh.out.below HB2.out)
            have z2x := HB2.out.size
            obtain ⟨V1, u1, v1, V2, u2, v2, V3, u3, v3⟩ := s
            have kx0 := X2.out.k0
            have kx1 := X2.out.k1
            have kx2 := X2.out.k2
            have hlen := X2.out.len
            simp only at kx0 kx1 kx2 hlen
            have hu : u1 ≤ 2000000 ∧ u2 ≤ 2000000 ∧ u3 ≤ 2000000 := by omega
            have HLx := hid hlen
            clear hlen
            have cO := l21Own_any gs V1 V2 V3 u1 v1 u2 v2 u3 v3 x w2 w2.heap.size (Nat.le_refl _) hu.1 hu.2.1 hu.2.2 X2.out.own.sl kx0 kx1 kx2
            clear hu
            go_wp2_with fail
            refine cO.mono ?_
            rintro r w4 ⟨Y1, d1, Y2, d2, Y3, d3, rfl, hO, b4⟩
            obtain ⟨W5, hW5⟩ : ∃ W5, W5 = w4.alloc (.cells #[.slice Y1 u1 d1, .slice Y2 u2 d2, .slice Y3 u3 d3] 25) := ⟨_, rfl⟩
            have b5 : Below w2.heap.size w2 W5 := by rw [hW5]; exact b4.alloc b4.size _
            have Y5 : XAt W5 w4.heap.size w2.heap.size ⟨Y1, u1, d1, Y2, u2, d2, Y3, u3, d3⟩ x := by rw [hW5]; exact XAt.boxed hO
            have z4 := b4.size
            have z5 := b5.size
            have HB5 := hid (HB2.out.trans (b5.mono z2x))
            replace K0 := below_cell K0 b5
            replace K1 := below_cell K1 b5
            replace K2 := below_cell K2 b5
            have HW5 := hid hW5
            have c1 := cTT w4.heap.size w2.heap.size _ W5.drew z4 (Nat.le_refl _) z5 hl hl3 (Y5.below (Below.refl _ _).drew)
            clear hW5 cO hO b4 b5 kx0 kx1 kx2 Y5 cTT
            go_wp2_with fail
            rw [← HW5.out]
            clear HW5
            refine wp_region_last (n := 9) (S := (fun W => W.cell? ⟨g, 1, none⟩ = some (.string z1) ∧ W.cell? ⟨g, 2, none⟩ = some (.string z2))) (by kernel_rfl) (by kernel_rfl) ?_ (fun hHeld => ?_)
            · (try dsimp only); exact ⟨K1, K2⟩
            refine wpAnyH_take (i := 0) (oi := ⟨some 77, Go.Op.move (Go.Operand.tmp 5), 22, "l21_language.go:102", #[], none⟩) (v := ?_) rfl (by kernel_rfl) (by kernel_rfl) (by kernel_rfl) (fun _ _ _ h => h) (Or.inl ⟨by rfl, ?_⟩) (by assumption) ?_
            rotate_left
            · intro w hSw; (try dsimp only at hSw); go_split_ands; go_simp; first | done | with_reducible rfl
            (try simp only [Act.put, List.setIfInBounds_toArray, List.set_cons_zero, List.set_cons_succ])
            refine wpAnyH_take (i := 1) (oi := ⟨some 78, Go.Op.indexAddr 22 (Go.Operand.tmp 77) (Go.Operand.const (Go.Value.int Go.IntKind.i64 1)), 0, "l21_language.go:102", #[⟨0, Go.Ground.data⟩], none⟩) (v := ?_) rfl (by kernel_rfl) (by kernel_rfl) (by kernel_rfl) (fun _ _ _ h => h) (Or.inl ⟨by rfl, ?_⟩) (by assumption) ?_
            rotate_left
            · intro w hSw; (try dsimp only at hSw); go_split_ands; go_simp; first | done | with_reducible rfl
            (try simp only [Act.put, List.setIfInBounds_toArray, List.set_cons_zero, List.set_cons_succ])
            refine wpAnyH_take (i := 2) (oi := ⟨some 79, Go.Op.load 9 (Go.Operand.tmp 78), 9, "l21_language.go:102", #[⟨1, Go.Ground.data⟩], none⟩) (v := ?_) rfl (by kernel_rfl) (by kernel_rfl) (by kernel_rfl) (fun _ _ _ h => h) (Or.inl ⟨by rfl, ?_⟩) (by assumption) ?_
            rotate_left
            · intro w hSw; (try dsimp only at hSw); go_split_ands; go_simp; first | done | with_reducible rfl
            (try simp only [Act.put, List.setIfInBounds_toArray, List.set_cons_zero, List.set_cons_succ])
            refine wpAnyH_take (i := 3) (oi := ⟨some 80, Go.Op.move (Go.Operand.tmp 5), 22, "l21_language.go:102", #[], none⟩) (v := ?_) rfl (by kernel_rfl) (by kernel_rfl) (by kernel_rfl) (fun _ _ _ h => h) (Or.inl ⟨by rfl, ?_⟩) (by assumption) ?_
            rotate_left
            · intro w hSw; (try dsimp only at hSw); go_split_ands; go_simp; first | done | with_reducible rfl
            (try simp only [Act.put, List.setIfInBounds_toArray, List.set_cons_zero, List.set_cons_succ])
            refine wpAnyH_take (i := 4) (oi := ⟨some 81, Go.Op.indexAddr 22 (Go.Operand.tmp 80) (Go.Operand.const (Go.Value.int Go.IntKind.i64 2)), 0, "l21_language.go:102", #[⟨3, Go.Ground.data⟩], none⟩) (v := ?_) rfl (by kernel_rfl) (by kernel_rfl) (by kernel_rfl) (fun _ _ _ h => h) (Or.inl ⟨by rfl, ?_⟩) (by assumption) ?_
            rotate_left
            · intro w hSw; (try dsimp only at hSw); go_split_ands; go_simp; first | done | with_reducible rfl
            (try simp only [Act.put, List.setIfInBounds_toArray, List.set_cons_zero, List.set_cons_succ])
            refine wpAnyH_take (i := 5) (oi := ⟨some 82, Go.Op.load 9 (Go.Operand.tmp 81), 9, "l21_language.go:102", #[⟨4, Go.Ground.data⟩], none⟩) (v := ?_) rfl (by kernel_rfl) (by kernel_rfl) (by kernel_rfl) (fun _ _ _ h => h) (Or.inl ⟨by rfl, ?_⟩) (by assumption) ?_
            rotate_left
            · intro w hSw; (try dsimp only at hSw); go_split_ands; go_simp; first | done | with_reducible rfl
            (try simp only [Act.put, List.setIfInBounds_toArray, List.set_cons_zero, List.set_cons_succ])
            refine wpAnyH_take (i := 6) (oi := ⟨some 83, Go.Op.move (Go.Operand.tmp 7), 2, "l21_language.go:102", #[], none⟩) (v := ?_) rfl (by kernel_rfl) (by kernel_rfl) (by kernel_rfl) (fun _ _ _ h => h) (Or.inl ⟨by rfl, ?_⟩) (by assumption) ?_
            rotate_left
            · intro w hSw; (try dsimp only at hSw); go_split_ands; go_simp; first | done | with_reducible rfl
            (try simp only [Act.put, List.setIfInBounds_toArray, List.set_cons_zero, List.set_cons_succ])
            refine wpAnyH_take (i := 7) (oi := ⟨some 84, Go.Op.build 62 #[(0, Go.Operand.tmp 79), (1, Go.Operand.tmp 82), (2, Go.Operand.tmp 83)], 62, "l21_language.go:102", #[⟨2, Go.Ground.data⟩, ⟨5, Go.Ground.data⟩, ⟨6, Go.Ground.data⟩], none⟩) (v := ?_) rfl (by kernel_rfl) (by kernel_rfl) (by kernel_rfl) (fun _ _ _ h => h) (Or.inl ⟨by rfl, ?_⟩) (by assumption) ?_
            rotate_left
            · intro w hSw; (try dsimp only at hSw); go_split_ands; go_simp; first | done | with_reducible rfl
            (try simp only [Act.put, List.setIfInBounds_toArray, List.set_cons_zero, List.set_cons_succ])
            refine wpAnyH_ready (rs := [8]) (by kernel_rfl) (by simp) ?_
            refine AllReadyH.cons rfl (fun K hK => ?_) ?_
            · skip
              go_simp
              refine c1.mono ?_
              rintro r w6 ⟨rfl, ⟨s6, X6, _⟩, b6, _⟩
              refine hK.out _ _ ?_ (fun hH2 => ?_)
              · (try dsimp only); exact ⟨(b6.cell (p := ⟨g, 1, none⟩) lg).trans K1, (b6.cell (p := ⟨g, 2, none⟩) lg).trans K2⟩
              clear hK K hHeld; have hHeld := hH2; clear hH2
              refine wpAnyH_done (by kernel_rfl) ?_ _
              refine last_step rfl rfl (fun K hK => ?_)
              go_simp
              refine hK.out _ _ ?_
              clear hK K
              rw [EA.out] at X6
              have HB6 := hid (HB5.out.drew.trans (b6.mono z2x))
              have z6 := b6.size
              replace K1 : w6.cell? ⟨g, 1, none⟩ = some (.string z1) := (b6.cell (p := ⟨g, 1, none⟩) lg).trans K1
              replace K2 : w6.cell? ⟨g, 2, none⟩ = some (.string z2) := (b6.cell (p := ⟨g, 2, none⟩) lg).trans K2
              have lg6 : g < w6.heap.size := World.block_lt_of_cell? _ _ K1
              have c2 := cT2 w4.heap.size w2.heap.size s6 w6.drew z4 (Nat.le_refl _) (Nat.le_trans z5 z6) hl hl61 (X6.below (Below.refl _ _).drew)
              clear b6 c1 hHeld X6 cT2 K0 hW0
              go_wp2_with fail
              refine wp_region_last (n := 9) (S := (fun W => W.cell? ⟨g, 1, none⟩ = some (.string z1) ∧ W.cell? ⟨g, 2, none⟩ = some (.string z2))) (by kernel_rfl) (by kernel_rfl) ?_ (fun hHeld => ?_)
              · (try dsimp only); exact ⟨K1, K2⟩
              refine wpAnyH_take (i := 0) (oi := ⟨some 88, Go.Op.move (Go.Operand.tmp 5), 22, "l21_language.go:104", #[], none⟩) (v := ?_) rfl (by kernel_rfl) (by kernel_rfl) (by kernel_rfl) (fun _ _ _ h => h) (Or.inl ⟨by rfl, ?_⟩) (by assumption) ?_
              rotate_left
              · intro w hSw; (try dsimp only at hSw); go_split_ands; go_simp; first | done | with_reducible rfl
              (try simp only [Act.put, List.setIfInBounds_toArray, List.set_cons_zero, List.set_cons_succ])
              refine wpAnyH_take (i := 1) (oi := ⟨some 89, Go.Op.indexAddr 22 (Go.Operand.tmp 88) (Go.Operand.const (Go.Value.int Go.IntKind.i64 2)), 0, "l21_language.go:104", #[⟨0, Go.Ground.data⟩], none⟩) (v := ?_) rfl (by kernel_rfl) (by kernel_rfl) (by kernel_rfl) (fun _ _ _ h => h) (Or.inl ⟨by rfl, ?_⟩) (by assumption) ?_
              rotate_left
              · intro w hSw; (try dsimp only at hSw); go_split_ands; go_simp; first | done | with_reducible rfl
              (try simp only [Act.put, List.setIfInBounds_toArray, List.set_cons_zero, List.set_cons_succ])
              refine wpAnyH_take (i := 2) (oi := ⟨some 90, Go.Op.load 9 (Go.Operand.tmp 89), 9, "l21_language.go:104", #[⟨1, Go.Ground.data⟩], none⟩) (v := ?_) rfl (by kernel_rfl) (by kernel_rfl) (by kernel_rfl) (fun _ _ _ h => h) (Or.inl ⟨by rfl, ?_⟩) (by assumption) ?_
              rotate_left
              · intro w hSw; (try dsimp only at hSw); go_split_ands; go_simp; first | done | with_reducible rfl
              (try simp only [Act.put, List.setIfInBounds_toArray, List.set_cons_zero, List.set_cons_succ])
              refine wpAnyH_take (i := 3) (oi := ⟨some 91, Go.Op.move (Go.Operand.tmp 5), 22, "l21_language.go:104", #[], none⟩) (v := ?_) rfl (by kernel_rfl) (by kernel_rfl) (by kernel_rfl) (fun _ _ _ h => h) (Or.inl ⟨by rfl, ?_⟩) (by assumption) ?_
              rotate_left
              · intro w hSw; (try dsimp only at hSw); go_split_ands; go_simp; first | done | with_reducible rfl
              (try simp only [Act.put, List.setIfInBounds_toArray, List.set_cons_zero, List.set_cons_succ])
              refine wpAnyH_take (i := 4) (oi := ⟨some 92, Go.Op.indexAddr 22 (Go.Operand.tmp 91) (Go.Operand.const (Go.Value.int Go.IntKind.i64 1)), 0, "l21_language.go:104", #[⟨3, Go.Ground.data⟩], none⟩) (v := ?_) rfl (by kernel_rfl) (by kernel_rfl) (by kernel_rfl) (fun _ _ _ h => h) (Or.inl ⟨by rfl, ?_⟩) (by assumption) ?_
              rotate_left
              · intro w hSw; (try dsimp only at hSw); go_split_ands; go_simp; first | done | with_reducible rfl
              (try simp only [Act.put, List.setIfInBounds_toArray, List.set_cons_zero, List.set_cons_succ])
              refine wpAnyH_take (i := 5) (oi := ⟨some 93, Go.Op.load 9 (Go.Operand.tmp 92), 9, "l21_language.go:104", #[⟨4, Go.Ground.data⟩], none⟩) (v := ?_) rfl (by kernel_rfl) (by kernel_rfl) (by kernel_rfl) (fun _ _ _ h => h) (Or.inl ⟨by rfl, ?_⟩) (by assumption) ?_
              rotate_left
              · intro w hSw; (try dsimp only at hSw); go_split_ands; go_simp; first | done | with_reducible rfl
              (try simp only [Act.put, List.setIfInBounds_toArray, List.set_cons_zero, List.set_cons_succ])
              refine wpAnyH_take (i := 6) (oi := ⟨some 94, Go.Op.move (Go.Operand.tmp 7), 2, "l21_language.go:104", #[], none⟩) (v := ?_) rfl (by kernel_rfl) (by kernel_rfl) (by kernel_rfl) (fun _ _ _ h => h) (Or.inl ⟨by rfl, ?_⟩) (by assumption) ?_
              rotate_left
              · intro w hSw; (try dsimp only at hSw); go_split_ands; go_simp; first | done | with_reducible rfl
              (try simp only [Act.put, List.setIfInBounds_toArray, List.set_cons_zero, List.set_cons_succ])
              refine wpAnyH_take (i := 7) (oi := ⟨some 95, Go.Op.build 62 #[(0, Go.Operand.tmp 90), (1, Go.Operand.tmp 93), (2, Go.Operand.tmp 94)], 62, "l21_language.go:104", #[⟨2, Go.Ground.data⟩, ⟨5, Go.Ground.data⟩, ⟨6, Go.Ground.data⟩], none⟩) (v := ?_) rfl (by kernel_rfl) (by kernel_rfl) (by kernel_rfl) (fun _ _ _ h => h) (Or.inl ⟨by rfl, ?_⟩) (by assumption) ?_
              rotate_left
              · intro w hSw; (try dsimp only at hSw); go_split_ands; go_simp; first | done | with_reducible rfl
              (try simp only [Act.put, List.setIfInBounds_toArray, List.set_cons_zero, List.set_cons_succ])
              refine wpAnyH_ready (rs := [8]) (by kernel_rfl) (by simp) ?_
              refine AllReadyH.cons rfl (fun K hK => ?_) ?_
              · skip
                go_simp
                refine c2.mono ?_
                rintro r w7 ⟨rfl, ⟨s7, X7, _⟩, b7, _⟩
                refine hK.out _ _ ?_ (fun hH2 => ?_)
                · (try dsimp only); exact ⟨(b7.cell (p := ⟨g, 1, none⟩) lg).trans K1, (b7.cell (p := ⟨g, 2, none⟩) lg).trans K2⟩
                clear hK K hHeld; have hHeld := hH2; clear hH2
                refine wpAnyH_done (by kernel_rfl) ?_ _
                refine last_step rfl rfl (fun K hK => ?_)
                go_simp
                refine hK.out _ _ ?_
                clear hK K
                have HB7 := hid (HB6.out.drew.trans (b7.mono z2x))
                have z7 := b7.size
                clear b7 c2 hHeld K1 K2
                clear X7
                go_wp2_with fail
                go_ret
                exact AddG.stay (retI (by rw [E.out])) (by rw [E.out]) Hh.out HB7.out hbw
              exact AllReadyH.nil
            exact AllReadyH.nil
        · rw [if_neg hf1] at E EA
          have e0 : (F1 == 0) = false := by simpa using hf1
          have e1 : ¬ F1 = 0 := hf1
          go_enter Tryz.func28, Tryz.ntmps28
          go_wp2_with fail
          refine cW.mono ?_
          rintro r w1 ⟨A, n, c, rfl, ho, hb⟩
          have hn := own_len encS_len (by omega) ho
          simp only [List.length_cons, List.length_nil] at hn
          obtain ⟨g, rfl, K0⟩ := word_cell ho (i := 0) (z := z0) rfl
          obtain rfl : n = 4 := hn
          obtain ⟨g1, e1, K1⟩ := word_cell ho (i := 1) (z := z1) rfl
          obtain rfl : g = g1 := by injection e1 with e; injection e
          obtain ⟨g2, e2, K2⟩ := word_cell ho (i := 2) (z := z2) rfl
          obtain rfl : g = g2 := by injection e2 with e; injection e
          obtain ⟨g3, e3, K3⟩ := word_cell ho (i := 3) (z := z3) rfl
          obtain rfl : g = g3 := by injection e3 with e; injection e
          have lg := World.block_lt_of_cell? _ _ K0
          simp only at lg
          have HB := hid hb
          have z1w := hb.size
          have ho2 := ho.lt
          clear ho cW
          go_wp2_with fail
          refine (cd _ hs3).mono ?_
          rintro r w2 ⟨rfl, b2⟩
          have HB2 := hid (HB.out.trans (b2.mono z1w))
          have z2w := b2.size
          replace K0 := below_cell K0 b2
          replace K1 := below_cell K1 b2
          replace K2 := below_cell K2 b2
          replace lg := Nat.lt_of_lt_of_le lg z2w
          have hgw2 : gs ≠ g := fun e => by have := (ho2 _ rfl).1; simp only at this; omega
          clear b2 K3 cd hb
          simp only [numO]
          have X2 := hid (Hh.out.below HB2.out)
          have z2x := HB2.out.size
          obtain ⟨V1, u1, v1, V2, u2, v2, V3, u3, v3⟩ := s
          have kx0 := X2.out.k0
          have kx1 := X2.out.k1
          have kx2 := X2.out.k2
          have hlen := X2.out.len
          simp only at kx0 kx1 kx2 hlen
          have hu : u1 ≤ 2000000 ∧ u2 ≤ 2000000 ∧ u3 ≤ 2000000 := by omega
          have HLx := hid hlen
          clear hlen
          have cO := l21Own_any gs V1 V2 V3 u1 v1 u2 v2 u3 v3 x w2 w2.heap.size (Nat.le_refl _) hu.1 hu.2.1 hu.2.2 X2.out.own.sl kx0 kx1 kx2
          clear hu
          go_wp2_with fail
          refine cO.mono ?_
          rintro r w4 ⟨Y1, d1, Y2, d2, Y3, d3, rfl, hO, b4⟩
          obtain ⟨W5, hW5⟩ : ∃ W5, W5 = w4.alloc (.cells #[.slice Y1 u1 d1, .slice Y2 u2 d2, .slice Y3 u3 d3] 25) := ⟨_, rfl⟩
          have b5 : Below w2.heap.size w2 W5 := by rw [hW5]; exact b4.alloc b4.size _
          have Y5 : XAt W5 w4.heap.size w2.heap.size ⟨Y1, u1, d1, Y2, u2, d2, Y3, u3, d3⟩ x := by rw [hW5]; exact XAt.boxed hO
          have z4 := b4.size
          have z5 := b5.size
          have HB5 := hid (HB2.out.trans (b5.mono z2x))
          replace K0 := below_cell K0 b5
          replace K1 := below_cell K1 b5
          replace K2 := below_cell K2 b5
          have HW5 := hid hW5
          have c1 := cTT w4.heap.size w2.heap.size _ W5.drew z4 (Nat.le_refl _) z5 hl hl3 (Y5.below (Below.refl _ _).drew)
          clear hW5 cO hO b4 b5 kx0 kx1 kx2 Y5 cTT
          go_wp2_with fail
          rw [← HW5.out]
          clear HW5
          refine wp_region_last (n := 9) (S := (fun W => W.cell? ⟨g, 1, none⟩ = some (.string z1) ∧ W.cell? ⟨g, 2, none⟩ = some (.string z2))) (by kernel_rfl) (by kernel_rfl) ?_ (fun hHeld => ?_)
          · (try dsimp only); exact ⟨K1, K2⟩
          refine wpAnyH_take (i := 0) (oi := ⟨some 77, Go.Op.move (Go.Operand.tmp 5), 22, "l21_language.go:102", #[], none⟩) (v := ?_) rfl (by kernel_rfl) (by kernel_rfl) (by kernel_rfl) (fun _ _ _ h => h) (Or.inl ⟨by rfl, ?_⟩) (by assumption) ?_
          rotate_left
          · intro w hSw; (try dsimp only at hSw); go_split_ands; go_simp; first | done | with_reducible rfl
          (try simp only [Act.put, List.setIfInBounds_toArray, List.set_cons_zero, List.set_cons_succ])
          refine wpAnyH_take (i := 1) (oi := ⟨some 78, Go.Op.indexAddr 22 (Go.Operand.tmp 77) (Go.Operand.const (Go.Value.int Go.IntKind.i64 1)), 0, "l21_language.go:102", #[⟨0, Go.Ground.data⟩], none⟩) (v := ?_) rfl (by kernel_rfl) (by kernel_rfl) (by kernel_rfl) (fun _ _ _ h => h) (Or.inl ⟨by rfl, ?_⟩) (by assumption) ?_
          rotate_left
          · intro w hSw; (try dsimp only at hSw); go_split_ands; go_simp; first | done | with_reducible rfl
          (try simp only [Act.put, List.setIfInBounds_toArray, List.set_cons_zero, List.set_cons_succ])
          refine wpAnyH_take (i := 2) (oi := ⟨some 79, Go.Op.load 9 (Go.Operand.tmp 78), 9, "l21_language.go:102", #[⟨1, Go.Ground.data⟩], none⟩) (v := ?_) rfl (by kernel_rfl) (by kernel_rfl) (by kernel_rfl) (fun _ _ _ h => h) (Or.inl ⟨by rfl, ?_⟩) (by assumption) ?_
          rotate_left
          · intro w hSw; (try dsimp only at hSw); go_split_ands; go_simp; first | done | with_reducible rfl
          (try simp only [Act.put, List.setIfInBounds_toArray, List.set_cons_zero, List.set_cons_succ])
          refine wpAnyH_take (i := 3) (oi := ⟨some 80, Go.Op.move (Go.Operand.tmp 5), 22, "l21_language.go:102", #[], none⟩) (v := ?_) rfl (by kernel_rfl) (by kernel_rfl) (by kernel_rfl) (fun _ _ _ h => h) (Or.inl ⟨by rfl, ?_⟩) (by assumption) ?_
          rotate_left
          · intro w hSw; (try dsimp only at hSw); go_split_ands; go_simp; first | done | with_reducible rfl
          (try simp only [Act.put, List.setIfInBounds_toArray, List.set_cons_zero, List.set_cons_succ])
          refine wpAnyH_take (i := 4) (oi := ⟨some 81, Go.Op.indexAddr 22 (Go.Operand.tmp 80) (Go.Operand.const (Go.Value.int Go.IntKind.i64 2)), 0, "l21_language.go:102", #[⟨3, Go.Ground.data⟩], none⟩) (v := ?_) rfl (by kernel_rfl) (by kernel_rfl) (by kernel_rfl) (fun _ _ _ h => h) (Or.inl ⟨by rfl, ?_⟩) (by assumption) ?_
          rotate_left
          · intro w hSw; (try dsimp only at hSw); go_split_ands; go_simp; first | done | with_reducible rfl
          (try simp only [Act.put, List.setIfInBounds_toArray, List.set_cons_zero, List.set_cons_succ])
          refine wpAnyH_take (i := 5) (oi := ⟨some 82, Go.Op.load 9 (Go.Operand.tmp 81), 9, "l21_language.go:102", #[⟨4, Go.Ground.data⟩], none⟩) (v := ?_) rfl (by kernel_rfl) (by kernel_rfl) (by kernel_rfl) (fun _ _ _ h => h) (Or.inl ⟨by rfl, ?_⟩) (by assumption) ?_
          rotate_left
          · intro w hSw; (try dsimp only at hSw); go_split_ands; go_simp; first | done | with_reducible rfl
          (try simp only [Act.put, List.setIfInBounds_toArray, List.set_cons_zero, List.set_cons_succ])
          refine wpAnyH_take (i := 6) (oi := ⟨some 83, Go.Op.move (Go.Operand.tmp 7), 2, "l21_language.go:102", #[], none⟩) (v := ?_) rfl (by kernel_rfl) (by kernel_rfl) (by kernel_rfl) (fun _ _ _ h => h) (Or.inl ⟨by rfl, ?_⟩) (by assumption) ?_
          rotate_left
          · intro w hSw; (try dsimp only at hSw); go_split_ands; go_simp; first | done | with_reducible rfl
          (try simp only [Act.put, List.setIfInBounds_toArray, List.set_cons_zero, List.set_cons_succ])
          refine wpAnyH_take (i := 7) (oi := ⟨some 84, Go.Op.build 62 #[(0, Go.Operand.tmp 79), (1, Go.Operand.tmp 82), (2, Go.Operand.tmp 83)], 62, "l21_language.go:102", #[⟨2, Go.Ground.data⟩, ⟨5, Go.Ground.data⟩, ⟨6, Go.Ground.data⟩], none⟩) (v := ?_) rfl (by kernel_rfl) (by kernel_rfl) (by kernel_rfl) (fun _ _ _ h => h) (Or.inl ⟨by rfl, ?_⟩) (by assumption) ?_
          rotate_left
          · intro w hSw; (try dsimp only at hSw); go_split_ands; go_simp; first | done | with_reducible rfl
          (try simp only [Act.put, List.setIfInBounds_toArray, List.set_cons_zero, List.set_cons_succ])
          refine wpAnyH_ready (rs := [8]) (by kernel_rfl) (by simp) ?_
          refine AllReadyH.cons rfl (fun K hK => ?_) ?_
          · skip
            go_simp
            refine c1.mono ?_
            rintro r w6 ⟨rfl, ⟨s6, X6, _⟩, b6, _⟩
            refine hK.out _ _ ?_ (fun hH2 => ?_)
            · (try dsimp only); exact ⟨(b6.cell (p := ⟨g, 1, none⟩) lg).trans K1, (b6.cell (p := ⟨g, 2, none⟩) lg).trans K2⟩
            clear hK K hHeld; have hHeld := hH2; clear hH2
            refine wpAnyH_done (by kernel_rfl) ?_ _
            refine last_step rfl rfl (fun K hK => ?_)
            go_simp
            refine hK.out _ _ ?_
            clear hK K
            have HB6 := hid (HB5.out.drew.trans (b6.mono z2x))
            clear b6 c1 hHeld X6
            go_wp2_with fail
            go_ret
            exact AddG.stay (retI (by rw [E.out])) (by rw [E.out]) Hh.out HB6.out hbw
          exact AllReadyH.nil
    · skip
      have E : Hid (rowF x (z0 :: rs) = (x, 2)) := by rw [hz0]; exact row_bad4 (.inr rfl) hn4
      have X1 : ((rs.length + 1 : Nat) : Int) = 4 → False := fun e => hn4 (by omega)
      have qDD : (z0.toList == [45, 45]) = false := bl_ne (by rw [hz0]; decide)
      have qST : (z0.toList == [115, 116, 97, 116, 105, 111, 110]) = false := bl_ne (by rw [hz0]; decide)
      have qRM : (z0.toList == [114, 111, 111, 109]) = false := bl_ne (by rw [hz0]; decide)
      have qTB : (z0.toList == [116, 117, 98, 101]) = false := bl_ne (by rw [hz0]; decide)
      have qPR : (z0.toList == [112, 97, 105, 114]) = true := bl_in hz0
      clear hz0 hPR X1 hz1
      go_enter Tryz.func28, Tryz.ntmps28
      go_wp2_with fail
      refine cW.mono ?_
      rintro r w1 ⟨A, n, c, rfl, ho, hb⟩
      have hn := own_len encS_len (by omega) ho
      simp only [List.length_cons] at hn
      obtain ⟨g, rfl, K0⟩ := word_cell ho (i := 0) (z := z0) rfl
      have N0 : ¬ n = 0 := by omega
      have N1 : 0 < n := by omega
      have N2 : ((n : Int) == 0) = false := by simp; omega
      have N5 : ((n : Int) == 4) = false := by simp; omega
      have N6 : ¬ n = 4 := by omega
      have N7 : ((n : Int) != 4) = true := by simp; omega
      clear hn
      have lg := World.block_lt_of_cell? _ _ K0
      simp only at lg
      have HB := hid hb
      have z1w := hb.size
      clear ho cW
      go_wp2_with fail
      go_ret
      exact AddG.stay (retI (by rw [E.out])) (by rw [E.out]) Hh.out HB.out hbw
  have E : Hid (rowF x (z0 :: rs) = (x, 1)) := row_other hDD hST hRM hTB hPR
  have qDD : (z0.toList == [45, 45]) = false := bl_ne hDD
  have qST : (z0.toList == [115, 116, 97, 116, 105, 111, 110]) = false := bl_ne hST
  have qRM : (z0.toList == [114, 111, 111, 109]) = false := bl_ne hRM
  have qTB : (z0.toList == [116, 117, 98, 101]) = false := bl_ne hTB
  have qPR : (z0.toList == [112, 97, 105, 114]) = false := bl_ne hPR
  clear hDD hST hRM hTB hPR hz1
  go_enter Tryz.func28, Tryz.ntmps28
  go_wp2_with fail
  refine cW.mono ?_
  rintro r w1 ⟨A, n, c, rfl, ho, hb⟩
  have hn := own_len encS_len (by omega) ho
  simp only [List.length_cons] at hn
  obtain ⟨g, rfl, K0⟩ := word_cell ho (i := 0) (z := z0) rfl
  have N0 : ¬ n = 0 := by omega
  have N1 : 0 < n := by omega
  have N2 : ((n : Int) == 0) = false := by simp; omega
  skip
  clear hn
  have lg := World.block_lt_of_cell? _ _ K0
  simp only at lg
  have HB := hid hb
  have z1w := hb.size
  clear ho cW
  go_wp2_with fail
  go_ret
  exact AddG.stay (retI (by rw [E.out])) (by rw [E.out]) Hh.out HB.out hbw
end Go.Proofs.YtcgkcfmiabninaaGreatDoor
