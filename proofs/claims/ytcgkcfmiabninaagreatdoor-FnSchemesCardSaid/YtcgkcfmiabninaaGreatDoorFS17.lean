/-
  FS: texts RSchI, RSchS, RMark, one behind the other. No condition but what each says.
-/
import Derived.Test.YtcgkcfmiabninaaGreatDoorFS16
/-
  A scheme is read: the program's way. No condition but what lies laid.
-/
namespace Go.Proofs.YtcgkcfmiabninaaGreatDoor
open Go.RowKit
set_option maxHeartbeats 400000

set_option maxHeartbeats 8000000 in
set_option maxRecDepth 100000 in
theorem implReadScheme_any (t : ByteArray) (a : World) (hs : t.size ≤ 1048576) (L : LibW a) : Calls Tryz.prog 6 #[.string t] a (SchP a (readX t)) := by
  by_cases h3 : 3000 < t.size
  · have E : Hid (readX t = (⟨[], [], []⟩, [], 2)) := by rw [Hid, readX, if_pos h3]
    have g3 : (3000 : Int) < (t.size : Int) := by omega
    go_enter Tryz.func6, Tryz.ntmps6
    go_wp2_with fail
    refine bodyPost_ret (v := .tuple #[.agg #[.slice none 0 0, .slice none 0 0, .slice none 0 0], .slice none 0 0, .int .i64 2]) (by simp [results, Tryz.results6, go_sem]) rfl (SchP.long E.out rfl ((Below.refl _ _).alloc (Nat.le_refl _) _))
  · skip
    obtain ⟨rows, hrows⟩ : ∃ rows, rows = rowsOf t := ⟨_, rfl⟩
    have E : Hid (readX t = ((rowsF ⟨[], [], []⟩ [] 0 rows).1, (rowsF ⟨[], [], []⟩ [] 0 rows).2, 0)) := by rw [Hid, readX, if_neg h3, hrows]
    have cS := fun W (hb : Below a.heap.size a W) => splitI_any t 10 W hs (L.below hb)
    have hlen := splB_len 10 t
    have hone := splB_one 10 t
    have hsz : ∀ z ∈ rows, z.size ≤ 1048576 := fun z hz => by rw [hrows, rowsOf_spl] at hz; exact Nat.le_trans (splB_size hz) hs
    rw [← rowsOf_spl, ← hrows] at cS hlen hone
    obtain ⟨i0, hi, hz0, hz1, hz2⟩ := info_parts Fault_info
    have g3 : ¬ (3000 : Int) < (t.size : Int) := by omega
    have g4 : t.size ≤ 3000 := by omega
    have HL := hid L
    clear hrows h3 L
    obtain ⟨W2, hW2⟩ : ∃ W2, W2 = ((a.alloc (.cells #[.slice none 0 0, .slice none 0 0, .slice none 0 0] 25)).alloc (.cells #[] 42)).alloc (.cells #[.slice none 0 0, .slice none 0 0, .slice none 0 0] 25) := ⟨_, rfl⟩
    have b2 : Below a.heap.size a W2 := by rw [hW2]; exact (((Below.refl _ _).alloc (Nat.le_refl _) _).alloc (by simp) _).alloc (by simp; omega) _
    have X2 : XAt W2 (a.heap.size + 1 + 1) a.heap.size ⟨none, 0, 0, none, 0, 0, none, 0, 0⟩ ⟨[], [], []⟩ := by
      rw [hW2]
      exact ⟨by go_simp, by go_simp, by go_simp, by go_simp, by go_simp, by go_simp, ⟨World.ownsRow_nil _ _ _ _, World.ownsRow_nil _ _ _ _, World.ownsRow_nil _ _ _ _, fun b h => by simp [Value.ownBlock] at h, fun b h => by simp [Value.ownBlock] at h, fun b h => by simp [Value.ownBlock] at h⟩, by simp [Value.ownBlock], by simp [Value.ownBlock], by simp [Value.ownBlock]⟩
    have O2 : W2.ownsRow a.heap.size 42 2 (.slice (some ⟨a.heap.size + 1, 0, none⟩) 0 0) 0 [] := by
      rw [hW2]
      have o0 := World.ownsRow_lit (base := a.heap.size) (e := 42) (size := 2) (a.alloc (.cells #[.slice none 0 0, .slice none 0 0, .slice none 0 0] 25)) #[] 0 (by simp) (by simp [maxLen]) (by simp)
      simp only [World.size_alloc] at o0
      exact o0.alloc _
    have R2 : Blk3 W2 a.heap.size (.slice none 0 0) (.slice none 0 0) (.slice none 0 0) := by
      rw [hW2]
      exact ⟨by go_simp, by go_simp, by go_simp, by go_simp, by go_simp, by go_simp⟩
    have z2 : W2.heap.size = a.heap.size + 1 + 1 + 1 := by rw [hW2]; simp
    have H2 := hid (And.intro X2 (And.intro O2 (And.intro R2 (And.intro b2 z2))))
    have HW2 := hid hW2
    have cS2 := cS W2 b2
    clear X2 O2 R2 b2 z2 hW2 cS
    go_enter Tryz.func6, Tryz.ntmps6
    go_wp2_with fail
    rw [← HW2.out]
    refine cS2.mono ?_
    rintro r w1 ⟨B, n, d, rfl, ho, hb⟩
    obtain ⟨X2, O2, R2, b2, z2⟩ := H2.out
    have hn := own_len encS_len (by omega) ho
    obtain ⟨gb, rfl, hgb, hgl⟩ := own_some ho (by omega)
    have T1 : RdAt a w1 a.heap.size (a.heap.size + 1 + 1) gb rows ⟨none, 0, 0, none, 0, 0, none, 0, 0⟩ ⟨[], [], []⟩ (some ⟨a.heap.size + 1, 0, none⟩) 0 0 (fL []) :=
      ⟨X2.below hb, own_below O2 hb, fun b hb2 => by have := own_is hb2; subst this; exact ⟨fun e => (by rcases e with e | e | e <;> simp [Value.ownBlock] at e), by omega, by omega, by omega⟩, R2.at_ hb R2.lt,
        fun i z hz => by obtain ⟨g, e, k⟩ := word_cell ho hz; injection e with e; injection e with e; subst e; exact k, b2.trans (hb.mono b2.size), hgl, Nat.le_refl _, by omega, by omega, by omega, by omega, fun e => (by rcases e with e | e | e <;> simp [Value.ownBlock] at e), fun e => (by rcases e with e | e | e <;> simp [Value.ownBlock] at e)⟩
    have T := hid T1
    have HN := hid hn
    have n1 : n ≤ 3001 := by omega
    obtain ⟨gx, hgx⟩ : ∃ gx, gx = a.heap.size + 1 + 1 := ⟨_, rfl⟩
    obtain ⟨gr, hgr⟩ : ∃ gr, gr = a.heap.size := ⟨_, rfl⟩
    have S0 := hid (RInv.start 0)
    clear T1 hn hb ho X2 O2 R2 b2 z2 cS2 HW2 H2 hgb hgl hgx hgr gx gr
    go_wp2_with fail
    go_loopw [6, 7, 8, 9, 19] (fun vf _ _ _ vi wl => ∃ (k : Nat) (s : SV) (x : Sch) (A : Option Addr) (c : Nat) (fs : List (Int × Int)), k ≤ n ∧ fs.length ≤ 20 ∧ vf = .slice A fs.length c ∧ vi = .int .i64 (k : Nat) ∧ Hid (rowsF ⟨[], [], []⟩ [] 0 rows = rowsF x fs k (rows.drop k)) ∧ Hid (RInv x fs k) ∧ Hid (RdAt a wl a.heap.size (a.heap.size + 1 + 1) gb rows s x A fs.length c (fL fs))) (fun _ _ _ _ i _ => n - (intOf i).toNat)
    case atStart => exact ⟨0, ⟨none, 0, 0, none, 0, 0, none, 0, 0⟩, ⟨[], [], []⟩, _, 0, [], by omega, by simp, rfl, rfl, rfl, S0, T⟩
    case round =>
      clear T S0
      obtain ⟨k, s, x, A, c, fs, hk, hf20, rfl, rfl, hE, hI, hT⟩ := hrel
      by_cases hlt : k < n
      · have hkr : k < rows.length := by rw [← HN.out]; exact hlt
        obtain ⟨z, hz⟩ : ∃ z, rows[k]? = some z := ⟨_, List.getElem?_eq_getElem hkr⟩
        have hzs := hsz z (List.mem_of_getElem? hz)
        have K0 := hT.out.rws k z hz
        have lb := hT.out.lb
        have hE2 : Hid (rowsF ⟨[], [], []⟩ [] 0 rows = rowsF (rowF x (wordsR z)).1 (addF fs k (rowF x (wordsR z)).2) (k + 1) (rows.drop (k + 1))) := by rw [Hid, hE.out, rowsF_at hz]
        have cA := addRow_any (a.heap.size + 1 + 1) a.heap.size a.heap.size s x z wr hT.out.hx (Nat.le_refl _) hT.out.bl.size hzs hI.out.le.1 (by have := hI.out.2.2; omega) hI.out.le.2 hT.out.xa (HL.out.below hT.out.bl)
        have hIn := hid (fun (fs2 : List (Int × Int)) (h2 : fs2.length ≤ 20) => hI.out.next (ws := wordsR z) (fs2 := fs2) h2)
        generalize rowF x (wordsR z) = q at hE2 cA hIn
        obtain ⟨x2, q2⟩ := q
        simp only at hE2 cA hIn
        have k0 : (0 : Int) ≤ (k : Int) := by omega
        have k1 : (k : Int) < (n : Int) := by omega
        clear hE hI hz hkr hsz
        by_cases hq : q2 = 0
        · have e0 : (q2 != 0) = false := by simpa using hq
          have EF : addF fs k q2 = fs := by rw [addF, if_neg (by simp [hq])]
          rw [EF] at hE2
          have hI2 := hid (hIn.out fs hf20)
          clear EF hIn
          go_wp2_with fail
          refine cA.mono ?_
          rintro r w4 ⟨rfl, ⟨s2, X2, K2⟩, b4, F4⟩
          have T2 := hid (hT.out.row X2 K2 F4 b4)
          clear hT X2 K2 b4 F4 cA K0
          go_wp2_with fail
          go_roundw
          all_goals first | exact ⟨k + 1, s2, x2, A, c, fs, by omega, hf20, rfl, by go_num, hE2, hI2, T2⟩ | exact ⟨⟨k + 1, s2, x2, A, c, fs, by omega, hf20, rfl, by go_num, hE2, hI2, T2⟩, by simp [intOf]; omega⟩ | (simp [intOf]; omega)
        · have e0 : (q2 != 0) = true := by simpa using hq
          by_cases hl20 : fs.length < 20
          · have EF : addF fs k q2 = fs ++ [((k : Int) + 1, q2)] := by rw [addF, if_pos ⟨hq, hl20⟩]
            rw [EF] at hE2
            have hlen2 : (fs ++ [((k : Int) + 1, q2)]).length = fs.length + 1 := by simp
            have hI2 := hid (hIn.out (fs ++ [((k : Int) + 1, q2)]) (by rw [hlen2]; omega))
            have HL2 := hid hlen2
            have l20 : (fs.length : Int) < 20 := by omega
            clear EF hIn hlen2
            go_wp2_with fail
            refine cA.mono ?_
            rintro r w4 ⟨rfl, ⟨s2, X2, K2⟩, b4, F4⟩
            have T2 := hid (hT.out.row X2 K2 F4 b4)
            have z4 := T2.out.bl.size
            clear hT X2 K2 b4 F4 cA K0
            go_wp2_with (at_builtin; refine wpList_append_lies _ rfl _ _ 26 rfl a.heap.size 42 i0 (.agg #[.int .i64 0, .int .i64 0]) 2 16 Tryz.underlying26 hi hz0 hz1 hz2 rfl (by omega) (.slice A fs.length c) fs.length ((fL fs).flatMap encFault) rfl (T2.out.own.alloc _) ⟨w4.heap.size, 0, none⟩ 1 1 [.int .i64 ((k : Int) + 1), .int .i64 q2] rfl rfl (World.news_of_block (cs := #[.int .i64 ((k : Int) + 1), .int .i64 q2]) (t := 42) (fr := (0, 0)) (heap_alloc_new _ _)) (by simp [Value.oneCell']) (by omega) (by simp only [maxLen]; omega) (by omega) (by simp; omega) (w4.heap.size + 1) (by simp) ?_; intro gg cap w5 ho5 hg5 hat5 hlt5)
            have T5 := (T2.out.below (w' := w4.alloc (.cells #[.int .i64 ((k : Int) + 1), .int .i64 q2] 42)) ((Below.refl _ _).alloc (Nat.le_refl _) _)).put (f := ⟨(k : Int) + 1, q2⟩) hg5 hat5 (by simp) (by simpa [encFault] using ho5)
            have T6 : Hid (RdAt a w5 a.heap.size (a.heap.size + 1 + 1) gb rows s2 x2 (some ⟨gg, 0, none⟩) (fs ++ [((k : Int) + 1, q2)]).length cap (fL (fs ++ [((k : Int) + 1, q2)]))) := by rw [HL2.out, fL_snoc]; exact hid T5
            clear T5 T2 ho5 hg5 hat5 hlt5
            go_roundw
            all_goals first | exact ⟨k + 1, s2, x2, _, cap, fs ++ [((k : Int) + 1, q2)], by omega, by rw [HL2.out]; omega, by rw [HL2.out], by go_num, hE2, hI2, T6⟩ | exact ⟨⟨k + 1, s2, x2, _, cap, fs ++ [((k : Int) + 1, q2)], by omega, by rw [HL2.out]; omega, by rw [HL2.out], by go_num, hE2, hI2, T6⟩, by simp [intOf]; omega⟩ | (simp [intOf]; omega)
          · have EF : addF fs k q2 = fs := by rw [addF, if_neg (fun h => hl20 h.2)]
            rw [EF] at hE2
            have hI2 := hid (hIn.out fs hf20)
            have l20 : ¬ (fs.length : Int) < 20 := by omega
            clear EF hIn
            go_wp2_with fail
            refine cA.mono ?_
            rintro r w4 ⟨rfl, ⟨s2, X2, K2⟩, b4, F4⟩
            have T2 := hid (hT.out.row X2 K2 F4 b4)
            clear hT X2 K2 b4 F4 cA K0
            go_wp2_with fail
            go_roundw
            all_goals first | exact ⟨k + 1, s2, x2, A, c, fs, by omega, hf20, rfl, by go_num, hE2, hI2, T2⟩ | exact ⟨⟨k + 1, s2, x2, A, c, fs, by omega, hf20, rfl, by go_num, hE2, hI2, T2⟩, by simp [intOf]; omega⟩ | (simp [intOf]; omega)
      · obtain rfl : k = n := by omega
        have hX : Hid (readX t = (x, fs, 0)) := by rw [Hid, E.out, hE.out, HN.out, List.drop_length]; rfl
        have q0 := hT.out.xa.k0
        have q1 := hT.out.xa.k1
        have q2 := hT.out.xa.k2
        have ql := hT.out.xa.lt
        have r0 := hT.out.res.c0
        have r1 := hT.out.res.c1
        have r2 := hT.out.res.c2
        have y0 := hT.out.res.f0
        have y1 := hT.out.res.f1
        have y2 := hT.out.res.f2
        have yl := hT.out.res.lt
        clear hE hI
        go_wp2_with fail
        have P0 := set3_0 r0 (.slice s.A1 s.n1 s.c1) (.slice s.A2 s.n2 s.c2) (.slice s.A3 s.n3 s.c3)
        have P1 := set3_1 r1 (.slice s.A1 s.n1 s.c1) (.slice s.A2 s.n2 s.c2) (.slice s.A3 s.n3 s.c3)
        have P2 := set3_2 r2 (.slice s.A1 s.n1 s.c1) (.slice s.A2 s.n2 s.c2) (.slice s.A3 s.n3 s.c3)
        refine bodyPost_ret (v := .tuple #[s.v, .slice A fs.length c, .int .i64 0]) (by simp [results, Tryz.results6, go_sem, P0, P1, P2, SV.v]) rfl (hT.out.fin hX.out rfl)
end Go.Proofs.YtcgkcfmiabninaaGreatDoor
/-
  A scheme is read: the reference's way. No condition.
-/
namespace Go.Proofs.YtcgkcfmiabninaaGreatDoor
open Go.RowKit
set_option maxHeartbeats 400000

set_option maxHeartbeats 8000000 in
set_option maxRecDepth 100000 in
theorem specReadScheme_any (t : ByteArray) (a : World) (hs : t.size ≤ 1048576) : Calls Tryz.prog 5 #[.string t] a (SchP a (readX t)) := by
  by_cases h3 : 3000 < t.size
  · have E : Hid (readX t = (⟨[], [], []⟩, [], 2)) := by rw [Hid, readX, if_pos h3]
    have g3 : (3000 : Int) < (t.size : Int) := by omega
    go_enter Tryz.func5, Tryz.ntmps5
    go_wp2_with fail
    refine bodyPost_ret (v := .tuple #[.agg #[.slice none 0 0, .slice none 0 0, .slice none 0 0], .slice none 0 0, .int .i64 2]) (by simp [results, Tryz.results5, go_sem]) rfl (SchP.long E.out rfl ((Below.refl _ _).alloc (Nat.le_refl _) _))
  · skip
    obtain ⟨rows, hrows⟩ : ∃ rows, rows = rowsOf t := ⟨_, rfl⟩
    have E : Hid (readX t = ((rowsF ⟨[], [], []⟩ [] 0 rows).1, (rowsF ⟨[], [], []⟩ [] 0 rows).2, 0)) := by rw [Hid, readX, if_neg h3, hrows]
    have cS := fun W => l01Split_words t 10 W hs
    have hlen := splB_len 10 t
    have hone := splB_one 10 t
    have hsz : ∀ z ∈ rows, z.size ≤ 1048576 := fun z hz => by rw [hrows, rowsOf_spl] at hz; exact Nat.le_trans (splB_size hz) hs
    rw [← rowsOf_spl, ← hrows] at cS hlen hone
    obtain ⟨i0, hi, hz0, hz1, hz2⟩ := info_parts Fault_info
    have g3 : ¬ (3000 : Int) < (t.size : Int) := by omega
    have g4 : t.size ≤ 3000 := by omega
    clear hrows h3
    obtain ⟨W0, hW0⟩ : ∃ W0, W0 = a.alloc (.cells #[.slice none 0 0, .slice none 0 0, .slice none 0 0] 25) := ⟨_, rfl⟩
    have b0 : Below a.heap.size a W0 := by rw [hW0]; exact (Below.refl _ _).alloc (Nat.le_refl _) _
    have R0 : Blk3 W0 a.heap.size (.slice none 0 0) (.slice none 0 0) (.slice none 0 0) := by
      rw [hW0]
      exact ⟨by go_simp, by go_simp, by go_simp, by go_simp, by go_simp, by go_simp⟩
    have z0 : W0.heap.size = a.heap.size + 1 := by rw [hW0]; simp
    have HW0 := hid hW0
    have cE := l21Empty_any W0
    clear hW0
    go_enter Tryz.func5, Tryz.ntmps5
    go_wp2_with fail
    rw [← HW0.out]
    refine cE.mono ?_
    rintro r w1 ⟨rfl, hO, hb1⟩
    have z1 := hb1.size
    obtain ⟨W3, hW3⟩ : ∃ W3, W3 = (w1.alloc (.cells #[.slice (some ⟨W0.heap.size + 1, 0, none⟩) 0 0, .slice (some ⟨W0.heap.size + 2, 0, none⟩) 0 0, .slice (some ⟨W0.heap.size + 3, 0, none⟩) 0 0] 25)).alloc (.cells #[] 42) := ⟨_, rfl⟩
    have X1 := XAt.boxed hO
    have b1 : Below a.heap.size a w1 := b0.trans (hb1.mono (by omega))
    have b3 : Below a.heap.size a W3 := by rw [hW3]; exact (b1.alloc b1.size _).alloc (by simp; omega) _
    have X3 : XAt W3 w1.heap.size a.heap.size ⟨some ⟨W0.heap.size + 1, 0, none⟩, 0, 0, some ⟨W0.heap.size + 2, 0, none⟩, 0, 0, some ⟨W0.heap.size + 3, 0, none⟩, 0, 0⟩ ⟨[], [], []⟩ := by
      rw [hW3]
      have X2 := X1.below ((Below.refl _ _).alloc (Nat.le_refl _) (.cells #[] 42))
      exact ⟨X2.k0, X2.k1, X2.k2, X2.f0, X2.f1, X2.f2, X2.own.mono (by omega), X2.o1, X2.o2, X2.o3⟩
    have R3 : Blk3 W3 a.heap.size (.slice none 0 0) (.slice none 0 0) (.slice none 0 0) := by
      rw [hW3]
      exact (R0.at_ hb1 (by omega)).at_ (((Below.refl w1.heap.size w1).alloc (Nat.le_refl _) _).alloc (by simp) _) (by omega)
    have O3 : W3.ownsRow a.heap.size 42 2 (.slice (some ⟨w1.heap.size + 1, 0, none⟩) 0 0) 0 [] := by
      rw [hW3]
      have o0 := World.ownsRow_lit (base := a.heap.size) (e := 42) (size := 2) (w1.alloc (.cells #[.slice (some ⟨W0.heap.size + 1, 0, none⟩) 0 0, .slice (some ⟨W0.heap.size + 2, 0, none⟩) 0 0, .slice (some ⟨W0.heap.size + 3, 0, none⟩) 0 0] 25)) #[] 0 (by simp; omega) (by simp [maxLen]) (by simp)
      simp only [World.size_alloc] at o0
      exact o0
    have z3 : W3.heap.size = w1.heap.size + 1 + 1 := by rw [hW3]; simp
    have hlt1 : ∀ q, SV.has ⟨some ⟨W0.heap.size + 1, 0, none⟩, 0, 0, some ⟨W0.heap.size + 2, 0, none⟩, 0, 0, some ⟨W0.heap.size + 3, 0, none⟩, 0, 0⟩ q → W0.heap.size ≤ q ∧ q < w1.heap.size := fun q e => by rcases e with e | e | e; exact hO.st.lt q e; exact hO.rm.lt q e; exact hO.wy.lt q e
    have H3 := hid (And.intro X3 (And.intro O3 (And.intro R3 (And.intro b3 (And.intro z3 hlt1)))))
    have HZ := hid z0
    have HW3 := hid hW3
    clear X1 X3 R3 O3 b3 z3 hW3 hO hb1 b1 hlt1 R0 b0 HW0 z0 cE
    have cS3 := cS W3
    clear cS
    go_wp2_with fail
    rw [← HW3.out]
    refine cS3.mono ?_
    rintro r w2 ⟨B, n, d, rfl, ho, hb⟩
    obtain ⟨X3, O3, R3, b3, z3, hlt1⟩ := H3.out
    have z0 := HZ.out
    have hn := own_len encS_len (by omega) ho
    obtain ⟨gb, rfl, hgb, hgl⟩ := own_some ho (by omega)
    have T1 : RdAt a w2 a.heap.size w1.heap.size gb rows ⟨some ⟨W0.heap.size + 1, 0, none⟩, 0, 0, some ⟨W0.heap.size + 2, 0, none⟩, 0, 0, some ⟨W0.heap.size + 3, 0, none⟩, 0, 0⟩ ⟨[], [], []⟩ (some ⟨w1.heap.size + 1, 0, none⟩) 0 0 (fL []) :=
      ⟨X3.below hb, own_below O3 hb, fun b hb2 => by have := own_is hb2; subst this; exact ⟨fun e => by have := (hlt1 _ e).2; omega, by omega, by omega, by omega⟩, R3.at_ hb R3.lt,
        fun i z hz => by obtain ⟨g, e, k⟩ := word_cell ho hz; injection e with e; injection e with e; subst e; exact k, b3.trans (hb.mono b3.size), hgl, Nat.le_refl _, by omega, by omega, by omega, by omega, fun e => by have := (hlt1 _ e).2; omega, fun e => by have := (hlt1 _ e).1; omega⟩
    have T := hid T1
    have HN := hid hn
    have n1 : n ≤ 3001 := by omega
    have S0 := hid (RInv.start 0)
    clear T1 hn hb ho X3 O3 R3 b3 z3 cS3 HW3 H3 hgb hgl hlt1 z0 HZ z1
    go_wp2_with fail
    go_loopw [6, 8, 9] (fun vf vi _ wl => ∃ (k : Nat) (s : SV) (x : Sch) (A : Option Addr) (c : Nat) (fs : List (Int × Int)), k ≤ n ∧ fs.length ≤ 20 ∧ vf = .slice A fs.length c ∧ vi = .int .i64 (k : Nat) ∧ Hid (rowsF ⟨[], [], []⟩ [] 0 rows = rowsF x fs k (rows.drop k)) ∧ Hid (RInv x fs k) ∧ Hid (RdAt a wl a.heap.size w1.heap.size gb rows s x A fs.length c (fL fs))) (fun _ i _ _ => n - (intOf i).toNat)
    case atStart => exact ⟨0, ⟨some ⟨W0.heap.size + 1, 0, none⟩, 0, 0, some ⟨W0.heap.size + 2, 0, none⟩, 0, 0, some ⟨W0.heap.size + 3, 0, none⟩, 0, 0⟩, ⟨[], [], []⟩, _, 0, [], by omega, by simp, rfl, rfl, rfl, S0, T⟩
    case round =>
      clear T S0
      obtain ⟨k, s, x, A, c, fs, hk, hf20, rfl, rfl, hE, hI, hT⟩ := hrel
      by_cases hlt : k < n
      · have hkr : k < rows.length := by rw [← HN.out]; exact hlt
        obtain ⟨z, hz⟩ : ∃ z, rows[k]? = some z := ⟨_, List.getElem?_eq_getElem hkr⟩
        have hzs := hsz z (List.mem_of_getElem? hz)
        have K0 := hT.out.rws k z hz
        have lb := hT.out.lb
        have hE2 : Hid (rowsF ⟨[], [], []⟩ [] 0 rows = rowsF (rowF x (wordsR z)).1 (addF fs k (rowF x (wordsR z)).2) (k + 1) (rows.drop (k + 1))) := by rw [Hid, hE.out, rowsF_at hz]
        have cA := l21Row_any w1.heap.size a.heap.size a.heap.size s x z wr hT.out.hx (Nat.le_refl _) hT.out.bl.size hzs hI.out.le.1 (by have := hI.out.2.2; omega) hI.out.le.2 hT.out.xa
        have hIn := hid (fun (fs2 : List (Int × Int)) (h2 : fs2.length ≤ 20) => hI.out.next (ws := wordsR z) (fs2 := fs2) h2)
        generalize rowF x (wordsR z) = q at hE2 cA hIn
        obtain ⟨x2, q2⟩ := q
        simp only at hE2 cA hIn
        have k0 : (0 : Int) ≤ (k : Int) := by omega
        have k1 : (k : Int) < (n : Int) := by omega
        clear hE hI hz hkr hsz
        by_cases hq : q2 = 0
        · have e0 : (q2 != 0) = false := by simpa using hq
          have EF : addF fs k q2 = fs := by rw [addF, if_neg (by simp [hq])]
          rw [EF] at hE2
          have hI2 := hid (hIn.out fs hf20)
          clear EF hIn
          go_wp2_with fail
          refine cA.mono ?_
          rintro r w4 ⟨rfl, ⟨s2, X2, K2⟩, b4, F4⟩
          have T2 := hid (hT.out.row X2 K2 F4 b4)
          clear hT X2 K2 b4 F4 cA K0
          go_wp2_with fail
          go_roundw
          all_goals first | exact ⟨k + 1, s2, x2, A, c, fs, by omega, hf20, rfl, by go_num, hE2, hI2, T2⟩ | exact ⟨⟨k + 1, s2, x2, A, c, fs, by omega, hf20, rfl, by go_num, hE2, hI2, T2⟩, by simp [intOf]; omega⟩ | (simp [intOf]; omega)
        · have e0 : (q2 != 0) = true := by simpa using hq
          by_cases hl20 : fs.length < 20
          · have EF : addF fs k q2 = fs ++ [((k : Int) + 1, q2)] := by rw [addF, if_pos ⟨hq, hl20⟩]
            rw [EF] at hE2
            have hlen2 : (fs ++ [((k : Int) + 1, q2)]).length = fs.length + 1 := by simp
            have hI2 := hid (hIn.out (fs ++ [((k : Int) + 1, q2)]) (by rw [hlen2]; omega))
            have HL2 := hid hlen2
            have l20 : (fs.length : Int) < 20 := by omega
            clear EF hIn hlen2
            go_wp2_with fail
            refine cA.mono ?_
            rintro r w4 ⟨rfl, ⟨s2, X2, K2⟩, b4, F4⟩
            have T2 := hid (hT.out.row X2 K2 F4 b4)
            have z4 := T2.out.bl.size
            clear hT X2 K2 b4 F4 cA K0
            go_wp2_with (at_builtin; refine wpList_append_lies _ rfl _ _ 26 rfl a.heap.size 42 i0 (.agg #[.int .i64 0, .int .i64 0]) 2 16 Tryz.underlying26 hi hz0 hz1 hz2 rfl (by omega) (.slice A fs.length c) fs.length ((fL fs).flatMap encFault) rfl (T2.out.own.alloc _) ⟨w4.heap.size, 0, none⟩ 1 1 [.int .i64 ((k : Int) + 1), .int .i64 q2] rfl rfl (World.news_of_block (cs := #[.int .i64 ((k : Int) + 1), .int .i64 q2]) (t := 42) (fr := (0, 0)) (heap_alloc_new _ _)) (by simp [Value.oneCell']) (by omega) (by simp only [maxLen]; omega) (by omega) (by simp; omega) (w4.heap.size + 1) (by simp) ?_; intro gg cap w5 ho5 hg5 hat5 hlt5)
            have T5 := (T2.out.below (w' := w4.alloc (.cells #[.int .i64 ((k : Int) + 1), .int .i64 q2] 42)) ((Below.refl _ _).alloc (Nat.le_refl _) _)).put (f := ⟨(k : Int) + 1, q2⟩) hg5 hat5 (by simp) (by simpa [encFault] using ho5)
            have T6 : Hid (RdAt a w5 a.heap.size w1.heap.size gb rows s2 x2 (some ⟨gg, 0, none⟩) (fs ++ [((k : Int) + 1, q2)]).length cap (fL (fs ++ [((k : Int) + 1, q2)]))) := by rw [HL2.out, fL_snoc]; exact hid T5
            clear T5 T2 ho5 hg5 hat5 hlt5
            go_roundw
            all_goals first | exact ⟨k + 1, s2, x2, _, cap, fs ++ [((k : Int) + 1, q2)], by omega, by rw [HL2.out]; omega, by rw [HL2.out], by go_num, hE2, hI2, T6⟩ | exact ⟨⟨k + 1, s2, x2, _, cap, fs ++ [((k : Int) + 1, q2)], by omega, by rw [HL2.out]; omega, by rw [HL2.out], by go_num, hE2, hI2, T6⟩, by simp [intOf]; omega⟩ | (simp [intOf]; omega)
          · have EF : addF fs k q2 = fs := by rw [addF, if_neg (fun h => hl20 h.2)]
            rw [EF] at hE2
            have hI2 := hid (hIn.out fs hf20)
            have l20 : ¬ (fs.length : Int) < 20 := by omega
            clear EF hIn
            go_wp2_with fail
            refine cA.mono ?_
            rintro r w4 ⟨rfl, ⟨s2, X2, K2⟩, b4, F4⟩
            have T2 := hid (hT.out.row X2 K2 F4 b4)
            clear hT X2 K2 b4 F4 cA K0
            go_wp2_with fail
            go_roundw
            all_goals first | exact ⟨k + 1, s2, x2, A, c, fs, by omega, hf20, rfl, by go_num, hE2, hI2, T2⟩ | exact ⟨⟨k + 1, s2, x2, A, c, fs, by omega, hf20, rfl, by go_num, hE2, hI2, T2⟩, by simp [intOf]; omega⟩ | (simp [intOf]; omega)
      · obtain rfl : k = n := by omega
        have hX : Hid (readX t = (x, fs, 0)) := by rw [Hid, E.out, hE.out, HN.out, List.drop_length]; rfl
        have q0 := hT.out.xa.k0
        have q1 := hT.out.xa.k1
        have q2 := hT.out.xa.k2
        have ql := hT.out.xa.lt
        have r0 := hT.out.res.c0
        have r1 := hT.out.res.c1
        have r2 := hT.out.res.c2
        have y0 := hT.out.res.f0
        have y1 := hT.out.res.f1
        have y2 := hT.out.res.f2
        have yl := hT.out.res.lt
        clear hE hI
        go_wp2_with fail
        have P0 := set3_0 r0 (.slice s.A1 s.n1 s.c1) (.slice s.A2 s.n2 s.c2) (.slice s.A3 s.n3 s.c3)
        have P1 := set3_1 r1 (.slice s.A1 s.n1 s.c1) (.slice s.A2 s.n2 s.c2) (.slice s.A3 s.n3 s.c3)
        have P2 := set3_2 r2 (.slice s.A1 s.n1 s.c1) (.slice s.A2 s.n2 s.c2) (.slice s.A3 s.n3 s.c3)
        refine bodyPost_ret (v := .tuple #[s.v, .slice A fs.length c, .int .i64 0]) (by simp [results, Tryz.results5, go_sem, P0, P1, P2, SV.v]) rfl (hT.out.fin hX.out rfl)
end Go.Proofs.YtcgkcfmiabninaaGreatDoor
/-
  The marks of a scheme that is read: what else lies there is kept. What reading leaves is small. No condition.
-/
namespace Go.Proofs.YtcgkcfmiabninaaGreatDoor
open Go.RowKit
set_option maxHeartbeats 400000

/-- every block is kept but those of p -/
structure Keep (p : Nat → Prop) (w w' : World) : Prop where
  os : w'.os = w.os
  tape : w'.tape = w.tape
  output : w'.output = w.output
  size : w.heap.size ≤ w'.heap.size
  block : ∀ i, i < w.heap.size → ¬ p i → w'.heap[i]? = w.heap[i]?
namespace Keep
variable {p : Nat → Prop} {a w w' : World}
theorem ofBelow (h : Below w.heap.size w w') : Keep p w w' := ⟨h.os, h.tape, h.output, h.size, fun i hi _ => h.block i hi⟩
theorem ofGrown {row : Option Nat} (h : w.grownBy w' row) (hr : ∀ b, row = some b → p b) : Keep p w w' := ⟨h.os, h.tape, h.output, h.size, fun i hi hn => h.block i hi (fun e => hn (hr i e.symm))⟩
theorem trans (h : Keep p a w) (g : Keep p w w') : Keep p a w' := ⟨g.os.trans h.os, g.tape.trans h.tape, g.output.trans h.output, Nat.le_trans h.size g.size, fun i hi hn => (g.block i (Nat.lt_of_lt_of_le hi h.size) hn).trans (h.block i hi hn)⟩
theorem own {lo T k n : Nat} {v : Value} {l : List Value} (h : Keep p w w') (o : w.ownsRow lo T k v n l) (hv : ∀ b, v.ownBlock = some b → ¬ p b) : w'.ownsRow lo T k v n l := own_blk o (fun b hb => h.block b (o.lt b hb).2 (hv b hb))
theorem cell {q : Addr} {v : Value} (h : Keep p w w') (hc : w.cell? q = some v) (hq : ¬ p q.block) : w'.cell? q = some v := (World.cell?_of_block (h.block q.block (World.block_lt_of_cell? _ _ hc) hq)).trans hc
theorem toBelow {B : Nat} (h0 : Below B a w) (h : Keep p w w') (hp : ∀ b, p b → B ≤ b) (hB : B ≤ w.heap.size) : Below B a w' :=
  ⟨h.os.trans h0.os, h.tape.trans h0.tape, h.output.trans h0.output, Nat.le_trans h0.size h.size, fun i hi => (h.block i (Nat.lt_of_lt_of_le hi hB) (fun e => by have := hp i e; omega)).trans (h0.block i hi)⟩
end Keep
theorem OwnX.keep {p : Nat → Prop} {w w' : World} {lo : Nat} {s : SV} {x : Sch} (h : OwnX w lo s x) (g : Keep p w w') (hv : ∀ b, s.has b → ¬ p b) : OwnX w' lo s x :=
  ⟨g.own h.st (fun b hb => hv b (.inl hb)), g.own h.rm (fun b hb => hv b (.inr (.inl hb))), g.own h.wy (fun b hb => hv b (.inr (.inr hb))), h.ap12, h.ap13, h.ap23⟩
theorem OwnX.has_lt {w : World} {lo : Nat} {s : SV} {x : Sch} (h : OwnX w lo s x) {q : Nat} (hq : s.has q) : lo ≤ q ∧ q < w.heap.size := by
  rcases hq with h1 | h1 | h1
  · exact h.st.lt q h1
  · exact h.rm.lt q h1
  · exact h.wy.lt q h1
theorem rowsF_rm : ∀ (rs : List ByteArray) (x : Sch) (fs : List (Int × Int)) (i : Nat), (rowsF x fs i rs).1.rm.length ≤ x.rm.length + rs.length := by
  intro rs
  induction rs with
  | nil => intro x fs i; simp [rowsF]
  | cons r rs ih =>
    intro x fs i
    have h1 := ih (rowF x (wordsR r)).1 (addF fs i (rowF x (wordsR r)).2) (i + 1)
    have h2 := rowF_rm x (wordsR r)
    rw [rowsF]
    simp only [List.length_cons]
    omega
theorem readX_len (t : ByteArray) (ht : t.size ≤ 1048576) : (readX t).1.st.length ≤ 20 ∧ (readX t).1.rm.length ≤ 1048577 ∧ (readX t).1.wy.length ≤ 60 ∧ (readX t).2.1.length ≤ 20 := by
  refine ⟨validX_stl readX_valid, ?_, validX_wyl readX_valid, (readX_faults t).1⟩
  unfold readX
  split
  · simp
  · have h1 := rowsF_rm (rowsOf t) ⟨[], [], []⟩ [] 0
    have h2 := rowsOf_len t
    simp only [List.length_nil] at h1
    simp only
    omega
set_option maxHeartbeats 1000000 in
theorem markSchemeK_any (lo : Nat) (s : SV) (x : Sch) (m : Int) (w : World) (hn1 : s.n1 ≤ 2000000) (hn2 : s.n2 ≤ 2000000) (hn3 : s.n3 ≤ 2000000) (h0 : 0 ≤ m) (h1 : m ≤ 1000000) (ho : OwnX w lo s x) :
    Calls Tryz.prog 9 #[s.v, .int .i64 m] w fun e w' => e = .returned (.int .i64 (m + lenX x)) ∧ OwnX w' lo s (marksX m x) ∧ Keep s.has w w' := by
  obtain ⟨A1, n1, c1, A2, n2, c2, A3, n3, c3⟩ := s
  simp only [SV.v] at hn1 hn2 hn3 ⊢
  obtain ⟨o1, o2, o3, p12, p13, p23⟩ := ho
  simp only at o1 o2 o3 p12 p13 p23
  have l1 := own_len encS_len (by omega) o1
  have l2 := own_len encS_len (by omega) o2
  have l3 := own_len encWay_len (by omega) o3
  have hl : lenX x = n1 + n2 + 3 * n3 := by simp only [lenX, ← l1, ← l2, ← l3]
  have hm : marksX m x = ⟨marksS m n1, marksS (m + n1) n2, marksWay (m + n1 + n2) n3⟩ := by simp only [marksX, ← l1, ← l2, ← l3]
  rw [hl, hm]
  obtain ⟨W0, hW0⟩ : ∃ W0, W0 = w.alloc (.cells #[.slice A1 n1 c1, .slice A2 n2 c2, .slice A3 n3 c3] 25) := ⟨_, rfl⟩
  have s0 : Keep (SV.has ⟨A1, n1, c1, A2, n2, c2, A3, n3, c3⟩) w W0 := by rw [hW0]; exact Keep.ofBelow ((Below.refl _ _).alloc (Nat.le_refl _) _)
  have k1 : W0.cell? ⟨w.heap.size, 1, none⟩ = some (.slice A2 n2 c2) := by rw [hW0]; go_simp
  have k2 : W0.cell? ⟨w.heap.size, 2, none⟩ = some (.slice A3 n3 c3) := by rw [hW0]; go_simp
  have r1 : W0.ownsRow lo 9 1 (.slice A1 n1 c1) n1 (x.st.flatMap encS) := by rw [hW0]; exact o1.alloc _
  have r2 : W0.ownsRow lo 9 1 (.slice A2 n2 c2) n2 (x.rm.flatMap encS) := by rw [hW0]; exact o2.alloc _
  have r3 : W0.ownsRow lo 62 3 (.slice A3 n3 c3) n3 (x.wy.flatMap encWay) := by rw [hW0]; exact o3.alloc _
  have q1 := o1.lt
  have q2 := o2.lt
  have q3 := o3.lt
  have HW := hid hW0
  clear hW0 o1 o2 o3 l1 l2 l3 hl hm
  go_enter Tryz.func9, Tryz.ntmps9
  go_wp2_with fail
  rw [← HW.out]
  refine (markStringS_any lo A1 n1 c1 _ m W0 hn1 h0 (by omega) r1).mono ?_
  rintro r w1 ⟨rfl, m1, g1⟩
  have hne : ∀ (v : Value), (∀ b, v.ownBlock = some b → lo ≤ b ∧ b < w.heap.size) → some w.heap.size ≠ v.ownBlock := fun v h e => by have := (h _ e.symm).2; omega
  replace k1 := g1.cell k1 (hne _ q1)
  replace k2 := g1.cell k2 (hne _ q1)
  replace r2 := own_keep r2 (v2 := .slice A1 n1 c1) (fun b hb => p12 b hb) g1
  replace r3 := own_keep r3 (v2 := .slice A1 n1 c1) (fun b hb => p13 b hb) g1
  replace s0 := s0.trans (Keep.ofGrown g1 (fun b hb => .inl hb))
  clear g1 r1
  go_wp2_with fail
  refine (markStringS_any lo A2 n2 c2 _ (m + n1) w1 hn2 (by omega) (by omega) r2).mono ?_
  rintro r w2 ⟨rfl, m2, g2⟩
  replace k2 := g2.cell k2 (hne _ q2)
  replace m1 := own_keep m1 (v2 := .slice A2 n2 c2) (fun b hb e => p12 b e hb) g2
  replace r3 := own_keep r3 (v2 := .slice A2 n2 c2) (fun b hb => p23 b hb) g2
  replace s0 := s0.trans (Keep.ofGrown g2 (fun b hb => .inr (.inl hb)))
  clear g2 r2
  go_wp2_with fail
  refine (markWayS_any lo A3 n3 c3 _ (m + n1 + n2) w2 hn3 (by omega) (by omega) r3).mono ?_
  rintro r w3 ⟨rfl, m3, g3⟩
  replace m1 := own_keep m1 (v2 := .slice A3 n3 c3) (fun b hb e => p13 b e hb) g3
  replace m2 := own_keep m2 (v2 := .slice A3 n3 c3) (fun b hb e => p23 b e hb) g3
  replace s0 := s0.trans (Keep.ofGrown g3 (fun b hb => .inr (.inr hb)))
  clear g3 r3
  go_wp2_with fail
  go_ret
  exact ⟨retI (by omega), ⟨m1, m2, m3, p12, p13, p23⟩, s0⟩
end Go.Proofs.YtcgkcfmiabninaaGreatDoor
