/-
  The draws of ShortestRound and LengthOfRound. No condition.
-/
import Derived.Test.YteckfjnglmkenaaPDraw2
namespace Go.Proofs.Yteckfjnglmkenaa
open Go.RowKit
set_option maxHeartbeats 400000

theorem Bytes.lift {w w' : World} {B m : Nat} {v : Value} (h : Bytes w B m v) (hB : B ≤ w.heap.size) (hb : Below w.heap.size w w') : Bytes w' w'.heap.size m v := (h.below (hb.mono hB)).more (Nat.le_trans hB hb.size)
theorem encI_map (xs : List Int) : xs.flatMap encI = xs.map (Value.int .i64) := by
  induction xs with
  | nil => rfl
  | cons x xs ih => simp only [List.flatMap_cons, List.map_cons, ih, encI]; rfl
theorem OwnP.ext {w w' : World} {gs : Nat} {A : Option Addr} {c : Nat} {rs : List Row} {o : Obj} {row : Option Nat} (h : OwnP w gs A c rs) (hg : (w.alloc o).grownBy w' row) (hrow : ∀ b, row = some b → w.heap.size ≤ b) : OwnP w' gs A c rs :=
  ⟨own_apart (h.top.alloc o) hg (fun b e q => by have := (h.top.lt b q).2; have := hrow b e; omega), fun r hr => own_apart ((h.row r hr).alloc o) hg (fun b e q => by have := ((h.row r hr).lt b q).2; have := hrow b e; omega)⟩
theorem OwnP.far {w w' : World} {gs : Nat} {A : Option Addr} {c : Nat} {rs : List Row} {row : Option Nat} {hi : Nat} (h : OwnP w gs A c rs) (hg : w.grownBy w' row) (hb : ∀ b, (Value.slice A rs.length c).ownBlock = some b → b < hi) (hr : ∀ r ∈ rs, ∀ b, (Value.slice r.A r.n r.c).ownBlock = some b → b < hi) (hrow : ∀ b, row = some b → hi ≤ b) : OwnP w' gs A c rs :=
  ⟨own_apart h.top hg (fun b e q => by have := hb b q; have := hrow b e; omega), fun r hm => own_apart (h.row r hm) hg (fun b e q => by have := hr r hm b q; have := hrow b e; omega)⟩
theorem own_ext {w w' : World} {lo T k n : Nat} {v : Value} {l : List Value} {o : Obj} {row : Option Nat} (h : w.ownsRow lo T k v n l) (hg : (w.alloc o).grownBy w' row) (hrow : ∀ b, row = some b → w.heap.size ≤ b) : w'.ownsRow lo T k v n l :=
  own_apart (h.alloc o) hg (fun b e q => by have := (h.lt b q).2; have := hrow b e; omega)
theorem zer_encI (n : Nat) : (madeCells #[.int .i64 0] n).toList = (List.replicate n (0 : Int)).flatMap encI := by
  apply List.ext_getElem?
  intro i
  rw [encI_map, List.getElem?_map, List.getElem?_replicate]
  by_cases h : i < n
  · simp [madeCells, Nat.mod_one, h]
  · simp [madeCells, h]
theorem news_of_sl' {w : World} {B b off n : Nat} {xs : List Int} (hx : Sl w B 1 encI (some ⟨b, off, none⟩) n xs) : ∀ (j : Nat) (u : Value), (xs.flatMap encI)[j]? = some u → w.cell? ((⟨b, off, none⟩ : Addr).add j) = some u := by
  intro j u hj
  rw [encI_map, List.getElem?_map] at hj
  obtain ⟨z, hz, rfl⟩ := Option.map_eq_some_iff.1 hj
  obtain ⟨b', off', e, _, hc⟩ := hx.2 j z hz
  injection e with e
  injection e with e1 e2
  subst e1 e2
  rw [Addr.add_lit]
  simpa using hc 0 _ rfl
theorem one_encI' (xs : List Int) : ∀ u ∈ xs.flatMap encI, u.oneCell' = true := by
  intro u hu
  rw [encI_map] at hu
  obtain ⟨z, _, rfl⟩ := List.mem_map.1 hu
  rfl
/-- what a draw of paths and points leaves, for who calls it with bytes -/
def DrawR (w : World) (r : Ending) (w' : World) : Prop :=
  ∃ (A : Option Addr) (c : Nat) (rs : List Row) (As : Option Addr) (cs : Nat) (ps : List Int), r = .returned (.tuple #[.slice A rs.length c, .slice As ps.length cs]) ∧ rs.length ≤ 31 ∧ tot rs ≤ 1000 ∧ ps.length ≤ 40 ∧ ps.length ≤ cs ∧
    Hid (SlS w' w'.heap.size A rs.length rs) ∧ Hid (Sl w' w'.heap.size 1 encI As ps.length ps) ∧ Below w.heap.size w w'
theorem l19Round_any (v : Value) (w : World) (hv : Bytes w w.heap.size 5000 v) : Calls Try.prog 31 #[v] w (DrawR w) := by
  have hf := l00From_any v w hv
  clear hv
  go_enter Try.func31, Try.ntmps31
  go_wp2_with fail
  refine hf.mono ?_
  rintro r w1 ⟨rfl, hs, hb, hl⟩
  have hd := l19DrawPaths_any w.heap.size 0 w1 hs (by omega)
  clear hs hf
  go_wp2_with fail
  refine hd.mono ?_
  rintro r w2 ⟨A, c, rs, As, cs, ps, rfl, h1, h2, h3, h4, h5, h6, _, hb2⟩
  have h5' := hid h5.out.slS
  have h6' := hid (own_sl encI_len (by omega) h6.out)
  clear hd h5 h6
  go_wp2_with fail
  go_ret2
  exact ⟨A, c, rs, As, cs, ps, rfl, h1, h2, by omega, h4, h5', h6', hb.trans hb2⟩
theorem DrawShortestRound_any (v : Value) (w : World) (hv : Bytes w w.heap.size 5000 v) : Calls Try.prog 16 #[v] w (DrawR w) := by
  have hd := l19Round_any v w hv
  clear hv
  go_enter Try.func16, Try.ntmps16
  go_wp2_with fail
  refine hd.mono ?_
  rintro r w2 ⟨A, c, rs, As, cs, ps, rfl, h1, h2, h3, h4, h5, h6, hb2⟩
  clear hd
  go_wp2_with fail
  go_ret2
  exact ⟨A, c, rs, As, cs, ps, rfl, h1, h2, h3, h4, h5, h6, hb2⟩
set_option maxHeartbeats 4000000 in
set_option maxRecDepth 100000 in
theorem DrawLengthOfRound_any (v : Value) (w : World) (hv : Bytes w w.heap.size 5000 v) : Calls Try.prog 19 #[v] w (DrawR w) := by
  obtain ⟨i0, hi, hz0, hz1, hz2⟩ := info_parts int_info
  have hf := l00From_any v w hv
  obtain ⟨gs, hgs⟩ : ∃ gs, gs = w.heap.size := ⟨_, rfl⟩
  rw [← hgs] at hf
  have hgs1 : gs ≤ w.heap.size := by omega
  have hgs2 : w.heap.size ≤ gs := by omega
  clear hv hgs
  go_enter Try.func19, Try.ntmps19
  go_wp2_with fail
  refine hf.mono ?_
  rintro r w1 ⟨rfl, hs, hb, hl⟩
  have hd := l19DrawPaths_any gs 0 w1 hs (by omega)
  clear hs hf
  go_wp2_with fail
  refine hd.mono ?_
  rintro r w2 ⟨A, c, rs, As, cs, ps, rfl, h1, h2, h3, h4, h5, h6, hs2, hb2⟩
  have b2 := hb.trans hb2
  have S2 := hid ((hs2.alloc (.cells #[] 2)).mono (show _ ≤ 5000 by omega))
  have o0 : (w2.alloc (.cells #[] 2)).ownsRow (gs + 1) 2 1 (.slice (some ⟨w2.heap.size, 0, none⟩) 0 0) 0 (([] : List Int).flatMap encI) := World.ownsRow_lit w2 #[] 0 (by have := hs2.lt; omega) (by simp only [maxLen]; omega) rfl
  have O2 := hid o0
  have P2 := hid (h5.out.below ((Below.refl _ _).alloc (Nat.le_refl _) (.cells #[] 2)))
  have Q2 := hid (h6.out.alloc (.cells #[] 2))
  have hgw2 := hs2.lt
  have HT := hid (fun b hb => (h5.out.top.lt b hb).2)
  have HR := hid (fun r (hr : r ∈ rs) b hb => ((h5.out.row r hr).lt b hb).2)
  have bb := b2.alloc (by omega) (.cells #[] 2)
  clear hd hb hb2 hs2 o0 b2 h5 h6
  go_wp2_with fail
  go_loopw [7, 8] (fun o q wl => ∃ (g cr : Nat) (xs : List Int), xs.length ≤ ps.length ∧ o = .slice (some ⟨g, 0, none⟩) xs.length cr ∧ q = .int .i64 (xs.length : Nat) ∧ Hid (wl.ownsRow (gs + 1) 2 1 (.slice (some ⟨g, 0, none⟩) xs.length cr) xs.length (xs.flatMap encI)) ∧ Hid (OwnP wl gs A c rs) ∧ Hid (wl.ownsRow (gs + 1) 2 1 (.slice As ps.length cs) ps.length (ps.flatMap encI)) ∧ Hid (SrcAt wl gs 5000) ∧ Below gs w wl ∧ gs < wl.heap.size ∧ w2.heap.size ≤ g ∧ w2.heap.size < wl.heap.size) (fun _ q _ => ps.length - (intOf q).toNat)
  case atStart => exact ⟨_, _, [], Nat.zero_le _, rfl, rfl, O2, P2, Q2, S2, bb, by simp; omega, Nat.le_refl _, by simp⟩
  case round =>
    clear O2 P2 Q2 S2 bb hgw2
    obtain ⟨g, cr, xs, hxp, rfl, rfl, hO, hP, hQ, hS, hb, hgw, hgg2, hgw2⟩ := hrel
    by_cases hlt : xs.length < ps.length
    · obtain ⟨x, bs, os, Hx, rfl, hbs, cx⟩ := (own_sl encI_len (by omega) hQ.out).int hlt
      have oL : (wr.alloc (.cells #[.int .i64 x] 2)).ownsRow (gs + 1) 2 1 (.slice (some ⟨wr.heap.size, 0, none⟩) 1 1) 1 [.int .i64 x] := World.ownsRow_lit wr #[.int .i64 x] 1 (by omega) (by simp only [maxLen]; omega) rfl
      have OL := hid oL
      have j0 : (0 : Int) ≤ (xs.length : Int) := by omega
      have j1 : (xs.length : Int) < (ps.length : Int) := by omega
      clear oL
      by_cases hx0 : xs.length = 0
      · obtain rfl := List.eq_nil_of_length_eq_zero hx0
        simp only [List.length_nil, Nat.add_zero] at cx
        have hps : 0 < ps.length := by simpa using hlt
        have hpsI : (0 : Int) < (ps.length : Int) := by omega
        clear j0 j1 hlt hxp
        have g1 : ∀ u : World, (pure #[] : Sem (Array Value)).run Try.prog u = .ok #[] u := fun _ => rfl
        have g2 : ∀ (p : Addr) (u : World), (storeCells p []).run Try.prog u = .ok () u := fun _ _ => rfl
        have P3 := hid (hP.out.below ((Below.refl _ _).alloc (Nat.le_refl _) (.cells #[.int .i64 x] 2)))
        have Q3 := hid (hQ.out.alloc (.cells #[.int .i64 x] 2))
        have S3 := hid (hS.out.alloc (.cells #[.int .i64 x] 2))
        have b3 := hb.alloc (by omega) (.cells #[.int .i64 x] 2)
        have l3 := S3.out.lt
        have l4 : w2.heap.size ≤ wr.heap.size := by omega
        have l5 : w2.heap.size < (wr.alloc (.cells #[.int .i64 x] 2)).heap.size := by simp; omega
        have O3 : Hid ((wr.alloc (.cells #[.int .i64 x] 2)).ownsRow (gs + 1) 2 1 (.slice (some ⟨wr.heap.size, 0, none⟩) [x].length 1) [x].length ([x].flatMap encI)) := OL.out
        clear hO hP hQ hS hb OL hx0
        go_wp2_with fail
        go_roundw
        all_goals first | exact ⟨wr.heap.size, 1, [x], by simp; omega, rfl, by rw [List.length_singleton]; rfl, O3, P3, Q3, S3, b3, l3, l4, l5⟩ | exact ⟨⟨wr.heap.size, 1, [x], by simp; omega, rfl, by rw [List.length_singleton]; rfl, O3, P3, Q3, S3, b3, l3, l4, l5⟩, by simp [intOf]; omega⟩ | (simp [intOf]; omega)
      · have hxp0 : 0 < xs.length := by omega
        have hnew := hid (news_of_sl' ((own_sl encI_len (by omega) hO.out).alloc (Nat.le_refl _) (.cells #[.int .i64 x] 2)))
        have hlen := hid (show (xs.flatMap encI).length = xs.length * 1 by rw [flatMap_len encI_len])
        go_wp2_with (at_builtin; refine wpList_append_lies _ rfl _ _ 23 rfl (gs + 1) 2 i0 (.int .i64 0) 1 8 Try.underlying23 hi hz0 hz1 hz2 rfl (by omega) (.slice (some ⟨wr.heap.size, 0, none⟩) 1 1) 1 [.int .i64 x] rfl OL.out ⟨g, 0, none⟩ xs.length cr (xs.flatMap encI) rfl hlen.out hnew.out (one_encI' xs) (by omega) (by simp only [maxLen]; omega) (by omega) (by simp; omega) (wr.heap.size + 1) (by simp) ?_; intro gg cap w3 ho3 hg3 hat3 hlt3)
        have O3 : Hid (w3.ownsRow (gs + 1) 2 1 (.slice (some ⟨gg, 0, none⟩) (x :: xs).length cap) (x :: xs).length ((x :: xs).flatMap encI)) := by
          have e : 1 + xs.length = (x :: xs).length := by simp; omega
          rw [e] at ho3
          simpa [Hid, encI] using ho3
        have e3 : ∀ b, (Value.slice (some ⟨wr.heap.size, 0, none⟩) 1 1).ownBlock = some b → wr.heap.size ≤ b := fun b hb => by simp [Value.ownBlock] at hb; omega
        have P3 := hid (hP.out.ext hg3 e3)
        have Q3 := hid (own_ext hQ.out hg3 e3)
        have S3 := hid ((hS.out.alloc (.cells #[.int .i64 x] 2)).grown hg3 (fun b hb => by have := e3 b hb; omega))
        have b3 := grown_below (hb.alloc (by omega) (.cells #[.int .i64 x] 2)) hg3 (by simp; omega) (fun b hb => by have := e3 b hb; omega)
        have l3 := S3.out.lt
        have l4 : w2.heap.size ≤ gg := by
          rcases hat3 with q | q
          · have := e3 gg q; omega
          · omega
        have l5 : w2.heap.size < w3.heap.size := by have := hg3.size; rw [World.size_alloc] at this; omega
        have ee : 1 + xs.length = (x :: xs).length := by simp; omega
        have EE := hid ee
        clear ho3 hg3 hat3 hO hP hQ hS hb OL hnew hlen ee e3
        go_roundw
        all_goals first | exact ⟨gg, cap, x :: xs, by simp; omega, by rw [EE.out], by rw [List.length_cons]; go_num, O3, P3, Q3, S3, b3, l3, l4, l5⟩ | exact ⟨⟨gg, cap, x :: xs, by simp; omega, by rw [EE.out], by rw [List.length_cons]; go_num, O3, P3, Q3, S3, b3, l3, l4, l5⟩, by simp [intOf]; omega⟩ | (simp [intOf]; omega)
    · have hxe : xs.length ≤ 31 := by omega
      go_wp2_with fail
      refine (pick_any gs _ 10 _ hS.out (by omega) (by omega)).mono ?_
      rintro r w5 ⟨z, rfl, z0, z1, hs5, hg5⟩
      have O5 := hid (own_src hO.out hg5 (Nat.lt_succ_self gs))
      have P5 := hid (hP.out.src hg5)
      have S5 := hid hs5
      have b5 := below_src hb hg5 (by omega) (by omega)
      have l5 := hs5.lt
      have hcap := own_caps O5.out
      clear hO hP hQ hS hb hs5 hg5 z1
      by_cases q0 : z = 0
      · subst q0
        have la : (w5.alloc (.cells #[.int .i64 (-1), .int .i64 0, .int .i64 (rs.length : Int)] 2)).ownsRow w5.heap.size 2 1 (.slice (some ⟨w5.heap.size, 0, none⟩) 3 3) 3 (([(-1), 0, (rs.length : Int)] : List Int).flatMap encI) := World.ownsRow_lit w5 #[.int .i64 (-1), .int .i64 0, .int .i64 (rs.length : Int)] 3 (Nat.le_refl _) (by simp [maxLen]) (by simp)
        have HL := hid (own_sl encI_len (by omega) la)
        have hgw : gs < w5.heap.size := S5.out.lt
        clear la
        have P6 := hid (P5.out.below ((Below.refl _ _).alloc (Nat.le_refl _) (.cells #[.int .i64 (-1), .int .i64 0, .int .i64 (rs.length : Int)] 2)))
        have O6 := hid (O5.out.alloc (.cells #[.int .i64 (-1), .int .i64 0, .int .i64 (rs.length : Int)] 2))
        have S6 := hid (S5.out.alloc (.cells #[.int .i64 (-1), .int .i64 0, .int .i64 (rs.length : Int)] 2))
        have b6 := b5.alloc (by omega) (.cells #[.int .i64 (-1), .int .i64 0, .int .i64 (rs.length : Int)] 2)
        clear P5 O5 S5 b5
        go_wp2_with fail
        refine (among_any gs _ (some ⟨w5.heap.size, 0, none⟩) 3 3 _ _ S6.out (by omega) (by omega) (by omega) HL.out (fun b o s e => by injection e with e; injection e with e1 e2; omega)).mono ?_
        rintro r w7 ⟨y, rfl, _, hs7, hg7⟩
        have P7 := hid (P6.out.src hg7)
        have O7 := hid (own_src O6.out hg7 (Nat.lt_succ_self gs))
        have b7 := below_src b6 hg7 (by omega) (by simp; omega)
        have gw7 := hs7.lt
        have hlo := O7.out.lt
        have hbt := hid P7.out.top.lt
        have hz7 := hg7.size
        clear P6 O6 S6 b6 HL hs7 hg7
        go_wp2_with (at_builtin; refine wpList_append_lies _ rfl _ _ 23 rfl (gs + 1) 2 i0 (.int .i64 0) 1 8 Try.underlying23 hi hz0 hz1 hz2 rfl (by omega) (.slice (some ⟨g, 0, none⟩) xs.length cr) xs.length (xs.flatMap encI) rfl (O7.out.alloc _) ⟨w7.heap.size, 0, none⟩ 1 1 [.int .i64 y] rfl rfl (World.news_of_block (cs := #[.int .i64 y]) (t := 2) (fr := (0, 0)) (heap_alloc_new _ _)) (by simp [Value.oneCell']) (by omega) (by simp only [maxLen]; omega) (by omega) (by simp; omega) (w7.heap.size + 1) (by simp) ?_; intro gg8 cap8 w8 ho8 hg8 hat8 hlt8)
        have O9 : Hid (w8.ownsRow (gs + 1) 2 1 (.slice (some ⟨gg8, 0, none⟩) (xs ++ [y]).length cap8) (xs ++ [y]).length ((xs ++ [y]).flatMap encI)) := by simpa [Hid, encI] using ho8
        have RT := hid ((P7.out.below ((Below.refl _ _).alloc (Nat.le_refl _) (.cells #[.int .i64 y] 2))).far hg8 HT.out HR.out (fun b hb => by simp [Value.ownBlock] at hb; omega)).slS
        have RB := grown_below (b7.alloc (by omega) (.cells #[.int .i64 y] 2)) hg8 (by simp; omega) (fun b hb => by have := (hlo b hb).1; omega)
        have hcp2 := own_caps O9.out
        have RP := hid (own_sl encI_len (by omega) O9.out)
        have hlen : (xs ++ [y]).length = xs.length + 1 := by simp
        clear P7 O7 b7 ho8 hg8 hat8 hlo O9
        go_ret2
        exact ⟨A, c, rs, some ⟨gg8, 0, none⟩, cap8, xs ++ [y], by rw [List.length_append, List.length_singleton]; rfl, h1, h2, by omega, hcp2, RT, RP, RB.mono hgs2⟩
      · have n0 : (z == 0) = false := by rw [beq_eq_false_iff_ne]; exact q0
        by_cases q1 : z = 1
        · subst q1
          go_wp2_with fail
          refine (pick_any gs _ 2 _ S5.out (by omega) (by omega)).mono ?_
          rintro r w6 ⟨y, rfl, y0, y1, hs6, hg6⟩
          have P6 := hid (P5.out.src hg6)
          have b6 := below_src b5 hg6 (by omega) (by omega)
          have gw6 := hs6.lt
          obtain ⟨M, hM⟩ : ∃ M : Nat, 30 + y = (M : Int) := ⟨(30 + y).toNat, by omega⟩
          have hM1 : M ≤ 32 := by omega
          have hM2 : 0 ≤ 30 + y := by omega
          have y1' : y ≤ 1 := by omega
          have hMn : (30 + y).toNat = M := by omega
          have hmk : ∀ u : World, (Instr.makeSlice 23 (.int .i64 (30 + y)) (.int .i64 (30 + y))).run Try.prog u =
              .ok (.slice (some ⟨u.heap.size, 0, none⟩) M M) (u.alloc (.cells (madeCells #[.int .i64 0] M) 2)) := fun u => by
            have h := run_make (P := Try.prog) u 23 2 i0 _ Try.underlying23 hi hz0 .i64 .i64 (30 + y) (30 + y) (by omega) (Int.le_refl _) (by rw [hz2]; omega) (by omega)
            simpa [hz1, Value.cells, hMn] using h
          have o6 : (w6.alloc (.cells (madeCells #[.int .i64 0] M) 2)).ownsRow (gs + 1) 2 1 (.slice (some ⟨w6.heap.size, 0, none⟩) M M) M ((List.replicate M (0 : Int)).flatMap encI) := by
            have := World.ownsRow_lit (base := gs + 1) (e := 2) (size := 1) w6 (madeCells #[.int .i64 0] M) M (by omega) (by simp only [maxLen]; omega) (by simp [size_madeCells])
            rw [zer_encI] at this
            exact this
          have RT := hid ((P6.out.below ((Below.refl _ _).alloc (Nat.le_refl _) (.cells (madeCells #[.int .i64 0] M) 2))).slS)
          have hlr : (List.replicate M (0 : Int)).length = M := by simp
          have o7 := own_sl encI_len (by omega) o6
          have RP := hid o7
          have RB := b6.alloc (by omega) (.cells (madeCells #[.int .i64 0] M) 2)
          clear P5 O5 S5 b5 P6 b6 hs6 hg6 y1 o6 o7 hM hMn hlr
          go_wp2_with fail
          go_ret2
          exact ⟨A, c, rs, some ⟨w6.heap.size, 0, none⟩, M, List.replicate M 0, by rw [List.length_replicate]; rfl, h1, h2, by simp; omega, by simp, RT, by rw [List.length_replicate]; exact RP, RB.mono hgs2⟩
        · have n1 : (z == 1) = false := by rw [beq_eq_false_iff_ne]; exact q1
          have RT := hid P5.out.slS
          have RP := hid (own_sl encI_len (by omega) O5.out)
          clear P5 O5 S5
          go_wp2_with fail
          go_ret2
          exact ⟨A, c, rs, some ⟨g, 0, none⟩, cr, xs, rfl, h1, h2, by omega, hcap, RT, RP, b5.mono hgs2⟩
end Go.Proofs.Yteckfjnglmkenaa
