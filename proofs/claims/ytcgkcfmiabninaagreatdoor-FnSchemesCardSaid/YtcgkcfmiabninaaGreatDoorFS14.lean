/-
  FS: texts RRow, one behind the other. No condition but what each says.
-/
import Derived.Test.YtcgkcfmiabninaaGreatDoorFS13
/-
  A row of a scheme's text is added: the program's way. No condition but what lies laid.
-/
namespace Go.Proofs.YtcgkcfmiabninaaGreatDoor
open Go.RowKit
set_option maxHeartbeats 400000

theorem flat_take {α : Type} {enc : α → List Value} {k : Nat} (hk : ∀ x, (enc x).length = k) : ∀ (m : Nat) (xs : List α), (xs.flatMap enc).take (m * k) = (xs.take m).flatMap enc := by
  intro m
  induction m with
  | zero => intro xs; simp
  | succ m ih =>
    intro xs
    cases xs with
    | nil => simp
    | cons x r =>
      have e : (m + 1) * k = (enc x).length + m * k := by rw [hk x, Nat.succ_mul]; omega
      rw [List.flatMap_cons, e, List.take_length_add_append, ih, List.take_succ_cons, List.flatMap_cons]
theorem bl_in {z : ByteArray} {l : List UInt8} (h : z = ⟨l.toArray⟩) : (z.toList == l) = true := by subst h; rw [ByteArray.toList_eq]; simp
theorem bl_ne {z : ByteArray} {l : List UInt8} (h : z ≠ ⟨l.toArray⟩) : (z.toList == l) = false := by
  rw [ByteArray.toList_eq, beq_eq_false_iff_ne]
  exact fun e => h (data_inj (by rw [e]))
theorem own_addr {w : World} {lo T k n c : Nat} {A : Option Addr} {l : List Value} (h : w.ownsRow lo T k (.slice A n c) n l) : n ≤ c ∧ (A = none ∨ ∃ g, A = some ⟨g, 0, none⟩) := by
  rcases h.2 with ⟨e, h0⟩ | ⟨g, cap, cur, e, _, _, hc, _⟩
  · injection e with e1 e2 e3; exact ⟨by omega, .inl e1⟩
  · injection e with e1 e2 e3; exact ⟨by omega, .inr ⟨g, e1⟩⟩
theorem own_any (A : Option Addr) (n c m c2 : Nat) : (Value.slice A n c).ownBlock = (Value.slice A m c2).ownBlock := by cases A <;> rfl
/-- the list of ways is cut back -/
theorem XAt.cut3 {w : World} {gs lo : Nat} {s : SV} {x : Sch} (h : XAt w gs lo s x) {m : Nat} (hm : m ≤ s.n3) :
    XAt (w.setCell ⟨gs, 2, none⟩ (.slice s.A3 m s.c3)) gs lo ⟨s.A1, s.n1, s.c1, s.A2, s.n2, s.c2, s.A3, m, s.c3⟩ ⟨x.st, x.rm, x.wy.take m⟩ := by
  have ho : w.ownsRow lo 62 3 (.slice s.A3 m s.c3) m ((x.wy.take m).flatMap encWay) := by
    rw [← flat_take encWay_len]
    rcases Nat.eq_zero_or_pos s.n3 with h0 | h0
    · obtain rfl : m = s.n3 := by omega
      have h1 := h.own.wy
      rw [List.take_of_length_le (by rw [h1.1]; exact Nat.le_refl _)]
      exact h1
    · obtain ⟨g, e, _, _⟩ := own_some h.own.wy h0
      have h1 := h.own.wy
      rw [e] at h1 ⊢
      exact own_shrink h1 hm
  have e3 := own_any s.A3 m s.c3 s.n3 s.c3
  have n3 : (Value.slice s.A3 m s.c3).ownBlock ≠ some gs := by rw [e3]; exact h.o3
  exact ⟨(World.cell?_setCell_other _ _ _ _ (by simp)).trans h.k0, (World.cell?_setCell_other _ _ _ _ (by simp)).trans h.k1, World.cell?_setCell_same _ _ _ h.k2, by simpa using h.f0, by simpa using h.f1, by simpa using h.f2,
    ⟨ow_set h.o1 h.own.st, ow_set h.o2 h.own.rm, ow_set (p := ⟨gs, 2, none⟩) n3 ho, h.own.ap12, fun b hb => by rw [e3]; exact h.own.ap13 b hb, fun b hb => by rw [e3]; exact h.own.ap23 b hb⟩, h.o1, h.o2, n3⟩
theorem Kin.more {s s2 : SV} {H H2 : Nat} (h : Kin s s2 H2) (hH : H ≤ H2) : Kin s s2 H := fun q hq => (h q hq).imp id (Nat.le_trans hH)
theorem Kin.cut {s : SV} {A1 A2 A3 : Option Addr} {n1 c1 n2 c2 n3 c3 m H : Nat} (h : Kin s ⟨A1, n1, c1, A2, n2, c2, A3, n3, c3⟩ H) : Kin s ⟨A1, n1, c1, A2, n2, c2, A3, m, c3⟩ H := fun q hq => by
  rcases hq with h1 | h1 | h1
  · exact h q (.inl h1)
  · exact h q (.inr (.inl h1))
  · exact h q (.inr (.inr ((own_any A3 n3 c3 m c3).trans h1)))
theorem FarB.behind {gs : Nat} {s : SV} {w w1 w' : World} (h : FarB gs s w1 w') (hb : Below w.heap.size w w1) : FarB gs s w w' := fun b hl h1 h2 => (h b (Nat.lt_of_lt_of_le hl hb.size) h1 h2).trans (hb.block b hl)
theorem FarB.chain {gs : Nat} {s s4 : SV} {w w4 w5 : World} (h : FarB gs s w w4) (hk : Kin s s4 w.heap.size) (h2 : FarB gs s4 w4 w5) (hz : w.heap.size ≤ w4.heap.size) : FarB gs s w w5 := fun b hl h1 h3 =>
  (h2 b (Nat.lt_of_lt_of_le hl hz) h1 (fun e => by rcases hk b e with e1 | e1; exact h3 e1; omega)).trans (h b hl h1 h3)
theorem FarB.set {gs o : Nat} {s : SV} {w w' : World} {u : Value} (h : FarB gs s w w') : FarB gs s w (w'.setCell ⟨gs, o, none⟩ u) := fun b hl h1 h2 => (blk_far _ _ _ h1).trans (h b hl h1 h2)
theorem XAt.has_lt {w : World} {gs lo : Nat} {s : SV} {x : Sch} (h : XAt w gs lo s x) {q : Nat} (hq : s.has q) : lo ≤ q ∧ q < w.heap.size := by
  rcases hq with h1 | h1 | h1
  · exact h.own.st.lt q h1
  · exact h.own.rm.lt q h1
  · exact h.own.wy.lt q h1
theorem AddG.below {gs lo B0 : Nat} {s : SV} {w w1 w' : World} {f : Int} {x : Sch} {r : Ending} (h : AddG gs lo B0 s w1 f x r w') (hb : Below w.heap.size w w1) (hB : B0 ≤ w.heap.size) : AddG gs lo B0 s w f x r w' := by
  obtain ⟨h1, ⟨s2, h2, hk⟩, h3, h4⟩ := h
  exact ⟨h1, ⟨s2, h2, hk.more hb.size⟩, (hb.mono hB).trans (h3.mono (Nat.le_refl _)), h4.behind hb⟩
theorem AddG.stay {gs lo B0 : Nat} {w w' : World} {f : Int} {s : SV} {x y : Sch} {r : Ending} (hr : r = .returned (.int .i64 f)) (hy : y = x) (h : XAt w gs lo s x) (hb : Below w.heap.size w w') (hB : B0 ≤ w.heap.size) : AddG gs lo B0 s w f y r w' :=
  ⟨hr, ⟨s, by rw [hy]; exact h.below hb, Kin.refl _ _⟩, hb.mono hB, FarB.of hb⟩
def tubeO (x : Sch) (a b : ByteArray) : Option Int → Sch × Int
  | none => (x, 4)
  | some m => (addWy x ⟨a, b, m⟩, wyF x.st x.wy ⟨a, b, m⟩)
def pairO (x : Sch) (a b : ByteArray) : Option Int → Sch × Int
  | none => (x, 4)
  | some m => pairF x ⟨a, b, m⟩
theorem row_bad2 {x : Sch} {z : ByteArray} {rs : List ByteArray} (hz : z = kST ∨ z = kRM) (hn : ¬ rs.length + 1 = 2) : rowF x (z :: rs) = (x, 2) := by
  have h1 : ¬ rs.length = 1 := by omega
  rcases hz with rfl | rfl
  · simp [rowF, bAt, kST_dd, h1]
  · simp [rowF, bAt, kRM_dd.1, kRM_dd.2, h1]
theorem row_bad4 {x : Sch} {z : ByteArray} {rs : List ByteArray} (hz : z = kTB ∨ z = kPR) (hn : ¬ rs.length + 1 = 4) : rowF x (z :: rs) = (x, 2) := by
  have h1 : ¬ rs.length = 3 := by omega
  rcases hz with rfl | rfl
  · simp [rowF, bAt, kTB_dd.1, kTB_dd.2.1, kTB_dd.2.2, h1]
  · simp [rowF, bAt, kPR_dd.1, kPR_dd.2.1, kPR_dd.2.2.1, kPR_dd.2.2.2, h1]
theorem row_other {x : Sch} {z : ByteArray} {rs : List ByteArray} (h1 : ¬ z = kDD) (h2 : ¬ z = kST) (h3 : ¬ z = kRM) (h4 : ¬ z = kTB) (h5 : ¬ z = kPR) : rowF x (z :: rs) = (x, 1) := by simp [rowF, bAt, h1, h2, h3, h4, h5]
theorem row_tube {x : Sch} {a b c : ByteArray} : rowF x [kTB, a, b, c] = tubeO x a b (rdN c.data.toList) := by
  simp only [rowF, bAt, List.length_cons, List.length_nil, List.getElem?_cons_zero, List.getElem?_cons_succ, Option.getD_some, kTB_dd.1, kTB_dd.2.1, kTB_dd.2.2, if_false, if_true]
  cases rdN c.data.toList <;> rfl
theorem row_pair {x : Sch} {a b c : ByteArray} : rowF x [kPR, a, b, c] = pairO x a b (rdN c.data.toList) := by
  simp only [rowF, bAt, List.length_cons, List.length_nil, List.getElem?_cons_zero, List.getElem?_cons_succ, Option.getD_some, kPR_dd.1, kPR_dd.2.1, kPR_dd.2.2.1, kPR_dd.2.2.2, if_false, if_true]
  cases rdN c.data.toList <;> rfl
set_option maxHeartbeats 8000000 in
set_option maxRecDepth 100000 in
theorem addRow_any (gs lo B0 : Nat) (s : SV) (x : Sch) (row : ByteArray) (w : World) (hg0 : B0 ≤ gs) (hlo : B0 ≤ lo) (hlw : lo ≤ w.heap.size) (hz : row.size ≤ 1048576) (hl : x.st.length ≤ 20) (hl2 : x.rm.length ≤ 1000000) (hl3 : x.wy.length ≤ 60) (h : XAt w gs lo s x) (L : LibW w) :
    Calls Tryz.prog 30 #[.pointer (some ⟨gs, 0, none⟩), .string row] w (AddG gs lo B0 s w (rowF x (wordsR row)).2 (rowF x (wordsR row)).1) := by
  have cW := splitWordsI_any row w hz L
  obtain ⟨ws, hws⟩ : ∃ ws, ws = wordsR row := ⟨_, rfl⟩
  have hsz : ∀ z ∈ ws, z.size ≤ 1048576 := fun z hz2 => Nat.le_trans (words_size (by rw [← hws]; exact hz2)) hz
  rw [← hws] at cW ⊢
  have hgw := h.lt
  have hbw : B0 ≤ w.heap.size := by omega
  have Hh := hid h
  have HL := hid L
  clear hws h L hz
  have cS := fun (z : ByteArray) (W : World) (hz : z.size ≤ 1048576) (hb : Below w.heap.size w W) => addStationG_any gs lo B0 s x z W hg0 hlo (Nat.le_trans hlw hb.size) (by omega) hl (Hh.out.below hb)
  have cR := fun (z : ByteArray) (W : World) (hz : z.size ≤ 1048576) (hb : Below w.heap.size w W) => addRoomG_any gs lo B0 s x z W hg0 hlo (Nat.le_trans hlw hb.size) (by omega) hl (by omega) (Hh.out.below hb)
  have cD := fun (z : ByteArray) (W : World) (hz : z.size ≤ 1048576) (hb : Below w.heap.size w W) => ReadDecimal_any z W hz (HL.out.below hb)
  have CS := hid cS
  have CR := hid cR
  have CD := hid cD
  clear cS cR cD
  rcases ws with _ | ⟨z0, rs⟩
  · skip
    have E : Hid (rowF x [] = (x, 0)) := rfl
    go_enter Tryz.func30, Tryz.ntmps30
    go_wp2_with fail
    refine cW.mono ?_
    rintro r w1 ⟨A, n, c, rfl, ho, hb⟩
    have hn := own_len encS_len (by omega) ho
    simp only [List.length_nil] at hn
    subst hn
    have HB := hid hb
    have z1w := hb.size
    clear ho cW
    go_wp2_with fail
    go_ret
    exact AddG.stay (retI (by rw [E.out])) (by rw [E.out]) Hh.out HB.out hbw
  by_cases hDD : z0 = kDD
  · have hz0 := hDD
    have E : Hid (rowF x (z0 :: rs) = (x, 0)) := by rw [hz0]; simp [Hid, rowF, bAt]
    have qDD : (z0.toList == [45, 45]) = true := bl_in hz0
    have qST : (z0.toList == [115, 116, 97, 116, 105, 111, 110]) = false := bl_ne (by rw [hz0]; decide)
    have qRM : (z0.toList == [114, 111, 111, 109]) = false := bl_ne (by rw [hz0]; decide)
    have qTB : (z0.toList == [116, 117, 98, 101]) = false := bl_ne (by rw [hz0]; decide)
    have qPR : (z0.toList == [112, 97, 105, 114]) = false := bl_ne (by rw [hz0]; decide)
    clear hDD hz0
    go_enter Tryz.func30, Tryz.ntmps30
    go_wp2_with fail
    refine cW.mono ?_
    rintro r w1 ⟨A, n, c, rfl, ho, hb⟩
    have hn := own_len encS_len (by omega) ho
    simp only [List.length_cons] at hn
    obtain ⟨g, rfl, K0⟩ := word_cell ho (i := 0) (z := z0) rfl
    have N0 : ¬ n = 0 := by omega
    have N1 : 0 < n := by omega
    have N2 : ((n : Int) == 0) = false := by simp; omega
    
    clear hn
    have lg := World.block_lt_of_cell? _ _ K0
    simp only at lg
    have HB := hid hb
    have z1w := hb.size
    clear ho cW
    go_wp2_with fail
    go_ret
    exact AddG.stay (retI (by rw [E.out])) (by rw [E.out]) Hh.out HB.out hbw
  have hz1 : ∀ z ∈ rs, z.size ≤ 1048576 := fun z hz => hsz z (List.mem_cons_of_mem _ hz)
  clear hsz
  by_cases hST : z0 = kST
  · have hz0 := hST
    by_cases hn2 : rs.length + 1 = 2
    · skip
      obtain ⟨z1, rfl⟩ : ∃ z1, rs = [z1] := by
        rcases rs with _ | ⟨z1, _ | ⟨z2, r⟩⟩
        · simp at hn2
        · exact ⟨z1, rfl⟩
        · simp at hn2
      have hs1 := hz1 z1 (by simp)
      have E : Hid (rowF x [z0, z1] = (addSt x z1, stF x.st z1)) := by rw [hz0]; simp [Hid, rowF, bAt, kST_dd, addSt]
      have qDD : (z0.toList == [45, 45]) = false := bl_ne (by rw [hz0]; decide)
      have qST : (z0.toList == [115, 116, 97, 116, 105, 111, 110]) = true := bl_in hz0
      have qRM : (z0.toList == [114, 111, 111, 109]) = false := bl_ne (by rw [hz0]; decide)
      have qTB : (z0.toList == [116, 117, 98, 101]) = false := bl_ne (by rw [hz0]; decide)
      have qPR : (z0.toList == [112, 97, 105, 114]) = false := bl_ne (by rw [hz0]; decide)
      clear hz0 hST hDD hz1 hn2
      go_enter Tryz.func30, Tryz.ntmps30
      go_wp2_with fail
      refine cW.mono ?_
      rintro r w1 ⟨A, n, c, rfl, ho, hb⟩
      have hn := own_len encS_len (by omega) ho
      simp only [List.length_cons, List.length_nil] at hn
      obtain ⟨g, rfl, K0⟩ := word_cell ho (i := 0) (z := z0) rfl
      obtain rfl : n = 2 := hn
      obtain ⟨g1, e1, K1⟩ := word_cell ho (i := 1) (z := z1) rfl
      obtain rfl : g = g1 := by injection e1 with e; injection e
      have lg := World.block_lt_of_cell? _ _ K0
      simp only at lg
      have HB := hid hb
      have z1w := hb.size
      clear ho cW
      go_wp2_with fail
      refine (CS.out z1 _ hs1 (HB.out.alloc z1w _)).mono ?_
      rintro r w2 ⟨rfl, h3⟩
      go_wp2_with fail
      go_ret
      rw [E.out]
      exact AddG.below ⟨rfl, h3⟩ (HB.out.alloc z1w _) hbw
    · skip
      have E : Hid (rowF x (z0 :: rs) = (x, 2)) := by rw [hz0]; exact row_bad2 (.inl rfl) hn2
      have N1 : ((rs.length + 1 : Nat) : Int) = 2 → False := fun e => hn2 (by omega)
      have qDD : (z0.toList == [45, 45]) = false := bl_ne (by rw [hz0]; decide)
      have qST : (z0.toList == [115, 116, 97, 116, 105, 111, 110]) = true := bl_in hz0
      have qRM : (z0.toList == [114, 111, 111, 109]) = false := bl_ne (by rw [hz0]; decide)
      have qTB : (z0.toList == [116, 117, 98, 101]) = false := bl_ne (by rw [hz0]; decide)
      have qPR : (z0.toList == [112, 97, 105, 114]) = false := bl_ne (by rw [hz0]; decide)
      clear hz0 hST N1 hz1
      go_enter Tryz.func30, Tryz.ntmps30
      go_wp2_with fail
      refine cW.mono ?_
      rintro r w1 ⟨A, n, c, rfl, ho, hb⟩
      have hn := own_len encS_len (by omega) ho
      simp only [List.length_cons] at hn
      obtain ⟨g, rfl, K0⟩ := word_cell ho (i := 0) (z := z0) rfl
      have N0 : ¬ n = 0 := by omega
      have N1 : 0 < n := by omega
      have N2 : ((n : Int) == 0) = false := by simp; omega
      have N5 : ((n : Int) == 2) = false := by simp; omega
      have N6 : ¬ n = 2 := by omega
      have N7 : ((n : Int) != 2) = true := by simp; omega
      clear hn
      have lg := World.block_lt_of_cell? _ _ K0
      simp only at lg
      have HB := hid hb
      have z1w := hb.size
      clear ho cW
      go_wp2_with fail
      go_ret
      exact AddG.stay (retI (by rw [E.out])) (by rw [E.out]) Hh.out HB.out hbw
  by_cases hRM : z0 = kRM
  · have hz0 := hRM
    by_cases hn2 : rs.length + 1 = 2
    · skip
      obtain ⟨z1, rfl⟩ : ∃ z1, rs = [z1] := by
        rcases rs with _ | ⟨z1, _ | ⟨z2, r⟩⟩
        · simp at hn2
        · exact ⟨z1, rfl⟩
        · simp at hn2
      have hs1 := hz1 z1 (by simp)
      have E : Hid (rowF x [z0, z1] = (addRm x z1, rmF x.st x.rm z1)) := by rw [hz0]; simp [Hid, rowF, bAt, kRM_dd.1, kRM_dd.2, addRm]
      have qDD : (z0.toList == [45, 45]) = false := bl_ne (by rw [hz0]; decide)
      have qST : (z0.toList == [115, 116, 97, 116, 105, 111, 110]) = false := bl_ne (by rw [hz0]; decide)
      have qRM : (z0.toList == [114, 111, 111, 109]) = true := bl_in hz0
      have qTB : (z0.toList == [116, 117, 98, 101]) = false := bl_ne (by rw [hz0]; decide)
      have qPR : (z0.toList == [112, 97, 105, 114]) = false := bl_ne (by rw [hz0]; decide)
      clear hz0 hRM hDD hz1 hn2
      go_enter Tryz.func30, Tryz.ntmps30
      go_wp2_with fail
      refine cW.mono ?_
      rintro r w1 ⟨A, n, c, rfl, ho, hb⟩
      have hn := own_len encS_len (by omega) ho
      simp only [List.length_cons, List.length_nil] at hn
      obtain ⟨g, rfl, K0⟩ := word_cell ho (i := 0) (z := z0) rfl
      obtain rfl : n = 2 := hn
      obtain ⟨g1, e1, K1⟩ := word_cell ho (i := 1) (z := z1) rfl
      obtain rfl : g = g1 := by injection e1 with e; injection e
      have lg := World.block_lt_of_cell? _ _ K0
      simp only at lg
      have HB := hid hb
      have z1w := hb.size
      clear ho cW
      go_wp2_with fail
      refine (CR.out z1 _ hs1 (HB.out.alloc z1w _)).mono ?_
      rintro r w2 ⟨rfl, h3⟩
      go_wp2_with fail
      go_ret
      rw [E.out]
      exact AddG.below ⟨rfl, h3⟩ (HB.out.alloc z1w _) hbw
    · skip
      have E : Hid (rowF x (z0 :: rs) = (x, 2)) := by rw [hz0]; exact row_bad2 (.inr rfl) hn2
      have N1 : ((rs.length + 1 : Nat) : Int) = 2 → False := fun e => hn2 (by omega)
      have qDD : (z0.toList == [45, 45]) = false := bl_ne (by rw [hz0]; decide)
      have qST : (z0.toList == [115, 116, 97, 116, 105, 111, 110]) = false := bl_ne (by rw [hz0]; decide)
      have qRM : (z0.toList == [114, 111, 111, 109]) = true := bl_in hz0
      have qTB : (z0.toList == [116, 117, 98, 101]) = false := bl_ne (by rw [hz0]; decide)
      have qPR : (z0.toList == [112, 97, 105, 114]) = false := bl_ne (by rw [hz0]; decide)
      clear hz0 hRM N1 hz1
      go_enter Tryz.func30, Tryz.ntmps30
      go_wp2_with fail
      refine cW.mono ?_
      rintro r w1 ⟨A, n, c, rfl, ho, hb⟩
      have hn := own_len encS_len (by omega) ho
      simp only [List.length_cons] at hn
      obtain ⟨g, rfl, K0⟩ := word_cell ho (i := 0) (z := z0) rfl
      have N0 : ¬ n = 0 := by omega
      have N1 : 0 < n := by omega
      have N2 : ((n : Int) == 0) = false := by simp; omega
      have N5 : ((n : Int) == 2) = false := by simp; omega
      have N6 : ¬ n = 2 := by omega
      have N7 : ((n : Int) != 2) = true := by simp; omega
      clear hn
      have lg := World.block_lt_of_cell? _ _ K0
      simp only at lg
      have HB := hid hb
      have z1w := hb.size
      clear ho cW
      go_wp2_with fail
      go_ret
      exact AddG.stay (retI (by rw [E.out])) (by rw [E.out]) Hh.out HB.out hbw
  by_cases hTB : z0 = kTB
  · have hz0 := hTB
    by_cases hn4 : rs.length + 1 = 4
    · skip
      obtain ⟨z1, z2, z3, rfl⟩ : ∃ z1 z2 z3, rs = [z1, z2, z3] := by
        rcases rs with _ | ⟨z1, _ | ⟨z2, _ | ⟨z3, _ | ⟨z4, r⟩⟩⟩⟩
        · simp at hn4
        · simp at hn4
        · simp at hn4
        · exact ⟨z1, z2, z3, rfl⟩
        · simp at hn4
      have hs3 := hz1 z3 (by simp)
      have E : Hid (rowF x [z0, z1, z2, z3] = tubeO x z1 z2 (rdN z3.data.toList)) := by rw [hz0]; exact row_tube
      have cd := fun (W : World) => CD.out z3 W
      generalize rdN z3.data.toList = q at E cd
      have qDD : (z0.toList == [45, 45]) = false := bl_ne (by rw [hz0]; decide)
      have qST : (z0.toList == [115, 116, 97, 116, 105, 111, 110]) = false := bl_ne (by rw [hz0]; decide)
      have qRM : (z0.toList == [114, 111, 111, 109]) = false := bl_ne (by rw [hz0]; decide)
      have qTB : (z0.toList == [116, 117, 98, 101]) = true := bl_in hz0
      have qPR : (z0.toList == [112, 97, 105, 114]) = false := bl_ne (by rw [hz0]; decide)
      clear hz0 hTB hDD hz1 hn4
      cases q with
      | none =>
        skip
        go_enter Tryz.func30, Tryz.ntmps30
        go_wp2_with fail
        refine cW.mono ?_
        rintro r w1 ⟨A, n, c, rfl, ho, hb⟩
        have hn := own_len encS_len (by omega) ho
        simp only [List.length_cons, List.length_nil] at hn
        obtain ⟨g, rfl, K0⟩ := word_cell ho (i := 0) (z := z0) rfl
        obtain rfl : n = 4 := hn
        obtain ⟨g1, e1, K1⟩ := word_cell ho (i := 1) (z := z1) rfl
        obtain rfl : g = g1 := by injection e1 with e; injection e
        obtain ⟨g2, e2, K2⟩ := word_cell ho (i := 2) (z := z2) rfl
        obtain rfl : g = g2 := by injection e2 with e; injection e
        obtain ⟨g3, e3, K3⟩ := word_cell ho (i := 3) (z := z3) rfl
        obtain rfl : g = g3 := by injection e3 with e; injection e
        have lg := World.block_lt_of_cell? _ _ K0
        simp only at lg
        have HB := hid hb
        have z1w := hb.size
        clear ho cW
        go_wp2_with fail
        refine (cd _ hs3 (HB.out.alloc z1w _)).mono ?_
        rintro r w2 ⟨rfl, b2⟩
        have hb2 := (HB.out.alloc z1w (.cells #[.string ByteArray.empty, .string ByteArray.empty, .int .i64 0] 62)).trans (b2.mono (by simp; omega))
        have HB2 := hid hb2
        have z2w := b2.size
        simp only [World.size_alloc] at z2w
        have T0 : w2.cell? ⟨w1.heap.size, 0, none⟩ = some (.string ByteArray.empty) := below_cell ((World.cell?_alloc_at _ _ _ _ rfl).trans rfl) b2
        have T1 : w2.cell? ⟨w1.heap.size, 1, none⟩ = some (.string ByteArray.empty) := below_cell ((World.cell?_alloc_at _ _ _ _ rfl).trans rfl) b2
        have T2 : w2.cell? ⟨w1.heap.size, 2, none⟩ = some (.int .i64 0) := below_cell ((World.cell?_alloc_at _ _ _ _ rfl).trans rfl) b2
        have F0 : w2.frozen? ⟨w1.heap.size, 0, none⟩ = false := below_frz (p := ⟨w1.heap.size, 0, none⟩) (v := .string ByteArray.empty) ((World.cell?_alloc_at _ _ _ _ rfl).trans rfl) (by go_simp) b2
        have F1 : w2.frozen? ⟨w1.heap.size, 1, none⟩ = false := below_frz (p := ⟨w1.heap.size, 1, none⟩) (v := .string ByteArray.empty) ((World.cell?_alloc_at _ _ _ _ rfl).trans rfl) (by go_simp) b2
        have F2 : w2.frozen? ⟨w1.heap.size, 2, none⟩ = false := below_frz (p := ⟨w1.heap.size, 2, none⟩) (v := .int .i64 0) ((World.cell?_alloc_at _ _ _ _ rfl).trans rfl) (by go_simp) b2
        replace K0 := below_cell ((World.cell?_alloc_lt w1 (.cells #[.string ByteArray.empty, .string ByteArray.empty, .int .i64 0] 62) ⟨g, 0, none⟩ lg).trans K0) b2
        replace K1 := below_cell ((World.cell?_alloc_lt w1 (.cells #[.string ByteArray.empty, .string ByteArray.empty, .int .i64 0] 62) ⟨g, 1, none⟩ lg).trans K1) b2
        replace K2 := below_cell ((World.cell?_alloc_lt w1 (.cells #[.string ByteArray.empty, .string ByteArray.empty, .int .i64 0] 62) ⟨g, 2, none⟩ lg).trans K2) b2
        clear b2 K3 cd hb hb2
        simp only [numO]
        go_wp2_with fail
        go_ret
        exact AddG.stay (retI (by rw [E.out]; rfl)) (by rw [E.out]; rfl) Hh.out HB2.out hbw
      | some m =>
        skip
        go_enter Tryz.func30, Tryz.ntmps30
        go_wp2_with fail
        refine cW.mono ?_
        rintro r w1 ⟨A, n, c, rfl, ho, hb⟩
        have hn := own_len encS_len (by omega) ho
        simp only [List.length_cons, List.length_nil] at hn
        obtain ⟨g, rfl, K0⟩ := word_cell ho (i := 0) (z := z0) rfl
        obtain rfl : n = 4 := hn
        obtain ⟨g1, e1, K1⟩ := word_cell ho (i := 1) (z := z1) rfl
        obtain rfl : g = g1 := by injection e1 with e; injection e
        obtain ⟨g2, e2, K2⟩ := word_cell ho (i := 2) (z := z2) rfl
        obtain rfl : g = g2 := by injection e2 with e; injection e
        obtain ⟨g3, e3, K3⟩ := word_cell ho (i := 3) (z := z3) rfl
        obtain rfl : g = g3 := by injection e3 with e; injection e
        have lg := World.block_lt_of_cell? _ _ K0
        simp only at lg
        have HB := hid hb
        have z1w := hb.size
        clear ho cW
        go_wp2_with fail
        refine (cd _ hs3 (HB.out.alloc z1w _)).mono ?_
        rintro r w2 ⟨rfl, b2⟩
        have hb2 := (HB.out.alloc z1w (.cells #[.string ByteArray.empty, .string ByteArray.empty, .int .i64 0] 62)).trans (b2.mono (by simp; omega))
        have HB2 := hid hb2
        have z2w := b2.size
        simp only [World.size_alloc] at z2w
        have T0 : w2.cell? ⟨w1.heap.size, 0, none⟩ = some (.string ByteArray.empty) := below_cell ((World.cell?_alloc_at _ _ _ _ rfl).trans rfl) b2
        have T1 : w2.cell? ⟨w1.heap.size, 1, none⟩ = some (.string ByteArray.empty) := below_cell ((World.cell?_alloc_at _ _ _ _ rfl).trans rfl) b2
        have T2 : w2.cell? ⟨w1.heap.size, 2, none⟩ = some (.int .i64 0) := below_cell ((World.cell?_alloc_at _ _ _ _ rfl).trans rfl) b2
        have F0 : w2.frozen? ⟨w1.heap.size, 0, none⟩ = false := below_frz (p := ⟨w1.heap.size, 0, none⟩) (v := .string ByteArray.empty) ((World.cell?_alloc_at _ _ _ _ rfl).trans rfl) (by go_simp) b2
        have F1 : w2.frozen? ⟨w1.heap.size, 1, none⟩ = false := below_frz (p := ⟨w1.heap.size, 1, none⟩) (v := .string ByteArray.empty) ((World.cell?_alloc_at _ _ _ _ rfl).trans rfl) (by go_simp) b2
        have F2 : w2.frozen? ⟨w1.heap.size, 2, none⟩ = false := below_frz (p := ⟨w1.heap.size, 2, none⟩) (v := .int .i64 0) ((World.cell?_alloc_at _ _ _ _ rfl).trans rfl) (by go_simp) b2
        replace K0 := below_cell ((World.cell?_alloc_lt w1 (.cells #[.string ByteArray.empty, .string ByteArray.empty, .int .i64 0] 62) ⟨g, 0, none⟩ lg).trans K0) b2
        replace K1 := below_cell ((World.cell?_alloc_lt w1 (.cells #[.string ByteArray.empty, .string ByteArray.empty, .int .i64 0] 62) ⟨g, 1, none⟩ lg).trans K1) b2
        replace K2 := below_cell ((World.cell?_alloc_lt w1 (.cells #[.string ByteArray.empty, .string ByteArray.empty, .int .i64 0] 62) ⟨g, 2, none⟩ lg).trans K2) b2
        clear b2 K3 cd hb hb2
        simp only [numO]
        go_wp2_with fail
        refine wp_region_last (n := 8) (S := (fun W => W.cell? ⟨g, 1, none⟩ = some (.string z1) ∧ W.cell? ⟨g, 2, none⟩ = some (.string z2))) (by kernel_rfl) (by kernel_rfl) ?_ (fun hHeld => ?_)
        · (try dsimp only); exact ⟨K1, K2⟩
        refine wpAnyH_take (i := 0) (oi := ⟨some 49, Go.Op.move (Go.Operand.tmp 5), 22, "l21_language.go:120", #[], none⟩) (v := ?_) rfl (by kernel_rfl) (by kernel_rfl) (by kernel_rfl) (fun _ _ _ h => h) (Or.inl ⟨by rfl, ?_⟩) (by assumption) ?_
        rotate_left
        · intro w hSw; (try dsimp only at hSw); go_split_ands; go_simp; first | done | with_reducible rfl
        (try simp only [Act.put, List.setIfInBounds_toArray, List.set_cons_zero, List.set_cons_succ])
        refine wpAnyH_take (i := 1) (oi := ⟨some 50, Go.Op.indexAddr 22 (Go.Operand.tmp 49) (Go.Operand.const (Go.Value.int Go.IntKind.i64 1)), 0, "l21_language.go:120", #[⟨0, Go.Ground.data⟩], none⟩) (v := ?_) rfl (by kernel_rfl) (by kernel_rfl) (by kernel_rfl) (fun _ _ _ h => h) (Or.inl ⟨by rfl, ?_⟩) (by assumption) ?_
        rotate_left
        · intro w hSw; (try dsimp only at hSw); go_split_ands; go_simp; first | done | with_reducible rfl
        (try simp only [Act.put, List.setIfInBounds_toArray, List.set_cons_zero, List.set_cons_succ])
        refine wpAnyH_take (i := 2) (oi := ⟨some 51, Go.Op.load 9 (Go.Operand.tmp 50), 9, "l21_language.go:120", #[⟨1, Go.Ground.data⟩], none⟩) (v := ?_) rfl (by kernel_rfl) (by kernel_rfl) (by kernel_rfl) (fun _ _ _ h => h) (Or.inl ⟨by rfl, ?_⟩) (by assumption) ?_
        rotate_left
        · intro w hSw; (try dsimp only at hSw); go_split_ands; go_simp; first | done | with_reducible rfl
        (try simp only [Act.put, List.setIfInBounds_toArray, List.set_cons_zero, List.set_cons_succ])
        refine wpAnyH_take (i := 3) (oi := ⟨some 52, Go.Op.move (Go.Operand.tmp 5), 22, "l21_language.go:120", #[], none⟩) (v := ?_) rfl (by kernel_rfl) (by kernel_rfl) (by kernel_rfl) (fun _ _ _ h => h) (Or.inl ⟨by rfl, ?_⟩) (by assumption) ?_
        rotate_left
        · intro w hSw; (try dsimp only at hSw); go_split_ands; go_simp; first | done | with_reducible rfl
        (try simp only [Act.put, List.setIfInBounds_toArray, List.set_cons_zero, List.set_cons_succ])
        refine wpAnyH_take (i := 4) (oi := ⟨some 53, Go.Op.indexAddr 22 (Go.Operand.tmp 52) (Go.Operand.const (Go.Value.int Go.IntKind.i64 2)), 0, "l21_language.go:120", #[⟨3, Go.Ground.data⟩], none⟩) (v := ?_) rfl (by kernel_rfl) (by kernel_rfl) (by kernel_rfl) (fun _ _ _ h => h) (Or.inl ⟨by rfl, ?_⟩) (by assumption) ?_
        rotate_left
        · intro w hSw; (try dsimp only at hSw); go_split_ands; go_simp; first | done | with_reducible rfl
        (try simp only [Act.put, List.setIfInBounds_toArray, List.set_cons_zero, List.set_cons_succ])
        refine wpAnyH_take (i := 5) (oi := ⟨some 54, Go.Op.load 9 (Go.Operand.tmp 53), 9, "l21_language.go:120", #[⟨4, Go.Ground.data⟩], none⟩) (v := ?_) rfl (by kernel_rfl) (by kernel_rfl) (by kernel_rfl) (fun _ _ _ h => h) (Or.inl ⟨by rfl, ?_⟩) (by assumption) ?_
        rotate_left
        · intro w hSw; (try dsimp only at hSw); go_split_ands; go_simp; first | done | with_reducible rfl
        (try simp only [Act.put, List.setIfInBounds_toArray, List.set_cons_zero, List.set_cons_succ])
        refine wpAnyH_take (i := 6) (oi := ⟨some 55, Go.Op.move (Go.Operand.tmp 8), 2, "l21_language.go:120", #[], none⟩) (v := ?_) rfl (by kernel_rfl) (by kernel_rfl) (by kernel_rfl) (fun _ _ _ h => h) (Or.inl ⟨by rfl, ?_⟩) (by assumption) ?_
        rotate_left
        · intro w hSw; (try dsimp only at hSw); go_split_ands; go_simp; first | done | with_reducible rfl
        (try simp only [Act.put, List.setIfInBounds_toArray, List.set_cons_zero, List.set_cons_succ])
        refine wpAnyH_take (i := 7) (oi := ⟨some 56, Go.Op.build 62 #[(0, Go.Operand.tmp 51), (1, Go.Operand.tmp 54), (2, Go.Operand.tmp 55)], 62, "l21_language.go:120", #[⟨2, Go.Ground.data⟩, ⟨5, Go.Ground.data⟩, ⟨6, Go.Ground.data⟩], none⟩) (v := ?_) rfl (by kernel_rfl) (by kernel_rfl) (by kernel_rfl) (fun _ _ _ h => h) (Or.inl ⟨by rfl, ?_⟩) (by assumption) ?_
        rotate_left
        · intro w hSw; (try dsimp only at hSw); go_split_ands; go_simp; first | done | with_reducible rfl
        (try simp only [Act.put, List.setIfInBounds_toArray, List.set_cons_zero, List.set_cons_succ])
        refine wpAnyH_done (by kernel_rfl) ?_ _
        refine last_step rfl rfl (fun K hK => ?_)
        go_simp
        refine hK.out _ _ ?_
        clear hK K
        obtain ⟨W3, hW3⟩ : ∃ W3, W3 = (((w2.setCell ⟨w1.heap.size, 0, none⟩ (.string z1)).setCell ⟨w1.heap.size, 1, none⟩ (.string z2)).setCell ⟨w1.heap.size, 2, none⟩ (.int .i64 m)).drew := ⟨_, rfl⟩
        rw [← hW3]
        have B3 : Below w.heap.size w W3 := by rw [hW3]; exact (((HB2.out.setCell (p := ⟨w1.heap.size, 0, none⟩) z1w _).setCell (p := ⟨w1.heap.size, 1, none⟩) z1w _).setCell (p := ⟨w1.heap.size, 2, none⟩) z1w _).drew
        have D0 : W3.cell? ⟨w1.heap.size, 0, none⟩ = some (.string z1) := by rw [hW3, World.cell?_drew]; exact set3_0 T0 _ _ _
        have D1 : W3.cell? ⟨w1.heap.size, 1, none⟩ = some (.string z2) := by rw [hW3, World.cell?_drew]; exact set3_1 T1 _ _ _
        have D2 : W3.cell? ⟨w1.heap.size, 2, none⟩ = some (.int .i64 m) := by rw [hW3, World.cell?_drew]; exact set3_2 T2 _ _ _
        have hne : w1.heap.size ≠ g := by omega
        replace K0 : W3.cell? ⟨g, 0, none⟩ = some (.string z0) := by rw [hW3, World.cell?_drew]; exact (cell_far hne).trans ((cell_far hne).trans ((cell_far hne).trans K0))
        have l3 := World.block_lt_of_cell? _ _ D0
        have lg3 := World.block_lt_of_cell? _ _ K0
        simp only at l3 lg3
        have z3w := B3.size
        have HB3 := hid B3
        have cT := addWayG_any gs lo B0 s x z1 z2 m W3 hg0 hlo (by omega) hl hl3 (Hh.out.below B3)
        clear hW3 T0 T1 T2 F0 F1 F2 K1 K2 hHeld B3 hne
        go_wp2_with fail
        refine cT.mono ?_
        rintro r w4 ⟨rfl, h4⟩
        go_wp2_with fail
        go_ret
        rw [E.out]
        exact AddG.below ⟨rfl, h4⟩ HB3.out hbw
    · skip
      have E : Hid (rowF x (z0 :: rs) = (x, 2)) := by rw [hz0]; exact row_bad4 (.inl rfl) hn4
      have N1 : ((rs.length + 1 : Nat) : Int) = 4 → False := fun e => hn4 (by omega)
      have qDD : (z0.toList == [45, 45]) = false := bl_ne (by rw [hz0]; decide)
      have qST : (z0.toList == [115, 116, 97, 116, 105, 111, 110]) = false := bl_ne (by rw [hz0]; decide)
      have qRM : (z0.toList == [114, 111, 111, 109]) = false := bl_ne (by rw [hz0]; decide)
      have qTB : (z0.toList == [116, 117, 98, 101]) = true := bl_in hz0
      have qPR : (z0.toList == [112, 97, 105, 114]) = false := bl_ne (by rw [hz0]; decide)
      clear hz0 hTB N1 hz1
      go_enter Tryz.func30, Tryz.ntmps30
      go_wp2_with fail
      refine cW.mono ?_
      rintro r w1 ⟨A, n, c, rfl, ho, hb⟩
      have hn := own_len encS_len (by omega) ho
      simp only [List.length_cons] at hn
      obtain ⟨g, rfl, K0⟩ := word_cell ho (i := 0) (z := z0) rfl
      have N0 : ¬ n = 0 := by omega
      have N1 : 0 < n := by omega
      have N2 : ((n : Int) == 0) = false := by simp; omega
      have N5 : ((n : Int) == 4) = false := by simp; omega
      have N6 : ¬ n = 4 := by omega
      have N7 : ((n : Int) != 4) = true := by simp; omega
      clear hn
      have lg := World.block_lt_of_cell? _ _ K0
      simp only at lg
      have HB := hid hb
      have z1w := hb.size
      clear ho cW
      go_wp2_with fail
      go_ret
      exact AddG.stay (retI (by rw [E.out])) (by rw [E.out]) Hh.out HB.out hbw
  by_cases hPR : z0 = kPR
  · have hz0 := hPR
    by_cases hn4 : rs.length + 1 = 4
    · skip
      obtain ⟨z1, z2, z3, rfl⟩ : ∃ z1 z2 z3, rs = [z1, z2, z3] := by
        rcases rs with _ | ⟨z1, _ | ⟨z2, _ | ⟨z3, _ | ⟨z4, r⟩⟩⟩⟩
        · simp at hn4
        · simp at hn4
        · simp at hn4
        · exact ⟨z1, z2, z3, rfl⟩
        · simp at hn4
      have hs3 := hz1 z3 (by simp)
      have E : Hid (rowF x [z0, z1, z2, z3] = pairO x z1 z2 (rdN z3.data.toList)) := by rw [hz0]; exact row_pair
      have cd := fun (W : World) => CD.out z3 W
      generalize rdN z3.data.toList = q at E cd
      have qDD : (z0.toList == [45, 45]) = false := bl_ne (by rw [hz0]; decide)
      have qST : (z0.toList == [115, 116, 97, 116, 105, 111, 110]) = false := bl_ne (by rw [hz0]; decide)
      have qRM : (z0.toList == [114, 111, 111, 109]) = false := bl_ne (by rw [hz0]; decide)
      have qTB : (z0.toList == [116, 117, 98, 101]) = false := bl_ne (by rw [hz0]; decide)
      have qPR : (z0.toList == [112, 97, 105, 114]) = true := bl_in hz0
      clear hz0 hPR hTB hRM hST hDD hz1 hn4
      cases q with
      | none =>
        skip
        go_enter Tryz.func30, Tryz.ntmps30
        go_wp2_with fail
        refine cW.mono ?_
        rintro r w1 ⟨A, n, c, rfl, ho, hb⟩
        have hn := own_len encS_len (by omega) ho
        simp only [List.length_cons, List.length_nil] at hn
        obtain ⟨g, rfl, K0⟩ := word_cell ho (i := 0) (z := z0) rfl
        obtain rfl : n = 4 := hn
        obtain ⟨g1, e1, K1⟩ := word_cell ho (i := 1) (z := z1) rfl
        obtain rfl : g = g1 := by injection e1 with e; injection e
        obtain ⟨g2, e2, K2⟩ := word_cell ho (i := 2) (z := z2) rfl
        obtain rfl : g = g2 := by injection e2 with e; injection e
        obtain ⟨g3, e3, K3⟩ := word_cell ho (i := 3) (z := z3) rfl
        obtain rfl : g = g3 := by injection e3 with e; injection e
        have lg := World.block_lt_of_cell? _ _ K0
        simp only at lg
        have HB := hid hb
        have z1w := hb.size
        clear ho cW
        go_wp2_with fail
        refine (cd _ hs3 (HB.out.alloc z1w _)).mono ?_
        rintro r w2 ⟨rfl, b2⟩
        have hb2 := (HB.out.alloc z1w (.cells #[.string ByteArray.empty, .string ByteArray.empty, .int .i64 0] 62)).trans (b2.mono (by simp; omega))
        have HB2 := hid hb2
        have z2w := b2.size
        simp only [World.size_alloc] at z2w
        have T0 : w2.cell? ⟨w1.heap.size, 0, none⟩ = some (.string ByteArray.empty) := below_cell ((World.cell?_alloc_at _ _ _ _ rfl).trans rfl) b2
        have T1 : w2.cell? ⟨w1.heap.size, 1, none⟩ = some (.string ByteArray.empty) := below_cell ((World.cell?_alloc_at _ _ _ _ rfl).trans rfl) b2
        have T2 : w2.cell? ⟨w1.heap.size, 2, none⟩ = some (.int .i64 0) := below_cell ((World.cell?_alloc_at _ _ _ _ rfl).trans rfl) b2
        have F0 : w2.frozen? ⟨w1.heap.size, 0, none⟩ = false := below_frz (p := ⟨w1.heap.size, 0, none⟩) (v := .string ByteArray.empty) ((World.cell?_alloc_at _ _ _ _ rfl).trans rfl) (by go_simp) b2
        have F1 : w2.frozen? ⟨w1.heap.size, 1, none⟩ = false := below_frz (p := ⟨w1.heap.size, 1, none⟩) (v := .string ByteArray.empty) ((World.cell?_alloc_at _ _ _ _ rfl).trans rfl) (by go_simp) b2
        have F2 : w2.frozen? ⟨w1.heap.size, 2, none⟩ = false := below_frz (p := ⟨w1.heap.size, 2, none⟩) (v := .int .i64 0) ((World.cell?_alloc_at _ _ _ _ rfl).trans rfl) (by go_simp) b2
        replace K0 := below_cell ((World.cell?_alloc_lt w1 (.cells #[.string ByteArray.empty, .string ByteArray.empty, .int .i64 0] 62) ⟨g, 0, none⟩ lg).trans K0) b2
        replace K1 := below_cell ((World.cell?_alloc_lt w1 (.cells #[.string ByteArray.empty, .string ByteArray.empty, .int .i64 0] 62) ⟨g, 1, none⟩ lg).trans K1) b2
        replace K2 := below_cell ((World.cell?_alloc_lt w1 (.cells #[.string ByteArray.empty, .string ByteArray.empty, .int .i64 0] 62) ⟨g, 2, none⟩ lg).trans K2) b2
        clear b2 K3 cd hb hb2
        simp only [numO]
        go_wp2_with fail
        go_ret
        exact AddG.stay (retI (by rw [E.out]; rfl)) (by rw [E.out]; rfl) Hh.out HB2.out hbw
      | some m =>
        skip
        have EP : pairO x z1 z2 (some m) = pairF x ⟨z1, z2, m⟩ := rfl
        rw [EP, pairF] at E
        clear EP
        have EA := hid (show addWy x ⟨z1, z2, m⟩ = if wyF x.st x.wy ⟨z1, z2, m⟩ = 0 then ⟨x.st, x.rm, x.wy ++ [⟨z1, z2, m⟩]⟩ else x from rfl)
        have hW0 := fun h => (wyF_zero (ss := x.st) (ws := x.wy) (x := ⟨z1, z2, m⟩) h).1
        have cTT := addWayG_any gs lo B0 s x z1 z2 m
        generalize wyF x.st x.wy ⟨z1, z2, m⟩ = F1 at E EA hW0 cTT
        by_cases hf1 : F1 = 0
        · skip
          rw [if_pos hf1] at E EA
          have hl61 : (x.wy ++ [(⟨z1, z2, m⟩ : Way)]).length ≤ 60 := by have := hW0 hf1; simp only [List.length_append, List.length_cons, List.length_nil]; omega
          subst hf1
          have EA2 := hid (show addWy ⟨x.st, x.rm, x.wy ++ [⟨z1, z2, m⟩]⟩ ⟨z2, z1, m⟩ = if wyF x.st (x.wy ++ [⟨z1, z2, m⟩]) ⟨z2, z1, m⟩ = 0 then ⟨x.st, x.rm, x.wy ++ [⟨z1, z2, m⟩] ++ [⟨z2, z1, m⟩]⟩ else ⟨x.st, x.rm, x.wy ++ [⟨z1, z2, m⟩]⟩ from rfl)
          have cT2 := fun (s4 : SV) => addWayG_any gs lo B0 s4 ⟨x.st, x.rm, x.wy ++ [⟨z1, z2, m⟩]⟩ z2 z1 m
          simp only at cT2
          generalize wyF x.st (x.wy ++ [⟨z1, z2, m⟩]) ⟨z2, z1, m⟩ = F2 at E EA2 cT2
          by_cases hf2 : F2 = 0
          · rw [if_pos hf2] at E EA2
            subst hf2
            go_enter Tryz.func30, Tryz.ntmps30
            go_wp2_with fail
            refine cW.mono ?_
            rintro r w1 ⟨A, n, c, rfl, ho, hb⟩
            have hn := own_len encS_len (by omega) ho
            simp only [List.length_cons, List.length_nil] at hn
            obtain ⟨g, rfl, K0⟩ := word_cell ho (i := 0) (z := z0) rfl
            obtain rfl : n = 4 := hn
            obtain ⟨g1, e1, K1⟩ := word_cell ho (i := 1) (z := z1) rfl
            obtain rfl : g = g1 := by injection e1 with e; injection e
            obtain ⟨g2, e2, K2⟩ := word_cell ho (i := 2) (z := z2) rfl
            obtain rfl : g = g2 := by injection e2 with e; injection e
            obtain ⟨g3, e3, K3⟩ := word_cell ho (i := 3) (z := z3) rfl
            obtain rfl : g = g3 := by injection e3 with e; injection e
            have lg := World.block_lt_of_cell? _ _ K0
            simp only at lg
            have HB := hid hb
            have z1w := hb.size
            clear ho cW
            go_wp2_with fail
            refine (cd _ hs3 (HB.out.alloc z1w _)).mono ?_
            rintro r w2 ⟨rfl, b2⟩
            have hb2 := (HB.out.alloc z1w (.cells #[.string ByteArray.empty, .string ByteArray.empty, .int .i64 0] 62)).trans (b2.mono (by simp; omega))
            have HB2 := hid hb2
            have z2w := b2.size
            simp only [World.size_alloc] at z2w
            have T0 : w2.cell? ⟨w1.heap.size, 0, none⟩ = some (.string ByteArray.empty) := below_cell ((World.cell?_alloc_at _ _ _ _ rfl).trans rfl) b2
            have T1 : w2.cell? ⟨w1.heap.size, 1, none⟩ = some (.string ByteArray.empty) := below_cell ((World.cell?_alloc_at _ _ _ _ rfl).trans rfl) b2
            have T2 : w2.cell? ⟨w1.heap.size, 2, none⟩ = some (.int .i64 0) := below_cell ((World.cell?_alloc_at _ _ _ _ rfl).trans rfl) b2
            have F0 : w2.frozen? ⟨w1.heap.size, 0, none⟩ = false := below_frz (p := ⟨w1.heap.size, 0, none⟩) (v := .string ByteArray.empty) ((World.cell?_alloc_at _ _ _ _ rfl).trans rfl) (by go_simp) b2
            have F1 : w2.frozen? ⟨w1.heap.size, 1, none⟩ = false := below_frz (p := ⟨w1.heap.size, 1, none⟩) (v := .string ByteArray.empty) ((World.cell?_alloc_at _ _ _ _ rfl).trans rfl) (by go_simp) b2
            have F2 : w2.frozen? ⟨w1.heap.size, 2, none⟩ = false := below_frz (p := ⟨w1.heap.size, 2, none⟩) (v := .int .i64 0) ((World.cell?_alloc_at _ _ _ _ rfl).trans rfl) (by go_simp) b2
            replace K0 := below_cell ((World.cell?_alloc_lt w1 (.cells #[.string ByteArray.empty, .string ByteArray.empty, .int .i64 0] 62) ⟨g, 0, none⟩ lg).trans K0) b2
            replace K1 := below_cell ((World.cell?_alloc_lt w1 (.cells #[.string ByteArray.empty, .string ByteArray.empty, .int .i64 0] 62) ⟨g, 1, none⟩ lg).trans K1) b2
            replace K2 := below_cell ((World.cell?_alloc_lt w1 (.cells #[.string ByteArray.empty, .string ByteArray.empty, .int .i64 0] 62) ⟨g, 2, none⟩ lg).trans K2) b2
            clear b2 K3 cd hb hb2
            simp only [numO]
            go_wp2_with fail
            refine wp_region_last (n := 8) (S := (fun W => W.cell? ⟨g, 1, none⟩ = some (.string z1) ∧ W.cell? ⟨g, 2, none⟩ = some (.string z2))) (by kernel_rfl) (by kernel_rfl) ?_ (fun hHeld => ?_)
            · (try dsimp only); exact ⟨K1, K2⟩
            refine wpAnyH_take (i := 0) (oi := ⟨some 49, Go.Op.move (Go.Operand.tmp 5), 22, "l21_language.go:120", #[], none⟩) (v := ?_) rfl (by kernel_rfl) (by kernel_rfl) (by kernel_rfl) (fun _ _ _ h => h) (Or.inl ⟨by rfl, ?_⟩) (by assumption) ?_
            rotate_left
            · intro w hSw; (try dsimp only at hSw); go_split_ands; go_simp; first | done | with_reducible rfl
            (try simp only [Act.put, List.setIfInBounds_toArray, List.set_cons_zero, List.set_cons_succ])
            refine wpAnyH_take (i := 1) (oi := ⟨some 50, Go.Op.indexAddr 22 (Go.Operand.tmp 49) (Go.Operand.const (Go.Value.int Go.IntKind.i64 1)), 0, "l21_language.go:120", #[⟨0, Go.Ground.data⟩], none⟩) (v := ?_) rfl (by kernel_rfl) (by kernel_rfl) (by kernel_rfl) (fun _ _ _ h => h) (Or.inl ⟨by rfl, ?_⟩) (by assumption) ?_
            rotate_left
            · intro w hSw; (try dsimp only at hSw); go_split_ands; go_simp; first | done | with_reducible rfl
            (try simp only [Act.put, List.setIfInBounds_toArray, List.set_cons_zero, List.set_cons_succ])
            refine wpAnyH_take (i := 2) (oi := ⟨some 51, Go.Op.load 9 (Go.Operand.tmp 50), 9, "l21_language.go:120", #[⟨1, Go.Ground.data⟩], none⟩) (v := ?_) rfl (by kernel_rfl) (by kernel_rfl) (by kernel_rfl) (fun _ _ _ h => h) (Or.inl ⟨by rfl, ?_⟩) (by assumption) ?_
            rotate_left
            · intro w hSw; (try dsimp only at hSw); go_split_ands; go_simp; first | done | with_reducible rfl
            (try simp only [Act.put, List.setIfInBounds_toArray, List.set_cons_zero, List.set_cons_succ])
            refine wpAnyH_take (i := 3) (oi := ⟨some 52, Go.Op.move (Go.Operand.tmp 5), 22, "l21_language.go:120", #[], none⟩) (v := ?_) rfl (by kernel_rfl) (by kernel_rfl) (by kernel_rfl) (fun _ _ _ h => h) (Or.inl ⟨by rfl, ?_⟩) (by assumption) ?_
            rotate_left
            · intro w hSw; (try dsimp only at hSw); go_split_ands; go_simp; first | done | with_reducible rfl
            (try simp only [Act.put, List.setIfInBounds_toArray, List.set_cons_zero, List.set_cons_succ])
            refine wpAnyH_take (i := 4) (oi := ⟨some 53, Go.Op.indexAddr 22 (Go.Operand.tmp 52) (Go.Operand.const (Go.Value.int Go.IntKind.i64 2)), 0, "l21_language.go:120", #[⟨3, Go.Ground.data⟩], none⟩) (v := ?_) rfl (by kernel_rfl) (by kernel_rfl) (by kernel_rfl) (fun _ _ _ h => h) (Or.inl ⟨by rfl, ?_⟩) (by assumption) ?_
            rotate_left
            · intro w hSw; (try dsimp only at hSw); go_split_ands; go_simp; first | done | with_reducible rfl
            (try simp only [Act.put, List.setIfInBounds_toArray, List.set_cons_zero, List.set_cons_succ])
            refine wpAnyH_take (i := 5) (oi := ⟨some 54, Go.Op.load 9 (Go.Operand.tmp 53), 9, "l21_language.go:120", #[⟨4, Go.Ground.data⟩], none⟩) (v := ?_) rfl (by kernel_rfl) (by kernel_rfl) (by kernel_rfl) (fun _ _ _ h => h) (Or.inl ⟨by rfl, ?_⟩) (by assumption) ?_
            rotate_left
            · intro w hSw; (try dsimp only at hSw); go_split_ands; go_simp; first | done | with_reducible rfl
            (try simp only [Act.put, List.setIfInBounds_toArray, List.set_cons_zero, List.set_cons_succ])
            refine wpAnyH_take (i := 6) (oi := ⟨some 55, Go.Op.move (Go.Operand.tmp 8), 2, "l21_language.go:120", #[], none⟩) (v := ?_) rfl (by kernel_rfl) (by kernel_rfl) (by kernel_rfl) (fun _ _ _ h => h) (Or.inl ⟨by rfl, ?_⟩) (by assumption) ?_
            rotate_left
            · intro w hSw; (try dsimp only at hSw); go_split_ands; go_simp; first | done | with_reducible rfl
            (try simp only [Act.put, List.setIfInBounds_toArray, List.set_cons_zero, List.set_cons_succ])
            refine wpAnyH_take (i := 7) (oi := ⟨some 56, Go.Op.build 62 #[(0, Go.Operand.tmp 51), (1, Go.Operand.tmp 54), (2, Go.Operand.tmp 55)], 62, "l21_language.go:120", #[⟨2, Go.Ground.data⟩, ⟨5, Go.Ground.data⟩, ⟨6, Go.Ground.data⟩], none⟩) (v := ?_) rfl (by kernel_rfl) (by kernel_rfl) (by kernel_rfl) (fun _ _ _ h => h) (Or.inl ⟨by rfl, ?_⟩) (by assumption) ?_
            rotate_left
            · intro w hSw; (try dsimp only at hSw); go_split_ands; go_simp; first | done | with_reducible rfl
            (try simp only [Act.put, List.setIfInBounds_toArray, List.set_cons_zero, List.set_cons_succ])
            refine wpAnyH_done (by kernel_rfl) ?_ _
            refine last_step rfl rfl (fun K hK => ?_)
            go_simp
            refine hK.out _ _ ?_
            clear hK K
            obtain ⟨W3, hW3⟩ : ∃ W3, W3 = (((w2.setCell ⟨w1.heap.size, 0, none⟩ (.string z1)).setCell ⟨w1.heap.size, 1, none⟩ (.string z2)).setCell ⟨w1.heap.size, 2, none⟩ (.int .i64 m)).drew := ⟨_, rfl⟩
            rw [← hW3]
            have B3 : Below w.heap.size w W3 := by rw [hW3]; exact (((HB2.out.setCell (p := ⟨w1.heap.size, 0, none⟩) z1w _).setCell (p := ⟨w1.heap.size, 1, none⟩) z1w _).setCell (p := ⟨w1.heap.size, 2, none⟩) z1w _).drew
            have D0 : W3.cell? ⟨w1.heap.size, 0, none⟩ = some (.string z1) := by rw [hW3, World.cell?_drew]; exact set3_0 T0 _ _ _
            have D1 : W3.cell? ⟨w1.heap.size, 1, none⟩ = some (.string z2) := by rw [hW3, World.cell?_drew]; exact set3_1 T1 _ _ _
            have D2 : W3.cell? ⟨w1.heap.size, 2, none⟩ = some (.int .i64 m) := by rw [hW3, World.cell?_drew]; exact set3_2 T2 _ _ _
            have hne : w1.heap.size ≠ g := by omega
            replace K0 : W3.cell? ⟨g, 0, none⟩ = some (.string z0) := by rw [hW3, World.cell?_drew]; exact (cell_far hne).trans ((cell_far hne).trans ((cell_far hne).trans K0))
            have l3 := World.block_lt_of_cell? _ _ D0
            have lg3 := World.block_lt_of_cell? _ _ K0
            simp only at l3 lg3
            have z3w := B3.size
            have HB3 := hid B3
            have cT := cTT W3 hg0 hlo (by omega) hl hl3 (Hh.out.below B3)
            clear cTT hW3 T0 T1 T2 F0 F1 F2 K1 K2 hHeld B3 hne
            have X3 := hid (Hh.out.below HB3.out)
            have k2 := X3.out.k2
            have hl3n : s.n3 = x.wy.length := X3.out.len.2.2
            obtain ⟨V1, u1, v1, V2, u2, v2, V3, u3, v3⟩ := s
            simp only at k2 hl3n cT
            have HL3 := hid hl3n
            clear hl3n
            go_wp2_with fail
            refine cT.mono ?_
            rintro r w4 ⟨rfl, ⟨s4, X4, K4⟩, b4, far4⟩
            have b4z := b4.size
            replace K4 := K4.more z3w
            have F4 := hid (far4.behind HB3.out)
            rw [EA.out] at X4
            obtain ⟨U1, m1, d1, U2, m2, d2, U3, m3, d3⟩ := s4
            have hlo4 : lo ≤ w4.heap.size := Nat.le_trans hlw (Nat.le_trans (Nat.le_trans z3w (Nat.le_refl _)) b4z)
            have c5 := cT2 ⟨U1, m1, d1, U2, m2, d2, U3, m3, d3⟩ w4 hg0 hlo hlo4 hl hl61 X4
            have hAo : ∀ q, SV.has ⟨V1, u1, v1, V2, u2, v2, V3, u3, v3⟩ q → q < w.heap.size := fun q hq => (Hh.out.has_lt hq).2
            have K4h := hid K4
            replace D0 := far4.cell D0 (by simp only; omega) (fun e => by have := hAo _ e; simp only at this; omega)
            replace D1 := far4.cell D1 (by simp only; omega) (fun e => by have := hAo _ e; simp only at this; omega)
            replace D2 := far4.cell D2 (by simp only; omega) (fun e => by have := hAo _ e; simp only at this; omega)
            replace l3 := World.block_lt_of_cell? _ _ D0
            simp only at l3
            have B4 := (HB3.out.mono hbw).trans (b4.mono (Nat.le_refl _))
            have HB4 := hid B4
            have q4 := X4.k2
            have l4 := X4.lt
            simp only at q4
            have z4w : w.heap.size ≤ w4.heap.size := B4.size
            clear X4 far4 cT b4 hAo B4 k2 cT2 hW0 hl61 hlo4 K4
            go_wp2_with fail
            refine c5.mono ?_
            rintro r w5 ⟨rfl, ⟨s5, X5, K5⟩, b5, far5⟩
            have KK0 := K4h.out.trans K5 z4w
            have F5 := hid (F4.out.chain K4h.out far5 z4w)
            clear K5 far5
            have HB5 := hid (HB4.out.trans (b5.mono (Nat.le_refl _)))
            rw [EA2.out] at X5
            have X6 := hid X5
            have KK := hid KK0
            clear X5 b5 c5 KK0
            go_wp2_with fail
            go_ret
            exact ⟨retI (by rw [E.out]), ⟨_, by rw [E.out]; exact X6.out, KK.out⟩, HB5.out, F5.out⟩
          · rw [if_neg hf2] at E EA2
            go_enter Tryz.func30, Tryz.ntmps30
            go_wp2_with fail
            refine cW.mono ?_
            rintro r w1 ⟨A, n, c, rfl, ho, hb⟩
            have hn := own_len encS_len (by omega) ho
            simp only [List.length_cons, List.length_nil] at hn
            obtain ⟨g, rfl, K0⟩ := word_cell ho (i := 0) (z := z0) rfl
            obtain rfl : n = 4 := hn
            obtain ⟨g1, e1, K1⟩ := word_cell ho (i := 1) (z := z1) rfl
            obtain rfl : g = g1 := by injection e1 with e; injection e
            obtain ⟨g2, e2, K2⟩ := word_cell ho (i := 2) (z := z2) rfl
            obtain rfl : g = g2 := by injection e2 with e; injection e
            obtain ⟨g3, e3, K3⟩ := word_cell ho (i := 3) (z := z3) rfl
            obtain rfl : g = g3 := by injection e3 with e; injection e
            have lg := World.block_lt_of_cell? _ _ K0
            simp only at lg
            have HB := hid hb
            have z1w := hb.size
            clear ho cW
            go_wp2_with fail
            refine (cd _ hs3 (HB.out.alloc z1w _)).mono ?_
            rintro r w2 ⟨rfl, b2⟩
            have hb2 := (HB.out.alloc z1w (.cells #[.string ByteArray.empty, .string ByteArray.empty, .int .i64 0] 62)).trans (b2.mono (by simp; omega))
            have HB2 := hid hb2
            have z2w := b2.size
            simp only [World.size_alloc] at z2w
            have T0 : w2.cell? ⟨w1.heap.size, 0, none⟩ = some (.string ByteArray.empty) := below_cell ((World.cell?_alloc_at _ _ _ _ rfl).trans rfl) b2
            have T1 : w2.cell? ⟨w1.heap.size, 1, none⟩ = some (.string ByteArray.empty) := below_cell ((World.cell?_alloc_at _ _ _ _ rfl).trans rfl) b2
            have T2 : w2.cell? ⟨w1.heap.size, 2, none⟩ = some (.int .i64 0) := below_cell ((World.cell?_alloc_at _ _ _ _ rfl).trans rfl) b2
            have F0 : w2.frozen? ⟨w1.heap.size, 0, none⟩ = false := below_frz (p := ⟨w1.heap.size, 0, none⟩) (v := .string ByteArray.empty) ((World.cell?_alloc_at _ _ _ _ rfl).trans rfl) (by go_simp) b2
            have F1 : w2.frozen? ⟨w1.heap.size, 1, none⟩ = false := below_frz (p := ⟨w1.heap.size, 1, none⟩) (v := .string ByteArray.empty) ((World.cell?_alloc_at _ _ _ _ rfl).trans rfl) (by go_simp) b2
            have F2 : w2.frozen? ⟨w1.heap.size, 2, none⟩ = false := below_frz (p := ⟨w1.heap.size, 2, none⟩) (v := .int .i64 0) ((World.cell?_alloc_at _ _ _ _ rfl).trans rfl) (by go_simp) b2
            replace K0 := below_cell ((World.cell?_alloc_lt w1 (.cells #[.string ByteArray.empty, .string ByteArray.empty, .int .i64 0] 62) ⟨g, 0, none⟩ lg).trans K0) b2
            replace K1 := below_cell ((World.cell?_alloc_lt w1 (.cells #[.string ByteArray.empty, .string ByteArray.empty, .int .i64 0] 62) ⟨g, 1, none⟩ lg).trans K1) b2
            replace K2 := below_cell ((World.cell?_alloc_lt w1 (.cells #[.string ByteArray.empty, .string ByteArray.empty, .int .i64 0] 62) ⟨g, 2, none⟩ lg).trans K2) b2
            clear b2 K3 cd hb hb2
            simp only [numO]
            go_wp2_with fail
            refine wp_region_last (n := 8) (S := (fun W => W.cell? ⟨g, 1, none⟩ = some (.string z1) ∧ W.cell? ⟨g, 2, none⟩ = some (.string z2))) (by kernel_rfl) (by kernel_rfl) ?_ (fun hHeld => ?_)
            · (try dsimp only); exact ⟨K1, K2⟩
            refine wpAnyH_take (i := 0) (oi := ⟨some 49, Go.Op.move (Go.Operand.tmp 5), 22, "l21_language.go:120", #[], none⟩) (v := ?_) rfl (by kernel_rfl) (by kernel_rfl) (by kernel_rfl) (fun _ _ _ h => h) (Or.inl ⟨by rfl, ?_⟩) (by assumption) ?_
            rotate_left
            · intro w hSw; (try dsimp only at hSw); go_split_ands; go_simp; first | done | with_reducible rfl
            (try simp only [Act.put, List.setIfInBounds_toArray, List.set_cons_zero, List.set_cons_succ])
            refine wpAnyH_take (i := 1) (oi := ⟨some 50, Go.Op.indexAddr 22 (Go.Operand.tmp 49) (Go.Operand.const (Go.Value.int Go.IntKind.i64 1)), 0, "l21_language.go:120", #[⟨0, Go.Ground.data⟩], none⟩) (v := ?_) rfl (by kernel_rfl) (by kernel_rfl) (by kernel_rfl) (fun _ _ _ h => h) (Or.inl ⟨by rfl, ?_⟩) (by assumption) ?_
            rotate_left
            · intro w hSw; (try dsimp only at hSw); go_split_ands; go_simp; first | done | with_reducible rfl
            (try simp only [Act.put, List.setIfInBounds_toArray, List.set_cons_zero, List.set_cons_succ])
            refine wpAnyH_take (i := 2) (oi := ⟨some 51, Go.Op.load 9 (Go.Operand.tmp 50), 9, "l21_language.go:120", #[⟨1, Go.Ground.data⟩], none⟩) (v := ?_) rfl (by kernel_rfl) (by kernel_rfl) (by kernel_rfl) (fun _ _ _ h => h) (Or.inl ⟨by rfl, ?_⟩) (by assumption) ?_
            rotate_left
            · intro w hSw; (try dsimp only at hSw); go_split_ands; go_simp; first | done | with_reducible rfl
            (try simp only [Act.put, List.setIfInBounds_toArray, List.set_cons_zero, List.set_cons_succ])
            refine wpAnyH_take (i := 3) (oi := ⟨some 52, Go.Op.move (Go.Operand.tmp 5), 22, "l21_language.go:120", #[], none⟩) (v := ?_) rfl (by kernel_rfl) (by kernel_rfl) (by kernel_rfl) (fun _ _ _ h => h) (Or.inl ⟨by rfl, ?_⟩) (by assumption) ?_
            rotate_left
            · intro w hSw; (try dsimp only at hSw); go_split_ands; go_simp; first | done | with_reducible rfl
            (try simp only [Act.put, List.setIfInBounds_toArray, List.set_cons_zero, List.set_cons_succ])
            refine wpAnyH_take (i := 4) (oi := ⟨some 53, Go.Op.indexAddr 22 (Go.Operand.tmp 52) (Go.Operand.const (Go.Value.int Go.IntKind.i64 2)), 0, "l21_language.go:120", #[⟨3, Go.Ground.data⟩], none⟩) (v := ?_) rfl (by kernel_rfl) (by kernel_rfl) (by kernel_rfl) (fun _ _ _ h => h) (Or.inl ⟨by rfl, ?_⟩) (by assumption) ?_
            rotate_left
            · intro w hSw; (try dsimp only at hSw); go_split_ands; go_simp; first | done | with_reducible rfl
            (try simp only [Act.put, List.setIfInBounds_toArray, List.set_cons_zero, List.set_cons_succ])
            refine wpAnyH_take (i := 5) (oi := ⟨some 54, Go.Op.load 9 (Go.Operand.tmp 53), 9, "l21_language.go:120", #[⟨4, Go.Ground.data⟩], none⟩) (v := ?_) rfl (by kernel_rfl) (by kernel_rfl) (by kernel_rfl) (fun _ _ _ h => h) (Or.inl ⟨by rfl, ?_⟩) (by assumption) ?_
            rotate_left
            · intro w hSw; (try dsimp only at hSw); go_split_ands; go_simp; first | done | with_reducible rfl
            (try simp only [Act.put, List.setIfInBounds_toArray, List.set_cons_zero, List.set_cons_succ])
            refine wpAnyH_take (i := 6) (oi := ⟨some 55, Go.Op.move (Go.Operand.tmp 8), 2, "l21_language.go:120", #[], none⟩) (v := ?_) rfl (by kernel_rfl) (by kernel_rfl) (by kernel_rfl) (fun _ _ _ h => h) (Or.inl ⟨by rfl, ?_⟩) (by assumption) ?_
            rotate_left
            · intro w hSw; (try dsimp only at hSw); go_split_ands; go_simp; first | done | with_reducible rfl
            (try simp only [Act.put, List.setIfInBounds_toArray, List.set_cons_zero, List.set_cons_succ])
            refine wpAnyH_take (i := 7) (oi := ⟨some 56, Go.Op.build 62 #[(0, Go.Operand.tmp 51), (1, Go.Operand.tmp 54), (2, Go.Operand.tmp 55)], 62, "l21_language.go:120", #[⟨2, Go.Ground.data⟩, ⟨5, Go.Ground.data⟩, ⟨6, Go.Ground.data⟩], none⟩) (v := ?_) rfl (by kernel_rfl) (by kernel_rfl) (by kernel_rfl) (fun _ _ _ h => h) (Or.inl ⟨by rfl, ?_⟩) (by assumption) ?_
            rotate_left
            · intro w hSw; (try dsimp only at hSw); go_split_ands; go_simp; first | done | with_reducible rfl
            (try simp only [Act.put, List.setIfInBounds_toArray, List.set_cons_zero, List.set_cons_succ])
            refine wpAnyH_done (by kernel_rfl) ?_ _
            refine last_step rfl rfl (fun K hK => ?_)
            go_simp
            refine hK.out _ _ ?_
            clear hK K
            obtain ⟨W3, hW3⟩ : ∃ W3, W3 = (((w2.setCell ⟨w1.heap.size, 0, none⟩ (.string z1)).setCell ⟨w1.heap.size, 1, none⟩ (.string z2)).setCell ⟨w1.heap.size, 2, none⟩ (.int .i64 m)).drew := ⟨_, rfl⟩
            rw [← hW3]
            have B3 : Below w.heap.size w W3 := by rw [hW3]; exact (((HB2.out.setCell (p := ⟨w1.heap.size, 0, none⟩) z1w _).setCell (p := ⟨w1.heap.size, 1, none⟩) z1w _).setCell (p := ⟨w1.heap.size, 2, none⟩) z1w _).drew
            have D0 : W3.cell? ⟨w1.heap.size, 0, none⟩ = some (.string z1) := by rw [hW3, World.cell?_drew]; exact set3_0 T0 _ _ _
            have D1 : W3.cell? ⟨w1.heap.size, 1, none⟩ = some (.string z2) := by rw [hW3, World.cell?_drew]; exact set3_1 T1 _ _ _
            have D2 : W3.cell? ⟨w1.heap.size, 2, none⟩ = some (.int .i64 m) := by rw [hW3, World.cell?_drew]; exact set3_2 T2 _ _ _
            have hne : w1.heap.size ≠ g := by omega
            replace K0 : W3.cell? ⟨g, 0, none⟩ = some (.string z0) := by rw [hW3, World.cell?_drew]; exact (cell_far hne).trans ((cell_far hne).trans ((cell_far hne).trans K0))
            have l3 := World.block_lt_of_cell? _ _ D0
            have lg3 := World.block_lt_of_cell? _ _ K0
            simp only at l3 lg3
            have z3w := B3.size
            have HB3 := hid B3
            have cT := cTT W3 hg0 hlo (by omega) hl hl3 (Hh.out.below B3)
            clear cTT hW3 T0 T1 T2 F0 F1 F2 K1 K2 hHeld B3 hne
            have X3 := hid (Hh.out.below HB3.out)
            have k2 := X3.out.k2
            have hl3n : s.n3 = x.wy.length := X3.out.len.2.2
            obtain ⟨V1, u1, v1, V2, u2, v2, V3, u3, v3⟩ := s
            simp only at k2 hl3n cT
            have HL3 := hid hl3n
            clear hl3n
            go_wp2_with fail
            refine cT.mono ?_
            rintro r w4 ⟨rfl, ⟨s4, X4, K4⟩, b4, far4⟩
            have b4z := b4.size
            replace K4 := K4.more z3w
            have F4 := hid (far4.behind HB3.out)
            rw [EA.out] at X4
            obtain ⟨U1, m1, d1, U2, m2, d2, U3, m3, d3⟩ := s4
            have hlo4 : lo ≤ w4.heap.size := Nat.le_trans hlw (Nat.le_trans (Nat.le_trans z3w (Nat.le_refl _)) b4z)
            have c5 := cT2 ⟨U1, m1, d1, U2, m2, d2, U3, m3, d3⟩ w4 hg0 hlo hlo4 hl hl61 X4
            have hAo : ∀ q, SV.has ⟨V1, u1, v1, V2, u2, v2, V3, u3, v3⟩ q → q < w.heap.size := fun q hq => (Hh.out.has_lt hq).2
            have K4h := hid K4
            replace D0 := far4.cell D0 (by simp only; omega) (fun e => by have := hAo _ e; simp only at this; omega)
            replace D1 := far4.cell D1 (by simp only; omega) (fun e => by have := hAo _ e; simp only at this; omega)
            replace D2 := far4.cell D2 (by simp only; omega) (fun e => by have := hAo _ e; simp only at this; omega)
            replace l3 := World.block_lt_of_cell? _ _ D0
            simp only at l3
            have B4 := (HB3.out.mono hbw).trans (b4.mono (Nat.le_refl _))
            have HB4 := hid B4
            have q4 := X4.k2
            have l4 := X4.lt
            simp only at q4
            have z4w : w.heap.size ≤ w4.heap.size := B4.size
            clear X4 far4 cT b4 hAo B4 k2 cT2 hW0 hl61 hlo4 K4
            go_wp2_with fail
            refine c5.mono ?_
            rintro r w5 ⟨rfl, ⟨s5, X5, K5⟩, b5, far5⟩
            have KK0 := K4h.out.trans K5 z4w
            have F5 := hid (F4.out.chain K4h.out far5 z4w)
            clear K5 far5
            have HB5 := hid (HB4.out.trans (b5.mono (Nat.le_refl _)))
            rw [EA2.out] at X5
            obtain ⟨T1, a1, b1, T2, a2, b2, T3, a3, b3⟩ := s5
            have hl5 := X5.len.2.2
            simp only [List.length_append, List.length_cons, List.length_nil] at hl5
            have hle : u3 ≤ a3 := by have := HL3.out; omega
            have q2 := X5.k2
            have qf := X5.f2
            have ql := X5.lt
            have hwy := X5.own.wy
            simp only at hwy q2
            obtain ⟨hmd, hU⟩ := own_addr hwy
            have XC := hid (X5.cut3 (m := u3) hle)
            have EX : (x.wy ++ [(⟨z1, z2, m⟩ : Way)]).take u3 = x.wy := by rw [HL3.out, List.take_left]
            simp only at XC
            rw [EX] at XC
            have e0 : (F2 == 0) = false := by simpa using hf2
            have e1 : (F2 != 0) = true := by simpa using hf2
            have KK := hid (KK0.cut (m := u3))
            clear X5 b5 c5 hwy EX hl5 KK0
            have m0 : (0 : Int) ≤ (u3 : Int) := by omega
            have md : (u3 : Int) ≤ (b3 : Int) := by omega
            rcases hU with rfl | ⟨gu, rfl⟩
            · go_wp2_with fail
              go_ret
              exact ⟨retI (by rw [E.out]), ⟨_, by rw [E.out]; exact XC.out, KK.out⟩, bl_set hg0 HB5.out, F5.out.set⟩
            · go_wp2_with fail
              go_ret
              exact ⟨retI (by rw [E.out]), ⟨_, by rw [E.out]; exact XC.out, KK.out⟩, bl_set hg0 HB5.out, F5.out.set⟩
        · rw [if_neg hf1] at E EA
          skip
          go_enter Tryz.func30, Tryz.ntmps30
          go_wp2_with fail
          refine cW.mono ?_
          rintro r w1 ⟨A, n, c, rfl, ho, hb⟩
          have hn := own_len encS_len (by omega) ho
          simp only [List.length_cons, List.length_nil] at hn
          obtain ⟨g, rfl, K0⟩ := word_cell ho (i := 0) (z := z0) rfl
          obtain rfl : n = 4 := hn
          obtain ⟨g1, e1, K1⟩ := word_cell ho (i := 1) (z := z1) rfl
          obtain rfl : g = g1 := by injection e1 with e; injection e
          obtain ⟨g2, e2, K2⟩ := word_cell ho (i := 2) (z := z2) rfl
          obtain rfl : g = g2 := by injection e2 with e; injection e
          obtain ⟨g3, e3, K3⟩ := word_cell ho (i := 3) (z := z3) rfl
          obtain rfl : g = g3 := by injection e3 with e; injection e
          have lg := World.block_lt_of_cell? _ _ K0
          simp only at lg
          have HB := hid hb
          have z1w := hb.size
          clear ho cW
          go_wp2_with fail
          refine (cd _ hs3 (HB.out.alloc z1w _)).mono ?_
          rintro r w2 ⟨rfl, b2⟩
          have hb2 := (HB.out.alloc z1w (.cells #[.string ByteArray.empty, .string ByteArray.empty, .int .i64 0] 62)).trans (b2.mono (by simp; omega))
          have HB2 := hid hb2
          have z2w := b2.size
          simp only [World.size_alloc] at z2w
          have T0 : w2.cell? ⟨w1.heap.size, 0, none⟩ = some (.string ByteArray.empty) := below_cell ((World.cell?_alloc_at _ _ _ _ rfl).trans rfl) b2
          have T1 : w2.cell? ⟨w1.heap.size, 1, none⟩ = some (.string ByteArray.empty) := below_cell ((World.cell?_alloc_at _ _ _ _ rfl).trans rfl) b2
          have T2 : w2.cell? ⟨w1.heap.size, 2, none⟩ = some (.int .i64 0) := below_cell ((World.cell?_alloc_at _ _ _ _ rfl).trans rfl) b2
          have F0 : w2.frozen? ⟨w1.heap.size, 0, none⟩ = false := below_frz (p := ⟨w1.heap.size, 0, none⟩) (v := .string ByteArray.empty) ((World.cell?_alloc_at _ _ _ _ rfl).trans rfl) (by go_simp) b2
          have F1 : w2.frozen? ⟨w1.heap.size, 1, none⟩ = false := below_frz (p := ⟨w1.heap.size, 1, none⟩) (v := .string ByteArray.empty) ((World.cell?_alloc_at _ _ _ _ rfl).trans rfl) (by go_simp) b2
          have F2 : w2.frozen? ⟨w1.heap.size, 2, none⟩ = false := below_frz (p := ⟨w1.heap.size, 2, none⟩) (v := .int .i64 0) ((World.cell?_alloc_at _ _ _ _ rfl).trans rfl) (by go_simp) b2
          replace K0 := below_cell ((World.cell?_alloc_lt w1 (.cells #[.string ByteArray.empty, .string ByteArray.empty, .int .i64 0] 62) ⟨g, 0, none⟩ lg).trans K0) b2
          replace K1 := below_cell ((World.cell?_alloc_lt w1 (.cells #[.string ByteArray.empty, .string ByteArray.empty, .int .i64 0] 62) ⟨g, 1, none⟩ lg).trans K1) b2
          replace K2 := below_cell ((World.cell?_alloc_lt w1 (.cells #[.string ByteArray.empty, .string ByteArray.empty, .int .i64 0] 62) ⟨g, 2, none⟩ lg).trans K2) b2
          clear b2 K3 cd hb hb2
          simp only [numO]
          go_wp2_with fail
          refine wp_region_last (n := 8) (S := (fun W => W.cell? ⟨g, 1, none⟩ = some (.string z1) ∧ W.cell? ⟨g, 2, none⟩ = some (.string z2))) (by kernel_rfl) (by kernel_rfl) ?_ (fun hHeld => ?_)
          · (try dsimp only); exact ⟨K1, K2⟩
          refine wpAnyH_take (i := 0) (oi := ⟨some 49, Go.Op.move (Go.Operand.tmp 5), 22, "l21_language.go:120", #[], none⟩) (v := ?_) rfl (by kernel_rfl) (by kernel_rfl) (by kernel_rfl) (fun _ _ _ h => h) (Or.inl ⟨by rfl, ?_⟩) (by assumption) ?_
          rotate_left
          · intro w hSw; (try dsimp only at hSw); go_split_ands; go_simp; first | done | with_reducible rfl
          (try simp only [Act.put, List.setIfInBounds_toArray, List.set_cons_zero, List.set_cons_succ])
          refine wpAnyH_take (i := 1) (oi := ⟨some 50, Go.Op.indexAddr 22 (Go.Operand.tmp 49) (Go.Operand.const (Go.Value.int Go.IntKind.i64 1)), 0, "l21_language.go:120", #[⟨0, Go.Ground.data⟩], none⟩) (v := ?_) rfl (by kernel_rfl) (by kernel_rfl) (by kernel_rfl) (fun _ _ _ h => h) (Or.inl ⟨by rfl, ?_⟩) (by assumption) ?_
          rotate_left
          · intro w hSw; (try dsimp only at hSw); go_split_ands; go_simp; first | done | with_reducible rfl
          (try simp only [Act.put, List.setIfInBounds_toArray, List.set_cons_zero, List.set_cons_succ])
          refine wpAnyH_take (i := 2) (oi := ⟨some 51, Go.Op.load 9 (Go.Operand.tmp 50), 9, "l21_language.go:120", #[⟨1, Go.Ground.data⟩], none⟩) (v := ?_) rfl (by kernel_rfl) (by kernel_rfl) (by kernel_rfl) (fun _ _ _ h => h) (Or.inl ⟨by rfl, ?_⟩) (by assumption) ?_
          rotate_left
          · intro w hSw; (try dsimp only at hSw); go_split_ands; go_simp; first | done | with_reducible rfl
          (try simp only [Act.put, List.setIfInBounds_toArray, List.set_cons_zero, List.set_cons_succ])
          refine wpAnyH_take (i := 3) (oi := ⟨some 52, Go.Op.move (Go.Operand.tmp 5), 22, "l21_language.go:120", #[], none⟩) (v := ?_) rfl (by kernel_rfl) (by kernel_rfl) (by kernel_rfl) (fun _ _ _ h => h) (Or.inl ⟨by rfl, ?_⟩) (by assumption) ?_
          rotate_left
          · intro w hSw; (try dsimp only at hSw); go_split_ands; go_simp; first | done | with_reducible rfl
          (try simp only [Act.put, List.setIfInBounds_toArray, List.set_cons_zero, List.set_cons_succ])
          refine wpAnyH_take (i := 4) (oi := ⟨some 53, Go.Op.indexAddr 22 (Go.Operand.tmp 52) (Go.Operand.const (Go.Value.int Go.IntKind.i64 2)), 0, "l21_language.go:120", #[⟨3, Go.Ground.data⟩], none⟩) (v := ?_) rfl (by kernel_rfl) (by kernel_rfl) (by kernel_rfl) (fun _ _ _ h => h) (Or.inl ⟨by rfl, ?_⟩) (by assumption) ?_
          rotate_left
          · intro w hSw; (try dsimp only at hSw); go_split_ands; go_simp; first | done | with_reducible rfl
          (try simp only [Act.put, List.setIfInBounds_toArray, List.set_cons_zero, List.set_cons_succ])
          refine wpAnyH_take (i := 5) (oi := ⟨some 54, Go.Op.load 9 (Go.Operand.tmp 53), 9, "l21_language.go:120", #[⟨4, Go.Ground.data⟩], none⟩) (v := ?_) rfl (by kernel_rfl) (by kernel_rfl) (by kernel_rfl) (fun _ _ _ h => h) (Or.inl ⟨by rfl, ?_⟩) (by assumption) ?_
          rotate_left
          · intro w hSw; (try dsimp only at hSw); go_split_ands; go_simp; first | done | with_reducible rfl
          (try simp only [Act.put, List.setIfInBounds_toArray, List.set_cons_zero, List.set_cons_succ])
          refine wpAnyH_take (i := 6) (oi := ⟨some 55, Go.Op.move (Go.Operand.tmp 8), 2, "l21_language.go:120", #[], none⟩) (v := ?_) rfl (by kernel_rfl) (by kernel_rfl) (by kernel_rfl) (fun _ _ _ h => h) (Or.inl ⟨by rfl, ?_⟩) (by assumption) ?_
          rotate_left
          · intro w hSw; (try dsimp only at hSw); go_split_ands; go_simp; first | done | with_reducible rfl
          (try simp only [Act.put, List.setIfInBounds_toArray, List.set_cons_zero, List.set_cons_succ])
          refine wpAnyH_take (i := 7) (oi := ⟨some 56, Go.Op.build 62 #[(0, Go.Operand.tmp 51), (1, Go.Operand.tmp 54), (2, Go.Operand.tmp 55)], 62, "l21_language.go:120", #[⟨2, Go.Ground.data⟩, ⟨5, Go.Ground.data⟩, ⟨6, Go.Ground.data⟩], none⟩) (v := ?_) rfl (by kernel_rfl) (by kernel_rfl) (by kernel_rfl) (fun _ _ _ h => h) (Or.inl ⟨by rfl, ?_⟩) (by assumption) ?_
          rotate_left
          · intro w hSw; (try dsimp only at hSw); go_split_ands; go_simp; first | done | with_reducible rfl
          (try simp only [Act.put, List.setIfInBounds_toArray, List.set_cons_zero, List.set_cons_succ])
          refine wpAnyH_done (by kernel_rfl) ?_ _
          refine last_step rfl rfl (fun K hK => ?_)
          go_simp
          refine hK.out _ _ ?_
          clear hK K
          obtain ⟨W3, hW3⟩ : ∃ W3, W3 = (((w2.setCell ⟨w1.heap.size, 0, none⟩ (.string z1)).setCell ⟨w1.heap.size, 1, none⟩ (.string z2)).setCell ⟨w1.heap.size, 2, none⟩ (.int .i64 m)).drew := ⟨_, rfl⟩
          rw [← hW3]
          have B3 : Below w.heap.size w W3 := by rw [hW3]; exact (((HB2.out.setCell (p := ⟨w1.heap.size, 0, none⟩) z1w _).setCell (p := ⟨w1.heap.size, 1, none⟩) z1w _).setCell (p := ⟨w1.heap.size, 2, none⟩) z1w _).drew
          have D0 : W3.cell? ⟨w1.heap.size, 0, none⟩ = some (.string z1) := by rw [hW3, World.cell?_drew]; exact set3_0 T0 _ _ _
          have D1 : W3.cell? ⟨w1.heap.size, 1, none⟩ = some (.string z2) := by rw [hW3, World.cell?_drew]; exact set3_1 T1 _ _ _
          have D2 : W3.cell? ⟨w1.heap.size, 2, none⟩ = some (.int .i64 m) := by rw [hW3, World.cell?_drew]; exact set3_2 T2 _ _ _
          have hne : w1.heap.size ≠ g := by omega
          replace K0 : W3.cell? ⟨g, 0, none⟩ = some (.string z0) := by rw [hW3, World.cell?_drew]; exact (cell_far hne).trans ((cell_far hne).trans ((cell_far hne).trans K0))
          have l3 := World.block_lt_of_cell? _ _ D0
          have lg3 := World.block_lt_of_cell? _ _ K0
          simp only at l3 lg3
          have z3w := B3.size
          have HB3 := hid B3
          have cT := cTT W3 hg0 hlo (by omega) hl hl3 (Hh.out.below B3)
          clear cTT hW3 T0 T1 T2 F0 F1 F2 K1 K2 hHeld B3 hne
          have X3 := hid (Hh.out.below HB3.out)
          have k2 := X3.out.k2
          have hl3n : s.n3 = x.wy.length := X3.out.len.2.2
          obtain ⟨V1, u1, v1, V2, u2, v2, V3, u3, v3⟩ := s
          simp only at k2 hl3n cT
          have HL3 := hid hl3n
          clear hl3n
          go_wp2_with fail
          refine cT.mono ?_
          rintro r w4 ⟨rfl, ⟨s4, X4, K4⟩, b4, far4⟩
          have b4z := b4.size
          replace K4 := K4.more z3w
          have F4 := hid (far4.behind HB3.out)
          rw [EA.out] at X4
          obtain ⟨U1, m1, d1, U2, m2, d2, U3, m3, d3⟩ := s4
          have hm3 : m3 = u3 := X4.len.2.2.trans HL3.out.symm
          subst hm3
          have q2 := X4.k2
          have qf := X4.f2
          have ql := X4.lt
          have hwy := X4.own.wy
          simp only at hwy
          obtain ⟨hmd, hU⟩ := own_addr hwy
          have XC := hid (X4.cut3 (m := m3) (Nat.le_refl _))
          simp only at q2 XC
          have e0 : (F1 == 0) = false := by simpa using hf1
          have e1 : (F1 != 0) = true := by simpa using hf1
          have B4 := hid ((HB3.out.mono hbw).trans (b4.mono (Nat.le_refl _)))
          have EX : x.wy.take m3 = x.wy := List.take_of_length_le (by rw [HL3.out]; exact Nat.le_refl _)
          rw [EX] at XC
          have KK := hid (K4.cut (m := m3))
          clear X4 far4 b4 hwy EX K4
          have m0 : (0 : Int) ≤ (m3 : Int) := by omega
          have md : (m3 : Int) ≤ (d3 : Int) := by omega
          rcases hU with rfl | ⟨gu, rfl⟩
          · go_wp2_with fail
            go_ret
            exact ⟨retI (by rw [E.out]), ⟨_, by rw [E.out]; exact XC.out, KK.out⟩, bl_set hg0 B4.out, F4.out.set⟩
          · go_wp2_with fail
            go_ret
            exact ⟨retI (by rw [E.out]), ⟨_, by rw [E.out]; exact XC.out, KK.out⟩, bl_set hg0 B4.out, F4.out.set⟩
    · skip
      have E : Hid (rowF x (z0 :: rs) = (x, 2)) := by rw [hz0]; exact row_bad4 (.inr rfl) hn4
      have N1 : ((rs.length + 1 : Nat) : Int) = 4 → False := fun e => hn4 (by omega)
      have qDD : (z0.toList == [45, 45]) = false := bl_ne (by rw [hz0]; decide)
      have qST : (z0.toList == [115, 116, 97, 116, 105, 111, 110]) = false := bl_ne (by rw [hz0]; decide)
      have qRM : (z0.toList == [114, 111, 111, 109]) = false := bl_ne (by rw [hz0]; decide)
      have qTB : (z0.toList == [116, 117, 98, 101]) = false := bl_ne (by rw [hz0]; decide)
      have qPR : (z0.toList == [112, 97, 105, 114]) = true := bl_in hz0
      clear hz0 hPR N1 hz1
      go_enter Tryz.func30, Tryz.ntmps30
      go_wp2_with fail
      refine cW.mono ?_
      rintro r w1 ⟨A, n, c, rfl, ho, hb⟩
      have hn := own_len encS_len (by omega) ho
      simp only [List.length_cons] at hn
      obtain ⟨g, rfl, K0⟩ := word_cell ho (i := 0) (z := z0) rfl
      have N0 : ¬ n = 0 := by omega
      have N1 : 0 < n := by omega
      have N2 : ((n : Int) == 0) = false := by simp; omega
      have N5 : ((n : Int) == 4) = false := by simp; omega
      have N6 : ¬ n = 4 := by omega
      have N7 : ((n : Int) != 4) = true := by simp; omega
      clear hn
      have lg := World.block_lt_of_cell? _ _ K0
      simp only at lg
      have HB := hid hb
      have z1w := hb.size
      clear ho cW
      go_wp2_with fail
      go_ret
      exact AddG.stay (retI (by rw [E.out])) (by rw [E.out]) Hh.out HB.out hbw
  have E : Hid (rowF x (z0 :: rs) = (x, 1)) := row_other hDD hST hRM hTB hPR
  have qDD : (z0.toList == [45, 45]) = false := bl_ne hDD
  have qST : (z0.toList == [115, 116, 97, 116, 105, 111, 110]) = false := bl_ne hST
  have qRM : (z0.toList == [114, 111, 111, 109]) = false := bl_ne hRM
  have qTB : (z0.toList == [116, 117, 98, 101]) = false := bl_ne hTB
  have qPR : (z0.toList == [112, 97, 105, 114]) = false := bl_ne hPR
  clear hDD hST hRM hTB hPR hz1
  go_enter Tryz.func30, Tryz.ntmps30
  go_wp2_with fail
  refine cW.mono ?_
  rintro r w1 ⟨A, n, c, rfl, ho, hb⟩
  have hn := own_len encS_len (by omega) ho
  simp only [List.length_cons] at hn
  obtain ⟨g, rfl, K0⟩ := word_cell ho (i := 0) (z := z0) rfl
  have N0 : ¬ n = 0 := by omega
  have N1 : 0 < n := by omega
  have N2 : ((n : Int) == 0) = false := by simp; omega
  skip
  clear hn
  have lg := World.block_lt_of_cell? _ _ K0
  simp only at lg
  have HB := hid hb
  have z1w := hb.size
  clear ho cW
  go_wp2_with fail
  go_ret
  exact AddG.stay (retI (by rw [E.out])) (by rw [E.out]) Hh.out HB.out hbw
end Go.Proofs.YtcgkcfmiabninaaGreatDoor
