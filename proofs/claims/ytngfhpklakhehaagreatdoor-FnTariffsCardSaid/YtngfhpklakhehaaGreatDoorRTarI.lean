/-
  ReadTariff: the program's side. No condition but what lies laid.
-/
import Derived.Test.YtngfhpklakhehaaGreatDoorRTar2
import Derived.Test.YtngfhpklakhehaaGreatDoorRLib
import Derived.Test.YtngfhpklakhehaaGreatDoorKTariff
namespace Go.Proofs.YtngfhpklakhehaaGreatDoor
open Go.RowKit
set_option maxHeartbeats 400000

def looseJ (q0 q1 : Option Int) : Option Step := match q0, q1 with | some g, some p => some ⟨g, p⟩ | _, _ => none
def readD (o1 o2 : Option Int) (xs : List Step) (s : List UInt8) : Option Tariff :=
  match o1, o2 with
  | some h, some e => if (tariffF xs h e).data.toList = s then some ⟨xs, h, e⟩ else none
  | _, _ => none
theorem ba_ext {a b : ByteArray} (h : a.data.toList = b.data.toList) : a = b := by
  have h1 : a.data = b.data := Array.toList_inj.1 h
  cases a; cases b; simp at h1; rw [h1]
theorem wordsI_sz {s z : ByteArray} {i : Nat} (hz : (wordsI s.data.toList)[i]? = some z.data.toList) (hs : s.size ≤ 1048576) : z.size ≤ 1048576 := by
  have := splitK_le _ _ _ z.data.toList (List.mem_of_getElem? hz)
  rw [bs_len, bs_len] at this
  omega
set_option maxHeartbeats 32000000 in
set_option maxRecDepth 100000 in
theorem implReadTariffI_any (s : ByteArray) (w : World) (hs : s.size ≤ 1048576) (L : LibW w) : Calls Tryz.prog 16 #[.string s] w (TarP w (readI s.data.toList)) := by
  obtain ⟨i0, hi, hz0, hz1, hz2⟩ := info_parts stepI_info
  obtain ⟨W0, hW0⟩ : ∃ W0, W0 = w.alloc (.cells #[.slice none 0 0, .int .i64 0, .int .i64 0] 26) := ⟨_, rfl⟩
  have b0 : Below w.heap.size w W0 := by rw [hW0]; exact (Below.refl _ _).alloc (Nat.le_refl _) _
  have rb0 : Bk3 W0 w.heap.size (.slice none 0 0) (.int .i64 0) (.int .i64 0) := by
    rw [hW0]
    exact ⟨(World.cell?_alloc_at _ _ _ _ rfl).trans rfl, (World.cell?_alloc_at _ _ _ _ rfl).trans rfl, (World.cell?_alloc_at _ _ _ _ rfl).trans rfl, by go_simp, by go_simp, by go_simp⟩
  have HW := hid hW0
  have cc := splitN_any s W0 hs (L.below b0)
  clear hW0
  go_enter Tryz.func16, Tryz.ntmps16
  go_wp2_with fail
  rw [← HW.out]
  refine cc.mono ?_
  rintro r w1 ⟨gw, cw, xw, rfl, hcw, hcz, hX, WS, b1⟩
  clear cc HW
  have RB := hid (rb0.below b1)
  have BB := b0.trans (b1.mono b0.size)
  have hX2 : bytesL xw = wordsI s.data.toList := hX
  have HX := hid hX2
  have hlen := bytesL_len hX2
  have LW := hid (L.below BB)
  clear b0 rb0 b1 hX hX2 L
  by_cases h3 : xw.length < 3
  · have E : Hid (readI s.data.toList = none) := by rw [Hid, readI, ← hlen, if_pos h3]
    have q3 : (xw.length : Int) < 3 := by omega
    have r0 := RB.out.c0
    have r1 := RB.out.c1
    have r2 := RB.out.c2
    have y0 := RB.out.f0
    have y1 := RB.out.f1
    have y2 := RB.out.f2
    have yl := RB.out.lt
    have p0 := hid (RB.out.s0 (.slice none 0 0))
    have p1 := hid (RB.out.s1 (.slice none 0 0) (.int .i64 0))
    have p2 := hid (RB.out.s2 (.slice none 0 0) (.int .i64 0) (.int .i64 0))
    have FB := hid (Bk3.bl BB (Nat.le_refl _) (.slice none 0 0) (.int .i64 0) (.int .i64 0))
    go_wp2_with fail
    have P0 := p0.out
    have P1 := p1.out
    have P2 := p2.out
    refine bodyPost_ret (v := .tuple #[.agg #[.slice none 0 0, .int .i64 0, .int .i64 0], .bool false]) (by simp [results, Tryz.results16, go_sem, P0, P1, P2]) rfl (TarP.no E.out FB.out)
  · obtain ⟨m, hm⟩ : ∃ m, xw.length = m + 2 := ⟨xw.length - 2, by omega⟩
    have q3 : ¬ (xw.length : Int) < 3 := by omega
    have m1 : 1 ≤ m := by omega
    have mm : m ≤ 1048576 := by omega
    obtain ⟨z1, b1, off1, Hz1, e1, hb1, k1⟩ := WS.out.str (i := m) (by omega)
    obtain ⟨z2, b2, off2, Hz2, e2, hb2, k2⟩ := WS.out.str (i := m + 1) (by omega)
    injection e1 with e1
    injection e1 with e11 e12
    injection e2 with e2
    injection e2 with e21 e22
    subst e11 e12 e21 e22
    rw [Nat.zero_add] at k1 k2
    have hw1 := bytesL_at HX.out Hz1.out
    have hw2 := bytesL_at HX.out Hz2.out
    have s1 := wordsI_sz hw1 hs
    have s2 := wordsI_sz hw2 hs
    have U1 : Hid (wAt (wordsI s.data.toList) ((wordsI s.data.toList).length - 2) = z1.data.toList) := by rw [Hid, ← hlen, hm, Nat.add_sub_cancel]; exact wAt_of hw1
    have U2 : Hid (wAt (wordsI s.data.toList) ((wordsI s.data.toList).length - 1) = z2.data.toList) := by rw [Hid, ← hlen, hm, show m + 2 - 1 = m + 1 by omega]; exact wAt_of hw2
    have wm : IntKind.i64.wrap ((xw.length : Int) - 2) = (m : Int) := by rw [IntWalk.i64_in _ (by omega)]; omega
    have wm2 : (xw.length : Int) - 2 = (m : Int) := by omega
    have wm3 : (xw.length : Int) - 1 = ((m + 1 : Nat) : Int) := by omega
    have i1 : (m : Int) < (xw.length : Int) := by omega
    have i2 : ((m + 1 : Nat) : Int) < (xw.length : Int) := by omega
    have i3 : (0 : Int) ≤ (m : Int) := by omega
    have i4 : (0 : Int) ≤ ((m + 1 : Nat) : Int) := by omega
    have i5 : (m : Int) ≤ (cw : Int) := by omega
    obtain ⟨D1, hD1⟩ : ∃ D : ByteArray, D = ⟨(Lib.trimPrefix z1.data.toList preH).toArray⟩ := ⟨_, rfl⟩
    obtain ⟨D2, hD2⟩ : ∃ D : ByteArray, D = ⟨(Lib.trimPrefix z2.data.toList preE).toArray⟩ := ⟨_, rfl⟩
    have t1 := fun W => trim_any z1 ⟨#[49, 48, 48, 109, 58]⟩ W
    have t2 := fun W => trim_any z2 ⟨#[101, 120, 112, 114, 101, 115, 115, 58]⟩ W
    have p1 : (⟨#[49, 48, 48, 109, 58]⟩ : ByteArray).data.toList = preH := rfl
    have p2 : (⟨#[101, 120, 112, 114, 101, 115, 115, 58]⟩ : ByteArray).data.toList = preE := rfl
    rw [p1, ← hD1] at t1
    rw [p2, ← hD2] at t2
    have z1' : D1.size ≤ 1048576 := by rw [hD1, ba_size]; have := trim_le z1.data.toList preH; rw [bs_len] at this; omega
    have z2' : D2.size ≤ 1048576 := by rw [hD2, ba_size]; have := trim_le z2.data.toList preE; rw [bs_len] at this; omega
    obtain ⟨o1, ho1⟩ : ∃ q, q = rdN (Lib.trimPrefix z1.data.toList preH) := ⟨_, rfl⟩
    obtain ⟨o2, ho2⟩ : ∃ q, q = rdN (Lib.trimPrefix z2.data.toList preE) := ⟨_, rfl⟩
    have d1 : D1.data.toList = Lib.trimPrefix z1.data.toList preH := by rw [hD1]
    have d2 : D2.data.toList = Lib.trimPrefix z2.data.toList preE := by rw [hD2]
    have c1 := fun W (h : LibW W) => ReadDecimal_any D1 W z1' h
    have c2 := fun W (h : LibW W) => ReadDecimal_any D2 W z2' h
    rw [d1, ← ho1] at c1
    rw [d2, ← ho2] at c2
    have RD0 : Hid (looseS [] ((wordsI s.data.toList).take m) = none → readI s.data.toList = none) := fun h => by
      rw [readI, if_neg (by rw [← hlen]; exact h3), ← hlen, hm, Nat.add_sub_cancel, h]
    have RD1 : Hid (∀ xs, looseS [] ((wordsI s.data.toList).take m) = some xs → readI s.data.toList = readD o1 o2 xs s.data.toList) := fun xs h => by
      rw [readI, if_neg (by rw [← hlen]; exact h3)]
      rw [U1.out, U2.out, ← hlen, hm, Nat.add_sub_cancel, h, ho1, ho2]
      rfl
    have HM := hid hm
    obtain ⟨W2, hW2⟩ : ∃ W2, W2 = w1.alloc (.cells #[.slice none 0 0, .int .i64 0, .int .i64 0] 26) := ⟨_, rfl⟩
    obtain ⟨gt, hgt⟩ : ∃ gt, gt = w1.heap.size := ⟨_, rfl⟩
    have T2 : Hid (TrAt W2 w1.heap.size gt none 0 [] 0 0) := by
      rw [hW2, hgt]
      exact ⟨World.ownsRow_nil _ _ _ _, fun q hq => by simp [Value.ownBlock] at hq, (World.cell?_alloc_at _ _ _ _ rfl).trans rfl, (World.cell?_alloc_at _ _ _ _ rfl).trans rfl, (World.cell?_alloc_at _ _ _ _ rfl).trans rfl, by go_simp, by go_simp, by go_simp⟩
    have B2 : Below w1.heap.size w1 W2 := by rw [hW2]; exact (Below.refl _ _).alloc (Nat.le_refl _) _
    have HW2 := hid hW2
    have HGT := hid hgt
    have hgt2 : w1.heap.size ≤ gt := by omega
    have K1 := hid k1
    have K2 := hid k2
    clear p1 p2 ho1 ho2 d1 d2 hD1 hD2 U1 U2 hw1 hw2 Hz1 Hz2 hm hlen hW2 hgt k1 k2 hb1 hb2 h3
    go_wp2_with fail
    rw [← HW2.out]
    rw [← HGT.out]
    clear HW2 HGT
    go_loopw [33] (fun vi wl => ∃ (k c : Nat) (A : Option Addr) (xs : List Step), k ≤ m ∧ Hid (xs.length = k) ∧ vi = .int .i64 (k : Nat) ∧ Hid (looseS [] ((wordsI s.data.toList).take m) = looseS xs (((wordsI s.data.toList).take m).drop k)) ∧ Hid (TrAt wl w1.heap.size gt A c xs 0 0) ∧ Below w1.heap.size w1 wl) (fun vi _ => m - (intOf vi).toNat)
    case atStart => exact ⟨0, 0, _, [], by omega, hid rfl, rfl, hid rfl, T2, B2⟩
    case round =>
      clear T2 B2
      obtain ⟨k, c, A, xs, hk, hxk, rfl, hE, hT, hb⟩ := hrel
      have hbs := hb.size
      have RBl := hid (RB.out.at_ hb RB.out.lt)
      have BBl := BB.trans (hb.mono BB.size)
      have LWl := hid (LW.out.below hb)
      have hgr := RB.out.lt
      by_cases hkm : k < m
      · obtain ⟨z, bz, oz, Hz, e3, hbz, kz⟩ := (WS.out.below hb).str (i := k) (by have := HM.out; omega)
        injection e3 with e3
        injection e3 with e31 e32
        subst e31 e32
        rw [Nat.zero_add] at kz
        have hwz := bytesL_at HX.out Hz.out
        have sz := wordsI_sz hwz hs
        have E2 := hE.out
        rw [take_drop_at hwz hkm, looseS] at E2
        have HE2 := hid E2
        have k0 : (0 : Int) ≤ (k : Int) := by omega
        have k1 : (k : Int) < (xw.length : Int) := by have := HM.out; omega
        have k2 : (k : Int) < (m : Int) := by omega
        have kzl := World.block_lt_of_cell? _ _ kz
        simp only at kzl
        have ck := fun W (h : LibW W) => cut_any z ⟨#[103, 58]⟩ W sz h
        have p3 : (⟨#[103, 58]⟩ : ByteArray).data.toList = [103, 58] := rfl
        rw [p3] at ck
        have cle := cut_le z.data.toList [103, 58]
        obtain ⟨C, hC⟩ : ∃ C, C = Lib.cut z.data.toList [103, 58] := ⟨_, rfl⟩
        rw [← hC] at ck cle
        obtain ⟨l0, l1, fb⟩ := C
        simp only at ck cle
        rw [bs_len] at cle
        obtain ⟨v0, hv0⟩ : ∃ v : ByteArray, v = ⟨l0.toArray⟩ := ⟨_, rfl⟩
        obtain ⟨v1, hv1⟩ : ∃ v : ByteArray, v = ⟨l1.toArray⟩ := ⟨_, rfl⟩
        rw [← hv0, ← hv1] at ck
        have sv0 : v0.size ≤ 1048576 := by rw [hv0, ba_size]; omega
        have sv1 : v1.size ≤ 1048576 := by rw [hv1, ba_size]; omega
        obtain ⟨q0, hq0⟩ : ∃ q, q = rdN l0 := ⟨_, rfl⟩
        obtain ⟨q1, hq1⟩ : ∃ q, q = rdN l1 := ⟨_, rfl⟩
        have SF : Hid (looseF z.data.toList = looseJ q0 q1) := by
          rw [Hid, looseF, ← hC, hq0, hq1]
          rfl
        have cu := fun W (h : LibW W) => ReadDecimal_any v0 W sv0 h
        have cn := fun W (h : LibW W) => ReadDecimal_any v1 W sv1 h
        have dv0 : v0.data.toList = l0 := by rw [hv0]
        have dv1 : v1.data.toList = l1 := by rw [hv1]
        rw [dv0, ← hq0] at cu
        rw [dv1, ← hq1] at cn
        clear hE E2 hwz Hz p3 cle hC hv0 hv1 dv0 dv1 hq0 hq1
        go_wp2_with fail
        refine (ck _ LWl.out).mono ?_
        rintro r w5 ⟨rfl, b5⟩
        replace RBl := hid (RBl.out.below b5)
        replace BBl := BBl.trans (b5.mono BBl.size)
        replace LWl := hid (LWl.out.below b5)
        replace hb := hb.trans (b5.mono hbs)
        have T5 := hid (hT.out.below b5)
        clear ck kz hT b5 hbs kzl
        go_wp2_with fail
        refine (cu _ LWl.out).mono ?_
        rintro r w6 ⟨rfl, b6⟩
        replace RBl := hid (RBl.out.below b6)
        replace BBl := BBl.trans (b6.mono BBl.size)
        replace LWl := hid (LWl.out.below b6)
        replace hb := hb.trans (b6.mono hb.size)
        have T6 := hid (T5.out.below b6)
        clear cu T5 b6
        cases q0 with
        | none =>
          have E : Hid (readI s.data.toList = none) := RD0.out (by
            have hsf := SF.out
            simp only [looseJ] at hsf
            rw [HE2.out, hsf])
          simp only [numO]
          go_wp2_with fail
          refine (cn _ LWl.out).mono ?_
          rintro r w7 ⟨rfl, b7⟩
          have RB := hid (RBl.out.below b7)
          have BB := BBl.trans (b7.mono BBl.size)
          clear cn b7 SF HE2 RD0 RD1 T6 RBl BBl hb WS LWl
          cases q1
          all_goals simp only [numO]
          all_goals
            have r0 := RB.out.c0
            have r1 := RB.out.c1
            have r2 := RB.out.c2
            have y0 := RB.out.f0
            have y1 := RB.out.f1
            have y2 := RB.out.f2
            have yl := RB.out.lt
            have p0 := hid (RB.out.s0 (.slice none 0 0))
            have p1 := hid (RB.out.s1 (.slice none 0 0) (.int .i64 0))
            have p2 := hid (RB.out.s2 (.slice none 0 0) (.int .i64 0) (.int .i64 0))
            have FB := hid (Bk3.bl BB (Nat.le_refl _) (.slice none 0 0) (.int .i64 0) (.int .i64 0))
            go_wp2_with fail
            have P0 := p0.out
            have P1 := p1.out
            have P2 := p2.out
            refine bodyPost_ret (v := .tuple #[.agg #[.slice none 0 0, .int .i64 0, .int .i64 0], .bool false]) (by simp [results, Tryz.results16, go_sem, P0, P1, P2]) rfl (TarP.no E.out FB.out)
        | some g =>
          simp only [numO]
          go_wp2_with fail
          refine (cn _ LWl.out).mono ?_
          rintro r w7 ⟨rfl, b7⟩
          replace RBl := hid (RBl.out.below b7)
          replace BBl := BBl.trans (b7.mono BBl.size)
          replace hb := hb.trans (b7.mono hb.size)
          have T7 := hid (T6.out.below b7)
          clear cn b7 T6 LWl
          cases q1 with
          | none =>
            have E : Hid (readI s.data.toList = none) := RD0.out (by
              have hsf := SF.out
              simp only [looseJ] at hsf
              rw [HE2.out, hsf])
            have RB := RBl
            have BB := BBl
            clear SF HE2 RD0 RD1 T7 RBl BBl hb WS
            simp only [numO]
            have r0 := RB.out.c0
            have r1 := RB.out.c1
            have r2 := RB.out.c2
            have y0 := RB.out.f0
            have y1 := RB.out.f1
            have y2 := RB.out.f2
            have yl := RB.out.lt
            have p0 := hid (RB.out.s0 (.slice none 0 0))
            have p1 := hid (RB.out.s1 (.slice none 0 0) (.int .i64 0))
            have p2 := hid (RB.out.s2 (.slice none 0 0) (.int .i64 0) (.int .i64 0))
            have FB := hid (Bk3.bl BB (Nat.le_refl _) (.slice none 0 0) (.int .i64 0) (.int .i64 0))
            go_wp2_with fail
            have P0 := p0.out
            have P1 := p1.out
            have P2 := p2.out
            refine bodyPost_ret (v := .tuple #[.agg #[.slice none 0 0, .int .i64 0, .int .i64 0], .bool false]) (by simp [results, Tryz.results16, go_sem, P0, P1, P2]) rfl (TarP.no E.out FB.out)
          | some p =>
            have HE3 : Hid (looseS [] ((wordsI s.data.toList).take m) = looseS (xs ++ [⟨g, p⟩]) (((wordsI s.data.toList).take m).drop (k + 1))) := by
              have hsf := SF.out
              simp only [looseJ] at hsf
              rw [Hid, HE2.out, hsf]
            have hlo := T7.out.own.lt
            have t0 := T7.out.c0
            have tf := T7.out.f0
            have tl := T7.out.lt
            have hb7 := hb.size
            have hx20 : xs.length ≤ 1048576 := by have := hxk.out; omega
            clear SF HE2 BBl RBl
            simp only [numO]
            go_wp2_with (at_builtin; refine wpList_append_lies _ rfl _ _ 24 rfl w1.heap.size 57 i0 (.agg #[.int .i64 0, .int .i64 0]) 2 16 Tryz.underlying24 hi hz0 hz1 hz2 rfl (by omega) (.slice A xs.length c) xs.length (xs.flatMap encStep) rfl (T7.out.own.alloc _) ⟨w7.heap.size, 0, none⟩ 1 1 [.int .i64 g, .int .i64 p] rfl rfl (World.news_of_block (cs := #[.int .i64 g, .int .i64 p]) (t := 57) (fr := (0, 0)) (heap_alloc_new _ _)) (by simp [Value.oneCell']) (by omega) (by simp only [maxLen]; omega) (by omega) (by simp; omega) (w7.heap.size + 1) (by simp) ?_; intro gg cap w8 ho8 hg8 hat8 hlt8; have hgg := (gr_alloc (o := .cells #[.int .i64 g, .int .i64 p] 57) (World.grownBy.refl w7 (Value.slice A xs.length c).ownBlock)).trans hg8; have ne8 : some gt ≠ (Value.slice A xs.length c).ownBlock := (fun q => T7.out.ne _ q.symm rfl); have k8 := hgg.cell t0 ne8; have f8 := (hgg.frozen_far ⟨gt, 0, none⟩ tl ne8).trans tf; have l8 := World.block_lt_of_cell? _ _ k8)
            have T8 := hid ((T7.out.alloc (.cells #[.int .i64 g, .int .i64 p] 57)).snoc (z := ⟨g, p⟩) (by simpa [encStep] using ho8) hg8 (hat8.imp id (fun e => by simp; omega)))
            have b8 : Below w1.heap.size w1 (w8.setCell ⟨gt, 0, none⟩ (.slice (some ⟨gg, 0, none⟩) (xs.length + 1) cap)) := ((hb.alloc hb7 (.cells #[.int .i64 g, .int .i64 p] 57)).grown hg8 (by simp; omega) (fun q hq => (hlo q hq).1)).setCell (by simp only; omega) _
            have hlen8 : Hid ((xs ++ [(⟨g, p⟩ : Step)]).length = k + 1) := by rw [Hid, List.length_append, hxk.out]; rfl
            clear T7 ho8 hg8 hat8 hlo t0 tf hgg k8 f8 hb
            go_roundw
            all_goals first | exact ⟨k + 1, cap, _, xs ++ [⟨g, p⟩], by omega, hlen8, by go_num, HE3, T8, b8⟩ | exact ⟨⟨k + 1, cap, _, xs ++ [⟨g, p⟩], by omega, hlen8, by go_num, HE3, T8, b8⟩, by simp [intOf]; omega⟩ | (simp [intOf]; omega)
      · obtain rfl : m = k := by omega
        have HE3 : Hid (readI s.data.toList = readD o1 o2 xs s.data.toList) := RD1.out xs (by
          rw [hE.out, List.drop_of_length_le (by rw [List.length_take]; omega)]; rfl)
        have hx20 : xs.length ≤ 1048576 := by have := hxk.out; omega
        have k1 := (hb.cell (p := ⟨gw, m, none⟩) (World.block_lt_of_cell? _ _ K1.out)).trans K1.out
        have kl1 := World.block_lt_of_cell? _ _ k1
        simp only at kl1
        clear hE RD0 RD1 hkm
        go_wp2_with fail
        refine (t1 _).mono ?_
        rintro r w5 ⟨rfl, e⟩
        replace e := e.symm
        subst e
        go_wp2_with fail
        refine (c1 _ LWl.out).mono ?_
        rintro r w5 ⟨rfl, b5⟩
        replace RBl := hid (RBl.out.below b5)
        replace BBl := BBl.trans (b5.mono BBl.size)
        replace LWl := hid (LWl.out.below b5)
        have hb' := hb.trans (b5.mono hbs)
        have hb0 := hid hb'
        have T5 := hid (hT.out.below b5)
        have k2 := (hb'.cell (p := ⟨gw, m + 1, none⟩) (World.block_lt_of_cell? _ _ K2.out)).trans K2.out
        have kl2 := World.block_lt_of_cell? _ _ k2
        simp only at kl2
        clear c1 t1 b5 hT hb k1 kl1 hbs

        cases o1 with
        | none =>
          simp only [numO]
          go_wp2_with fail
          refine (t2 _).mono ?_
          rintro r w6 ⟨rfl, e⟩
          replace e := e.symm
          subst e
          go_wp2_with fail
          refine (c2 _ LWl.out).mono ?_
          rintro r w6 ⟨rfl, b6⟩
          replace RBl := hid (RBl.out.below b6)
          replace BBl := BBl.trans (b6.mono BBl.size)
          replace LWl := hid (LWl.out.below b6)
          have T6 := hid (T5.out.below b6)
          have hb1 := hb0.out.trans (b6.mono hb0.out.size)
          clear c2 t2 b6 T5 hb' k2 kl2
          cases o2 with
          | none =>
            simp only [numO]
            have T7 := hid ((T6.out.put1 0).put2 0)
            have RB : Hid (Bk3 ((w6.setCell ⟨gt, 1, none⟩ (.int .i64 0)).setCell ⟨gt, 2, none⟩ (.int .i64 0)) w.heap.size (.slice none 0 0) (.int .i64 0) (.int .i64 0)) := RBl.out.at_ (((Below.refl w1.heap.size w6).setCell (p := ⟨gt, 1, none⟩) hgt2 _).setCell (p := ⟨gt, 2, none⟩) hgt2 _) (by omega)
            have BB2 := BBl.trans ((((Below.refl w1.heap.size w6).setCell (p := ⟨gt, 1, none⟩) hgt2 (.int .i64 0)).setCell (p := ⟨gt, 2, none⟩) hgt2 (.int .i64 0)).mono (show w.heap.size ≤ w1.heap.size by omega))
            have a0 := T6.out.c0
            have a1 := T6.out.c1
            have a2 := T6.out.c2
            have af1 := T6.out.f1
            have af2 := T6.out.f2
            have al := T6.out.lt
            have BB := BB2
            clear BB2 RBl BBl
            have E : Hid (readI s.data.toList = none) := HE3
            clear HE3 T7 T6 WS LWl
            have r0 := RB.out.c0
            have r1 := RB.out.c1
            have r2 := RB.out.c2
            have y0 := RB.out.f0
            have y1 := RB.out.f1
            have y2 := RB.out.f2
            have yl := RB.out.lt
            have p0 := hid (RB.out.s0 (.slice none 0 0))
            have p1 := hid (RB.out.s1 (.slice none 0 0) (.int .i64 0))
            have p2 := hid (RB.out.s2 (.slice none 0 0) (.int .i64 0) (.int .i64 0))
            have FB := hid (Bk3.bl BB (Nat.le_refl _) (.slice none 0 0) (.int .i64 0) (.int .i64 0))
            go_wp2_with fail
            have P0 := p0.out
            have P1 := p1.out
            have P2 := p2.out
            refine bodyPost_ret (v := .tuple #[.agg #[.slice none 0 0, .int .i64 0, .int .i64 0], .bool false]) (by simp [results, Tryz.results16, go_sem, P0, P1, P2]) rfl (TarP.no E.out FB.out)
          | some v2 =>
            simp only [numO]
            have T7 := hid ((T6.out.put1 0).put2 v2)
            have RB : Hid (Bk3 ((w6.setCell ⟨gt, 1, none⟩ (.int .i64 0)).setCell ⟨gt, 2, none⟩ (.int .i64 v2)) w.heap.size (.slice none 0 0) (.int .i64 0) (.int .i64 0)) := RBl.out.at_ (((Below.refl w1.heap.size w6).setCell (p := ⟨gt, 1, none⟩) hgt2 _).setCell (p := ⟨gt, 2, none⟩) hgt2 _) (by omega)
            have BB2 := BBl.trans ((((Below.refl w1.heap.size w6).setCell (p := ⟨gt, 1, none⟩) hgt2 (.int .i64 0)).setCell (p := ⟨gt, 2, none⟩) hgt2 (.int .i64 v2)).mono (show w.heap.size ≤ w1.heap.size by omega))
            have a0 := T6.out.c0
            have a1 := T6.out.c1
            have a2 := T6.out.c2
            have af1 := T6.out.f1
            have af2 := T6.out.f2
            have al := T6.out.lt
            have BB := BB2
            clear BB2 RBl BBl
            have E : Hid (readI s.data.toList = none) := HE3
            clear HE3 T7 T6 WS LWl
            have r0 := RB.out.c0
            have r1 := RB.out.c1
            have r2 := RB.out.c2
            have y0 := RB.out.f0
            have y1 := RB.out.f1
            have y2 := RB.out.f2
            have yl := RB.out.lt
            have p0 := hid (RB.out.s0 (.slice none 0 0))
            have p1 := hid (RB.out.s1 (.slice none 0 0) (.int .i64 0))
            have p2 := hid (RB.out.s2 (.slice none 0 0) (.int .i64 0) (.int .i64 0))
            have FB := hid (Bk3.bl BB (Nat.le_refl _) (.slice none 0 0) (.int .i64 0) (.int .i64 0))
            go_wp2_with fail
            have P0 := p0.out
            have P1 := p1.out
            have P2 := p2.out
            refine bodyPost_ret (v := .tuple #[.agg #[.slice none 0 0, .int .i64 0, .int .i64 0], .bool false]) (by simp [results, Tryz.results16, go_sem, P0, P1, P2]) rfl (TarP.no E.out FB.out)
        | some v1 =>
          simp only [numO]
          go_wp2_with fail
          refine (t2 _).mono ?_
          rintro r w6 ⟨rfl, e⟩
          replace e := e.symm
          subst e
          go_wp2_with fail
          refine (c2 _ LWl.out).mono ?_
          rintro r w6 ⟨rfl, b6⟩
          replace RBl := hid (RBl.out.below b6)
          replace BBl := BBl.trans (b6.mono BBl.size)
          replace LWl := hid (LWl.out.below b6)
          have T6 := hid (T5.out.below b6)
          have hb1 := hb0.out.trans (b6.mono hb0.out.size)
          clear c2 t2 b6 T5 hb' k2 kl2
          cases o2 with
          | none =>
            simp only [numO]
            have T7 := hid ((T6.out.put1 v1).put2 0)
            have RB : Hid (Bk3 ((w6.setCell ⟨gt, 1, none⟩ (.int .i64 v1)).setCell ⟨gt, 2, none⟩ (.int .i64 0)) w.heap.size (.slice none 0 0) (.int .i64 0) (.int .i64 0)) := RBl.out.at_ (((Below.refl w1.heap.size w6).setCell (p := ⟨gt, 1, none⟩) hgt2 _).setCell (p := ⟨gt, 2, none⟩) hgt2 _) (by omega)
            have BB2 := BBl.trans ((((Below.refl w1.heap.size w6).setCell (p := ⟨gt, 1, none⟩) hgt2 (.int .i64 v1)).setCell (p := ⟨gt, 2, none⟩) hgt2 (.int .i64 0)).mono (show w.heap.size ≤ w1.heap.size by omega))
            have a0 := T6.out.c0
            have a1 := T6.out.c1
            have a2 := T6.out.c2
            have af1 := T6.out.f1
            have af2 := T6.out.f2
            have al := T6.out.lt
            have BB := BB2
            clear BB2 RBl BBl
            have E : Hid (readI s.data.toList = none) := HE3
            clear HE3 T7 T6 WS LWl
            have r0 := RB.out.c0
            have r1 := RB.out.c1
            have r2 := RB.out.c2
            have y0 := RB.out.f0
            have y1 := RB.out.f1
            have y2 := RB.out.f2
            have yl := RB.out.lt
            have p0 := hid (RB.out.s0 (.slice none 0 0))
            have p1 := hid (RB.out.s1 (.slice none 0 0) (.int .i64 0))
            have p2 := hid (RB.out.s2 (.slice none 0 0) (.int .i64 0) (.int .i64 0))
            have FB := hid (Bk3.bl BB (Nat.le_refl _) (.slice none 0 0) (.int .i64 0) (.int .i64 0))
            go_wp2_with fail
            have P0 := p0.out
            have P1 := p1.out
            have P2 := p2.out
            refine bodyPost_ret (v := .tuple #[.agg #[.slice none 0 0, .int .i64 0, .int .i64 0], .bool false]) (by simp [results, Tryz.results16, go_sem, P0, P1, P2]) rfl (TarP.no E.out FB.out)
          | some v2 =>
            simp only [numO]
            have a0 := T6.out.c0
            have a1 := T6.out.c1
            have a2 := T6.out.c2
            have af1 := T6.out.f1
            have af2 := T6.out.f2
            have al := T6.out.lt
            obtain ⟨W7, hW7⟩ : ∃ W7, W7 = (w6.setCell ⟨gt, 1, none⟩ (.int .i64 v1)).setCell ⟨gt, 2, none⟩ (.int .i64 v2) := ⟨_, rfl⟩
            have S7 : Below w1.heap.size w6 W7 := by rw [hW7]; exact ((Below.refl w1.heap.size w6).setCell (p := ⟨gt, 1, none⟩) hgt2 _).setCell (p := ⟨gt, 2, none⟩) hgt2 _
            have T7 : Hid (TrAt W7 w1.heap.size gt A c xs v1 v2) := by rw [hW7]; exact (T6.out.put1 v1).put2 v2
            have RB7 := hid (RBl.out.at_ S7 hgr)
            have BB7 := BBl.trans (S7.mono (show w.heap.size ≤ w1.heap.size by omega))
            have TB7 : TabW W7 := LW.out.tab.below ((hb1.trans (S7.mono (Nat.le_refl _))))
            have HW7 := hid hW7
            obtain ⟨X, hX⟩ : ∃ X, X = tariffF xs v1 v2 := ⟨_, rfl⟩
            have cT := implTariffText_any A xs.length c xs v1 v2 W7 W7.heap.size (Nat.le_refl _) (by omega) (own_sl encStep_len (by omega) T7.out.own) TB7
            rw [← hX] at cT
            have t0 := T7.out.c0
            have t1 := T7.out.c1
            have t2 := T7.out.c2
            have tl := T7.out.lt
            by_cases hq : X.data.toList = s.data.toList
            · have E : Hid (readI s.data.toList = some ⟨xs, v1, v2⟩) := by rw [Hid, HE3.out, readD, ← hX, if_pos hq]
              have q1 : (X.toList == s.toList) = true := bs_in (ba_ext hq)
              clear HE3 hq hX RBl BBl T6 WS S7 hW7
              go_wp2_with fail
              rw [← HW7.out]
              refine cT.mono ?_
              rintro r w8 ⟨rfl, b8⟩
              have RB := hid (RB7.out.below b8)
              have BB := BB7.trans (b8.mono BB7.size)
              have T8 := hid (T7.out.below b8)
              have r0 := RB.out.c0
              have r1 := RB.out.c1
              have r2 := RB.out.c2
              have y0 := RB.out.f0
              have y1 := RB.out.f1
              have y2 := RB.out.f2
              have yl := RB.out.lt
              replace t0 := T8.out.c0
              replace t1 := T8.out.c1
              replace t2 := T8.out.c2
              replace tl := T8.out.lt
              have ntr : gt ≠ w.heap.size := by omega
              have p0 := hid (RB.out.s0 (.slice A xs.length c))
              have p1 := hid (RB.out.s1 (.slice A xs.length c) (.int .i64 v1))
              have p2 := hid (RB.out.s2 (.slice A xs.length c) (.int .i64 v1) (.int .i64 v2))
              have FB := hid (Bk3.bl BB (Nat.le_refl _) (.slice A xs.length c) (.int .i64 v1) (.int .i64 v2))
              have hne : ∀ j, (Value.slice A xs.length c).ownBlock ≠ some (⟨w.heap.size, j, none⟩ : Addr).block := fun j e => by have := (T8.out.own.lt _ e).1; simp only at this; omega
              have OO := hid ((ow_set (u := .int .i64 v2) (hne 2) (ow_set (u := .int .i64 v1) (hne 1) (ow_set (u := .slice A xs.length c) (hne 0) T8.out.own))).mono (show w.heap.size ≤ w1.heap.size by omega))
              clear hne T7 T8 cT b8 RB7 BB7 HW7 TB7 a0 a1 a2 af1 af2 al
              go_wp2_with fail
              have P0 := p0.out
              have P1 := p1.out
              have P2 := p2.out
              refine bodyPost_ret (v := .tuple #[.agg #[.slice A xs.length c, .int .i64 v1, .int .i64 v2], .bool true]) (by simp [results, Tryz.results16, go_sem, P0, P1, P2]) rfl (TarP.yes E.out OO.out FB.out)
            · have E : Hid (readI s.data.toList = none) := by rw [Hid, HE3.out, readD, ← hX, if_neg hq]
              have q1 : (X.toList == s.toList) = false := bs_ne (fun e => hq (by rw [e]))
              clear HE3 hq hX RBl BBl T6 WS S7 hW7
              go_wp2_with fail
              rw [← HW7.out]
              refine cT.mono ?_
              rintro r w8 ⟨rfl, b8⟩
              have RB := hid (RB7.out.below b8)
              have BB := BB7.trans (b8.mono BB7.size)
              clear T7 cT b8 RB7 BB7 HW7 TB7 a0 a1 a2 af1 af2 al t0 t1 t2 tl
              have r0 := RB.out.c0
              have r1 := RB.out.c1
              have r2 := RB.out.c2
              have y0 := RB.out.f0
              have y1 := RB.out.f1
              have y2 := RB.out.f2
              have yl := RB.out.lt
              have p0 := hid (RB.out.s0 (.slice none 0 0))
              have p1 := hid (RB.out.s1 (.slice none 0 0) (.int .i64 0))
              have p2 := hid (RB.out.s2 (.slice none 0 0) (.int .i64 0) (.int .i64 0))
              have FB := hid (Bk3.bl BB (Nat.le_refl _) (.slice none 0 0) (.int .i64 0) (.int .i64 0))
              go_wp2_with fail
              have P0 := p0.out
              have P1 := p1.out
              have P2 := p2.out
              refine bodyPost_ret (v := .tuple #[.agg #[.slice none 0 0, .int .i64 0, .int .i64 0], .bool false]) (by simp [results, Tryz.results16, go_sem, P0, P1, P2]) rfl (TarP.no E.out FB.out)
theorem implReadTariff_any (s : ByteArray) (w : World) (hs : s.size ≤ 1048576) (L : LibW w) : Calls Tryz.prog 16 #[.string s] w (TarP w (readT s.data.toList)) := by
  have := implReadTariffI_any s w hs L
  rwa [readI_eq] at this
end Go.Proofs.YtngfhpklakhehaaGreatDoor
