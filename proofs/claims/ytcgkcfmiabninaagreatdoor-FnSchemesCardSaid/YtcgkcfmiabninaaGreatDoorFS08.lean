/-
  FS: texts KLay, KDec, KDec2, KScheme, one behind the other. No condition but what each says.
-/
import Derived.Test.YtcgkcfmiabninaaGreatDoorFS07
import Derived.Test.YtcgkcfmiabninaaGreatDoorChecked
import Derived.Shelf.Strconv.Itoa4
import Derived.Lib.AppendIntMem
import Derived.Lib.ItoaMem
import Derived.Lib.ItoaLen
import Derived.Laws.IdiomStrings
import Derived.Deep.RegionHeld3
/-
  The library's functions behind strconv.FormatInt as they lie in this program. No condition.
-/
namespace Go.Proofs.YtcgkcfmiabninaaGreatDoor
open Go.Shelf
def Tryz.lays173_ren : Go.Shelf.Ren := ⟨fun | 173 => 68 | 246 => 85 | 283 => 98 | 284 => 99 | 285 => 100 | 286 => 101 | 129 => 115 | 317 => 114 | 318 => 116 | 319 => 117 | 320 => 118 | 337 => 126 | 338 => 127 | n => n, fun | 2 => 2 | 3 => 3 | 9 => 9 | 4 => 4 | 171 => 108 | 0 => 0 | 53 => 81 | 37 => 34 | 5 => 5 | 173 => 111 | 212 => 122 | 51 => 123 | 20 => 20 | 213 => 124 | 46 => 98 | 232 => 143 | 233 => 144 | n => n, fun | 17 => 1 | 18 => 6 | 19 => 7 | n => n⟩
theorem Tryz.lays173 : Go.Proofs.LaysM.n173 Tryz.prog Tryz.lays173_ren := {
  mixed := by kernel_rfl,
  f129 := Tryz.func115.trans (congrArg some (by kernel_rfl)),
  f173 := Tryz.func68.trans (congrArg some (by kernel_rfl)),
  f246 := Tryz.func85.trans (congrArg some (by kernel_rfl)),
  f283 := Tryz.func98.trans (congrArg some (by kernel_rfl)),
  f284 := Tryz.func99.trans (congrArg some (by kernel_rfl)),
  f285 := Tryz.func100.trans (congrArg some (by kernel_rfl)),
  f286 := Tryz.func101.trans (congrArg some (by kernel_rfl)),
  f317 := Tryz.func114.trans (congrArg some (by kernel_rfl)),
  f318 := Tryz.func116.trans (congrArg some (by kernel_rfl)),
  f319 := Tryz.func117.trans (congrArg some (by kernel_rfl)),
  f320 := Tryz.func118.trans (congrArg some (by kernel_rfl)),
  f337 := Tryz.func126.trans (congrArg some (by kernel_rfl)),
  f338 := Tryz.func127.trans (congrArg some (by kernel_rfl)),
  t0 := Tryz.underlying0,
  a0 := Tryz.isAgg0,
  z0 := Tryz.sizeOf0,
  v0 := Tryz.zeroValue0,
  t2 := Tryz.underlying2,
  a2 := Tryz.isAgg2,
  z2 := Tryz.sizeOf2,
  v2 := Tryz.zeroValue2,
  t3 := Tryz.underlying3,
  a3 := Tryz.isAgg3,
  z3 := Tryz.sizeOf3,
  v3 := Tryz.zeroValue3,
  t4 := Tryz.underlying4,
  a4 := Tryz.isAgg4,
  z4 := Tryz.sizeOf4,
  v4 := Tryz.zeroValue4,
  t5 := Tryz.underlying5,
  a5 := Tryz.isAgg5,
  z5 := Tryz.sizeOf5,
  v5 := Tryz.zeroValue5,
  t9 := Tryz.underlying9,
  a9 := Tryz.isAgg9,
  z9 := Tryz.sizeOf9,
  v9 := Tryz.zeroValue9,
  t20 := Tryz.underlying20,
  a20 := Tryz.isAgg20,
  z20 := Tryz.sizeOf20,
  v20 := Tryz.zeroValue20,
  t37 := Tryz.underlying34,
  a37 := Tryz.isAgg34,
  z37 := Tryz.sizeOf34,
  v37 := Tryz.zeroValue34,
  t46 := Tryz.underlying98,
  a46 := Tryz.isAgg98,
  z46 := Tryz.sizeOf98,
  v46 := Tryz.zeroValue98,
  t51 := Tryz.underlying123,
  a51 := Tryz.isAgg123,
  z51 := Tryz.sizeOf123,
  v51 := Tryz.zeroValue123,
  t53 := Tryz.underlying81,
  a53 := Tryz.isAgg81,
  z53 := Tryz.sizeOf81,
  v53 := Tryz.zeroValue81,
  t171 := Tryz.underlying108,
  a171 := Tryz.isAgg108,
  z171 := Tryz.sizeOf108,
  v171 := Tryz.zeroValue108,
  t173 := Tryz.underlying111,
  a173 := Tryz.isAgg111,
  z173 := Tryz.sizeOf111,
  v173 := Tryz.zeroValue111,
  t212 := Tryz.underlying122,
  a212 := Tryz.isAgg122,
  z212 := Tryz.sizeOf122,
  v212 := Tryz.zeroValue122,
  t213 := Tryz.underlying124,
  a213 := Tryz.isAgg124,
  z213 := Tryz.sizeOf124,
  t232 := Tryz.underlying143,
  a232 := Tryz.isAgg143,
  z232 := Tryz.sizeOf143,
  v232 := Tryz.zeroValue143,
  t233 := Tryz.underlying144,
  a233 := Tryz.isAgg144,
  z233 := Tryz.sizeOf144,
  v233 := Tryz.zeroValue144,
  g17 := by kernel_rfl,
  g18 := by kernel_rfl,
  g19 := by kernel_rfl,
  i0 := by kernel_rfl,
  i2 := by kernel_rfl,
  i3 := by kernel_rfl,
  i4 := by kernel_rfl,
  i5 := by kernel_rfl,
  i9 := by kernel_rfl,
  i20 := by kernel_rfl,
  i37 := by kernel_rfl,
  i46 := by kernel_rfl,
  i51 := by kernel_rfl,
  i53 := by kernel_rfl,
  i171 := by kernel_rfl,
  i173 := by kernel_rfl,
  i212 := by kernel_rfl,
  i232 := by kernel_rfl,
  i233 := by kernel_rfl,
  m17 := by kernel_rfl,
  m18 := by kernel_rfl,
  m19 := by kernel_rfl }
end Go.Proofs.YtcgkcfmiabninaaGreatDoor
/-
  Decimal numerals: the program's and the reference's. No condition.
-/
namespace Go.Proofs.YtcgkcfmiabninaaGreatDoor
open Go.RowKit
set_option maxHeartbeats 400000

abbrev TabW (w : World) : Prop := Lib.TabIs Tryz.prog w "internal/strconv.uint64pow10" .u64 Lib.pow10Tab
theorem TabW.below {w w' : World} (h : TabW w) (hb : Below w.heap.size w w') : TabW w' := Lib.tabBelow_of_tabIs h w' hb
def itoaV (n : Int) : Value := .string ⟨(Lib.itoa n).toArray⟩
theorem Decimal_any (n : Int) (w : World) (h0 : -9223372036854775808 ≤ n) (h1 : n ≤ 9223372036854775807) (htab : TabW w) :
    Calls Tryz.prog 41 #[.int .i64 n] w fun e w' => e = .returned (itoaV n) ∧ Below w.heap.size w w' := by
  have hc : Calls Tryz.prog 68 #[.int .i64 n, .int .i64 10] w fun e w' => e = .returned (.string ⟨(Lib.itoa n).toArray⟩) ∧ ∃ k os, w' = Sort.grow (w.drewN k) os := Any.strconv_FormatInt_10 Tryz.lays173 n h0 h1 w htab
  go_enter Tryz.func41, Tryz.ntmps41
  go_wp2_with fail
  refine hc.mono ?_
  rintro e w' ⟨rfl, k, os, rfl⟩
  have hb := Lib.below_grow w.heap.size w (Nat.le_refl _) k os
  clear hc
  go_wp2_with fail
  go_ret
  exact ⟨rfl, hb⟩
/-- the digits of a number, none for 0 -/
def dgs (u : Nat) : List UInt8 := if u = 0 then [] else Lib.decDigits u
theorem dgs_step {u : Nat} (h : u ≠ 0) : dgs u = dgs (u / 10) ++ [UInt8.ofNat (48 + u % 10)] := by
  unfold dgs
  rw [if_neg h]
  by_cases hu : u < 10
  · rw [if_pos (by omega), Lib.decDigits_one hu, Nat.mod_eq_of_lt hu]; rfl
  · rw [if_neg (by omega)]
    conv => lhs; unfold Lib.decDigits
    rw [dif_neg hu]
theorem dgs_len {n : Int} (h0 : -9223372036854775808 ≤ n) (h1 : n ≤ 9223372036854775807) : (dgs n.natAbs).length ≤ 21 := by
  have := Lib.itoa_length_le n h0 h1
  unfold dgs
  split
  · simp
  · unfold Lib.itoa at this
    split at this
    · simp at this; omega
    · rw [show n.toNat = n.natAbs by omega] at this; exact this
theorem itoa_dgs {n : Int} (h : n ≠ 0) : Lib.itoa n = if n < 0 then 45 :: dgs n.natAbs else dgs n.natAbs := by
  unfold Lib.itoa dgs
  rw [if_neg (show ¬ n.natAbs = 0 by omega)]
  split
  · rfl
  · rw [show n.toNat = n.natAbs by omega]
def encU (b : UInt8) : List Value := [.int .u8 b.toNat]
theorem encU_len (b : UInt8) : (encU b).length = 1 := rfl
theorem encU_cells (l : List UInt8) : l.flatMap encU = Lib.byteCells l := by
  induction l with
  | nil => rfl
  | cons b l ih => rw [List.flatMap_cons, ih]; rfl
end Go.Proofs.YtcgkcfmiabninaaGreatDoor
/-
  Decimal numerals: the reference's. No condition.
-/
namespace Go.Proofs.YtcgkcfmiabninaaGreatDoor
open Go.RowKit
set_option maxHeartbeats 400000

theorem u8_info : (Tryz.prog.info? 5).map (fun i => (i.zero, i.size, i.bytes)) = some (some (.int .u8 0), 1, 1) := by kernel_rfl
theorem one_encU (xs : List UInt8) : ∀ u ∈ xs.flatMap encU, u.oneCell' = true := by
  intro u hu
  obtain ⟨x, _, hx⟩ := List.mem_flatMap.1 hu
  simp [encU] at hx
  subst hx
  rfl
theorem news_of_u {w : World} {B b off n : Nat} {xs : List UInt8} (hx : Sl w B 1 encU (some ⟨b, off, none⟩) n xs) : ∀ (j : Nat) (u : Value), (xs.flatMap encU)[j]? = some u → w.cell? ((⟨b, off, none⟩ : Addr).add j) = some u := by
  intro j u hj
  rw [Addr.add_lit]
  have hjl : j < xs.length := by have := (List.getElem?_eq_some_iff.1 hj).1; rwa [flatMap_len encU_len, Nat.mul_one] at this
  obtain ⟨b', off', e, _, hc⟩ := hx.2 j xs[j] (List.getElem?_eq_getElem hjl)
  injection e with e
  injection e with e1 e2
  subst e1 e2
  have := hc 0 (.int .u8 xs[j].toNat) rfl
  rw [Nat.mul_one, Nat.add_zero] at this
  rw [this]
  rw [encU_cells] at hj
  simp [Lib.byteCells, hjl] at hj
  rw [hj]
/-- the numbers of one round -/
theorem dec_nums {x : Int} {d : Int} (hd : d = if x.tmod 10 < 0 then -(x.tmod 10) else x.tmod 10) : d = ((x.natAbs % 10 : Nat) : Int) ∧ 0 ≤ d ∧ d ≤ 9 := by
  have h1 : (x.tmod 10).natAbs = x.natAbs % 10 := Int.natAbs_tmod x 10
  have h2 : d = ((x.tmod 10).natAbs : Int) := by split at hd <;> omega
  rw [h2, h1]
  omega
set_option maxHeartbeats 4000000 in
set_option maxRecDepth 100000 in
theorem l01Dec_any (n : Int) (w : World) (h0 : -9223372036854775808 ≤ n) (h1 : n ≤ 9223372036854775807) :
    Calls Tryz.prog 53 #[.int .i64 n] w fun e w' => e = .returned (itoaV n) ∧ Below w.heap.size w w' := by
  obtain ⟨i0, hi, hz0, hz1, hz2⟩ := info_parts u8_info
  have hlen := dgs_len h0 h1
  go_enter Tryz.func53, Tryz.ntmps53
  go_wp2_with fail
  go_loopw [3, 4] (fun vo vx wl => ∃ (A : Option Addr) (c : Nat) (l : List UInt8) (x : Int), vo = .slice A l.length c ∧ vx = .int .i64 x ∧ wl.ownsRow w.heap.size 5 1 (.slice A l.length c) l.length (l.flatMap encU) ∧ Hid (dgs x.natAbs ++ l = dgs n.natAbs) ∧ -9223372036854775808 ≤ x ∧ x ≤ 9223372036854775807 ∧ Below w.heap.size w wl) (fun _ x _ => (intOf x).natAbs)
  case atStart =>
    refine ⟨_, _, [], n, rfl, rfl, ?_, hid (by simp), h0, h1, ?_⟩
    · exact World.ownsRow_lit (base := w.heap.size) (e := 5) (size := 1) w #[] 0 (Nat.le_refl _) (by simp [maxLen]) (by simp)
    · exact (Below.refl _ _).alloc (Nat.le_refl _) _
  case round =>
    obtain ⟨A, c, l, x, rfl, rfl, ho, hD, x0, x1, hb⟩ := hrel
    have hbs := hb.size
    by_cases hx : x = 0
    · subst hx
      have e : l = dgs n.natAbs := by have := hD.out; simpa [dgs] using this
      by_cases hn0 : n = 0
      · subst hn0
        obtain rfl : l = [] := e
        clear hD
        go_wp2_with fail
        go_ret
        refine ⟨?_, hb⟩
        have h48 : Lib.itoa 0 = [48] := by unfold Lib.itoa; rw [if_neg (by omega)]; exact Lib.decDigits_one (by omega)
        unfold itoaV
        rw [h48]
        rfl
      · have hi2 := itoa_dgs hn0
        rw [← e] at hi2
        have hl21 : l.length ≤ 21 := by rw [e]; exact hlen
        have hpos : 0 < l.length := by
          rw [e]; unfold dgs; rw [if_neg (show ¬ n.natAbs = 0 by omega), Lib.decDigits_length]; exact Lib.nDigits_pos _
        rcases ho.2 with ⟨_, h0'⟩ | ⟨g, cap, cur, hA, _⟩
        · exfalso; omega
        · simp only [Value.slice.injEq] at hA
          obtain ⟨rfl, _, rfl⟩ := hA
          have hcv := run_convert_bytes_back (P := Tryz.prog) wr 34 9 5 ⟨g, 0, none⟩ c l Tryz.underlying34 Tryz.underlying5 Tryz.underlying9 (fun j hj => ho.cells (g := g) rfl j _ (by rw [encU_cells]; simp [Lib.byteCells, hj]))
          have hlb : ((l.length : Int) == 0) = false := by rw [beq_eq_false_iff_ne]; omega
          have HI2 := hid hi2
          clear hD e hi2
          by_cases hn : n < 0
          · have HN := hid hn
            go_wp2_with fail
            go_ret
            rw [if_pos HN.out] at HI2
            refine ⟨?_, hb⟩
            unfold itoaV
            rw [HI2.out]
            show Ending.returned (.string (⟨#[45]⟩ ++ ⟨l.toArray⟩)) = _
            have hba : (⟨#[45]⟩ ++ ⟨l.toArray⟩ : ByteArray) = ⟨(45 :: l).toArray⟩ := by
              apply ByteArray.ext
              rw [ByteArray.data_append]
              apply Array.ext'
              simp
            rw [hba]
          · have HN := hid hn
            go_wp2_with fail
            go_ret
            have hn3 : ¬ n < 0 := by have := HN.out; omega
            rw [if_neg hn3] at HI2
            refine ⟨?_, hb⟩
            unfold itoaV
            rw [HI2.out]
            rfl
    · have hxb : (x == 0) = false := by rw [beq_eq_false_iff_ne]; exact hx
      obtain ⟨d, hd⟩ : ∃ d, d = if x.tmod 10 < 0 then -(x.tmod 10) else x.tmod 10 := ⟨_, rfl⟩
      obtain ⟨d1, d2, d3⟩ := dec_nums hd
      by_cases hneg : x.tmod 10 < 0
      · rw [if_pos hneg] at hd
        have hv : (48 + -x.tmod 10 : Int) = ((UInt8.ofNat (48 + x.natAbs % 10)).toNat : Int) := by
          rw [← hd, d1, UInt8.toNat_ofNat']
          have : x.natAbs % 10 < 10 := Nat.mod_lt _ (by omega)
          generalize x.natAbs % 10 = k10 at this ⊢
          rw [show (48 + k10) % 2 ^ 8 = 48 + k10 from Nat.mod_eq_of_lt (by omega)]
          omega
        have hst : dgs x.natAbs = dgs (x.natAbs / 10) ++ [UInt8.ofNat (48 + x.natAbs % 10)] := dgs_step (by omega)
        have hq : (x.tdiv 10).natAbs = x.natAbs / 10 := Int.natAbs_tdiv x 10
        obtain ⟨b0, hb0⟩ : ∃ b0, b0 = UInt8.ofNat (48 + x.natAbs % 10) := ⟨_, rfl⟩
        rw [← hb0] at hv hst
        have HD2 : Hid (dgs (x.tdiv 10).natAbs ++ (b0 :: l) = dgs n.natAbs) := by rw [Hid, hq, ← hD.out, hst]; simp
        have hll : l.length ≤ 20 := by have := congrArg List.length hD.out; rw [hst] at this; simp at this; omega
        have hq1 : -9223372036854775808 ≤ x.tdiv 10 := by omega
        have hq2 : x.tdiv 10 ≤ 9223372036854775807 := by omega
        have hqm : (x.tdiv 10).natAbs < x.natAbs := by omega
        have o0 := World.ownsRow_lit (base := w.heap.size) (e := 5) (size := 1) wr #[.int .u8 (48 + -x.tmod 10)] 1 hbs (by simp [maxLen]) (by simp)
        have hr1 : 0 ≤ -x.tmod 10 := by omega
        have hr2 : -x.tmod 10 ≤ 9 := by omega
        have HV := hid hv
        clear hst hb0 hd d1 hD hv hq
        have hx2 := own_sl encU_len (by omega) ho
        rcases Nat.eq_zero_or_pos l.length with hl0 | hl0
        · obtain rfl := List.eq_nil_of_length_eq_zero hl0
          have F1 : ∀ W : World, (pure #[] : Sem (Array Value)).run Tryz.prog W = .ok #[] W := fun _ => rfl
          have F2 : ∀ (q : Addr) (W : World), (storeCells q []).run Tryz.prog W = .ok () W := fun _ _ => rfl
          have hb3 : Below w.heap.size w (wr.alloc (.cells #[.int .u8 (48 + -x.tmod 10)] 5)) := hb.alloc hbs _
          have o1 : (wr.alloc (.cells #[.int .u8 (48 + -x.tmod 10)] 5)).ownsRow w.heap.size 5 1 (.slice (some ⟨wr.heap.size, 0, none⟩) [b0].length 1) [b0].length ([b0].flatMap encU) := by
            have := o0
            rw [HV.out] at this ⊢
            exact this
          have O1 := hid o1
          clear hx2 o0 o1
          rcases ho.2 with ⟨hA, _⟩ | ⟨g, cap, cur, hA, _⟩
          · simp only [Value.slice.injEq] at hA
            obtain ⟨rfl, _, rfl⟩ := hA
            clear ho hll hl0
            go_wp2_with fail
            go_roundw
            all_goals first | exact ⟨some ⟨wr.heap.size, 0, none⟩, 1, [b0], x.tdiv 10, by go_num, rfl, O1.out, HD2, hq1, hq2, hb3⟩ | exact ⟨⟨some ⟨wr.heap.size, 0, none⟩, 1, [b0], x.tdiv 10, by go_num, rfl, O1.out, HD2, hq1, hq2, hb3⟩, hqm⟩ | exact hqm
          · simp only [Value.slice.injEq] at hA
            obtain ⟨rfl, _, rfl⟩ := hA
            clear ho hll hl0
            go_wp2_with fail
            go_roundw
            all_goals first | exact ⟨some ⟨wr.heap.size, 0, none⟩, 1, [b0], x.tdiv 10, by go_num, rfl, O1.out, HD2, hq1, hq2, hb3⟩ | exact ⟨⟨some ⟨wr.heap.size, 0, none⟩, 1, [b0], x.tdiv 10, by go_num, rfl, O1.out, HD2, hq1, hq2, hb3⟩, hqm⟩ | exact hqm
        · rcases ho.2 with ⟨_, h0'⟩ | ⟨g, cap, cur, hA, _⟩
          · exfalso; omega
          · simp only [Value.slice.injEq] at hA
            obtain ⟨rfl, _, rfl⟩ := hA
            have hnew := news_of_u (hx2.alloc (Nat.le_refl _) (.cells #[.int .u8 (48 + -x.tmod 10)] 5))
            have hlen2 : (l.flatMap encU).length = l.length * 1 := by rw [flatMap_len encU_len]
            go_wp2_with (at_builtin; refine wpList_append_lies _ rfl _ _ 34 rfl w.heap.size 5 i0 (.int .u8 0) 1 1 Tryz.underlying34 hi hz0 hz1 hz2 rfl (by omega) (.slice (some ⟨wr.heap.size, 0, none⟩) 1 1) 1 [.int .u8 (48 + -x.tmod 10)] rfl o0 ⟨g, 0, none⟩ l.length c (l.flatMap encU) rfl hlen2 hnew (one_encU l) (by omega) (by simp only [maxLen]; omega) (by omega) (by simp; omega) (wr.heap.size + 1) (by simp) ?_; intro gg cap w3 ho3 hg3 hat3 hlt3)
            have hb3 : Below w.heap.size w w3 := (hb.alloc hbs _).grown hg3 (by simp; omega) (fun q hq => by simp [Value.ownBlock] at hq; omega)
            have e3 : [Value.int .u8 (48 + -x.tmod 10)] ++ l.flatMap encU = (b0 :: l).flatMap encU := by rw [HV.out]; rfl
            have l3 : 1 + l.length = (b0 :: l).length := by rw [List.length_cons]; omega
            rw [e3, l3] at ho3
            have HO3 := hid ho3
            clear ho3 ho hnew hlen2 o0 hx2 e3 l3
            go_wp2_with fail
            go_roundw
            all_goals first | exact ⟨some ⟨gg, 0, none⟩, cap, b0 :: l, x.tdiv 10, by go_num, rfl, HO3.out, HD2, hq1, hq2, hb3⟩ | exact ⟨⟨some ⟨gg, 0, none⟩, cap, b0 :: l, x.tdiv 10, by go_num, rfl, HO3.out, HD2, hq1, hq2, hb3⟩, hqm⟩ | exact hqm
      · rw [if_neg hneg] at hd
        have hv : (48 + x.tmod 10 : Int) = ((UInt8.ofNat (48 + x.natAbs % 10)).toNat : Int) := by
          rw [← hd, d1, UInt8.toNat_ofNat']
          have : x.natAbs % 10 < 10 := Nat.mod_lt _ (by omega)
          generalize x.natAbs % 10 = k10 at this ⊢
          rw [show (48 + k10) % 2 ^ 8 = 48 + k10 from Nat.mod_eq_of_lt (by omega)]
          omega
        have hst : dgs x.natAbs = dgs (x.natAbs / 10) ++ [UInt8.ofNat (48 + x.natAbs % 10)] := dgs_step (by omega)
        have hq : (x.tdiv 10).natAbs = x.natAbs / 10 := Int.natAbs_tdiv x 10
        obtain ⟨b0, hb0⟩ : ∃ b0, b0 = UInt8.ofNat (48 + x.natAbs % 10) := ⟨_, rfl⟩
        rw [← hb0] at hv hst
        have HD2 : Hid (dgs (x.tdiv 10).natAbs ++ (b0 :: l) = dgs n.natAbs) := by rw [Hid, hq, ← hD.out, hst]; simp
        have hll : l.length ≤ 20 := by have := congrArg List.length hD.out; rw [hst] at this; simp at this; omega
        have hq1 : -9223372036854775808 ≤ x.tdiv 10 := by omega
        have hq2 : x.tdiv 10 ≤ 9223372036854775807 := by omega
        have hqm : (x.tdiv 10).natAbs < x.natAbs := by omega
        have o0 := World.ownsRow_lit (base := w.heap.size) (e := 5) (size := 1) wr #[.int .u8 (48 + x.tmod 10)] 1 hbs (by simp [maxLen]) (by simp)
        have hr1 : 0 ≤ x.tmod 10 := by omega
        have hr2 : x.tmod 10 ≤ 9 := by omega
        have HV := hid hv
        clear hst hb0 hd d1 hD hv hq
        have hx2 := own_sl encU_len (by omega) ho
        rcases Nat.eq_zero_or_pos l.length with hl0 | hl0
        · obtain rfl := List.eq_nil_of_length_eq_zero hl0
          have F1 : ∀ W : World, (pure #[] : Sem (Array Value)).run Tryz.prog W = .ok #[] W := fun _ => rfl
          have F2 : ∀ (q : Addr) (W : World), (storeCells q []).run Tryz.prog W = .ok () W := fun _ _ => rfl
          have hb3 : Below w.heap.size w (wr.alloc (.cells #[.int .u8 (48 + x.tmod 10)] 5)) := hb.alloc hbs _
          have o1 : (wr.alloc (.cells #[.int .u8 (48 + x.tmod 10)] 5)).ownsRow w.heap.size 5 1 (.slice (some ⟨wr.heap.size, 0, none⟩) [b0].length 1) [b0].length ([b0].flatMap encU) := by
            have := o0
            rw [HV.out] at this ⊢
            exact this
          have O1 := hid o1
          clear hx2 o0 o1
          rcases ho.2 with ⟨hA, _⟩ | ⟨g, cap, cur, hA, _⟩
          · simp only [Value.slice.injEq] at hA
            obtain ⟨rfl, _, rfl⟩ := hA
            clear ho hll hl0
            go_wp2_with fail
            go_roundw
            all_goals first | exact ⟨some ⟨wr.heap.size, 0, none⟩, 1, [b0], x.tdiv 10, by go_num, rfl, O1.out, HD2, hq1, hq2, hb3⟩ | exact ⟨⟨some ⟨wr.heap.size, 0, none⟩, 1, [b0], x.tdiv 10, by go_num, rfl, O1.out, HD2, hq1, hq2, hb3⟩, hqm⟩ | exact hqm
          · simp only [Value.slice.injEq] at hA
            obtain ⟨rfl, _, rfl⟩ := hA
            clear ho hll hl0
            go_wp2_with fail
            go_roundw
            all_goals first | exact ⟨some ⟨wr.heap.size, 0, none⟩, 1, [b0], x.tdiv 10, by go_num, rfl, O1.out, HD2, hq1, hq2, hb3⟩ | exact ⟨⟨some ⟨wr.heap.size, 0, none⟩, 1, [b0], x.tdiv 10, by go_num, rfl, O1.out, HD2, hq1, hq2, hb3⟩, hqm⟩ | exact hqm
        · rcases ho.2 with ⟨_, h0'⟩ | ⟨g, cap, cur, hA, _⟩
          · exfalso; omega
          · simp only [Value.slice.injEq] at hA
            obtain ⟨rfl, _, rfl⟩ := hA
            have hnew := news_of_u (hx2.alloc (Nat.le_refl _) (.cells #[.int .u8 (48 + x.tmod 10)] 5))
            have hlen2 : (l.flatMap encU).length = l.length * 1 := by rw [flatMap_len encU_len]
            go_wp2_with (at_builtin; refine wpList_append_lies _ rfl _ _ 34 rfl w.heap.size 5 i0 (.int .u8 0) 1 1 Tryz.underlying34 hi hz0 hz1 hz2 rfl (by omega) (.slice (some ⟨wr.heap.size, 0, none⟩) 1 1) 1 [.int .u8 (48 + x.tmod 10)] rfl o0 ⟨g, 0, none⟩ l.length c (l.flatMap encU) rfl hlen2 hnew (one_encU l) (by omega) (by simp only [maxLen]; omega) (by omega) (by simp; omega) (wr.heap.size + 1) (by simp) ?_; intro gg cap w3 ho3 hg3 hat3 hlt3)
            have hb3 : Below w.heap.size w w3 := (hb.alloc hbs _).grown hg3 (by simp; omega) (fun q hq => by simp [Value.ownBlock] at hq; omega)
            have e3 : [Value.int .u8 (48 + x.tmod 10)] ++ l.flatMap encU = (b0 :: l).flatMap encU := by rw [HV.out]; rfl
            have l3 : 1 + l.length = (b0 :: l).length := by rw [List.length_cons]; omega
            rw [e3, l3] at ho3
            have HO3 := hid ho3
            clear ho3 ho hnew hlen2 o0 hx2 e3 l3
            go_wp2_with fail
            go_roundw
            all_goals first | exact ⟨some ⟨gg, 0, none⟩, cap, b0 :: l, x.tdiv 10, by go_num, rfl, HO3.out, HD2, hq1, hq2, hb3⟩ | exact ⟨⟨some ⟨gg, 0, none⟩, cap, b0 :: l, x.tdiv 10, by go_num, rfl, HO3.out, HD2, hq1, hq2, hb3⟩, hqm⟩ | exact hqm
end Go.Proofs.YtcgkcfmiabninaaGreatDoor
/-
  Schemes as text: the program's function and the reference's. No condition but the table that lies laid.
-/
namespace Go.Proofs.YtcgkcfmiabninaaGreatDoor
open Go.RowKit
set_option maxHeartbeats 400000

def itoaB (n : Int) : ByteArray := ⟨(Lib.itoa n).toArray⟩
theorem itoaB_size {n : Int} (h0 : 0 ≤ n) (h1 : n ≤ 1000000) : (itoaB n).size ≤ 21 := by
  have := Lib.itoa_length_le n (by omega) (by omega)
  simpa [itoaB, ByteArray.size] using this
theorem itoaV_eq (n : Int) : itoaV n = .string (itoaB n) := rfl
def stT (z : ByteArray) : ByteArray := (⟨#[115, 116, 97, 116, 105, 111, 110, 32]⟩ ++ z) ++ ⟨#[10]⟩
def rmT (z : ByteArray) : ByteArray := (⟨#[114, 111, 111, 109, 32]⟩ ++ z) ++ ⟨#[10]⟩
def wyT (y : Way) : ByteArray := (((((⟨#[116, 117, 98, 101, 32]⟩ ++ y.fr) ++ ⟨#[32]⟩) ++ y.«to») ++ ⟨#[32]⟩) ++ itoaB y.metres) ++ ⟨#[10]⟩
/-- the first k of a list as text, behind a text -/
def txtL {α : Type} (f : α → ByteArray) (s : ByteArray) (xs : List α) : Nat → ByteArray
  | 0 => s
  | k + 1 => match xs[k]? with
    | some x => txtL f s xs k ++ f x
    | none => txtL f s xs k
theorem txtL_succ {α : Type} {f : α → ByteArray} {s : ByteArray} {xs : List α} {k : Nat} {x : α} (h : xs[k]? = some x) : txtL f s xs (k + 1) = txtL f s xs k ++ f x := by
  simp only [txtL, h]
def schT (x : Sch) : ByteArray := txtL wyT (txtL rmT (txtL stT ⟨#[]⟩ x.st x.st.length) x.rm x.rm.length) x.wy x.wy.length
/-- a scheme as text -/
def schemeF (x : Sch) : ByteArray := if validX x then schT x else ⟨#[]⟩
theorem nameB_sz {z : ByteArray} (h : nameB z = true) : z.size ≤ 12 := by
  simp only [nameB, Bool.and_eq_true, decide_eq_true_eq] at h; exact h.1
theorem stF_name {ss : List ByteArray} {z : ByteArray} (h : stF ss z = 0) : nameB z = true := by
  unfold stF at h
  split at h
  · assumption
  · omega
theorem hasS_mem {ss : List ByteArray} {z : ByteArray} (h : hasS ss z = true) : z ∈ ss := by
  simpa [hasS] using h
theorem validX_st {x : Sch} (h : validX x = true) {z : ByteArray} (hz : z ∈ x.st) : nameB z = true := by
  simp only [validX, Bool.and_eq_true] at h
  obtain ⟨i, hi, rfl⟩ := List.getElem_of_mem hz
  exact stF_name (okL_mem _ _ h.1 i _ (List.getElem?_eq_getElem hi))
theorem validX_rm {x : Sch} (h : validX x = true) {z : ByteArray} (hz : z ∈ x.rm) : z ∈ x.st := by
  simp only [validX, Bool.and_eq_true] at h
  obtain ⟨i, hi, rfl⟩ := List.getElem_of_mem hz
  have h1 := okL_mem _ _ h.2.1 i _ (List.getElem?_eq_getElem hi)
  unfold rmF at h1
  split at h1
  · rename_i h2; exact hasS_mem h2
  · omega
theorem validX_wy {x : Sch} (h : validX x = true) {y : Way} (hy : y ∈ x.wy) : y.fr ∈ x.st ∧ y.«to» ∈ x.st := by
  simp only [validX, Bool.and_eq_true] at h
  obtain ⟨i, hi, rfl⟩ := List.getElem_of_mem hy
  have h1 := okL_mem _ _ h.2.2 i _ (List.getElem?_eq_getElem hi)
  unfold wyF at h1
  split at h1
  · rename_i h2
    split at h1
    · rename_i h3; exact ⟨hasS_mem h2, hasS_mem h3⟩
    · omega
  · omega
/-- the parts of a text are short -/
def ShortX (x : Sch) : Prop := (∀ z ∈ x.st, z.size ≤ 12) ∧ (∀ z ∈ x.rm, z.size ≤ 12) ∧ ∀ y ∈ x.wy, y.fr.size ≤ 12 ∧ y.«to».size ≤ 12 ∧ 0 ≤ y.metres ∧ y.metres ≤ 2000
theorem validX_short {x : Sch} (h : validX x = true) : ShortX x := by
  refine ⟨fun z hz => nameB_sz (validX_st h hz), fun z hz => nameB_sz (validX_st h (validX_rm h hz)), fun y hy => ?_⟩
  obtain ⟨h1, h2⟩ := validX_wy h hy
  obtain ⟨i, hi, rfl⟩ := List.getElem_of_mem hy
  have h3 := validX_way h (List.getElem?_eq_getElem hi)
  exact ⟨nameB_sz (validX_st h h1), nameB_sz (validX_st h h2), by omega, by omega⟩
set_option maxHeartbeats 8000000 in
set_option maxRecDepth 100000 in
theorem implSchemeText_any (s : SV) (x : Sch) (w : World) (B : Nat) (hB : B ≤ w.heap.size) (hn : s.n1 ≤ 2000000 ∧ s.n2 ≤ 2000000 ∧ s.n3 ≤ 2000000) (hx : SlX w B s x) (hz : Hid (BigX x)) (htab : TabW w) :
    Calls Tryz.prog 16 #[s.v] w fun r w' => r = .returned (.string (schemeF x)) ∧ Below w.heap.size w w' := by
  obtain ⟨A1, n1, c1, A2, n2, c2, A3, n3, c3⟩ := s
  simp only [SV.v] at hn ⊢
  obtain ⟨W0, hW0⟩ : ∃ W0, W0 = w.alloc (.cells #[.slice A1 n1 c1, .slice A2 n2 c2, .slice A3 n3 c3] 25) := ⟨_, rfl⟩
  have b0 : Below w.heap.size w W0 := by rw [hW0]; exact (Below.refl _ _).alloc (Nat.le_refl _) _
  have k0 : W0.cell? ⟨w.heap.size, 0, none⟩ = some (.slice A1 n1 c1) := by rw [hW0]; go_simp
  have k1 : W0.cell? ⟨w.heap.size, 1, none⟩ = some (.slice A2 n2 c2) := by rw [hW0]; go_simp
  have k2 : W0.cell? ⟨w.heap.size, 2, none⟩ = some (.slice A3 n3 c3) := by rw [hW0]; go_simp
  have hx0 := hx.below (b0.mono hB)
  have hc := implValid_any ⟨A1, n1, c1, A2, n2, c2, A3, n3, c3⟩ x W0 B (Nat.le_trans hB b0.size) hn hx0 hz
  simp only [SV.v] at hc
  have x1 := hx0.st
  have x2 := hx0.rm
  have x3 := hx0.wy
  simp only at x1 x2 x3
  have L1 := x1.len
  have L2 := x2.len
  have L3 := x3.len
  obtain ⟨hn1, hn2, hn3⟩ := hn
  have HW := hid hW0
  clear hW0 hx hx0 hz
  cases hv : validX x with
  | false =>
    have E : Hid (schemeF x = ⟨#[]⟩) := by simp [Hid, schemeF, hv]
    rw [hv] at hc
    clear hv x1 x2 x3 L1 L2 L3
    go_enter Tryz.func16, Tryz.ntmps16
    go_wp2_with fail
    rw [← HW.out]
    refine hc.mono ?_
    rintro r w1 ⟨rfl, b1⟩
    clear hc
    go_wp2_with fail
    go_ret
    rw [E.out]
    exact ⟨rfl, b0.trans (b1.mono b0.size)⟩
  | true =>
    have E : Hid (schemeF x = txtL wyT (txtL rmT (txtL stT ⟨#[]⟩ x.st n1) x.rm n2) x.wy n3) := by simp only [Hid, schemeF, hv, if_true, schT, L1, L2, L3]
    have V : Hid (ShortX x) := validX_short hv
    rw [hv] at hc
    clear hv L1 L2 L3
    go_enter Tryz.func16, Tryz.ntmps16
    go_wp2_with fail
    rw [← HW.out]
    refine hc.mono ?_
    rintro r w0 ⟨rfl, b1⟩
    clear hc
    replace k0 := below_cell k0 b1
    replace k1 := below_cell k1 b1
    replace k2 := below_cell k2 b1
    have hB0 := Nat.le_trans (Nat.le_trans hB b0.size) b1.size
    replace x1 := hid (x1.below (b1.mono (Nat.le_trans hB b0.size)))
    replace x2 := hid (x2.below (b1.mono (Nat.le_trans hB b0.size)))
    replace x3 := hid (x3.below (b1.mono (Nat.le_trans hB b0.size)))
    have lt0 : w.heap.size < w0.heap.size := World.block_lt_of_cell? _ _ k0
    have cc := b0.trans (b1.mono b0.size)
    have htb := hid (htab.below cc)
    clear b1 b0 htab HW
    go_wp2_with fail
    go_loopw [3, 16] (fun vs vi wl => ∃ (k : Nat) (s : ByteArray), k ≤ n1 ∧ vi = .int .i64 k ∧ vs = .string s ∧ Hid (txtL stT ⟨#[]⟩ x.st k = s) ∧ s.size ≤ 0 + 21 * k ∧ Below w0.heap.size w0 wl) (fun _ i _ => n1 - (intOf i).toNat)
    case atStart => exact ⟨0, ⟨#[]⟩, Nat.zero_le _, rfl, rfl, hid rfl, Nat.zero_le _, Below.refl _ _⟩
    case round =>
      obtain ⟨k, sa, hk, rfl, rfl, hs, za, hb⟩ := hrel
      have hbs := hb.size
      have q0 := below_cell k0 hb
      have q1 := below_cell k1 hb
      have q2 := below_cell k2 hb
      have ltr : w.heap.size < wr.heap.size := by omega
      by_cases hkn : k < n1
      · obtain ⟨y, b, off, Hy, rfl, hbb, l0⟩ := (x1.out.below (hb.mono hB0)).str hkn
        have zy := V.out.1 _ (List.mem_of_getElem? Hy.out)
        have HS := txtL_succ (f := stT) (s := ⟨#[]⟩) Hy.out
        rw [hs.out] at HS
        unfold stT at HS
        have hi0 : (0 : Int) ≤ (k : Int) := by omega
        have hi1 : (k : Int) < (n1 : Int) := by omega
        have HSS := hid HS
        have hs1 : (9223372036854775807 < 8 + y.size) = False := by simp; omega
        have hs2 : (9223372036854775807 < 8 + y.size + 1) = False := by simp; omega
        have hs3 : (9223372036854775807 < sa.size + (8 + y.size + 1)) = False := by simp; omega
        have hsz2 : (sa ++ ((⟨#[115, 116, 97, 116, 105, 111, 110, 32]⟩ ++ y) ++ ⟨#[10]⟩)).size ≤ 0 + 21 * (k + 1) := by
          have e1 : (⟨#[10]⟩ : ByteArray).size = 1 := rfl
          have e4 : (⟨#[115, 116, 97, 116, 105, 111, 110, 32]⟩ : ByteArray).size = 8 := rfl
          simp only [ByteArray.size_append] at *
          omega
        clear HS hs Hy
        have hb7 := hb
        go_wp2_with fail
        clear hs1 hs2 hs3
        go_roundw
        all_goals first
          | exact ⟨k + 1, _, by omega, by go_num, rfl, HSS.out, hsz2, hb7⟩
          | exact ⟨⟨k + 1, _, by omega, by go_num, rfl, HSS.out, hsz2, hb7⟩, by simp [intOf]; omega⟩
          | (simp [intOf]; omega)
      · obtain rfl : n1 = k := by omega
        rw [hs.out] at E
        clear hs
        go_wp2_with fail
        obtain ⟨wq, hwq⟩ : ∃ wq : World, wq = wr := ⟨_, rfl⟩
        subst hwq
        go_loopw [3, 29] (fun vs vi wl => ∃ (k : Nat) (s : ByteArray), k ≤ n2 ∧ vi = .int .i64 k ∧ vs = .string s ∧ Hid (txtL rmT sa x.rm k = s) ∧ s.size ≤ 21 * n1 + 21 * k ∧ Below w0.heap.size w0 wl) (fun _ i _ => n2 - (intOf i).toNat)
        case atStart => exact ⟨0, _, Nat.zero_le _, rfl, rfl, hid rfl, by omega, hb⟩
        case round =>
          clear hb hbs
          obtain ⟨k, sb, hk, rfl, rfl, hs, zb, hb⟩ := hrel
          have hbs := hb.size
          have q1 := below_cell k1 hb
          have q2 := below_cell k2 hb
          have ltr : w.heap.size < wr.heap.size := by omega
          by_cases hkn : k < n2
          · obtain ⟨y, b, off, Hy, rfl, hbb, l0⟩ := (x2.out.below (hb.mono hB0)).str hkn
            have zy := V.out.2.1 _ (List.mem_of_getElem? Hy.out)
            have HS := txtL_succ (f := rmT) (s := sa) Hy.out
            rw [hs.out] at HS
            unfold rmT at HS
            have hi0 : (0 : Int) ≤ (k : Int) := by omega
            have hi1 : (k : Int) < (n2 : Int) := by omega
            have HSS := hid HS
            have hs1 : (9223372036854775807 < 5 + y.size) = False := by simp; omega
            have hs2 : (9223372036854775807 < 5 + y.size + 1) = False := by simp; omega
            have hs3 : (9223372036854775807 < sb.size + (5 + y.size + 1)) = False := by simp; omega
            have hsz2 : (sb ++ ((⟨#[114, 111, 111, 109, 32]⟩ ++ y) ++ ⟨#[10]⟩)).size ≤ 21 * n1 + 21 * (k + 1) := by
              have e1 : (⟨#[10]⟩ : ByteArray).size = 1 := rfl
              have e4 : (⟨#[114, 111, 111, 109, 32]⟩ : ByteArray).size = 5 := rfl
              simp only [ByteArray.size_append] at *
              omega
            clear HS hs Hy
            have hb7 := hb
            go_wp2_with fail
            clear hs1 hs2 hs3
            go_roundw
            all_goals first
              | exact ⟨k + 1, _, by omega, by go_num, rfl, HSS.out, hsz2, hb7⟩
              | exact ⟨⟨k + 1, _, by omega, by go_num, rfl, HSS.out, hsz2, hb7⟩, by simp [intOf]; omega⟩
              | (simp [intOf]; omega)
          · obtain rfl : n2 = k := by omega
            rw [hs.out] at E
            clear hs
            go_wp2_with fail
            obtain ⟨wq, hwq⟩ : ∃ wq : World, wq = wr := ⟨_, rfl⟩
            subst hwq
            go_loopw [3, 42] (fun vs vi wl => ∃ (k : Nat) (s : ByteArray), k ≤ n3 ∧ vi = .int .i64 k ∧ vs = .string s ∧ Hid (txtL wyT sb x.wy k = s) ∧ s.size ≤ (21 * n1 + 21 * n2) + 80 * k ∧ Below w0.heap.size w0 wl) (fun _ i _ => n3 - (intOf i).toNat)
            case atStart => exact ⟨0, _, Nat.zero_le _, rfl, rfl, hid rfl, by omega, hb⟩
            case round =>
              clear hb hbs
              obtain ⟨k, sc, hk, rfl, rfl, hs, zc, hb⟩ := hrel
              have hbs := hb.size
              have q2 := below_cell k2 hb
              have ltr : w.heap.size < wr.heap.size := by omega
              by_cases hkn : k < n3
              · obtain ⟨f, g, m, b, off, Hy, rfl, hbb, l0, l1, l2⟩ := (x3.out.below (hb.mono hB0)).atWay hkn
                obtain ⟨zf, zg, m0, m1⟩ := V.out.2.2 _ (List.mem_of_getElem? Hy.out)
                simp only at zf zg m0 m1
                have HS := txtL_succ (f := wyT) (s := sb) Hy.out
                rw [hs.out] at HS
                unfold wyT at HS
                simp only at HS
                have hi0 : (0 : Int) ≤ (k : Int) := by omega
                have hi1 : (k : Int) < (n3 : Int) := by omega
                have zm := itoaB_size m0 (by omega)
                have cM := fun W hW => Decimal_any m W (by omega) (by omega) hW
                rw [itoaV_eq] at cM
                generalize itoaB m = sm at cM HS zm
                have HSS := hid HS
                have hs1 : (9223372036854775807 < 5 + f.size) = False := by simp; omega
                have hs2 : (9223372036854775807 < 5 + f.size + 1) = False := by simp; omega
                have hs3 : (9223372036854775807 < 5 + f.size + 1 + g.size) = False := by simp; omega
                have hs4 : (9223372036854775807 < 5 + f.size + 1 + g.size + 1) = False := by simp; omega
                have hs5 : (9223372036854775807 < 5 + f.size + 1 + g.size + 1 + sm.size) = False := by simp; omega
                have hs6 : (9223372036854775807 < 5 + f.size + 1 + g.size + 1 + sm.size + 1) = False := by simp; omega
                have hs7 : (9223372036854775807 < sc.size + (5 + f.size + 1 + g.size + 1 + sm.size + 1)) = False := by simp; omega
                have hsz2 : (sc ++ ((((((⟨#[116, 117, 98, 101, 32]⟩ ++ f) ++ ⟨#[32]⟩) ++ g) ++ ⟨#[32]⟩) ++ sm) ++ ⟨#[10]⟩)).size ≤ (21 * n1 + 21 * n2) + 80 * (k + 1) := by
                  have e1 : (⟨#[10]⟩ : ByteArray).size = 1 := rfl
                  have e4 : (⟨#[116, 117, 98, 101, 32]⟩ : ByteArray).size = 5 := rfl
                  have e2 : (⟨#[32]⟩ : ByteArray).size = 1 := rfl
                  simp only [ByteArray.size_append] at *
                  omega
                clear HS hs Hy
                obtain ⟨w2, hw2⟩ : ∃ w2, w2 = wr.alloc (.cells #[.string f, .string g, .int .i64 m] 62) := ⟨_, rfl⟩
                have hb2 : Below w0.heap.size w0 w2 := by rw [hw2]; exact hb.alloc hbs _
                have p0 : w2.cell? ⟨wr.heap.size, 0, none⟩ = some (.string f) := by rw [hw2]; go_simp
                have p1 : w2.cell? ⟨wr.heap.size, 1, none⟩ = some (.string g) := by rw [hw2]; go_simp
                have p2 : w2.cell? ⟨wr.heap.size, 2, none⟩ = some (.int .i64 m) := by rw [hw2]; go_simp
                have lt2 : wr.heap.size < w2.heap.size := World.block_lt_of_cell? _ _ p0
                have htb2 := htb.out.below hb2
                replace cM := fun W (hW : Below w2.heap.size w2 W) => cM W (htb2.below hW)
                have HW2 := hid hw2
                have hcur : Below w2.heap.size w2 w2.drew := (Below.refl _ _).drew
                clear hw2 htb2
                go_wp2_with fail
                rw [← HW2.out]
                go_region_held3 (fun W => W.cell? ⟨wr.heap.size, 0, none⟩ = some (.string f) ∧ W.cell? ⟨wr.heap.size, 1, none⟩ = some (.string g) ∧ W.cell? ⟨wr.heap.size, 2, none⟩ = some (.int .i64 m))
                  (first
                    | (go_keep; done)
                    | (go_split_ands; exact ⟨below_cell p0 hcur, below_cell p1 hcur, below_cell p2 hcur⟩))
                  (first
                    | (go_at_call 41; (with_reducible refine (cM _ hcur).mono ?_); rintro r wa ⟨rfl, ba⟩; replace hcur := hcur.trans (ba.mono hcur.size)))
                all_goals have hb7 := hb2.trans (hcur.mono hb2.size)
                all_goals clear hs1 hs2 hs3 hs4 hs5 hs6 hs7 cM
                all_goals (try go_wp2_with fail)
                all_goals go_roundw
                all_goals first
                  | exact ⟨k + 1, _, by omega, by go_num, rfl, HSS.out, hsz2, hb7⟩
                  | exact ⟨⟨k + 1, _, by omega, by go_num, rfl, HSS.out, hsz2, hb7⟩, by simp [intOf]; omega⟩
                  | (simp [intOf]; omega)
              · obtain rfl : n3 = k := by omega
                rw [hs.out] at E
                clear hs
                go_wp2_with fail
                go_ret
                rw [E.out]
                exact ⟨rfl, cc.trans (hb.mono cc.size)⟩
set_option maxHeartbeats 8000000 in
set_option maxRecDepth 100000 in
theorem l21Text_any (gx : Nat) (s : SV) (x : Sch) (w : World) (B : Nat) (hB0 : B ≤ w.heap.size) (hn : s.n1 ≤ 2000000 ∧ s.n2 ≤ 2000000 ∧ s.n3 ≤ 2000000) (hx : SlX w B s x) (V : Hid (ShortX x))
    (k0 : w.cell? ⟨gx, 0, none⟩ = some (.slice s.A1 s.n1 s.c1)) (k1 : w.cell? ⟨gx, 1, none⟩ = some (.slice s.A2 s.n2 s.c2)) (k2 : w.cell? ⟨gx, 2, none⟩ = some (.slice s.A3 s.n3 s.c3)) :
    Calls Tryz.prog 48 #[.pointer (some ⟨gx, 0, none⟩)] w fun r w' => r = .returned (.string (schT x)) ∧ Below w.heap.size w w' := by
  obtain ⟨A1, n1, c1, A2, n2, c2, A3, n3, c3⟩ := s
  simp only at hn k0 k1 k2
  obtain ⟨hn1, hn2, hn3⟩ := hn
  have E : Hid (schT x = txtL wyT (txtL rmT (txtL stT ⟨#[]⟩ x.st n1) x.rm n2) x.wy n3) := by
    have L1 := hx.st.len
    have L2 := hx.rm.len
    have L3 := hx.wy.len
    simp only at L1 L2 L3
    simp only [Hid, schT, L1, L2, L3]
  have x1 := hid hx.st
  have x2 := hid hx.rm
  have x3 := hid hx.wy
  simp only at x1 x2 x3
  have lt0 : gx < w.heap.size := World.block_lt_of_cell? _ _ k0
  clear hx
  go_enter Tryz.func48, Tryz.ntmps48
  go_wp2_with fail
  go_loopw [3, 4] (fun vs vi wl => ∃ (k : Nat) (s : ByteArray), k ≤ n1 ∧ vi = .int .i64 k ∧ vs = .string s ∧ Hid (txtL stT ⟨#[]⟩ x.st k = s) ∧ s.size ≤ 0 + 21 * k ∧ Below w.heap.size w wl) (fun _ i _ => n1 - (intOf i).toNat)
  case atStart => exact ⟨0, ⟨#[]⟩, Nat.zero_le _, rfl, rfl, hid rfl, Nat.zero_le _, Below.refl _ _⟩
  case round =>
    obtain ⟨k, sa, hk, rfl, rfl, hs, za, hb⟩ := hrel
    have hbs := hb.size
    have q0 := below_cell k0 hb
    have q1 := below_cell k1 hb
    have q2 := below_cell k2 hb
    have ltr : gx < wr.heap.size := by omega
    by_cases hkn : k < n1
    · obtain ⟨y, b, off, Hy, rfl, hbb, l0⟩ := (x1.out.below (hb.mono hB0)).str hkn
      have zy := V.out.1 _ (List.mem_of_getElem? Hy.out)
      have HS := txtL_succ (f := stT) (s := ⟨#[]⟩) Hy.out
      rw [hs.out] at HS
      unfold stT at HS
      have hi0 : (0 : Int) ≤ (k : Int) := by omega
      have hi1 : (k : Int) < (n1 : Int) := by omega
      have HSS := hid HS
      have hs1 : (9223372036854775807 < 8 + y.size) = False := by simp; omega
      have hs2 : (9223372036854775807 < 8 + y.size + 1) = False := by simp; omega
      have hs3 : (9223372036854775807 < sa.size + (8 + y.size + 1)) = False := by simp; omega
      have hsz2 : (sa ++ ((⟨#[115, 116, 97, 116, 105, 111, 110, 32]⟩ ++ y) ++ ⟨#[10]⟩)).size ≤ 0 + 21 * (k + 1) := by
        have e1 : (⟨#[10]⟩ : ByteArray).size = 1 := rfl
        have e4 : (⟨#[115, 116, 97, 116, 105, 111, 110, 32]⟩ : ByteArray).size = 8 := rfl
        simp only [ByteArray.size_append] at *
        omega
      clear HS hs Hy
      have hb7 := hb
      go_wp2_with fail
      clear hs1 hs2 hs3
      go_roundw
      all_goals first
        | exact ⟨k + 1, _, by omega, by go_num, rfl, HSS.out, hsz2, hb7⟩
        | exact ⟨⟨k + 1, _, by omega, by go_num, rfl, HSS.out, hsz2, hb7⟩, by simp [intOf]; omega⟩
        | (simp [intOf]; omega)
    · obtain rfl : n1 = k := by omega
      rw [hs.out] at E
      clear hs
      go_wp2_with fail
      obtain ⟨wq, hwq⟩ : ∃ wq : World, wq = wr := ⟨_, rfl⟩
      subst hwq
      go_loopw [3, 5] (fun vs vi wl => ∃ (k : Nat) (s : ByteArray), k ≤ n2 ∧ vi = .int .i64 k ∧ vs = .string s ∧ Hid (txtL rmT sa x.rm k = s) ∧ s.size ≤ 21 * n1 + 21 * k ∧ Below w.heap.size w wl) (fun _ i _ => n2 - (intOf i).toNat)
      case atStart => exact ⟨0, _, Nat.zero_le _, rfl, rfl, hid rfl, by omega, hb⟩
      case round =>
        clear hb hbs
        obtain ⟨k, sb, hk, rfl, rfl, hs, zb, hb⟩ := hrel
        have hbs := hb.size
        have q1 := below_cell k1 hb
        have q2 := below_cell k2 hb
        have ltr : gx < wr.heap.size := by omega
        by_cases hkn : k < n2
        · obtain ⟨y, b, off, Hy, rfl, hbb, l0⟩ := (x2.out.below (hb.mono hB0)).str hkn
          have zy := V.out.2.1 _ (List.mem_of_getElem? Hy.out)
          have HS := txtL_succ (f := rmT) (s := sa) Hy.out
          rw [hs.out] at HS
          unfold rmT at HS
          have hi0 : (0 : Int) ≤ (k : Int) := by omega
          have hi1 : (k : Int) < (n2 : Int) := by omega
          have HSS := hid HS
          have hs1 : (9223372036854775807 < 5 + y.size) = False := by simp; omega
          have hs2 : (9223372036854775807 < 5 + y.size + 1) = False := by simp; omega
          have hs3 : (9223372036854775807 < sb.size + (5 + y.size + 1)) = False := by simp; omega
          have hsz2 : (sb ++ ((⟨#[114, 111, 111, 109, 32]⟩ ++ y) ++ ⟨#[10]⟩)).size ≤ 21 * n1 + 21 * (k + 1) := by
            have e1 : (⟨#[10]⟩ : ByteArray).size = 1 := rfl
            have e4 : (⟨#[114, 111, 111, 109, 32]⟩ : ByteArray).size = 5 := rfl
            simp only [ByteArray.size_append] at *
            omega
          clear HS hs Hy
          have hb7 := hb
          go_wp2_with fail
          clear hs1 hs2 hs3
          go_roundw
          all_goals first
            | exact ⟨k + 1, _, by omega, by go_num, rfl, HSS.out, hsz2, hb7⟩
            | exact ⟨⟨k + 1, _, by omega, by go_num, rfl, HSS.out, hsz2, hb7⟩, by simp [intOf]; omega⟩
            | (simp [intOf]; omega)
        · obtain rfl : n2 = k := by omega
          rw [hs.out] at E
          clear hs
          go_wp2_with fail
          obtain ⟨wq, hwq⟩ : ∃ wq : World, wq = wr := ⟨_, rfl⟩
          subst hwq
          go_loopw [3, 6] (fun vs vi wl => ∃ (k : Nat) (s : ByteArray), k ≤ n3 ∧ vi = .int .i64 k ∧ vs = .string s ∧ Hid (txtL wyT sb x.wy k = s) ∧ s.size ≤ (21 * n1 + 21 * n2) + 80 * k ∧ Below w.heap.size w wl) (fun _ i _ => n3 - (intOf i).toNat)
          case atStart => exact ⟨0, _, Nat.zero_le _, rfl, rfl, hid rfl, by omega, hb⟩
          case round =>
            clear hb hbs
            obtain ⟨k, sc, hk, rfl, rfl, hs, zc, hb⟩ := hrel
            have hbs := hb.size
            have q2 := below_cell k2 hb
            have ltr : gx < wr.heap.size := by omega
            by_cases hkn : k < n3
            · obtain ⟨f, g, m, b, off, Hy, rfl, hbb, l0, l1, l2⟩ := (x3.out.below (hb.mono hB0)).atWay hkn
              obtain ⟨zf, zg, m0, m1⟩ := V.out.2.2 _ (List.mem_of_getElem? Hy.out)
              simp only at zf zg m0 m1
              have HS := txtL_succ (f := wyT) (s := sb) Hy.out
              rw [hs.out] at HS
              unfold wyT at HS
              simp only at HS
              have hi0 : (0 : Int) ≤ (k : Int) := by omega
              have hi1 : (k : Int) < (n3 : Int) := by omega
              have zm := itoaB_size m0 (by omega)
              have cM := fun W => l01Dec_any m W (by omega) (by omega)
              rw [itoaV_eq] at cM
              generalize itoaB m = sm at cM HS zm
              have HSS := hid HS
              have hs1 : (9223372036854775807 < 5 + f.size) = False := by simp; omega
              have hs2 : (9223372036854775807 < 5 + f.size + 1) = False := by simp; omega
              have hs3 : (9223372036854775807 < 5 + f.size + 1 + g.size) = False := by simp; omega
              have hs4 : (9223372036854775807 < 5 + f.size + 1 + g.size + 1) = False := by simp; omega
              have hs5 : (9223372036854775807 < 5 + f.size + 1 + g.size + 1 + sm.size) = False := by simp; omega
              have hs6 : (9223372036854775807 < 5 + f.size + 1 + g.size + 1 + sm.size + 1) = False := by simp; omega
              have hs7 : (9223372036854775807 < sc.size + (5 + f.size + 1 + g.size + 1 + sm.size + 1)) = False := by simp; omega
              have hsz2 : (sc ++ ((((((⟨#[116, 117, 98, 101, 32]⟩ ++ f) ++ ⟨#[32]⟩) ++ g) ++ ⟨#[32]⟩) ++ sm) ++ ⟨#[10]⟩)).size ≤ (21 * n1 + 21 * n2) + 80 * (k + 1) := by
                have e1 : (⟨#[10]⟩ : ByteArray).size = 1 := rfl
                have e4 : (⟨#[116, 117, 98, 101, 32]⟩ : ByteArray).size = 5 := rfl
                have e2 : (⟨#[32]⟩ : ByteArray).size = 1 := rfl
                simp only [ByteArray.size_append] at *
                omega
              clear HS hs Hy
              obtain ⟨w2, hw2⟩ : ∃ w2, w2 = wr.alloc (.cells #[.string f, .string g, .int .i64 m] 62) := ⟨_, rfl⟩
              have hb2 : Below w.heap.size w w2 := by rw [hw2]; exact hb.alloc hbs _
              have p0 : w2.cell? ⟨wr.heap.size, 0, none⟩ = some (.string f) := by rw [hw2]; go_simp
              have p1 : w2.cell? ⟨wr.heap.size, 1, none⟩ = some (.string g) := by rw [hw2]; go_simp
              have p2 : w2.cell? ⟨wr.heap.size, 2, none⟩ = some (.int .i64 m) := by rw [hw2]; go_simp
              have lt2 : wr.heap.size < w2.heap.size := World.block_lt_of_cell? _ _ p0
              have HW2 := hid hw2
              have hcur : Below w2.heap.size w2 w2.drew := (Below.refl _ _).drew
              clear hw2
              go_wp2_with fail
              rw [← HW2.out]
              go_region_held3 (fun W => W.cell? ⟨wr.heap.size, 0, none⟩ = some (.string f) ∧ W.cell? ⟨wr.heap.size, 1, none⟩ = some (.string g) ∧ W.cell? ⟨wr.heap.size, 2, none⟩ = some (.int .i64 m))
                (first
                  | (go_keep; done)
                  | (go_split_ands; exact ⟨below_cell p0 hcur, below_cell p1 hcur, below_cell p2 hcur⟩))
                (first
                  | (go_at_call 53; (with_reducible refine (cM _).mono ?_); rintro r wa ⟨rfl, ba⟩; replace hcur := hcur.trans (ba.mono hcur.size)))
              all_goals have hb7 := hb2.trans (hcur.mono hb2.size)
              all_goals clear hs1 hs2 hs3 hs4 hs5 hs6 hs7 cM
              all_goals (try go_wp2_with fail)
              all_goals go_roundw
              all_goals first
                | exact ⟨k + 1, _, by omega, by go_num, rfl, HSS.out, hsz2, hb7⟩
                | exact ⟨⟨k + 1, _, by omega, by go_num, rfl, HSS.out, hsz2, hb7⟩, by simp [intOf]; omega⟩
                | (simp [intOf]; omega)
            · obtain rfl : n3 = k := by omega
              rw [hs.out] at E
              clear hs
              go_wp2_with fail
              go_ret
              rw [E.out]
              exact ⟨rfl, hb⟩
set_option maxHeartbeats 4000000 in
set_option maxRecDepth 100000 in
theorem specSchemeText_any (s : SV) (x : Sch) (w : World) (B : Nat) (hB : B ≤ w.heap.size) (hn : s.n1 ≤ 2000000 ∧ s.n2 ≤ 2000000 ∧ s.n3 ≤ 2000000) (hx : SlX w B s x) (hz : Hid (BigX x)) :
    Calls Tryz.prog 20 #[s.v] w fun r w' => r = .returned (.string (schemeF x)) ∧ Below w.heap.size w w' := by
  obtain ⟨A1, n1, c1, A2, n2, c2, A3, n3, c3⟩ := s
  simp only [SV.v] at hn ⊢
  obtain ⟨W0, hW0⟩ : ∃ W0, W0 = w.alloc (.cells #[.slice A1 n1 c1, .slice A2 n2 c2, .slice A3 n3 c3] 25) := ⟨_, rfl⟩
  have b0 : Below w.heap.size w W0 := by rw [hW0]; exact (Below.refl _ _).alloc (Nat.le_refl _) _
  have k0 : W0.cell? ⟨w.heap.size, 0, none⟩ = some (.slice A1 n1 c1) := by rw [hW0]; go_simp
  have k1 : W0.cell? ⟨w.heap.size, 1, none⟩ = some (.slice A2 n2 c2) := by rw [hW0]; go_simp
  have k2 : W0.cell? ⟨w.heap.size, 2, none⟩ = some (.slice A3 n3 c3) := by rw [hW0]; go_simp
  have hx0 := hx.below (b0.mono hB)
  have hc := l21Ok_any w.heap.size ⟨A1, n1, c1, A2, n2, c2, A3, n3, c3⟩ x W0 B (Nat.le_trans hB b0.size) hn hx0 hz k0 k1 k2
  have HW := hid hW0
  clear hW0 hx hz
  cases hv : validX x with
  | false =>
    have E : Hid (schemeF x = ⟨#[]⟩) := by simp [Hid, schemeF, hv]
    rw [hv] at hc
    clear hv hx0
    go_enter Tryz.func20, Tryz.ntmps20
    go_wp2_with fail
    rw [← HW.out]
    refine hc.mono ?_
    rintro r w1 ⟨rfl, b1⟩
    clear hc
    go_wp2_with fail
    go_ret
    rw [E.out]
    exact ⟨rfl, b0.trans (b1.mono b0.size)⟩
  | true =>
    have E : Hid (schemeF x = schT x) := by simp only [Hid, schemeF, hv, if_true]
    have V : Hid (ShortX x) := validX_short hv
    have hT := fun W (hb : Below W0.heap.size W0 W) => l21Text_any w.heap.size ⟨A1, n1, c1, A2, n2, c2, A3, n3, c3⟩ x W B (Nat.le_trans (Nat.le_trans hB b0.size) hb.size) hn (hx0.below (hb.mono (Nat.le_trans hB b0.size))) V (below_cell k0 hb) (below_cell k1 hb) (below_cell k2 hb)
    rw [hv] at hc
    clear hv hx0 V
    go_enter Tryz.func20, Tryz.ntmps20
    go_wp2_with fail
    rw [← HW.out]
    refine hc.mono ?_
    rintro r w1 ⟨rfl, b1⟩
    clear hc
    have lt1 : w.heap.size < w1.heap.size := World.block_lt_of_cell? _ _ (below_cell k0 b1)
    have cc := b0.trans (b1.mono b0.size)
    go_wp2_with fail
    refine (hT _ b1).mono ?_
    rintro r w2 ⟨rfl, b2⟩
    clear hT
    go_wp2_with fail
    go_ret
    rw [E.out]
    exact ⟨rfl, cc.trans (b2.mono cc.size)⟩
end Go.Proofs.YtcgkcfmiabninaaGreatDoor
