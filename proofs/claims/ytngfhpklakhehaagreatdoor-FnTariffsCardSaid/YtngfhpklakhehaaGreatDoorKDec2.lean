/-
  Decimal numerals: the reference's. No condition.
-/
import Derived.Test.YtngfhpklakhehaaGreatDoorKDec
import Derived.Test.YtngfhpklakhehaaGreatDoorInt
import Derived.Test.YtngfhpklakhehaaGreatDoorBasic
import Derived.Laws.IdiomStrings
namespace Go.Proofs.YtngfhpklakhehaaGreatDoor
open Go.RowKit
set_option maxHeartbeats 400000

theorem u8_info : (Tryz.prog.info? 5).map (fun i => (i.zero, i.size, i.bytes)) = some (some (.int .u8 0), 1, 1) := by kernel_rfl
theorem one_encU (xs : List UInt8) : ∀ u ∈ xs.flatMap encU, u.oneCell' = true := by
  intro u hu
  obtain ⟨x, _, hx⟩ := List.mem_flatMap.1 hu
  simp [encU] at hx
  subst hx
  rfl
theorem news_of_u {w : World} {B b off n : Nat} {xs : List UInt8} (hx : Sl w B 1 encU (some ⟨b, off, none⟩) n xs) : ∀ (j : Nat) (u : Value), (xs.flatMap encU)[j]? = some u → w.cell? ((⟨b, off, none⟩ : Addr).add j) = some u := by
  intro j u hj
  rw [Addr.add_lit]
  have hjl : j < xs.length := by have := (List.getElem?_eq_some_iff.1 hj).1; rwa [flatMap_len encU_len, Nat.mul_one] at this
  obtain ⟨b', off', e, _, hc⟩ := hx.2 j xs[j] (List.getElem?_eq_getElem hjl)
  injection e with e
  injection e with e1 e2
  subst e1 e2
  have := hc 0 (.int .u8 xs[j].toNat) rfl
  rw [Nat.mul_one, Nat.add_zero] at this
  rw [this]
  rw [encU_cells] at hj
  simp [Lib.byteCells, hjl] at hj
  rw [hj]
/-- the numbers of one round -/
theorem dec_nums {x : Int} {d : Int} (hd : d = if x.tmod 10 < 0 then -(x.tmod 10) else x.tmod 10) : d = ((x.natAbs % 10 : Nat) : Int) ∧ 0 ≤ d ∧ d ≤ 9 := by
  have h1 : (x.tmod 10).natAbs = x.natAbs % 10 := Int.natAbs_tmod x 10
  have h2 : d = ((x.tmod 10).natAbs : Int) := by split at hd <;> omega
  rw [h2, h1]
  omega
set_option maxHeartbeats 4000000 in
set_option maxRecDepth 100000 in
theorem l01Dec_any (n : Int) (w : World) (h0 : -9223372036854775808 ≤ n) (h1 : n ≤ 9223372036854775807) :
    Calls Tryz.prog 65 #[.int .i64 n] w fun e w' => e = .returned (itoaV n) ∧ Below w.heap.size w w' := by
  obtain ⟨i0, hi, hz0, hz1, hz2⟩ := info_parts u8_info
  have hlen := dgs_len h0 h1
  go_enter Tryz.func65, Tryz.ntmps65
  go_wp2_with fail
  go_loopw [3, 4] (fun vo vx wl => ∃ (A : Option Addr) (c : Nat) (l : List UInt8) (x : Int), vo = .slice A l.length c ∧ vx = .int .i64 x ∧ wl.ownsRow w.heap.size 5 1 (.slice A l.length c) l.length (l.flatMap encU) ∧ Hid (dgs x.natAbs ++ l = dgs n.natAbs) ∧ -9223372036854775808 ≤ x ∧ x ≤ 9223372036854775807 ∧ Below w.heap.size w wl) (fun _ x _ => (intOf x).natAbs)
  case atStart =>
    refine ⟨_, _, [], n, rfl, rfl, ?_, hid (by simp), h0, h1, ?_⟩
    · exact World.ownsRow_lit (base := w.heap.size) (e := 5) (size := 1) w #[] 0 (Nat.le_refl _) (by simp [maxLen]) (by simp)
    · exact (Below.refl _ _).alloc (Nat.le_refl _) _
  case round =>
    obtain ⟨A, c, l, x, rfl, rfl, ho, hD, x0, x1, hb⟩ := hrel
    have hbs := hb.size
    by_cases hx : x = 0
    · subst hx
      have e : l = dgs n.natAbs := by have := hD.out; simpa [dgs] using this
      by_cases hn0 : n = 0
      · subst hn0
        obtain rfl : l = [] := e
        clear hD
        go_wp2_with fail
        go_ret
        refine ⟨?_, hb⟩
        have h48 : Lib.itoa 0 = [48] := by unfold Lib.itoa; rw [if_neg (by omega)]; exact Lib.decDigits_one (by omega)
        unfold itoaV
        rw [h48]
        rfl
      · have hi2 := itoa_dgs hn0
        rw [← e] at hi2
        have hl21 : l.length ≤ 21 := by rw [e]; exact hlen
        have hpos : 0 < l.length := by
          rw [e]; unfold dgs; rw [if_neg (show ¬ n.natAbs = 0 by omega), Lib.decDigits_length]; exact Lib.nDigits_pos _
        rcases ho.2 with ⟨_, h0'⟩ | ⟨g, cap, cur, hA, _⟩
        · exfalso; omega
        · simp only [Value.slice.injEq] at hA
          obtain ⟨rfl, _, rfl⟩ := hA
          have hcv := run_convert_bytes_back (P := Tryz.prog) wr 22 9 5 ⟨g, 0, none⟩ c l Tryz.underlying22 Tryz.underlying5 Tryz.underlying9 (fun j hj => ho.cells (g := g) rfl j _ (by rw [encU_cells]; simp [Lib.byteCells, hj]))
          have hlb : ((l.length : Int) == 0) = false := by rw [beq_eq_false_iff_ne]; omega
          have HI2 := hid hi2
          clear hD e hi2
          by_cases hn : n < 0
          · have HN := hid hn
            go_wp2_with fail
            go_ret
            rw [if_pos HN.out] at HI2
            refine ⟨?_, hb⟩
            unfold itoaV
            rw [HI2.out]
            show Ending.returned (.string (⟨#[45]⟩ ++ ⟨l.toArray⟩)) = _
            have hba : (⟨#[45]⟩ ++ ⟨l.toArray⟩ : ByteArray) = ⟨(45 :: l).toArray⟩ := by
              apply ByteArray.ext
              rw [ByteArray.data_append]
              apply Array.ext'
              simp
            rw [hba]
          · have HN := hid hn
            go_wp2_with fail
            go_ret
            have hn3 : ¬ n < 0 := by have := HN.out; omega
            rw [if_neg hn3] at HI2
            refine ⟨?_, hb⟩
            unfold itoaV
            rw [HI2.out]
            rfl
    · have hxb : (x == 0) = false := by rw [beq_eq_false_iff_ne]; exact hx
      obtain ⟨d, hd⟩ : ∃ d, d = if x.tmod 10 < 0 then -(x.tmod 10) else x.tmod 10 := ⟨_, rfl⟩
      obtain ⟨d1, d2, d3⟩ := dec_nums hd
      by_cases hneg : x.tmod 10 < 0
      · rw [if_pos hneg] at hd
        have hv : (48 + -x.tmod 10 : Int) = ((UInt8.ofNat (48 + x.natAbs % 10)).toNat : Int) := by
          rw [← hd, d1, UInt8.toNat_ofNat']
          have : x.natAbs % 10 < 10 := Nat.mod_lt _ (by omega)
          generalize x.natAbs % 10 = k10 at this ⊢
          rw [show (48 + k10) % 2 ^ 8 = 48 + k10 from Nat.mod_eq_of_lt (by omega)]
          omega
        have hst : dgs x.natAbs = dgs (x.natAbs / 10) ++ [UInt8.ofNat (48 + x.natAbs % 10)] := dgs_step (by omega)
        have hq : (x.tdiv 10).natAbs = x.natAbs / 10 := Int.natAbs_tdiv x 10
        obtain ⟨b0, hb0⟩ : ∃ b0, b0 = UInt8.ofNat (48 + x.natAbs % 10) := ⟨_, rfl⟩
        rw [← hb0] at hv hst
        have HD2 : Hid (dgs (x.tdiv 10).natAbs ++ (b0 :: l) = dgs n.natAbs) := by rw [Hid, hq, ← hD.out, hst]; simp
        have hll : l.length ≤ 20 := by have := congrArg List.length hD.out; rw [hst] at this; simp at this; omega
        have hq1 : -9223372036854775808 ≤ x.tdiv 10 := by omega
        have hq2 : x.tdiv 10 ≤ 9223372036854775807 := by omega
        have hqm : (x.tdiv 10).natAbs < x.natAbs := by omega
        have o0 := World.ownsRow_lit (base := w.heap.size) (e := 5) (size := 1) wr #[.int .u8 (48 + -x.tmod 10)] 1 hbs (by simp [maxLen]) (by simp)
        have hr1 : 0 ≤ -x.tmod 10 := by omega
        have hr2 : -x.tmod 10 ≤ 9 := by omega
        have HV := hid hv
        clear hst hb0 hd d1 hD hv hq
        have hx2 := own_sl encU_len (by omega) ho
        rcases Nat.eq_zero_or_pos l.length with hl0 | hl0
        · obtain rfl := List.eq_nil_of_length_eq_zero hl0
          have F1 : ∀ W : World, (pure #[] : Sem (Array Value)).run Tryz.prog W = .ok #[] W := fun _ => rfl
          have F2 : ∀ (q : Addr) (W : World), (storeCells q []).run Tryz.prog W = .ok () W := fun _ _ => rfl
          have hb3 : Below w.heap.size w (wr.alloc (.cells #[.int .u8 (48 + -x.tmod 10)] 5)) := hb.alloc hbs _
          have o1 : (wr.alloc (.cells #[.int .u8 (48 + -x.tmod 10)] 5)).ownsRow w.heap.size 5 1 (.slice (some ⟨wr.heap.size, 0, none⟩) [b0].length 1) [b0].length ([b0].flatMap encU) := by
            have := o0
            rw [HV.out] at this ⊢
            exact this
          have O1 := hid o1
          clear hx2 o0 o1
          rcases ho.2 with ⟨hA, _⟩ | ⟨g, cap, cur, hA, _⟩
          · simp only [Value.slice.injEq] at hA
            obtain ⟨rfl, _, rfl⟩ := hA
            clear ho hll hl0
            go_wp2_with fail
            go_roundw
            all_goals first | exact ⟨some ⟨wr.heap.size, 0, none⟩, 1, [b0], x.tdiv 10, by go_num, rfl, O1.out, HD2, hq1, hq2, hb3⟩ | exact ⟨⟨some ⟨wr.heap.size, 0, none⟩, 1, [b0], x.tdiv 10, by go_num, rfl, O1.out, HD2, hq1, hq2, hb3⟩, hqm⟩ | exact hqm
          · simp only [Value.slice.injEq] at hA
            obtain ⟨rfl, _, rfl⟩ := hA
            clear ho hll hl0
            go_wp2_with fail
            go_roundw
            all_goals first | exact ⟨some ⟨wr.heap.size, 0, none⟩, 1, [b0], x.tdiv 10, by go_num, rfl, O1.out, HD2, hq1, hq2, hb3⟩ | exact ⟨⟨some ⟨wr.heap.size, 0, none⟩, 1, [b0], x.tdiv 10, by go_num, rfl, O1.out, HD2, hq1, hq2, hb3⟩, hqm⟩ | exact hqm
        · rcases ho.2 with ⟨_, h0'⟩ | ⟨g, cap, cur, hA, _⟩
          · exfalso; omega
          · simp only [Value.slice.injEq] at hA
            obtain ⟨rfl, _, rfl⟩ := hA
            have hnew := news_of_u (hx2.alloc (Nat.le_refl _) (.cells #[.int .u8 (48 + -x.tmod 10)] 5))
            have hlen2 : (l.flatMap encU).length = l.length * 1 := by rw [flatMap_len encU_len]
            go_wp2_with (at_builtin; refine wpList_append_lies _ rfl _ _ 22 rfl w.heap.size 5 i0 (.int .u8 0) 1 1 Tryz.underlying22 hi hz0 hz1 hz2 rfl (by omega) (.slice (some ⟨wr.heap.size, 0, none⟩) 1 1) 1 [.int .u8 (48 + -x.tmod 10)] rfl o0 ⟨g, 0, none⟩ l.length c (l.flatMap encU) rfl hlen2 hnew (one_encU l) (by omega) (by simp only [maxLen]; omega) (by omega) (by simp; omega) (wr.heap.size + 1) (by simp) ?_; intro gg cap w3 ho3 hg3 hat3 hlt3)
            have hb3 : Below w.heap.size w w3 := (hb.alloc hbs _).grown hg3 (by simp; omega) (fun q hq => by simp [Value.ownBlock] at hq; omega)
            have e3 : [Value.int .u8 (48 + -x.tmod 10)] ++ l.flatMap encU = (b0 :: l).flatMap encU := by rw [HV.out]; rfl
            have l3 : 1 + l.length = (b0 :: l).length := by rw [List.length_cons]; omega
            rw [e3, l3] at ho3
            have HO3 := hid ho3
            clear ho3 ho hnew hlen2 o0 hx2 e3 l3
            go_wp2_with fail
            go_roundw
            all_goals first | exact ⟨some ⟨gg, 0, none⟩, cap, b0 :: l, x.tdiv 10, by go_num, rfl, HO3.out, HD2, hq1, hq2, hb3⟩ | exact ⟨⟨some ⟨gg, 0, none⟩, cap, b0 :: l, x.tdiv 10, by go_num, rfl, HO3.out, HD2, hq1, hq2, hb3⟩, hqm⟩ | exact hqm
      · rw [if_neg hneg] at hd
        have hv : (48 + x.tmod 10 : Int) = ((UInt8.ofNat (48 + x.natAbs % 10)).toNat : Int) := by
          rw [← hd, d1, UInt8.toNat_ofNat']
          have : x.natAbs % 10 < 10 := Nat.mod_lt _ (by omega)
          generalize x.natAbs % 10 = k10 at this ⊢
          rw [show (48 + k10) % 2 ^ 8 = 48 + k10 from Nat.mod_eq_of_lt (by omega)]
          omega
        have hst : dgs x.natAbs = dgs (x.natAbs / 10) ++ [UInt8.ofNat (48 + x.natAbs % 10)] := dgs_step (by omega)
        have hq : (x.tdiv 10).natAbs = x.natAbs / 10 := Int.natAbs_tdiv x 10
        obtain ⟨b0, hb0⟩ : ∃ b0, b0 = UInt8.ofNat (48 + x.natAbs % 10) := ⟨_, rfl⟩
        rw [← hb0] at hv hst
        have HD2 : Hid (dgs (x.tdiv 10).natAbs ++ (b0 :: l) = dgs n.natAbs) := by rw [Hid, hq, ← hD.out, hst]; simp
        have hll : l.length ≤ 20 := by have := congrArg List.length hD.out; rw [hst] at this; simp at this; omega
        have hq1 : -9223372036854775808 ≤ x.tdiv 10 := by omega
        have hq2 : x.tdiv 10 ≤ 9223372036854775807 := by omega
        have hqm : (x.tdiv 10).natAbs < x.natAbs := by omega
        have o0 := World.ownsRow_lit (base := w.heap.size) (e := 5) (size := 1) wr #[.int .u8 (48 + x.tmod 10)] 1 hbs (by simp [maxLen]) (by simp)
        have hr1 : 0 ≤ x.tmod 10 := by omega
        have hr2 : x.tmod 10 ≤ 9 := by omega
        have HV := hid hv
        clear hst hb0 hd d1 hD hv hq
        have hx2 := own_sl encU_len (by omega) ho
        rcases Nat.eq_zero_or_pos l.length with hl0 | hl0
        · obtain rfl := List.eq_nil_of_length_eq_zero hl0
          have F1 : ∀ W : World, (pure #[] : Sem (Array Value)).run Tryz.prog W = .ok #[] W := fun _ => rfl
          have F2 : ∀ (q : Addr) (W : World), (storeCells q []).run Tryz.prog W = .ok () W := fun _ _ => rfl
          have hb3 : Below w.heap.size w (wr.alloc (.cells #[.int .u8 (48 + x.tmod 10)] 5)) := hb.alloc hbs _
          have o1 : (wr.alloc (.cells #[.int .u8 (48 + x.tmod 10)] 5)).ownsRow w.heap.size 5 1 (.slice (some ⟨wr.heap.size, 0, none⟩) [b0].length 1) [b0].length ([b0].flatMap encU) := by
            have := o0
            rw [HV.out] at this ⊢
            exact this
          have O1 := hid o1
          clear hx2 o0 o1
          rcases ho.2 with ⟨hA, _⟩ | ⟨g, cap, cur, hA, _⟩
          · simp only [Value.slice.injEq] at hA
            obtain ⟨rfl, _, rfl⟩ := hA
            clear ho hll hl0
            go_wp2_with fail
            go_roundw
            all_goals first | exact ⟨some ⟨wr.heap.size, 0, none⟩, 1, [b0], x.tdiv 10, by go_num, rfl, O1.out, HD2, hq1, hq2, hb3⟩ | exact ⟨⟨some ⟨wr.heap.size, 0, none⟩, 1, [b0], x.tdiv 10, by go_num, rfl, O1.out, HD2, hq1, hq2, hb3⟩, hqm⟩ | exact hqm
          · simp only [Value.slice.injEq] at hA
            obtain ⟨rfl, _, rfl⟩ := hA
            clear ho hll hl0
            go_wp2_with fail
            go_roundw
            all_goals first | exact ⟨some ⟨wr.heap.size, 0, none⟩, 1, [b0], x.tdiv 10, by go_num, rfl, O1.out, HD2, hq1, hq2, hb3⟩ | exact ⟨⟨some ⟨wr.heap.size, 0, none⟩, 1, [b0], x.tdiv 10, by go_num, rfl, O1.out, HD2, hq1, hq2, hb3⟩, hqm⟩ | exact hqm
        · rcases ho.2 with ⟨_, h0'⟩ | ⟨g, cap, cur, hA, _⟩
          · exfalso; omega
          · simp only [Value.slice.injEq] at hA
            obtain ⟨rfl, _, rfl⟩ := hA
            have hnew := news_of_u (hx2.alloc (Nat.le_refl _) (.cells #[.int .u8 (48 + x.tmod 10)] 5))
            have hlen2 : (l.flatMap encU).length = l.length * 1 := by rw [flatMap_len encU_len]
            go_wp2_with (at_builtin; refine wpList_append_lies _ rfl _ _ 22 rfl w.heap.size 5 i0 (.int .u8 0) 1 1 Tryz.underlying22 hi hz0 hz1 hz2 rfl (by omega) (.slice (some ⟨wr.heap.size, 0, none⟩) 1 1) 1 [.int .u8 (48 + x.tmod 10)] rfl o0 ⟨g, 0, none⟩ l.length c (l.flatMap encU) rfl hlen2 hnew (one_encU l) (by omega) (by simp only [maxLen]; omega) (by omega) (by simp; omega) (wr.heap.size + 1) (by simp) ?_; intro gg cap w3 ho3 hg3 hat3 hlt3)
            have hb3 : Below w.heap.size w w3 := (hb.alloc hbs _).grown hg3 (by simp; omega) (fun q hq => by simp [Value.ownBlock] at hq; omega)
            have e3 : [Value.int .u8 (48 + x.tmod 10)] ++ l.flatMap encU = (b0 :: l).flatMap encU := by rw [HV.out]; rfl
            have l3 : 1 + l.length = (b0 :: l).length := by rw [List.length_cons]; omega
            rw [e3, l3] at ho3
            have HO3 := hid ho3
            clear ho3 ho hnew hlen2 o0 hx2 e3 l3
            go_wp2_with fail
            go_roundw
            all_goals first | exact ⟨some ⟨gg, 0, none⟩, cap, b0 :: l, x.tdiv 10, by go_num, rfl, HO3.out, HD2, hq1, hq2, hb3⟩ | exact ⟨⟨some ⟨gg, 0, none⟩, cap, b0 :: l, x.tdiv 10, by go_num, rfl, HO3.out, HD2, hq1, hq2, hb3⟩, hqm⟩ | exact hqm
end Go.Proofs.YtngfhpklakhehaaGreatDoor
