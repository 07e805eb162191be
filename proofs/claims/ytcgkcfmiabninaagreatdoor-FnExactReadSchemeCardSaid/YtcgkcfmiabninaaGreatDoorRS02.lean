/-
  RS: texts KDec2, RNumP, Open, Str, After, Mark, one behind the other. No condition but what each says.
-/
import Derived.Test.YtcgkcfmiabninaaGreatDoorRS01
import Derived.Laws.IdiomStrings
import Derived.Lib.ParseIntB
import Derived.Lib.Atoi
import Derived.Lib.ItoaNum
import Derived.Lib.SplitLaws
import Derived.ProofKit
import Derived.SizedLaws
import Derived.OpenShut
import Derived.JoinedCond
import Derived.Deep.Slices
import Derived.Deep.Fields
import Derived.ChangeSame
import Derived.Deep.Strs
/-
  Decimal numerals: the reference's. No condition.
-/
namespace Go.Proofs.YtcgkcfmiabninaaGreatDoor
open Go.RowKit
set_option maxHeartbeats 400000

theorem u8_info : (Tryz.prog.info? 5).map (fun i => (i.zero, i.size, i.bytes)) = some (some (.int .u8 0), 1, 1) := by kernel_rfl
theorem one_encU (xs : List UInt8) : ∀ u ∈ xs.flatMap encU, u.oneCell' = true := by
  intro u hu
  obtain ⟨x, _, hx⟩ := List.mem_flatMap.1 hu
  simp [encU] at hx
  subst hx
  rfl
theorem news_of_u {w : World} {B b off n : Nat} {xs : List UInt8} (hx : Sl w B 1 encU (some ⟨b, off, none⟩) n xs) : ∀ (j : Nat) (u : Value), (xs.flatMap encU)[j]? = some u → w.cell? ((⟨b, off, none⟩ : Addr).add j) = some u := by
  intro j u hj
  rw [Addr.add_lit]
  have hjl : j < xs.length := by have := (List.getElem?_eq_some_iff.1 hj).1; rwa [flatMap_len encU_len, Nat.mul_one] at this
  obtain ⟨b', off', e, _, hc⟩ := hx.2 j xs[j] (List.getElem?_eq_getElem hjl)
  injection e with e
  injection e with e1 e2
  subst e1 e2
  have := hc 0 (.int .u8 xs[j].toNat) rfl
  rw [Nat.mul_one, Nat.add_zero] at this
  rw [this]
  rw [encU_cells] at hj
  simp [Lib.byteCells, hjl] at hj
  rw [hj]
/-- the numbers of one round -/
theorem dec_nums {x : Int} {d : Int} (hd : d = if x.tmod 10 < 0 then -(x.tmod 10) else x.tmod 10) : d = ((x.natAbs % 10 : Nat) : Int) ∧ 0 ≤ d ∧ d ≤ 9 := by
  have h1 : (x.tmod 10).natAbs = x.natAbs % 10 := Int.natAbs_tmod x 10
  have h2 : d = ((x.tmod 10).natAbs : Int) := by split at hd <;> omega
  rw [h2, h1]
  omega
set_option maxHeartbeats 4000000 in
set_option maxRecDepth 100000 in
theorem l01Dec_any (n : Int) (w : World) (h0 : -9223372036854775808 ≤ n) (h1 : n ≤ 9223372036854775807) :
    Calls Tryz.prog 53 #[.int .i64 n] w fun e w' => e = .returned (itoaV n) ∧ Below w.heap.size w w' := by
  obtain ⟨i0, hi, hz0, hz1, hz2⟩ := info_parts u8_info
  have hlen := dgs_len h0 h1
  go_enter Tryz.func53, Tryz.ntmps53
  go_wp2_with fail
  go_loopw [3, 4] (fun vo vx wl => ∃ (A : Option Addr) (c : Nat) (l : List UInt8) (x : Int), vo = .slice A l.length c ∧ vx = .int .i64 x ∧ wl.ownsRow w.heap.size 5 1 (.slice A l.length c) l.length (l.flatMap encU) ∧ Hid (dgs x.natAbs ++ l = dgs n.natAbs) ∧ -9223372036854775808 ≤ x ∧ x ≤ 9223372036854775807 ∧ Below w.heap.size w wl) (fun _ x _ => (intOf x).natAbs)
  case atStart =>
    refine ⟨_, _, [], n, rfl, rfl, ?_, hid (by simp), h0, h1, ?_⟩
    · exact World.ownsRow_lit (base := w.heap.size) (e := 5) (size := 1) w #[] 0 (Nat.le_refl _) (by simp [maxLen]) (by simp)
    · exact (Below.refl _ _).alloc (Nat.le_refl _) _
  case round =>
    obtain ⟨A, c, l, x, rfl, rfl, ho, hD, x0, x1, hb⟩ := hrel
    have hbs := hb.size
    by_cases hx : x = 0
    · subst hx
      have e : l = dgs n.natAbs := by have := hD.out; simpa [dgs] using this
      by_cases hn0 : n = 0
      · subst hn0
        obtain rfl : l = [] := e
        clear hD
        go_wp2_with fail
        go_ret
        refine ⟨?_, hb⟩
        have h48 : Lib.itoa 0 = [48] := by unfold Lib.itoa; rw [if_neg (by omega)]; exact Lib.decDigits_one (by omega)
        unfold itoaV
        rw [h48]
        rfl
      · have hi2 := itoa_dgs hn0
        rw [← e] at hi2
        have hl21 : l.length ≤ 21 := by rw [e]; exact hlen
        have hpos : 0 < l.length := by
          rw [e]; unfold dgs; rw [if_neg (show ¬ n.natAbs = 0 by omega), Lib.decDigits_length]; exact Lib.nDigits_pos _
        rcases ho.2 with ⟨_, h0'⟩ | ⟨g, cap, cur, hA, _⟩
        · exfalso; omega
        · simp only [Value.slice.injEq] at hA
          obtain ⟨rfl, _, rfl⟩ := hA
          have hcv := run_convert_bytes_back (P := Tryz.prog) wr 34 9 5 ⟨g, 0, none⟩ c l Tryz.underlying34 Tryz.underlying5 Tryz.underlying9 (fun j hj => ho.cells (g := g) rfl j _ (by rw [encU_cells]; simp [Lib.byteCells, hj]))
          have hlb : ((l.length : Int) == 0) = false := by rw [beq_eq_false_iff_ne]; omega
          have HI2 := hid hi2
          clear hD e hi2
          by_cases hn : n < 0
          · have HN := hid hn
            go_wp2_with fail
            go_ret
            rw [if_pos HN.out] at HI2
            refine ⟨?_, hb⟩
            unfold itoaV
            rw [HI2.out]
            show Ending.returned (.string (⟨#[45]⟩ ++ ⟨l.toArray⟩)) = _
            have hba : (⟨#[45]⟩ ++ ⟨l.toArray⟩ : ByteArray) = ⟨(45 :: l).toArray⟩ := by
              apply ByteArray.ext
              rw [ByteArray.data_append]
              apply Array.ext'
              simp
            rw [hba]
          · have HN := hid hn
            go_wp2_with fail
            go_ret
            have hn3 : ¬ n < 0 := by have := HN.out; omega
            rw [if_neg hn3] at HI2
            refine ⟨?_, hb⟩
            unfold itoaV
            rw [HI2.out]
            rfl
    · have hxb : (x == 0) = false := by rw [beq_eq_false_iff_ne]; exact hx
      obtain ⟨d, hd⟩ : ∃ d, d = if x.tmod 10 < 0 then -(x.tmod 10) else x.tmod 10 := ⟨_, rfl⟩
      obtain ⟨d1, d2, d3⟩ := dec_nums hd
      by_cases hneg : x.tmod 10 < 0
      · rw [if_pos hneg] at hd
        have hv : (48 + -x.tmod 10 : Int) = ((UInt8.ofNat (48 + x.natAbs % 10)).toNat : Int) := by
          rw [← hd, d1, UInt8.toNat_ofNat']
          have : x.natAbs % 10 < 10 := Nat.mod_lt _ (by omega)
          generalize x.natAbs % 10 = k10 at this ⊢
          rw [show (48 + k10) % 2 ^ 8 = 48 + k10 from Nat.mod_eq_of_lt (by omega)]
          omega
        have hst : dgs x.natAbs = dgs (x.natAbs / 10) ++ [UInt8.ofNat (48 + x.natAbs % 10)] := dgs_step (by omega)
        have hq : (x.tdiv 10).natAbs = x.natAbs / 10 := Int.natAbs_tdiv x 10
        obtain ⟨b0, hb0⟩ : ∃ b0, b0 = UInt8.ofNat (48 + x.natAbs % 10) := ⟨_, rfl⟩
        rw [← hb0] at hv hst
        have HD2 : Hid (dgs (x.tdiv 10).natAbs ++ (b0 :: l) = dgs n.natAbs) := by rw [Hid, hq, ← hD.out, hst]; simp
        have hll : l.length ≤ 20 := by have := congrArg List.length hD.out; rw [hst] at this; simp at this; omega
        have hq1 : -9223372036854775808 ≤ x.tdiv 10 := by omega
        have hq2 : x.tdiv 10 ≤ 9223372036854775807 := by omega
        have hqm : (x.tdiv 10).natAbs < x.natAbs := by omega
        have o0 := World.ownsRow_lit (base := w.heap.size) (e := 5) (size := 1) wr #[.int .u8 (48 + -x.tmod 10)] 1 hbs (by simp [maxLen]) (by simp)
        have hr1 : 0 ≤ -x.tmod 10 := by omega
        have hr2 : -x.tmod 10 ≤ 9 := by omega
        have HV := hid hv
        clear hst hb0 hd d1 hD hv hq
        have hx2 := own_sl encU_len (by omega) ho
        rcases Nat.eq_zero_or_pos l.length with hl0 | hl0
        · obtain rfl := List.eq_nil_of_length_eq_zero hl0
          have F1 : ∀ W : World, (pure #[] : Sem (Array Value)).run Tryz.prog W = .ok #[] W := fun _ => rfl
          have F2 : ∀ (q : Addr) (W : World), (storeCells q []).run Tryz.prog W = .ok () W := fun _ _ => rfl
          have hb3 : Below w.heap.size w (wr.alloc (.cells #[.int .u8 (48 + -x.tmod 10)] 5)) := hb.alloc hbs _
          have o1 : (wr.alloc (.cells #[.int .u8 (48 + -x.tmod 10)] 5)).ownsRow w.heap.size 5 1 (.slice (some ⟨wr.heap.size, 0, none⟩) [b0].length 1) [b0].length ([b0].flatMap encU) := by
            have := o0
            rw [HV.out] at this ⊢
            exact this
          have O1 := hid o1
          clear hx2 o0 o1
          rcases ho.2 with ⟨hA, _⟩ | ⟨g, cap, cur, hA, _⟩
          · simp only [Value.slice.injEq] at hA
            obtain ⟨rfl, _, rfl⟩ := hA
            clear ho hll hl0
            go_wp2_with fail
            go_roundw
            all_goals first | exact ⟨some ⟨wr.heap.size, 0, none⟩, 1, [b0], x.tdiv 10, by go_num, rfl, O1.out, HD2, hq1, hq2, hb3⟩ | exact ⟨⟨some ⟨wr.heap.size, 0, none⟩, 1, [b0], x.tdiv 10, by go_num, rfl, O1.out, HD2, hq1, hq2, hb3⟩, hqm⟩ | exact hqm
          · simp only [Value.slice.injEq] at hA
            obtain ⟨rfl, _, rfl⟩ := hA
            clear ho hll hl0
            go_wp2_with fail
            go_roundw
            all_goals first | exact ⟨some ⟨wr.heap.size, 0, none⟩, 1, [b0], x.tdiv 10, by go_num, rfl, O1.out, HD2, hq1, hq2, hb3⟩ | exact ⟨⟨some ⟨wr.heap.size, 0, none⟩, 1, [b0], x.tdiv 10, by go_num, rfl, O1.out, HD2, hq1, hq2, hb3⟩, hqm⟩ | exact hqm
        · rcases ho.2 with ⟨_, h0'⟩ | ⟨g, cap, cur, hA, _⟩
          · exfalso; omega
          · simp only [Value.slice.injEq] at hA
            obtain ⟨rfl, _, rfl⟩ := hA
            have hnew := news_of_u (hx2.alloc (Nat.le_refl _) (.cells #[.int .u8 (48 + -x.tmod 10)] 5))
            have hlen2 : (l.flatMap encU).length = l.length * 1 := by rw [flatMap_len encU_len]
            go_wp2_with (at_builtin; refine wpList_append_lies _ rfl _ _ 34 rfl w.heap.size 5 i0 (.int .u8 0) 1 1 Tryz.underlying34 hi hz0 hz1 hz2 rfl (by omega) (.slice (some ⟨wr.heap.size, 0, none⟩) 1 1) 1 [.int .u8 (48 + -x.tmod 10)] rfl o0 ⟨g, 0, none⟩ l.length c (l.flatMap encU) rfl hlen2 hnew (one_encU l) (by omega) (by simp only [maxLen]; omega) (by omega) (by simp; omega) (wr.heap.size + 1) (by simp) ?_; intro gg cap w3 ho3 hg3 hat3 hlt3)
            have hb3 : Below w.heap.size w w3 := (hb.alloc hbs _).grown hg3 (by simp; omega) (fun q hq => by simp [Value.ownBlock] at hq; omega)
            have e3 : [Value.int .u8 (48 + -x.tmod 10)] ++ l.flatMap encU = (b0 :: l).flatMap encU := by rw [HV.out]; rfl
            have l3 : 1 + l.length = (b0 :: l).length := by rw [List.length_cons]; omega
            rw [e3, l3] at ho3
            have HO3 := hid ho3
            clear ho3 ho hnew hlen2 o0 hx2 e3 l3
            go_wp2_with fail
            go_roundw
            all_goals first | exact ⟨some ⟨gg, 0, none⟩, cap, b0 :: l, x.tdiv 10, by go_num, rfl, HO3.out, HD2, hq1, hq2, hb3⟩ | exact ⟨⟨some ⟨gg, 0, none⟩, cap, b0 :: l, x.tdiv 10, by go_num, rfl, HO3.out, HD2, hq1, hq2, hb3⟩, hqm⟩ | exact hqm
      · rw [if_neg hneg] at hd
        have hv : (48 + x.tmod 10 : Int) = ((UInt8.ofNat (48 + x.natAbs % 10)).toNat : Int) := by
          rw [← hd, d1, UInt8.toNat_ofNat']
          have : x.natAbs % 10 < 10 := Nat.mod_lt _ (by omega)
          generalize x.natAbs % 10 = k10 at this ⊢
          rw [show (48 + k10) % 2 ^ 8 = 48 + k10 from Nat.mod_eq_of_lt (by omega)]
          omega
        have hst : dgs x.natAbs = dgs (x.natAbs / 10) ++ [UInt8.ofNat (48 + x.natAbs % 10)] := dgs_step (by omega)
        have hq : (x.tdiv 10).natAbs = x.natAbs / 10 := Int.natAbs_tdiv x 10
        obtain ⟨b0, hb0⟩ : ∃ b0, b0 = UInt8.ofNat (48 + x.natAbs % 10) := ⟨_, rfl⟩
        rw [← hb0] at hv hst
        have HD2 : Hid (dgs (x.tdiv 10).natAbs ++ (b0 :: l) = dgs n.natAbs) := by rw [Hid, hq, ← hD.out, hst]; simp
        have hll : l.length ≤ 20 := by have := congrArg List.length hD.out; rw [hst] at this; simp at this; omega
        have hq1 : -9223372036854775808 ≤ x.tdiv 10 := by omega
        have hq2 : x.tdiv 10 ≤ 9223372036854775807 := by omega
        have hqm : (x.tdiv 10).natAbs < x.natAbs := by omega
        have o0 := World.ownsRow_lit (base := w.heap.size) (e := 5) (size := 1) wr #[.int .u8 (48 + x.tmod 10)] 1 hbs (by simp [maxLen]) (by simp)
        have hr1 : 0 ≤ x.tmod 10 := by omega
        have hr2 : x.tmod 10 ≤ 9 := by omega
        have HV := hid hv
        clear hst hb0 hd d1 hD hv hq
        have hx2 := own_sl encU_len (by omega) ho
        rcases Nat.eq_zero_or_pos l.length with hl0 | hl0
        · obtain rfl := List.eq_nil_of_length_eq_zero hl0
          have F1 : ∀ W : World, (pure #[] : Sem (Array Value)).run Tryz.prog W = .ok #[] W := fun _ => rfl
          have F2 : ∀ (q : Addr) (W : World), (storeCells q []).run Tryz.prog W = .ok () W := fun _ _ => rfl
          have hb3 : Below w.heap.size w (wr.alloc (.cells #[.int .u8 (48 + x.tmod 10)] 5)) := hb.alloc hbs _
          have o1 : (wr.alloc (.cells #[.int .u8 (48 + x.tmod 10)] 5)).ownsRow w.heap.size 5 1 (.slice (some ⟨wr.heap.size, 0, none⟩) [b0].length 1) [b0].length ([b0].flatMap encU) := by
            have := o0
            rw [HV.out] at this ⊢
            exact this
          have O1 := hid o1
          clear hx2 o0 o1
          rcases ho.2 with ⟨hA, _⟩ | ⟨g, cap, cur, hA, _⟩
          · simp only [Value.slice.injEq] at hA
            obtain ⟨rfl, _, rfl⟩ := hA
            clear ho hll hl0
            go_wp2_with fail
            go_roundw
            all_goals first | exact ⟨some ⟨wr.heap.size, 0, none⟩, 1, [b0], x.tdiv 10, by go_num, rfl, O1.out, HD2, hq1, hq2, hb3⟩ | exact ⟨⟨some ⟨wr.heap.size, 0, none⟩, 1, [b0], x.tdiv 10, by go_num, rfl, O1.out, HD2, hq1, hq2, hb3⟩, hqm⟩ | exact hqm
          · simp only [Value.slice.injEq] at hA
            obtain ⟨rfl, _, rfl⟩ := hA
            clear ho hll hl0
            go_wp2_with fail
            go_roundw
            all_goals first | exact ⟨some ⟨wr.heap.size, 0, none⟩, 1, [b0], x.tdiv 10, by go_num, rfl, O1.out, HD2, hq1, hq2, hb3⟩ | exact ⟨⟨some ⟨wr.heap.size, 0, none⟩, 1, [b0], x.tdiv 10, by go_num, rfl, O1.out, HD2, hq1, hq2, hb3⟩, hqm⟩ | exact hqm
        · rcases ho.2 with ⟨_, h0'⟩ | ⟨g, cap, cur, hA, _⟩
          · exfalso; omega
          · simp only [Value.slice.injEq] at hA
            obtain ⟨rfl, _, rfl⟩ := hA
            have hnew := news_of_u (hx2.alloc (Nat.le_refl _) (.cells #[.int .u8 (48 + x.tmod 10)] 5))
            have hlen2 : (l.flatMap encU).length = l.length * 1 := by rw [flatMap_len encU_len]
            go_wp2_with (at_builtin; refine wpList_append_lies _ rfl _ _ 34 rfl w.heap.size 5 i0 (.int .u8 0) 1 1 Tryz.underlying34 hi hz0 hz1 hz2 rfl (by omega) (.slice (some ⟨wr.heap.size, 0, none⟩) 1 1) 1 [.int .u8 (48 + x.tmod 10)] rfl o0 ⟨g, 0, none⟩ l.length c (l.flatMap encU) rfl hlen2 hnew (one_encU l) (by omega) (by simp only [maxLen]; omega) (by omega) (by simp; omega) (wr.heap.size + 1) (by simp) ?_; intro gg cap w3 ho3 hg3 hat3 hlt3)
            have hb3 : Below w.heap.size w w3 := (hb.alloc hbs _).grown hg3 (by simp; omega) (fun q hq => by simp [Value.ownBlock] at hq; omega)
            have e3 : [Value.int .u8 (48 + x.tmod 10)] ++ l.flatMap encU = (b0 :: l).flatMap encU := by rw [HV.out]; rfl
            have l3 : 1 + l.length = (b0 :: l).length := by rw [List.length_cons]; omega
            rw [e3, l3] at ho3
            have HO3 := hid ho3
            clear ho3 ho hnew hlen2 o0 hx2 e3 l3
            go_wp2_with fail
            go_roundw
            all_goals first | exact ⟨some ⟨gg, 0, none⟩, cap, b0 :: l, x.tdiv 10, by go_num, rfl, HO3.out, HD2, hq1, hq2, hb3⟩ | exact ⟨⟨some ⟨gg, 0, none⟩, cap, b0 :: l, x.tdiv 10, by go_num, rfl, HO3.out, HD2, hq1, hq2, hb3⟩, hqm⟩ | exact hqm
end Go.Proofs.YtcgkcfmiabninaaGreatDoor
/-
  Decimal numerals: which texts are the decimal form of a number. No condition.
-/
namespace Go.Proofs.YtcgkcfmiabninaaGreatDoor
open Go.Lib

/-- what stands behind a minus sign -/
def undash (l : List UInt8) : List UInt8 := if l.head? = some 45 then l.tail else l
/-- the number with a decimal form of at most 18 digits -/
def rdN (l : List UInt8) : Option Int :=
  if (undash l).length < 1 ∨ 18 < (undash l).length then none else
  match decFrom 0 (undash l) with
  | none => none
  | some u => if itoa (if l.head? = some 45 then -(u : Int) else u) = l then some (if l.head? = some 45 then -(u : Int) else u) else none
def rdI (l : List UInt8) : Option Int :=
  if 19 < l.length ∨ 18 < (undash l).length then none else
  match parseIntB 64 l with
  | .ok v => if itoa v = l then some v else none
  | _ => none

theorem digitVal_range {b : UInt8} {d : Nat} (h : digitVal b = some d) : d ≤ 9 ∧ d = b.toNat - 48 ∧ 48 ≤ b.toNat ∧ b.toNat ≤ 57 := by
  unfold digitVal at h
  split at h
  · simp only [Option.some.injEq] at h; omega
  · cases h
theorem decFrom_cons (acc : Nat) (c : UInt8) (r : List UInt8) : decFrom acc (c :: r) = if 48 ≤ c.toNat ∧ c.toNat ≤ 57 then decFrom (acc * 10 + (c.toNat - 48)) r else none := by
  by_cases h : 48 ≤ c.toNat ∧ c.toNat ≤ 57
  · simp only [decFrom, digitVal, if_pos h]
  · simp only [decFrom, digitVal, if_neg h]
theorem parse_short : ∀ (l : List UInt8) (k acc : Nat), acc < 10 ^ k → k + l.length ≤ 18 → parseUintM (2 ^ 64 - 1) acc l = match decFrom acc l with | some u => .ok u | none => NumEnd.syntax := by
  intro l
  induction l with
  | nil => intro k acc _ _; rfl
  | cons c r ih =>
    intro k acc ha hk
    rw [decFrom_cons, parseUintM]
    by_cases hc : 48 ≤ c.toNat ∧ c.toNat ≤ 57
    · rw [if_pos hc, if_pos hc]
      simp only [List.length_cons] at hk
      have h17 : 10 ^ k ≤ 10 ^ 17 := Nat.pow_le_pow_right (by omega) (by omega)
      rw [if_neg (by omega), if_neg (by omega)]
      have h18 : acc * 10 + (c.toNat - 48) < 10 ^ (k + 1) := by rw [Nat.pow_succ]; omega
      exact ih (k + 1) _ h18 (by omega)
    · rw [if_neg hc, if_neg hc]
theorem decFrom_below {l : List UInt8} {u : Nat} (h : decFrom 0 l = some u) (hl : l.length ≤ 18) : u < 1000000000000000000 := by
  have h1 := decFrom_lt l 0 u h
  have h2 : 10 ^ l.length ≤ 10 ^ 18 := Nat.pow_le_pow_right (by omega) hl
  omega
theorem decDigits_head {u : Nat} : ∃ c r, decDigits u = c :: r ∧ 48 ≤ c.toNat ∧ c.toNat ≤ 57 := by
  induction u using Nat.strongRecOn with
  | _ u ih =>
    by_cases h : u < 10
    · refine ⟨_, [], decDigits_one h, ?_, ?_⟩
      · simp [UInt8.toNat_ofNat']; omega
      · simp [UInt8.toNat_ofNat']; omega
    · rw [decDigits, dif_neg h]
      obtain ⟨c, r, e, h1, h2⟩ := ih (u / 10) (by omega)
      rw [e]
      exact ⟨c, _, rfl, h1, h2⟩
theorem decDigits_all (u : Nat) : ∀ c ∈ decDigits u, 48 ≤ c.toNat ∧ c.toNat ≤ 57 := by
  induction u using Nat.strongRecOn with
  | _ u ih =>
    by_cases h : u < 10
    · rw [decDigits_one h]
      intro c hc
      obtain rfl := List.mem_singleton.1 hc
      simp [UInt8.toNat_ofNat']; omega
    · rw [decDigits, dif_neg h]
      intro c hc
      rcases List.mem_append.1 hc with hc | hc
      · exact ih (u / 10) (by omega) c hc
      · obtain rfl := List.mem_singleton.1 hc
        simp [UInt8.toNat_ofNat']; omega
theorem decFrom_append : ∀ (a b : List UInt8) (acc : Nat), decFrom acc (a ++ b) = (decFrom acc a).bind fun u => decFrom u b := by
  intro a
  induction a with
  | nil => intro b acc; rfl
  | cons c r ih =>
    intro b acc
    rw [List.cons_append, decFrom_cons, decFrom_cons]
    split
    · exact ih b _
    · rfl
theorem decFrom_digits (u : Nat) : decFrom 0 (decDigits u) = some u := by
  induction u using Nat.strongRecOn with
  | _ u ih =>
    by_cases h : u < 10
    · rw [decDigits_one h, decFrom_cons]
      have e : (UInt8.ofNat (48 + u)).toNat = 48 + u := by simp [UInt8.toNat_ofNat']; omega
      rw [e, if_pos (by omega)]
      simp only [decFrom, Option.some.injEq]; omega
    · have hd : decDigits u = decDigits (u / 10) ++ [UInt8.ofNat (48 + u % 10)] := by rw [decDigits, dif_neg h]
      rw [hd, decFrom_append, ih (u / 10) (by omega)]
      simp only [Option.bind_some]
      rw [decFrom_cons]
      have e : (UInt8.ofNat (48 + u % 10)).toNat = 48 + u % 10 := by simp [UInt8.toNat_ofNat']; omega
      rw [e, if_pos (by omega)]
      simp only [decFrom, Option.some.injEq]; omega
theorem decDigits_len : ∀ (k u : Nat), u < 10 ^ (k + 1) → (decDigits u).length ≤ k + 1 := by
  intro k
  induction k with
  | zero => intro u h; rw [decDigits_one (by omega)]; simp
  | succ k ih =>
    intro u h
    by_cases h1 : u < 10
    · rw [decDigits_one h1]; simp
    · have hd : decDigits u = decDigits (u / 10) ++ [UInt8.ofNat (48 + u % 10)] := by rw [decDigits, dif_neg h1]
      have := ih (u / 10) (by rw [Nat.pow_succ] at h; omega)
      rw [hd, List.length_append]
      simp only [List.length_cons, List.length_nil]
      omega
theorem itoa_pos {n : Int} (h : 0 ≤ n) : itoa n = decDigits n.toNat := by unfold itoa; rw [if_neg (by omega)]
theorem itoa_head (n : Int) : ∃ c r, itoa n = c :: r ∧ (c = 45 ∨ (48 ≤ c.toNat ∧ c.toNat ≤ 57)) := by
  unfold itoa
  split
  · exact ⟨45, _, rfl, .inl rfl⟩
  · obtain ⟨c, r, e, h⟩ := decDigits_head (u := n.toNat)
    exact ⟨c, r, e, .inr h⟩
theorem undash_pos {c : UInt8} {r : List UInt8} (h : c ≠ 45) : undash (c :: r) = c :: r := by simp [undash, h]
theorem undash_neg (r : List UInt8) : undash (45 :: r) = r := by simp [undash]
/-- both ways of reading agree -/
theorem rdI_eq (l : List UInt8) : rdI l = rdN l := by
  unfold rdI rdN
  by_cases h18 : 18 < (undash l).length
  · rw [if_pos (.inr h18), if_pos (.inr h18)]
  · have h19 : l.length ≤ 19 := by
      unfold undash at h18
      split at h18
      · have := List.length_tail (l := l); omega
      · omega
    rw [if_neg (by omega)]
    cases l with
    | nil => simp [parseIntB, undash]
    | cons c r =>
      by_cases h45 : c = 45
      · subst h45
        rw [undash_neg] at h18 ⊢
        have hn : ((45 : UInt8).toNat = 45) := rfl
        simp only [parseIntB, hn, or_true, if_true, List.head?_cons]
        cases r with
        | nil => simp [parseUintB]
        | cons d q =>
          rw [parseUintB, if_neg (by simp), parse_short (d :: q) 0 0 (by omega) (by omega), if_neg (by simp only [List.length_cons] at h18 ⊢; omega)]
          cases hd : decFrom 0 (d :: q) with
          | none => rfl
          | some u =>
            have hu := decFrom_below hd (by omega)
            simp only [not_true, false_and, if_false, true_and]
            rw [if_neg (by simp only [Nat.add_one_sub_one]; omega)]
      · have h45n : c.toNat ≠ 45 := fun e => h45 (UInt8.toNat_inj.1 e)
        rw [undash_pos h45] at h18 ⊢
        have hh : ¬ ((c :: r).head? = some 45) := by simp [h45]
        by_cases h43 : c.toNat = 43
        · have e1 : decFrom 0 (c :: r) = none := by rw [decFrom_cons, if_neg (by omega)]
          rw [e1]
          have e2 : ∀ v, itoa v ≠ c :: r := fun v e => by
            obtain ⟨c', r', e', h⟩ := itoa_head v
            rw [e'] at e
            obtain ⟨rfl, rfl⟩ := List.cons.inj e
            rcases h with rfl | h
            · exact h45 rfl
            · omega
          have key : (match parseIntB 64 (c :: r) with | .ok v => if itoa v = c :: r then some v else none | _ => (none : Option Int)) = none := by
            split
            · rw [if_neg (e2 _)]
            · rfl
          rw [key]
          split <;> rfl
        · simp only [parseIntB, h43, h45n, or_self, if_false]
          rw [parseUintB, if_neg (by simp), parse_short (c :: r) 0 0 (by omega) (by omega), if_neg (by simp only [List.length_cons] at h18 ⊢; omega)]
          cases hd : decFrom 0 (c :: r) with
          | none => rfl
          | some u =>
            have hu := decFrom_below hd (by omega)
            simp only [not_false_eq_true, true_and, false_and, if_false, hh]
            rw [if_neg (by simp only [Nat.add_one_sub_one]; omega)]
theorem rdN_some {l : List UInt8} {n : Int} (h : rdN l = some n) : itoa n = l ∧ -1000000000000000000 < n ∧ n < 1000000000000000000 := by
  unfold rdN at h
  split at h
  · cases h
  · rename_i hl
    cases hd : decFrom 0 (undash l) with
    | none => rw [hd] at h; cases h
    | some u =>
      rw [hd] at h
      have hu := decFrom_below hd (by omega)
      have h2 : (if itoa (if l.head? = some 45 then -(u : Int) else u) = l then some (if l.head? = some 45 then -(u : Int) else u) else none) = some n := h
      clear h
      have h := h2
      by_cases e : itoa (if l.head? = some 45 then -(u : Int) else u) = l
      · rw [if_pos e] at h
        simp only [Option.some.injEq] at h
        rw [h] at e
        refine ⟨e, ?_, ?_⟩ <;> rw [← h] <;> split <;> omega
      · rw [if_neg e] at h
        cases h
theorem undash_digits (u : Nat) : undash (decDigits u) = decDigits u := by
  obtain ⟨c, r, e, h1, h2⟩ := decDigits_head (u := u)
  rw [e]
  exact undash_pos (fun q => by subst q; revert h1; decide)
/-- a number that is not negative and has at most 18 digits is read from its form -/
theorem rdN_itoa {n : Int} (h0 : 0 ≤ n) (h1 : n < 1000000000000000000) : rdN (itoa n) = some n := by
  rw [itoa_pos h0]
  have hl : (decDigits n.toNat).length ≤ 18 := decDigits_len 17 _ (by omega)
  obtain ⟨c, r, e, h2, h3⟩ := decDigits_head (u := n.toNat)
  have hh : ¬ (decDigits n.toNat).head? = some 45 := by
    rw [e]
    simp only [List.head?_cons, Option.some.injEq]
    intro q; subst q; revert h2; decide
  have hne : 1 ≤ (decDigits n.toNat).length := by rw [e]; simp
  unfold rdN
  rw [undash_digits, if_neg (by omega), decFrom_digits]
  simp only [hh, if_false]
  have e2 : itoa ((n.toNat : Nat) : Int) = decDigits n.toNat := by rw [itoa_pos (by omega)]; congr 1
  rw [if_pos e2]
  congr 1
  omega
theorem itoa_digits {n : Int} (h0 : 0 ≤ n) : ∀ c ∈ itoa n, 48 ≤ c.toNat ∧ c.toNat ≤ 57 := by rw [itoa_pos h0]; exact decDigits_all _
end Go.Proofs.YtcgkcfmiabninaaGreatDoor
/-
  From a row to the walk and back: how an argument that is a slice of structs reads; the row's last step. No condition.
-/
namespace Go.Proofs.YtcgkcfmiabninaaGreatDoor
open Go.ChangeShapes Go.WideShapes Go.ChangeAt Go.RowKit Go.Deep

/-- an address under which a cell is read lies at no spot -/
theorem spot_none {w : World} {b o : Nat} {s : Option Nat} {v : Value} (h : w.cell? ⟨b, o, s⟩ = some v) : s = none := by
  cases s with
  | none => rfl
  | some n => unfold World.cell? at h; cases hb : w.heap[b]? with
    | none => simp [hb] at h
    | some o => cases o <;> simp [hb] at h

/-- the number in a cell -/
def numAt (w : World) (a : Addr) : Int := match w.cell? a with | some (.int _ z) => z | _ => 0
theorem numAt_of {w : World} {a : Addr} {k : IntKind} {z : Int} (h : w.cell? a = some (.int k z)) : numAt w a = z := by unfold numAt; rw [h]

theorem own : ownKnob Tryz.prog.godebug = none := by kernel_rfl
theorem laidOut : laidOutB Tryz.prog = true := by kernel_rfl

section
variable {H : Type} {enc : TypeId × Value → H} {P : Program} {w : World} {base : Nat} {spare : Nat → Bool} {held : Bool}
theorem open_slice_fields {t e : TypeId} {fs : Array Field} {fuel : Nat} {cs : List Value} {x : DataW H × List MemPlace} (ht : P.underlying t = some (.slice e)) (he : P.underlying e = some (.struct fs))
    (hone : oneCellFields P fs = true) (hC : P.cellsOf e = fs.size) (h : DataW.trod enc P w base spare held fuel t cs = some x) :
    (cs = [.slice none 0 0] ∧ x = (.nil, [])) ∨
    ∃ (a : Addr) (len cap m : Nat) (D : Nat → DataW H) (Pl : Nat → List MemPlace), cs = [.slice (some a) len cap] ∧ base ≤ a.block ∧ len ≤ cap ∧ cap ≤ maxLen ∧ m = (if spare a.block then cap else len) ∧
      x = (.slice ((List.range len).map D) ((List.range (m - len)).map fun j => D (len + j)), MemPlace.row a (m * fs.size) ++ (List.range m).flatMap Pl) ∧
      ∀ i, i < m → ∃ (ys : List (DataW H × List MemPlace)) (n : Nat), D i = .agg (ys.map (·.1)) ∧ Pl i = ys.flatMap (·.2) ∧ ys.length = fs.size ∧
        ∀ (j : Nat) (f : Field), fs[j]? = some f → ∃ (v : Value) (y : DataW H × List MemPlace), w.cell? (a.add (i * fs.size + j)) = some v ∧ ys[j]? = some y ∧ DataW.trod enc P w base spare held n f.type [v] = some y := by
  rcases open_slice ht h with h0 | ⟨a, len, cap, m, n, D, Pl, hcs, hb, hl, hm, hmm, hx, hi⟩
  · exact .inl h0
  · refine .inr ⟨a, len, cap, m, D, Pl, hcs, hb, hl, hm, hmm, by rw [hC] at hx; exact hx, fun i him => ?_⟩
    obtain ⟨cs', hc, ht'⟩ := hi i him
    rw [hC] at hc
    obtain ⟨ys, n', hn', hy, hlen, hyl, hf⟩ := DataW.trod_struct he ht'
    obtain ⟨_, hcl, hat⟩ := World.cells?_some hc
    simp only [Prod.mk.injEq] at hy
    refine ⟨ys, n', hy.1, hy.2, hyl, fun j f hj => ?_⟩
    obtain ⟨ho, hk⟩ := hone_of hone j f hj
    have hjl : j < fs.size := (Array.getElem?_eq_some_iff.1 hj).1
    have hcell := hat j hjl
    have hv : cs'[j]? = some (cs'[j]'(by omega)) := List.getElem?_eq_getElem (by omega)
    have h1 := hf j f hj
    rw [ho, hk] at h1
    have hone' : (cs'.drop j).take 1 = [cs'[j]'(by omega)] := by
      rw [List.drop_eq_getElem_cons (by omega)]
      rfl
    rw [hone'] at h1
    have hys : ys[j]? = some (ys[j]'(by omega)) := List.getElem?_eq_getElem (by omega)
    refine ⟨_, _, ?_, hys, h1.trans hys⟩
    rw [← Go.Deep.add_add, hcell, hv]
end

section
variable {H : Type} {enc : TypeId × Value → H} {P : Program}
theorem post_of_below {f : Func} {s : ChangeSpec} {apart fresh handsOn again : Bool} {W W' : World} {args : Array Value} {v : Value} {ds gs : List (DataW H)} {before pa pv : List MemPlace}
    (hW : DataW.Whole enc P f.params.toList s.vars apart W args.toList ds gs before)
    (hres : ∀ (b : Nat) (sp : Nat → Bool) (hd : Bool), DataW.TrodAll enc P W' b sp hd f.resultTypes.toList (v.resultList f.resultTypes.size) (s.fn H (ds ++ gs)).results [])
    (hargs : ∀ sp : Nat → Bool, (∀ p ∈ before, sp p.block = true) → DataW.TrodAll enc P W' 0 sp true f.params.toList args.toList (s.fn H (ds ++ gs)).args pa)
    (hvars : ∀ sp : Nat → Bool, (∀ p ∈ before, sp p.block = true) → DataW.TrodVars enc P W' sp s.vars (s.fn H (ds ++ gs)).vars pv)
    (hps : before = pa ++ pv) (hb : Below W.heap.size W W')
    (hok : ∀ (j : Nat) (t : TypeId) (r : Value), f.resultTypes[j]? = some t → (v.resultList f.resultTypes.size)[j]? = some r → Value.okWide P W' .any 0 t r) :
    s.post enc P f apart fresh handsOn again W args v W' := by
  have hlt : ∀ p ∈ before, p.block < W.heap.size := fun p hp => hW.lt p hp
  have hold : ∀ p ∈ before, (fun b => decide (b < W.heap.size)) p.block = true := fun p hp => by simpa using hlt p hp
  refine ⟨ds, gs, before, [], pa, pv, hW, hres _ _ _, hargs _ hold, hvars _ hold, World.keptBut_mono (fun p hp => ⟨hp, ?_⟩) (hb.frame (· ∈ before)), fun _ => ?_⟩
  · rw [hps, List.mem_append] at hp
    exact Or.inr hp
  · obtain ⟨_, _, _, _, _, hz, hn⟩ := hW
    refine ⟨hok, _, _, ([] ++ pa) ++ pv, ⟨[] ++ pa, pv, trodAll_append (hargs _ (fun _ _ => rfl)) (hres _ _ _), hvars _ (fun _ _ => rfl), rfl, ?_, ?_⟩, ?_⟩
    · intro b off hp
      have hin : MemPlace.cell b off ∈ before := by rw [hps]; simpa using hp
      rw [hb.frozen (hlt _ hin)]
      exact hz b off hin
    · intro ha
      have := hn ha
      rw [hps] at this
      simpa using this
    · intro p hp _
      rw [hps]
      simpa using hp
end

section
variable {H : Type} {enc : TypeId × Value → H} {P : Program}
/-- an argument reads as it did where nothing that was there has turned -/
theorem trod_below {t : TypeId} (hl : laidOutB P = true) (hr : P.readableRec t = true) (hrow : t < P.types.size) {W W' : World} {v : Value} {d : DataW H} {ps : List MemPlace} {sp : Nat → Bool}
    (h : DataW.Trod enc P W 0 (fun _ => true) true t v d ps) (hb : Below W.heap.size W W') (hlt : ∀ x ∈ ps, x.block < W.heap.size) (hsp : ∀ x ∈ ps, sp x.block = true) : DataW.Trod enc P W' 0 sp true t v d ps :=
  WideElems.Trod_stays hl hr hrow h (fun x hx => hb.same (hlt x hx)) hsp
theorem open_i64 {t : TypeId} {W : World} {base : Nat} {v : Value} {d : DataW H} {p : List MemPlace} (ht : P.underlying t = some (.int .i64)) (hv : Value.okWide P W .any base t v)
    (h : DataW.Trod enc P W 0 (fun _ => true) true t v d p) : ∃ x, v = .int .i64 x ∧ -9223372036854775808 ≤ x ∧ x ≤ 9223372036854775807 := by
  obtain ⟨x, rfl, _, _, wx⟩ := open_int ht hv h
  refine ⟨x, rfl, ?_⟩
  simp [Lit.wf, IntKind.min, IntKind.max, IntKind.signed, IntKind.bits] at wx
  exact wx
theorem open_bool' {t : TypeId} {W : World} {base : Nat} {v : Value} {d : DataW H} {p : List MemPlace} (ht : P.underlying t = some .bool) (hv : Value.okWide P W .any base t v)
    (h : DataW.Trod enc P W 0 (fun _ => true) true t v d p) : ∃ x, v = .bool x := by
  obtain ⟨x, rfl, _, _⟩ := open_bool ht hv h
  exact ⟨x, rfl⟩
end
end Go.Proofs.YtcgkcfmiabninaaGreatDoor
/-
  Strings and lists of strings: how they read, their copies, comparisons, sizes and marks. No condition.
-/
namespace Go.Proofs.YtcgkcfmiabninaaGreatDoor
open Go.RowKit Go.ChangeShapes Go.WideShapes Go.ChangeAt Go.Deep
set_option maxHeartbeats 400000

def encS (s : ByteArray) : List Value := [.string s]
theorem encS_len (s : ByteArray) : (encS s).length = 1 := rfl
theorem Sl.str {w : World} {B : Nat} {A : Option Addr} {n : Nat} {xs : List ByteArray} (h : Sl w B 1 encS A n xs) {i : Nat} (hi : i < n) :
    ∃ z b off, Hid (xs[i]? = some z) ∧ A = some ⟨b, off, none⟩ ∧ b < B ∧ w.cell? ⟨b, off + i, none⟩ = some (.string z) := by
  obtain ⟨z, b, off, hx, e, hb, hc⟩ := h.at_ hi
  have := hc 0 _ rfl
  simp only [Nat.mul_one, Nat.add_zero] at this
  exact ⟨z, b, off, hx, e, hb, this⟩
/-- the bytes of some strings together -/
def totS (xs : List ByteArray) : Nat := (xs.map ByteArray.size).sum
theorem totS_take {xs : List ByteArray} {k : Nat} {z : ByteArray} (h : xs[k]? = some z) : totS (xs.take (k + 1)) = totS (xs.take k) + z.size := by
  rw [take_at h]; simp [totS]
theorem totS_mem {xs : List ByteArray} {z : ByteArray} (h : z ∈ xs) : z.size ≤ totS xs := by
  induction xs with
  | nil => simp at h
  | cons x l ih =>
    simp only [totS, List.map_cons, List.sum_cons]
    rcases List.mem_cons.1 h with rfl | h
    · omega
    · have := ih h
      simp only [totS] at this
      omega
theorem totS_le {xs : List ByteArray} {k : Nat} : totS (xs.take k) ≤ totS xs := by
  induction xs generalizing k with
  | nil => simp
  | cons x l ih =>
    cases k with
    | zero => simp [totS]
    | succ k =>
      have := @ih k
      simp only [totS, List.take_succ_cons, List.map_cons, List.sum_cons] at this ⊢
      omega
theorem bs_eq {x y : ByteArray} : (x.toList == y.toList) = decide (x = y) := by
  rw [ByteArray.toList_eq, ByteArray.toList_eq]
  by_cases h : x = y
  · subst h; simp
  · have h2 : x.data.toList ≠ y.data.toList := fun e => h (by
      obtain ⟨⟨a⟩⟩ := x
      obtain ⟨⟨b⟩⟩ := y
      simp only at e
      rw [e])
    rw [decide_eq_false h]
    simpa using h2
theorem bs_ne {x y : ByteArray} (h : x ≠ y) : (x.toList == y.toList) = false := by rw [bs_eq]; simpa using h
theorem bs_in {x y : ByteArray} (h : x = y) : (x.toList == y.toList) = true := by rw [bs_eq]; simpa using h
def strAt (w : World) (a : Addr) : ByteArray := match w.cell? a with | some (.string z) => z | _ => ByteArray.empty
theorem strAt_of {w : World} {a : Addr} {z : ByteArray} (h : w.cell? a = some (.string z)) : strAt w a = z := by unfold strAt; rw [h]
theorem Span0 {w w' : World} (h : Below w.heap.size w w') (row : Option Nat) : w.grownBy w' row := ⟨h.os, h.tape, h.output, h.size, fun i hi _ => h.block i hi⟩
/-- what is left of a measure: -1 if it does not do -/
def szF (left : Int) (n : Nat) : Int := if left < n then -1 else left - n
theorem szF_yes {left : Int} {n : Nat} (h : (n : Int) ≤ left) : szF left n = left - n := by unfold szF; rw [if_neg (by omega)]
theorem szF_no {left : Int} {n : Nat} (h : left < (n : Int)) : szF left n = -1 := by unfold szF; rw [if_pos h]

/-- the digits of a mark -/
def digs : Nat → Nat → List UInt8
  | 0, _ => []
  | f + 1, k => if k = 0 then [] else digs f (k / 10) ++ [UInt8.ofNat (48 + k % 10)]
theorem digs_more : ∀ (f k g : Nat), k ≤ f → k ≤ g → digs f k = digs g k := by
  intro f
  induction f with
  | zero => intro k g h _; obtain rfl : k = 0 := (by omega); cases g <;> simp [digs]
  | succ f ih =>
    intro k g h h2
    cases g with
    | zero => obtain rfl : k = 0 := (by omega); simp [digs]
    | succ g =>
      simp only [digs]
      split
      · rfl
      · rw [ih (k / 10) g (by omega) (by omega)]
def mtxt (k : Int) : ByteArray := if k ≤ 0 then ⟨#[109, 48]⟩ else ⟨(109 :: digs k.toNat k.toNat).toArray⟩
theorem digs_step {k : Nat} (h : 0 < k) : digs k k = digs (k / 10) (k / 10) ++ [UInt8.ofNat (48 + k % 10)] := by
  obtain ⟨f, rfl⟩ : ∃ f, k = f + 1 := ⟨k - 1, by omega⟩
  simp only [digs]
  rw [if_neg (by omega), digs_more f ((f + 1) / 10) ((f + 1) / 10) (by omega) (Nat.le_refl _)]
theorem digs_zero : digs 0 0 = [] := rfl

end Go.Proofs.YtcgkcfmiabninaaGreatDoor
/-
  Regions that draw their order and hold calls that make memory, but store nothing: walked once, in the order of the text. No condition.
-/
namespace Go.Proofs.YtcgkcfmiabninaaGreatDoor
open Go.RowKit

/-- the worlds in which all that lay in W lies untouched -/
structure After (W : World) where
  w : World
  below : Below W.heap.size W w
instance (W : World) : Nonempty (After W) := ⟨⟨W, Below.refl _ _⟩⟩
theorem wp_after {P : Program} {id : Nat} {Q : Exit → Act → World → Prop} {a : Act} {w : World} {l : List Oper} (hm : P.follows .mixedOrders = true) (hB : Region.lexB .any l.toArray = true)
    (h : wpQuiet P l.toArray (fun w' => ∃ i : After w, w' = i.w) (fun a' => ∀ w', (∃ i : After w, w' = i.w) → Q .normal a' w') l a) : (Code.region id l.toArray true).wp P Q a w :=
  wp_region_quiet (C := fun w' => ∃ i : After w, w' = i.w) hm hB ⟨⟨w.drew, (Below.refl _ _).drew⟩, rfl⟩ (by simpa using h)
theorem Calls.after {P : Program} {f : FuncId} {args : Array Value} {W : World} {i : After W} {v : Value} (h : Calls P f args i.w fun e w' => e = .returned v ∧ Below i.w.heap.size i.w w') :
    Calls P f args i.w fun e w'' => e = .returned v ∧ ∃ j : After W, w'' = j.w :=
  h.mono fun _ _ ⟨he, hb⟩ => ⟨he, ⟨_, i.below.trans (hb.mono i.below.size)⟩, rfl⟩
theorem Calls.after_same {P : Program} {f : FuncId} {args : Array Value} {W : World} {i : After W} {v : Value} (h : Calls P f args i.w fun e w' => e = .returned v ∧ w' = i.w) :
    Calls P f args i.w fun e w'' => e = .returned v ∧ ∃ j : After W, w'' = j.w :=
  h.mono fun _ _ ⟨he, hb⟩ => ⟨he, i, hb⟩
theorem After.cell {W : World} {p : Addr} {v : Value} (h : W.cell? p = some v) (i : After W) : i.w.cell? p = some v := below_cell h i.below
end Go.Proofs.YtcgkcfmiabninaaGreatDoor
/-
  The marks of strings. No condition.
-/
namespace Go.Proofs.YtcgkcfmiabninaaGreatDoor
open Go.RowKit
set_option maxHeartbeats 400000

theorem bs_ext {x y : ByteArray} (h : x.data.toList = y.data.toList) : x = y := by
  obtain ⟨⟨a⟩⟩ := x
  obtain ⟨⟨b⟩⟩ := y
  simp only at h
  rw [h]
theorem bs_app (x y : ByteArray) : (x ++ y).data.toList = x.data.toList ++ y.data.toList := by simp
set_option maxHeartbeats 2000000 in
set_option maxRecDepth 100000 in
theorem markText_any (m : Int) (w : World) (h0 : 0 ≤ m) (h1 : m ≤ 90000000) :
    Calls Tryz.prog 66 #[.int .i64 m] w fun r w' => r = .returned (.string (mtxt m)) ∧ Below w.heap.size w w' := by
  by_cases hz : m ≤ 0
  · have E : Hid (mtxt m = ⟨#[109, 48]⟩) := by simp [Hid, mtxt, hz]
    go_enter Tryz.func66, Tryz.ntmps66
    go_wp2
    go_ret
    exact ⟨by rw [E.out]; rfl, Below.refl _ _⟩
  · obtain ⟨n, rfl⟩ : ∃ n : Nat, m = n := ⟨m.toNat, by omega⟩
    have E : Hid (mtxt n = ⟨(109 :: digs n n).toArray⟩) := by (rw [Hid, mtxt, if_neg hz, Int.toNat_natCast])
    go_enter Tryz.func66, Tryz.ntmps66
    go_wp2
    go_loopw [0, 3] (fun k s w1 => ∃ (q : Nat) (o : ByteArray), k = .int .i64 q ∧ s = .string o ∧ o.size + q ≤ n ∧ Hid (digs n n = digs q q ++ o.data.toList) ∧ Below w.heap.size w w1) (fun k _ _ => (intOf k).toNat)
    case atStart => exact ⟨n, ⟨#[]⟩, rfl, rfl, Nat.le_of_eq (Nat.zero_add _), (List.append_nil _).symm, Below.refl _ _⟩
    case round =>
      obtain ⟨q, o, rfl, rfl, hs, he, hb⟩ := hrel
      by_cases hq : 0 < q
      · have hb1 : ((UInt8.ofNat (48 + q % 10)).toNat : Int) = 48 + (q : Int) % 10 := by
          rw [UInt8.toNat_ofNat', Nat.mod_eq_of_lt (by omega)]; omega
        have hdg := digs_step hq
        generalize UInt8.ofNat (48 + q % 10) = ch at hb1 hdg
        have hcv : (convert 34 9 (.slice (some ⟨wr.heap.size, 0, none⟩) 1 1)).run Tryz.prog (wr.alloc (.cells #[.int .u8 (48 + (q : Int) % 10)] 5)) = .ok (.string ⟨#[ch]⟩) (wr.alloc (.cells #[.int .u8 (48 + (q : Int) % 10)] 5)) := by
          have := run_convert_bytes_back (P := Tryz.prog) (wr.alloc (.cells #[.int .u8 (48 + (q : Int) % 10)] 5)) 34 9 5 ⟨wr.heap.size, 0, none⟩ 1 [ch] Tryz.underlying34 Tryz.underlying5 Tryz.underlying9 (fun j hj => by
            simp at hj
            subst hj
            simp only [List.getElem_cons_zero, hb1]
            go_simp)
          exact this
        have E2 : Hid (digs n n = digs (q / 10) (q / 10) ++ ((⟨#[ch]⟩ : ByteArray) ++ o).data.toList) := by
          rw [Hid, he.out, hdg, bs_app, List.append_assoc]
        have hsz : ((⟨#[ch]⟩ : ByteArray) ++ o).size = 1 + o.size := by simp [ByteArray.size_append]; rfl
        have hsz2 : ((⟨#[ch]⟩ : ByteArray) ++ o).size + q / 10 ≤ n := by omega
        have hbw : Below w.heap.size w (wr.alloc (.cells #[.int .u8 (48 + (q : Int) % 10)] 5)) := hb.alloc hb.size _
        have hone : (⟨#[ch]⟩ : ByteArray).size ≤ 1 := Nat.le_refl _
        clear hb1 hsz he hdg
        go_wp2
        go_roundw
        case rel => exact ⟨q / 10, _, by go_num, rfl, hsz2, E2, hbw⟩
        case measure => simp [intOf]; omega
      · have : q = 0 := by omega
        subst this
        have E2 : Hid ((⟨#[109]⟩ : ByteArray) ++ o = mtxt n) := by
          rw [Hid, E.out]
          apply bs_ext
          rw [bs_app, he.out, digs_zero]
          rfl
        clear he E
        go_wp2
        rw [E2.out]
        go_ret
        exact ⟨rfl, hb⟩
end Go.Proofs.YtcgkcfmiabninaaGreatDoor
