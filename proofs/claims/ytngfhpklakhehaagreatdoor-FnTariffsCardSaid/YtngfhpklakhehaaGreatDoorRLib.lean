/-
  Numbers read by the program; the library's cutting of texts. No condition but what lies laid.
-/
import Derived.Test.YtngfhpklakhehaaGreatDoorRLay
import Derived.Test.YtngfhpklakhehaaGreatDoorRNum
import Derived.Lib.ParseIntBTie
import Derived.Lib.AtoiErrMem
namespace Go.Proofs.YtngfhpklakhehaaGreatDoor
open Go.RowKit
set_option maxHeartbeats 400000

/-- what the library's variables hold -/
structure LibW (w : World) : Prop where
  tab : TabW w
  max : ∃ m, w.cell? ⟨0, 0, none⟩ = some (.int .i64 m)
  syn : ∃ te pe, w.cell? ⟨2, 0, none⟩ = some (.iface te pe)
  rng : ∃ te pe, w.cell? ⟨3, 0, none⟩ = some (.iface te pe)
theorem LibW.below {w w' : World} (h : LibW w) (hb : Below w.heap.size w w') : LibW w' := by
  obtain ⟨t, ⟨m, hm⟩, ⟨a, b, hs⟩, c, d, hr⟩ := h
  exact ⟨t.below hb, ⟨m, below_cell hm hb⟩, ⟨a, b, below_cell hs hb⟩, c, d, below_cell hr hb⟩
theorem trim_dash (l : List UInt8) : Lib.trimPrefix l [45] = undash l := by
  unfold Lib.trimPrefix undash Lib.hasPrefix
  cases l with
  | nil => rfl
  | cons c r =>
    by_cases h : c = 45
    · subst h; simp [List.isPrefixOf]
    · have : ¬ (45 : UInt8) = c := fun e => h e.symm
      simp [List.isPrefixOf, h, this]
theorem ba_size (l : List UInt8) : (⟨l.toArray⟩ : ByteArray).size = l.length := by simp [ByteArray.size]
theorem trim_le (l p : List UInt8) : (Lib.trimPrefix l p).length ≤ l.length := by unfold Lib.trimPrefix; split <;> simp
theorem cut_le (l p : List UInt8) : (Lib.cut l p).1.length ≤ l.length ∧ (Lib.cut l p).2.1.length ≤ l.length := by
  unfold Lib.cut; split <;> simp <;> omega
theorem splitK_le (sep : List UInt8) : ∀ (k : Nat) (s : List UInt8), ∀ z ∈ Lib.splitK sep 0 k s, z.length ≤ s.length := by
  intro k
  induction k with
  | zero => intro s z hz; simp only [Lib.splitK, List.mem_singleton] at hz; subst hz; omega
  | succ k ih =>
    intro s z hz
    rw [Lib.splitK] at hz
    split at hz
    · obtain rfl := List.mem_singleton.1 hz; omega
    · rcases List.mem_cons.1 hz with rfl | hz
      · simp; omega
      · have := ih _ z hz
        simp only [List.length_drop] at this
        omega
theorem trim_any (s p : ByteArray) (w : World) : Calls Tryz.prog 43 #[.string s, .string p] w fun e w' => e = .returned (.string ⟨(Lib.trimPrefix s.data.toList p.data.toList).toArray⟩) ∧ w' = w := Any.strings_TrimPrefix Tryz.lays101 s p w
theorem cut_any (s p : ByteArray) (w : World) (hs : s.size ≤ 1048576) (L : LibW w) : Calls Tryz.prog 41 #[.string s, .string p] w fun e w' =>
    e = .returned (.tuple #[.string ⟨(Lib.cut s.data.toList p.data.toList).1.toArray⟩, .string ⟨(Lib.cut s.data.toList p.data.toList).2.1.toArray⟩, .bool (Lib.cut s.data.toList p.data.toList).2.2]) ∧ Below w.heap.size w w' := by
  obtain ⟨m, hm⟩ := L.max
  have := Any.strings_Cut { Tryz.laysM145 with } s p m w (by omega) hm
  refine this.mono ?_
  rintro e w' ⟨he, n, rfl⟩
  exact ⟨he, below_drewN (Below.refl _ _) n⟩
/-- the parts of a text, at most 11, as the library lays them -/
theorem splitN_any (s : ByteArray) (w : World) (hs : s.size ≤ 1048576) (L : LibW w) : Calls Tryz.prog 40 #[.string s, .string ⟨#[32]⟩, .int .i64 11] w fun e w' =>
    ∃ (g c : Nat) (xs : List ByteArray), e = .returned (.slice (some ⟨g, 0, none⟩) xs.length c) ∧ xs.length ≤ c ∧ c ≤ 1048577 ∧ bytesL xs = Lib.splitK [32] 0 (min 11 (s.data.toList.length + 1) - 1) s.data.toList ∧ Hid (Sl w' w'.heap.size 1 encS (some ⟨g, 0, none⟩) xs.length xs) ∧ Below w.heap.size w w' := by
  obtain ⟨m, hm⟩ := L.max
  have h := Any.strings_SplitN { Tryz.laysM147 with } Tryz.laysM147.i9 s ⟨#[32]⟩ 11 m w (by omega) hm (by decide) (by omega) (by omega)
  refine h.mono ?_
  rintro e w' ⟨he, rfl⟩
  have hl := Lib.splitB_length_le ⟨#[32]⟩ 0 (min 11 (s.size + 1) - 1) s
  refine ⟨w.heap.size, min 11 (s.size + 1), Lib.splitB ⟨#[32]⟩ 0 (min 11 (s.size + 1) - 1) s, he, by omega, by omega, ?_, ?_, (Below.refl _ _).alloc (Nat.le_refl _) _⟩
  · rw [bytesL, Lib.splitB_data, bs_len]
  · refine ⟨rfl, fun i x hx => ⟨w.heap.size, 0, rfl, by simp, fun j u hj => ?_⟩⟩
    have hi := (List.getElem?_eq_some_iff.1 hx).1
    cases j with
    | succ j => simp [encS] at hj
    | zero =>
      simp only [encS, List.getElem?_cons_zero, Option.some.injEq] at hj
      subst hj
      refine (World.cell?_alloc_at _ _ _ _ rfl).trans ?_
      simp only [Lib.cellsOf, Nat.zero_add, Nat.mul_one, Nat.add_zero, List.getElem?_toArray]
      rw [List.getElem?_append_left (by simpa using hi), List.getElem?_map, hx]
      rfl
theorem parse_ok (s : ByteArray) (v : Int) (w : World) (hs : s.size ≤ 1048576) (h : Lib.parseIntB 64 s.data.toList = .ok v) :
    Calls Tryz.prog 63 #[.string s, .int .i64 10, .int .i64 64] w fun e w' => e = .returned (.tuple #[.int .i64 v, .nilIface]) ∧ Below w.heap.size w w' := by
  refine (Any.strconv_ParseInt_10_at64_ok Tryz.laysC174 s (by omega) v h w).mono ?_
  rintro e w' ⟨he, h⟩
  refine ⟨he, ?_⟩
  rcases h with rfl | ⟨t, rfl⟩
  · exact Below.refl _ _
  · exact Lib.bytesWorld_below w _ t
theorem parse_no (s : ByteArray) (w : World) (hs : s.size ≤ 1048576) (L : LibW w) (h : ∀ v, Lib.parseIntB 64 s.data.toList ≠ .ok v) :
    Calls Tryz.prog 63 #[.string s, .int .i64 10, .int .i64 64] w fun e w' => ∃ v T N, e = .returned (.tuple #[.int .i64 v, .iface T (.pointer (some ⟨N, 0, none⟩))]) ∧ Below w.heap.size w w' := by
  rcases hp : Lib.parseIntB 64 s.data.toList with v | _ | _
  · exact absurd hp (h v)
  · obtain ⟨te, pe, hc⟩ := L.syn
    refine (Any.strconv_ParseInt_10_at64_syntax Tryz.laysC174 s (by omega) hp _ w hc (.inr ⟨te, pe, rfl⟩)).mono ?_
    rintro e w' ⟨N, he, _, _, hb⟩
    exact ⟨_, _, N, he, hb⟩
  · obtain ⟨te, pe, hc⟩ := L.rng
    refine (Any.strconv_ParseInt_10_at64_range Tryz.laysC174 s (by omega) hp _ w hc (.inr ⟨te, pe, rfl⟩)).mono ?_
    rintro e w' ⟨N, he, _, _, hb⟩
    exact ⟨_, _, N, he, hb⟩
set_option maxHeartbeats 2000000 in
theorem ReadDecimalI_any (s : ByteArray) (w : World) (hs : s.size ≤ 1048576) (L : LibW w) : Calls Tryz.prog 42 #[.string s] w (NumP w (rdI s.data.toList)) := by
  by_cases h19 : 19 < s.size
  · have E : Hid (rdI s.data.toList = none) := by rw [Hid, rdI, if_pos (.inl (by rw [bs_len]; exact h19))]
    go_enter Tryz.func42, Tryz.ntmps42
    go_wp2_with fail
    go_ret2
    exact NumP.no E.out (Below.refl _ _)
  · have ct := trim_any s ⟨#[45]⟩ w
    rw [show (⟨#[45]⟩ : ByteArray).data.toList = [45] from rfl, trim_dash] at ct
    obtain ⟨D, hD⟩ : ∃ D : ByteArray, D = ⟨(undash s.data.toList).toArray⟩ := ⟨_, rfl⟩
    rw [← hD] at ct
    have hDz : D.size = (undash s.data.toList).length := by rw [hD, ba_size]
    have n19 : ¬ 19 < s.size := h19
    by_cases h18 : 18 < D.size
    · have E : Hid (rdI s.data.toList = none) := by rw [Hid, rdI, if_pos (.inr (by rw [← hDz]; exact h18))]
      clear hD hDz
      go_enter Tryz.func42, Tryz.ntmps42
      go_wp2_with (go_at_call 43; refine ct.mono ?_; rintro r w1 ⟨rfl, e⟩; replace e := e.symm; subst e)
      go_ret2
      exact NumP.no E.out (Below.refl _ _)
    · have RD : Hid (rdI s.data.toList = match Lib.parseIntB 64 s.data.toList with | .ok v => if Lib.itoa v = s.data.toList then some v else none | _ => none) := by
        rw [Hid, rdI, if_neg (by rw [bs_len, ← hDz]; omega)]
        rfl
      have n18 : ¬ 18 < D.size := h18
      clear hD hDz h18
      by_cases hp : ∃ v, Lib.parseIntB 64 s.data.toList = .ok v
      · obtain ⟨v, hv⟩ := hp
        have bd := Lib.parseIntB_bounds hv
        have b0 : -9223372036854775808 ≤ v := by have := bd.1; simp at this; omega
        have b1 : v ≤ 9223372036854775807 := by have := bd.2; simp at this; omega
        have cp := parse_ok s v w hs hv
        obtain ⟨X, hX⟩ : ∃ X : ByteArray, X = ⟨(Lib.itoa v).toArray⟩ := ⟨_, rfl⟩
        have ev : itoaV v = .string X := by rw [hX]; rfl
        have cd := fun W (h : TabW W) => Decimal_any v W b0 b1 h
        rw [ev] at cd
        have HL := hid L
        have e3 : rdI s.data.toList = if Lib.itoa v = s.data.toList then some v else none := by rw [RD.out, hv]
        by_cases hq : Lib.itoa v = s.data.toList
        · have E : Hid (rdI s.data.toList = some v) := by rw [Hid, e3, if_pos hq]
          have q1 : (X.toList == s.toList) = true := bs_in (by rw [hX]; exact ba_eq hq)
          clear RD hv bd e3 hq hX ev L
          go_enter Tryz.func42, Tryz.ntmps42
          go_wp2_with (first
            | (go_at_call 43; refine ct.mono ?_; rintro r w1 ⟨rfl, e⟩; replace e := e.symm; subst e)
            | (go_at_call 63; refine cp.mono ?_; rintro r w2 ⟨rfl, b2⟩)
            | (go_at_call 39; refine (cd _ (HL.out.below b2).tab).mono ?_; rintro r w3 ⟨rfl, b3⟩))
          go_ret2
          exact NumP.yes E.out (b2.trans (b3.mono b2.size))
        · have E : Hid (rdI s.data.toList = none) := by rw [Hid, e3, if_neg hq]
          have q1 : (X.toList == s.toList) = false := bs_ne (by rw [hX]; exact ba_ne hq)
          clear RD hv bd e3 hq hX ev L
          go_enter Tryz.func42, Tryz.ntmps42
          go_wp2_with (first
            | (go_at_call 43; refine ct.mono ?_; rintro r w1 ⟨rfl, e⟩; replace e := e.symm; subst e)
            | (go_at_call 63; refine cp.mono ?_; rintro r w2 ⟨rfl, b2⟩)
            | (go_at_call 39; refine (cd _ (HL.out.below b2).tab).mono ?_; rintro r w3 ⟨rfl, b3⟩))
          go_ret2
          exact NumP.no E.out (b2.trans (b3.mono b2.size))
      · have hno : ∀ v, Lib.parseIntB 64 s.data.toList ≠ .ok v := fun v e => hp ⟨v, e⟩
        have cp := parse_no s w hs L hno
        have E : Hid (rdI s.data.toList = none) := by
          rw [Hid, RD.out]
          rcases hh : Lib.parseIntB 64 s.data.toList with v | _ | _
          · exact absurd hh (hno v)
          · rfl
          · rfl
        clear RD hp hno L
        go_enter Tryz.func42, Tryz.ntmps42
        go_wp2_with (first
          | (go_at_call 43; refine ct.mono ?_; rintro r w1 ⟨rfl, e⟩; replace e := e.symm; subst e)
          | (go_at_call 63; refine cp.mono ?_; rintro r w2 ⟨v, T, N, rfl, b2⟩))
        go_ret2
        exact NumP.no E.out b2
theorem ReadDecimal_any (s : ByteArray) (w : World) (hs : s.size ≤ 1048576) (L : LibW w) : Calls Tryz.prog 42 #[.string s] w (NumP w (rdN s.data.toList)) := by
  have := ReadDecimalI_any s w hs L
  rwa [rdI_eq] at this
end Go.Proofs.YtngfhpklakhehaaGreatDoor
