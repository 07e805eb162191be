/-
  RS: texts StrS, RSplP, RSplit, StWay, EqWay, one behind the other. No condition but what each says.
-/
import Derived.Test.YtcgkcfmiabninaaGreatDoorRS02
import Derived.Lib.SplitLaws
import Derived.Lib.IndexLaws
/-
  Lists of strings: sizes, copies, comparisons, marks, alike. No condition.
-/
namespace Go.Proofs.YtcgkcfmiabninaaGreatDoor
open Go.RowKit
set_option maxHeartbeats 400000

theorem str_info : (Tryz.prog.info? 9).map (fun i => (i.zero, i.size, i.bytes)) = some (some (.string ByteArray.empty), 1, 16) := by kernel_rfl
/-- a string in an own row -/
theorem own_str {w : World} {lo T g n c : Nat} {l : List ByteArray} (h : w.ownsRow lo T 1 (.slice (some ⟨g, 0, none⟩) n c) n (l.flatMap encS)) {k : Nat} {z : ByteArray} (hk : l[k]? = some z) : w.cell? ⟨g, k, none⟩ = some (.string z) ∧ w.frozen? ⟨g, k, none⟩ = false := by
  have hl := h.1
  rw [flatMap_len encS_len] at hl
  have hkl := (List.getElem?_eq_some_iff.1 hk).1
  refine ⟨?_, h.frozenAt k⟩
  rw [h.cellAt k (by omega)]
  have := flatMap_get encS_len (j := 0) (u := .string z) l k hk rfl
  simpa using this
/-- two copies of one list are found equal -/
theorem eqStringS_yes (A : Option Addr) (n c : Nat) (A' : Option Addr) (n' c' : Nat) (w : World) (B : Nat) (hB : B ≤ w.heap.size) (xs : List ByteArray) (hn : n ≤ 2000000) (hx : Sl w B 1 encS A n xs) (hy : Sl w B 1 encS A' n' xs) :
    Calls Tryz.prog 31 #[.slice A n c, .slice A' n' c'] w fun e w' => e = .returned (.bool true) ∧ Below w.heap.size w w' := by
  obtain rfl : n = n' := hx.len.symm.trans hy.len
  go_enter Tryz.func31, Tryz.ntmps31
  go_wp2
  go_loopw [5] (fun i w1 => ∃ k : Nat, k ≤ n ∧ i = .int .i64 k ∧ Below w.heap.size w w1) (fun i _ => n - (intOf i).toNat)
  case atStart => exact ⟨0, Nat.zero_le _, rfl, Below.refl _ _⟩
  case round =>
    obtain ⟨k, hk, rfl, hb⟩ := hrel
    by_cases hlt : k < n
    · obtain ⟨x, b, off, Hx, rfl, hbB, c0⟩ := (hx.below (hb.mono hB)).str hlt
      obtain ⟨x', b', off', Hy, rfl, hbB', c0'⟩ := (hy.below (hb.mono hB)).str hlt
      obtain rfl : x = x' := by have := Hx.out.symm.trans Hy.out; simpa using this
      have i0 : (0 : Int) ≤ (k : Int) := by omega
      have i1 : (k : Int) < (n : Int) := by omega
      clear hx hy
      go_wp2
      go_quiet (fail)
      go_wp2
      have hb2 := below_drewN hb nq
      go_roundw
      all_goals first | exact ⟨k + 1, by omega, by go_num, hb2⟩ | exact ⟨⟨k + 1, by omega, by go_num, hb2⟩, by simp [intOf]; omega⟩ | (simp [intOf]; omega)
    · go_wp2
      go_ret
      exact ⟨rfl, hb⟩
/-- the marks of strings -/
def marksS (m : Int) (n : Nat) : List ByteArray := (List.range n).map fun i => mtxt (m + (i : Nat))
theorem marksS_succ (m : Int) (n : Nat) : marksS m (n + 1) = marksS m n ++ [mtxt (m + n)] := by simp [marksS, List.range_succ]
theorem marksS_len (m : Int) (n : Nat) : (marksS m n).length = n := by simp [marksS]
set_option maxHeartbeats 1000000 in
theorem markStringS_any (lo : Nat) (A : Option Addr) (n c : Nat) (l : List Value) (m : Int) (w : World) (hn : n ≤ 2000000) (h0 : 0 ≤ m) (h1 : m ≤ 9000000) (hown : w.ownsRow lo 9 1 (.slice A n c) n l) :
    Calls Tryz.prog 34 #[.slice A n c, .int .i64 m] w fun e w' => e = .returned (.int .i64 (m + n)) ∧ w'.ownsRow lo 9 1 (.slice A n c) n ((marksS m n).flatMap encS) ∧ w.grownBy w' (Value.slice A n c).ownBlock := by
  go_enter Tryz.func34, Tryz.ntmps34
  go_wp2
  go_loopw [1, 5] (fun s i w1 => ∃ k l1, k ≤ n ∧ i = .int .i64 (k : Nat) ∧ s = .int .i64 (m + (k : Nat)) ∧ w1.ownsRow lo 9 1 (.slice A n c) n l1 ∧ Pre l1 ((marksS m k).flatMap encS) ∧ w.grownBy w1 (Value.slice A n c).ownBlock) (fun _ i _ => n - (intOf i).toNat)
  case atStart => exact ⟨0, l, Nat.zero_le _, rfl, by go_num, hown, Pre.nil _, World.grownBy.refl _ _⟩
  case round =>
    obtain ⟨k, l1, hk, rfl, rfl, hown1, hpre, hg⟩ := hrel
    clear hown
    by_cases hlt : k < n
    · obtain ⟨g, rfl, hlo, hgs⟩ := own_some hown1 (by omega)
      have hP : ((marksS m k).flatMap encS).length = k := by rw [flatMap_len encS_len, marksS_len, Nat.mul_one]
      go_wp2_with fail
      refine (markText_any (m + (k : Nat)) _ (by omega) (by omega)).mono ?_
      rintro r v0 ⟨rfl, b0⟩
      have p0 := own_below hown1 b0
      replace hg := hg.trans (Span0 b0 _)
      clear b0
      obtain ⟨⟨u, e0⟩, f0⟩ := own_at p0 (Below.refl _ _) k (by omega)
      have s1 := own_set p0 hpre (j := k) hP.symm (by omega) (.string (mtxt (m + (k : Nat))))
      have e1 : (marksS m k).flatMap encS ++ [.string (mtxt (m + (k : Nat)))] = (marksS m (k + 1)).flatMap encS := by rw [marksS_succ, List.flatMap_append]; rfl
      rw [e1] at s1
      have hg2 := hg.trans (p0.stored k (.string (mtxt (m + (k : Nat))))).2
      clear e1 hP
      go_wp2_with fail
      go_roundw
      all_goals first | exact ⟨k + 1, _, by omega, by go_num, by go_num, s1.1, s1.2, hg2⟩ | exact ⟨⟨k + 1, _, by omega, by go_num, by go_num, s1.1, s1.2, hg2⟩, by simp [intOf]; omega⟩ | (simp [intOf]; omega)
    · have : k = n := by omega
      subst this
      have e := hpre.all (by rw [hown1.1, flatMap_len encS_len, marksS_len])
      subst e
      clear hpre
      go_wp2
      go_ret
      exact ⟨rfl, hown1, hg⟩
set_option maxHeartbeats 1000000 in
theorem heldStringS_any (A : Option Addr) (n c : Nat) (m : Int) (w : World) (B : Nat) (hB : B ≤ w.heap.size) (hn : n ≤ 2000000) (h0 : 0 ≤ m) (h1 : m ≤ 9000000) (hx : Sl w B 1 encS A n (marksS m n)) :
    Calls Tryz.prog 36 #[.slice A n c, .int .i64 m] w fun e w' => e = .returned (.int .i64 (m + n)) ∧ Below w.heap.size w w' := by
  go_enter Tryz.func36, Tryz.ntmps36
  go_wp2
  go_loopw [1, 5] (fun s i w1 => ∃ k : Nat, k ≤ n ∧ i = .int .i64 k ∧ s = .int .i64 (m + k) ∧ Below w.heap.size w w1) (fun _ i _ => n - (intOf i).toNat)
  case atStart => exact ⟨0, Nat.zero_le _, rfl, by go_num, Below.refl _ _⟩
  case round =>
    obtain ⟨k, hk, rfl, rfl, hb⟩ := hrel
    by_cases hlt : k < n
    · obtain ⟨x, b, off, Hx, rfl, hbB, c0⟩ := (hx.below (hb.mono hB)).str hlt
      obtain rfl : x = mtxt (m + k) := by
        have := Hx.out
        simp only [marksS, List.getElem?_map, List.getElem?_range hlt, Option.map_some, Option.some.injEq] at this
        exact this.symm
      have i0 : (0 : Int) ≤ (k : Int) := by omega
      have i1 : (k : Int) < (n : Int) := by omega
      clear hx
      have hm := fun W => markText_any (m + (k : Nat)) W (by omega) (by omega)
      generalize mtxt (m + (k : Nat)) = t at hm c0
      have q0 : ∀ i : After wr, i.w.cell? ⟨b, off + k, none⟩ = some (.string t) := After.cell c0
      go_wp2_with fail
      refine wp_after (by kernel_rfl) (by kernel_rfl) ?_
      repeat (first | go_big_quiet_skip | (go_big_quiet_want; go_big_quiet_op; first | go_big_quiet_on | go_big_quiet_call ((go_at_call 66; exact Calls.after (hm _)))))
      refine wpQuiet_nil ?_
      rintro _ ⟨i, rfl⟩
      replace hb := hb.trans (i.below.mono hb.size)
      go_wp2_with fail
      go_roundw
      all_goals first | exact ⟨k + 1, by omega, by go_num, by go_num, hb⟩ | exact ⟨⟨k + 1, by omega, by go_num, by go_num, hb⟩, by simp [intOf]; omega⟩ | (simp [intOf]; omega)
    · have : k = n := by omega
      subst this
      go_wp2
      go_ret
      exact ⟨rfl, hb⟩
theorem firstS {x y : ByteArray} {xs ys : List ByteArray} : (x :: xs = y :: ys) = (x = y ∧ xs = ys) := by simp
set_option maxHeartbeats 1000000 in
theorem equalS_any (A : Option Addr) (n c : Nat) (A' : Option Addr) (n' c' : Nat) (xs ys : List ByteArray) (w : World) (B : Nat) (hB : B ≤ w.heap.size) (hn : n ≤ 2000000) (hn' : n' ≤ 2000000) (hx : Sl w B 1 encS A n xs) (hy : Sl w B 1 encS A' n' ys) :
    Calls Tryz.prog 49 #[.slice A n c, .slice A' n' c'] w fun r w' => r = .returned (.bool (decide (xs = ys))) ∧ Below w.heap.size w w' := by
  have hxl := hx.len
  have hyl := hy.len
  by_cases hnn : n = n'
  · subst hnn
    go_enter Tryz.func49, Tryz.ntmps49
    go_wp2
    go_loopw [13] (fun i w1 => ∃ k : Nat, k ≤ n ∧ i = .int .i64 k ∧ Hid ((xs = ys) = (xs.drop k = ys.drop k)) ∧ Below w.heap.size w w1) (fun i _ => n - (intOf i).toNat)
    case atStart => exact ⟨0, Nat.zero_le _, rfl, hid rfl, Below.refl _ _⟩
    case round =>
      obtain ⟨k, hk, rfl, he, hb⟩ := hrel
      by_cases hlt : k < n
      · obtain ⟨x, b, off, Hx, rfl, hbB, c0⟩ := (hx.below (hb.mono hB)).str hlt
        obtain ⟨y, b', off', Hy, rfl, hbB', d0⟩ := (hy.below (hb.mono hB)).str hlt
        have he2 := he.out
        rw [drop_at Hx.out, drop_at Hy.out, firstS] at he2
        have lb : b < wr.heap.size := by have := hb.size; omega
        have lb' : b' < wr.heap.size := by have := hb.size; omega
        clear he hx hy Hx Hy
        by_cases q : x = y
        · have He2 : Hid ((xs = ys) = (xs.drop (k + 1) = ys.drop (k + 1))) := by rw [he2]; simp [Hid, q]
          subst q
          clear he2
          go_wp2
          go_quiet (fail)
          go_wp2
          have hb5 := below_drewN hb nq
          go_roundw
          all_goals first | exact ⟨k + 1, by omega, by go_num, He2, hb5⟩ | exact ⟨⟨k + 1, by omega, by go_num, He2, hb5⟩, by simp [intOf]; omega⟩ | (simp [intOf]; omega)
        · have E : Hid (decide (xs = ys) = false) := by rw [Hid, decide_eq_false_iff_not, he2]; exact fun h => q h.1
          have z0 := bs_ne q
          clear he2 q
          go_wp2
          go_quiet (fail)
          go_wp2
          go_ret
          exact ⟨retB E.out.symm, below_drewN hb nq⟩
      · have : k = n := by omega
        subst this
        have E : Hid (decide (xs = ys) = true) := by
          have he2 := he.out
          rw [List.drop_of_length_le (by omega), List.drop_of_length_le (by omega)] at he2
          rw [Hid, decide_eq_true_iff, he2]
        clear he
        go_wp2
        go_ret
        exact ⟨retB E.out.symm, hb⟩
  · have E : Hid (decide (xs = ys) = false) := by
      rw [Hid, decide_eq_false_iff_not]; intro h; subst h; exact hnn (hxl.symm.trans hyl)
    clear hx hy
    go_enter Tryz.func49, Tryz.ntmps49
    go_wp2
    go_ret
    exact ⟨retB E.out.symm, Below.refl _ _⟩
end Go.Proofs.YtcgkcfmiabninaaGreatDoor
/-
  Texts cut at a byte, and joined again. No condition.
-/
namespace Go.Proofs.YtcgkcfmiabninaaGreatDoor
open Go.Lib

/-- the parts of a text between bytes b -/
def spl (b : UInt8) : List UInt8 → List (List UInt8)
  | [] => [[]]
  | c :: r => if c = b then [] :: spl b r else match spl b r with | [] => [[c]] | h :: t => (c :: h) :: t
/-- parts with a byte between them -/
def joinB (b : UInt8) : List (List UInt8) → List UInt8
  | [] => []
  | w :: r => match r with | [] => w | _ :: _ => w ++ b :: joinB b r
theorem joinB_one (b : UInt8) (w : List UInt8) : joinB b [w] = w := rfl
theorem joinB_cons (b : UInt8) (w : List UInt8) {r : List (List UInt8)} (h : r ≠ []) : joinB b (w :: r) = w ++ b :: joinB b r := by
  cases r with
  | nil => exact absurd rfl h
  | cons x y => rfl
theorem spl_ne (b : UInt8) (l : List UInt8) : spl b l ≠ [] := by
  cases l with
  | nil => simp [spl]
  | cons c r =>
    simp only [spl]
    split
    · simp
    · split <;> simp
theorem join_spl (b : UInt8) : ∀ l : List UInt8, joinB b (spl b l) = l := by
  intro l
  induction l with
  | nil => rfl
  | cons c r ih =>
    simp only [spl]
    split
    · rename_i h
      rw [joinB_cons b [] (spl_ne b r), ih, h]; rfl
    · cases hs : spl b r with
      | nil => exact absurd hs (spl_ne b r)
      | cons h t =>
        rw [hs] at ih
        simp only
        cases t with
        | nil => rw [joinB_one] at ih ⊢; rw [ih]
        | cons x y =>
          rw [joinB_cons b _ (by simp)] at ih ⊢
          rw [List.cons_append, ih]
theorem spl_plain {b : UInt8} : ∀ {w : List UInt8}, b ∉ w → spl b w = [w] := by
  intro w
  induction w with
  | nil => intro _; rfl
  | cons c r ih =>
    intro h
    simp only [List.mem_cons, not_or] at h
    simp only [spl]
    rw [if_neg (fun e => h.1 e.symm), ih h.2]
theorem spl_cut {b : UInt8} : ∀ {w : List UInt8} (r : List UInt8), b ∉ w → spl b (w ++ b :: r) = w :: spl b r := by
  intro w
  induction w with
  | nil => intro r _; simp [spl]
  | cons c q ih =>
    intro r h
    simp only [List.mem_cons, not_or] at h
    rw [List.cons_append]
    simp only [spl]
    rw [if_neg (fun e => h.1 e.symm), ih r h.2]
theorem spl_join {b : UInt8} : ∀ {ws : List (List UInt8)}, ws ≠ [] → (∀ w ∈ ws, b ∉ w) → spl b (joinB b ws) = ws := by
  intro ws
  induction ws with
  | nil => intro h; exact absurd rfl h
  | cons w r ih =>
    intro _ h
    have hw := h w (by simp)
    cases r with
    | nil => rw [joinB_one, spl_plain hw]
    | cons x y => rw [joinB_cons b w (by simp), spl_cut _ hw, ih (by simp) (fun z hz => h z (by simp [hz]))]
theorem spl_mem (b : UInt8) : ∀ (l : List UInt8), ∀ w ∈ spl b l, b ∉ w := by
  intro l
  induction l with
  | nil => intro w hw; simp only [spl, List.mem_singleton] at hw; subst hw; simp
  | cons c r ih =>
    intro w hw
    simp only [spl] at hw
    split at hw
    · rcases List.mem_cons.1 hw with rfl | hw
      · simp
      · exact ih w hw
    · rename_i hc
      cases hs : spl b r with
      | nil => exact absurd hs (spl_ne b r)
      | cons h t =>
        rw [hs] at hw ih
        simp only at hw
        rcases List.mem_cons.1 hw with rfl | hw
        · have := ih h (by simp)
          simp only [List.mem_cons, not_or]
          exact ⟨fun e => hc e.symm, this⟩
        · exact ih w (by simp [hw])
theorem spl_length (b : UInt8) : ∀ l : List UInt8, (spl b l).length = l.count b + 1 := by
  intro l
  induction l with
  | nil => rfl
  | cons c r ih =>
    simp only [spl]
    split
    · rename_i h
      rw [List.length_cons, ih, h, List.count_cons_self]
    · rename_i h
      rw [List.count_cons_of_ne h]
      cases hs : spl b r with
      | nil => exact absurd hs (spl_ne b r)
      | cons h t => rw [hs] at ih; simpa using ih
/-- what is left of the parts behind the first -/
theorem spl_drop (b : UInt8) (l : List UInt8) : spl b l = match spl b l with | [] => [] | h :: t => h :: t := by cases spl b l <;> rfl

theorem index_plain {b : UInt8} : ∀ {w : List UInt8}, b ∉ w → index w [b] = -1 := by
  intro w h
  rw [index_one]
  induction w with
  | nil => rfl
  | cons c r ih =>
    simp only [List.mem_cons, not_or] at h
    have h2 : (c == b) = false := by simp only [beq_eq_false_iff_ne, ne_eq]; exact fun e => h.1 e.symm
    have := ih h.2
    simp only [indexByte, h2, this]
    rfl
theorem index_mid {b : UInt8} (r : List UInt8) : ∀ {w : List UInt8}, b ∉ w → index (w ++ b :: r) [b] = w.length := by
  intro w h
  refine index_first (by simp) ?_ ?_
  · simp [occAt]
  · intro j hj
    have hx : w[j]? = some w[j] := List.getElem?_eq_getElem hj
    have hd : (w ++ b :: r).drop j = w[j] :: (w ++ b :: r).drop (j + 1) := by
      rw [List.drop_eq_getElem_cons (by simp; omega), List.getElem_append_left hj]
    rw [occAt, hd]
    simp only [List.isPrefixOf, Bool.and_true, beq_eq_false_iff_ne, ne_eq]
    intro e
    exact h (by rw [e]; exact List.getElem_mem hj)
/-- the kit's way of cutting agrees, where there is room for all parts -/
theorem splitK_join {b : UInt8} : ∀ {ws : List (List UInt8)} {k : Nat}, ws ≠ [] → (∀ w ∈ ws, b ∉ w) → ws.length ≤ k + 1 → splitK [b] 0 k (joinB b ws) = ws := by
  intro ws
  induction ws with
  | nil => intro k h; exact absurd rfl h
  | cons w r ih =>
    intro k _ h hk
    have hw := h w (by simp)
    cases r with
    | nil =>
      rw [joinB_one]
      cases k with
      | zero => rfl
      | succ k => rw [splitK, index_plain hw]; rfl
    | cons x y =>
      simp only [List.length_cons] at hk
      obtain ⟨k, rfl⟩ : ∃ j, k = j + 1 := ⟨k - 1, by omega⟩
      rw [joinB_cons b w (by simp), splitK, index_mid _ hw]
      have hne : ¬ (((w.length : Nat) : Int) == -1) = true := by rw [beq_iff_eq]; omega
      rw [if_neg hne]
      have e1 : (((w.length : Nat) : Int)).toNat = w.length := by omega
      have e2 : (w ++ b :: joinB b (x :: y)).take (w.length + 0) = w := by simp
      have e3 : (w ++ b :: joinB b (x :: y)).drop (w.length + [b].length) = joinB b (x :: y) := by
        rw [show [b].length = 1 from rfl, List.drop_append]
        simp
      rw [e1, e2, e3, ih (by simp) (fun z hz => h z (by simp [hz])) (by simpa using hk)]
theorem joinB_len (b : UInt8) : ∀ ws : List (List UInt8), ws.length ≤ (joinB b ws).length + 1 := by
  intro ws
  induction ws with
  | nil => simp
  | cons w r ih =>
    cases r with
    | nil => simp [joinB_one]
    | cons x y => rw [joinB_cons b w (by simp)]; simp only [List.length_cons, List.length_append] at ih ⊢; omega
end Go.Proofs.YtcgkcfmiabninaaGreatDoor
/-
  A text cut at a byte: the reference's loop. No condition.
-/
namespace Go.Proofs.YtcgkcfmiabninaaGreatDoor
open Go.RowKit
set_option maxHeartbeats 400000

/-- the bytes of some texts -/
def bytesL (xs : List ByteArray) : List (List UInt8) := xs.map fun z => z.data.toList
theorem ext_data (s : ByteArray) (a b : Nat) : (s.extract a b).data.toList = (s.data.toList.drop a).take (b - a) := Lib.extract_data s a b
theorem ext_end (s : ByteArray) (a : Nat) : (s.extract a s.size).data.toList = s.data.toList.drop a := Lib.extract_to_end s a
theorem bs_get {s : ByteArray} {k : Nat} (h : k < s.size) : s.data.toList[k]? = some s[k] := by
  rw [List.getElem?_eq_getElem (by simpa using h)]; rfl
theorem bs_len (s : ByteArray) : s.data.toList.length = s.size := by simp
/-- a piece that ends at the byte -/
theorem spl_piece {s : ByteArray} {b : UInt8} {f k : Nat} (hfk : f ≤ k) (hk : k < s.size) (hb : s[k] = b) (hno : ∀ j, f ≤ j → j < k → s.data.toList[j]? ≠ some b) :
    spl b (s.data.toList.drop f) = (s.extract f k).data.toList :: spl b (s.data.toList.drop (k + 1)) := by
  have h1 : s.data.toList.drop f = (s.extract f k).data.toList ++ b :: s.data.toList.drop (k + 1) := by
    rw [ext_data]
    conv => lhs; rw [← List.take_append_drop (k - f) (s.data.toList.drop f)]
    rw [List.drop_drop, show f + (k - f) = k by omega, drop_at (bs_get hk), hb]
  have h2 : b ∉ (s.extract f k).data.toList := fun hm => by
    rw [ext_data] at hm
    obtain ⟨j, hj⟩ := List.mem_iff_getElem?.1 hm
    rw [List.getElem?_take] at hj
    split at hj
    · rw [List.getElem?_drop] at hj
      exact hno (f + j) (by omega) (by omega) hj
    · cases hj
  rw [h1, spl_cut _ h2]
theorem spl_last {s : ByteArray} {b : UInt8} {f : Nat} (hno : ∀ j, f ≤ j → j < s.size → s.data.toList[j]? ≠ some b) : spl b (s.data.toList.drop f) = [(s.extract f s.size).data.toList] := by
  have h2 : b ∉ s.data.toList.drop f := fun hm => by
    obtain ⟨j, hj⟩ := List.mem_iff_getElem?.1 hm
    rw [List.getElem?_drop] at hj
    have := (List.getElem?_eq_some_iff.1 hj).1
    rw [bs_len] at this
    exact hno (f + j) (by omega) (by omega) hj
  rw [spl_plain h2, ext_end]
theorem snocZ (l : List ByteArray) (x : ByteArray) : l.flatMap encS ++ [.string x] = (l ++ [x]).flatMap encS := by simp [encS]
theorem bytesL_snoc (l : List ByteArray) (x : ByteArray) : bytesL (l ++ [x]) = bytesL l ++ [x.data.toList] := by simp [bytesL]
/-- the parts of a text in a list of one's own -/
def PartsP (w : World) (ws : List (List UInt8)) (r : Ending) (w' : World) : Prop :=
  ∃ (g c : Nat) (xs : List ByteArray), r = .returned (.slice (some ⟨g, 0, none⟩) xs.length c) ∧ bytesL xs = ws ∧ w'.ownsRow w.heap.size 9 1 (.slice (some ⟨g, 0, none⟩) xs.length c) xs.length (xs.flatMap encS) ∧ Below w.heap.size w w'
set_option maxHeartbeats 4000000 in
set_option maxRecDepth 100000 in
theorem l01Split_any (s : ByteArray) (b : UInt8) (w : World) (hs : s.size ≤ 1048576) :
    Calls Tryz.prog 27 #[.string s, .int .u8 (b.toNat : Int)] w (PartsP w (spl b s.data.toList)) := by
  obtain ⟨i0, hi, hz0, hz1, hz2⟩ := info_parts str_info
  have o0 := World.ownsRow_lit (base := w.heap.size) (e := 9) (size := 1) w #[] 0 (Nat.le_refl _) (by simp [maxLen]) (by simp)
  have O0 := hid o0
  clear o0
  go_enter Tryz.func27, Tryz.ntmps27
  go_wp2_with fail
  go_loopw [5, 6, 7] (fun vo vf vi wl => ∃ (g c f k : Nat) (xs : List ByteArray), k ≤ s.size ∧ f ≤ k ∧ xs.length ≤ k ∧ vo = .slice (some ⟨g, 0, none⟩) xs.length c ∧ vf = .int .i64 (f : Nat) ∧ vi = .int .i64 (k : Nat) ∧ Hid (spl b s.data.toList = bytesL xs ++ spl b (s.data.toList.drop f)) ∧ Hid (∀ j, f ≤ j → j < k → s.data.toList[j]? ≠ some b) ∧ Hid (wl.ownsRow w.heap.size 9 1 (.slice (some ⟨g, 0, none⟩) xs.length c) xs.length (xs.flatMap encS)) ∧ Below w.heap.size w wl) (fun _ _ i _ => s.size - (intOf i).toNat)
  case atStart => exact ⟨_, _, 0, 0, [], by omega, by omega, by simp, rfl, rfl, rfl, hid (by simp [bytesL]), hid (fun j h1 h2 => by omega), O0, (Below.refl _ _).alloc (Nat.le_refl _) _⟩
  case round =>
    clear O0
    obtain ⟨g, c, f, k, xs, hk, hfk, hxk, rfl, rfl, rfl, hE, hN, hO, hb⟩ := hrel
    have hbs := hb.size
    have hlo := hO.out.lt
    by_cases hlt : k < s.size
    · by_cases hc : s[k] = b
      · have e1 : (((s[k].toNat : Nat) : Int) == ((b.toNat : Nat) : Int)) = true := by rw [hc]; simp
        have E2 : Hid (spl b s.data.toList = bytesL (xs ++ [s.extract f k]) ++ spl b (s.data.toList.drop (k + 1))) := by
          rw [Hid, hE.out, spl_piece hfk hlt hc hN.out, bytesL_snoc]; simp
        have N2 : Hid (∀ j, k + 1 ≤ j → j < k + 1 → s.data.toList[j]? ≠ some b) := fun j h1 h2 => by omega
        have hlen : (xs ++ [s.extract f k]).length = xs.length + 1 := by simp
        have HL := hid hlen
        have f1 : (f : Int) ≤ (k : Int) := by omega
        have f2 : (k : Int) ≤ (s.size : Int) := by omega
        clear hE hN hc hlen
        go_wp2_with (at_builtin; refine wpList_append_lies _ rfl _ _ 22 rfl w.heap.size 9 i0 (.string ByteArray.empty) 1 16 Tryz.underlying22 hi hz0 hz1 hz2 rfl (by omega) (.slice (some ⟨g, 0, none⟩) xs.length c) xs.length (xs.flatMap encS) rfl (hO.out.alloc _) ⟨wr.heap.size, 0, none⟩ 1 1 [.string (s.extract f k)] rfl rfl (World.news_of_block (cs := #[.string (s.extract f k)]) (t := 9) (fr := (0, 0)) (heap_alloc_new _ _)) (by simp [Value.oneCell']) (by omega) (by simp only [maxLen]; omega) (by omega) (by simp; omega) (wr.heap.size + 1) (by simp) ?_; intro gg cap w3 ho3 hg3 hat3 hlt3)
        rw [snocZ] at ho3
        have O3 : Hid (w3.ownsRow w.heap.size 9 1 (.slice (some ⟨gg, 0, none⟩) (xs ++ [s.extract f k]).length cap) (xs ++ [s.extract f k]).length ((xs ++ [s.extract f k]).flatMap encS)) := by rw [HL.out]; exact hid ho3
        have b3 : Below w.heap.size w w3 := (hb.alloc hbs _).grown hg3 (by simp; omega) (fun q hq => (hlo q hq).1)
        clear hO ho3 hg3 hat3 hlo hlt3
        go_roundw
        all_goals first | exact ⟨_, _, k + 1, k + 1, xs ++ [s.extract f k], by omega, by omega, by rw [HL.out]; omega, by rw [HL.out], by go_num, by go_num, E2, N2, O3, b3⟩ | exact ⟨⟨_, _, k + 1, k + 1, xs ++ [s.extract f k], by omega, by omega, by rw [HL.out]; omega, by rw [HL.out], by go_num, by go_num, E2, N2, O3, b3⟩, by simp [intOf]; omega⟩ | (simp [intOf]; omega)
      · have e1 : (((s[k].toNat : Nat) : Int) == ((b.toNat : Nat) : Int)) = false := by
          rw [beq_eq_false_iff_ne]
          intro e
          exact hc (UInt8.toNat_inj.1 (by omega))
        have N2 : Hid (∀ j, f ≤ j → j < k + 1 → s.data.toList[j]? ≠ some b) := fun j h1 h2 => by
          rcases Nat.lt_or_ge j k with h3 | h3
          · exact hN.out j h1 h3
          · obtain rfl : j = k := by omega
            rw [bs_get hlt]
            exact fun e => hc (Option.some.inj e)
        clear hc hN
        go_wp2_with fail
        go_roundw
        all_goals first | exact ⟨_, _, f, k + 1, xs, by omega, by omega, by omega, rfl, rfl, by go_num, hE, N2, hO, hb⟩ | exact ⟨⟨_, _, f, k + 1, xs, by omega, by omega, by omega, rfl, rfl, by go_num, hE, N2, hO, hb⟩, by simp [intOf]; omega⟩ | (simp [intOf]; omega)
    · obtain rfl : k = s.size := by omega
      have E2 : Hid (spl b s.data.toList = bytesL (xs ++ [s.extract f s.size])) := by
        rw [Hid, hE.out, spl_last hN.out, bytesL_snoc]
      have hlen : (xs ++ [s.extract f s.size]).length = xs.length + 1 := by simp
      have HL := hid hlen
      have f1 : (f : Int) ≤ (s.size : Int) := by omega
      clear hE hN hlen
      go_wp2_with (at_builtin; refine wpList_append_lies _ rfl _ _ 22 rfl w.heap.size 9 i0 (.string ByteArray.empty) 1 16 Tryz.underlying22 hi hz0 hz1 hz2 rfl (by omega) (.slice (some ⟨g, 0, none⟩) xs.length c) xs.length (xs.flatMap encS) rfl (hO.out.alloc _) ⟨wr.heap.size, 0, none⟩ 1 1 [.string (s.extract f s.size)] rfl rfl (World.news_of_block (cs := #[.string (s.extract f s.size)]) (t := 9) (fr := (0, 0)) (heap_alloc_new _ _)) (by simp [Value.oneCell']) (by omega) (by simp only [maxLen]; omega) (by omega) (by simp; omega) (wr.heap.size + 1) (by simp) ?_; intro gg cap w3 ho3 hg3 hat3 hlt3)
      rw [snocZ] at ho3
      have O3 : Hid (w3.ownsRow w.heap.size 9 1 (.slice (some ⟨gg, 0, none⟩) (xs ++ [s.extract f s.size]).length cap) (xs ++ [s.extract f s.size]).length ((xs ++ [s.extract f s.size]).flatMap encS)) := by rw [HL.out]; exact hid ho3
      have b3 : Below w.heap.size w w3 := (hb.alloc hbs _).grown hg3 (by simp; omega) (fun q hq => (hlo q hq).1)
      clear hO ho3 hg3 hat3 hlo hlt3
      go_wp2_with fail
      go_ret
      exact ⟨gg, cap, xs ++ [s.extract f s.size], (by rw [HL.out]; rfl), E2.out.symm, O3.out, b3⟩
end Go.Proofs.YtcgkcfmiabninaaGreatDoor
/-
  Way: a struct of numbers: how a slice of it reads; its copies, comparisons and marks. No condition.
-/
namespace Go.Proofs.YtcgkcfmiabninaaGreatDoor
open Go.RowKit Go.ChangeShapes Go.WideShapes Go.ChangeAt Go.Deep
set_option maxHeartbeats 400000

structure Way where
  fr : ByteArray
  «to» : ByteArray
  metres : Int
  deriving DecidableEq
def encWay (x : Way) : List Value := [.string x.fr, .string x.«to», .int .i64 x.metres]
theorem encWay_len (x : Way) : (encWay x).length = 3 := rfl
theorem Sl.atWay {w : World} {B : Nat} {A : Option Addr} {n : Nat} {xs : List Way} (h : Sl w B 3 encWay A n xs) {i : Nat} (hi : i < n) :
    ∃ (x0 : ByteArray) (x1 : ByteArray) (x2 : Int) (b off : Nat), Hid (xs[i]? = some ⟨x0, x1, x2⟩) ∧ A = some ⟨b, off, none⟩ ∧ b < B ∧ w.cell? ⟨b, off + i * 3, none⟩ = some (.string x0) ∧ w.cell? ⟨b, off + i * 3 + 1, none⟩ = some (.string x1) ∧ w.cell? ⟨b, off + i * 3 + 2, none⟩ = some (.int .i64 x2) := by
  obtain ⟨⟨x0, x1, x2⟩, b, off, hx, e, hb, hc⟩ := h.at_ hi
  exact ⟨x0, x1, x2, b, off, hx, e, hb, hc 0 _ rfl, hc 1 _ rfl, hc 2 _ rfl⟩
theorem Sl.ofWay {w : World} {B n : Nat} {A : Option Addr} {xs : List Way} (h : Sl w B 3 encWay A n xs) {i : Nat} {x0 : ByteArray} {x1 : ByteArray} {x2 : Int} (hx : xs[i]? = some ⟨x0, x1, x2⟩) :
    ∃ b off, A = some ⟨b, off, none⟩ ∧ b < B ∧ w.cell? ⟨b, off + i * 3, none⟩ = some (.string x0) ∧ w.cell? ⟨b, off + i * 3 + 1, none⟩ = some (.string x1) ∧ w.cell? ⟨b, off + i * 3 + 2, none⟩ = some (.int .i64 x2) := by
  obtain ⟨b, off, e, hb, hc⟩ := h.2 i _ hx
  exact ⟨b, off, e, hb, hc 0 _ rfl, hc 1 _ rfl, hc 2 _ rfl⟩
theorem Sl.inWay {w : World} {B b off n : Nat} {xs : List Way} (h : Sl w B 3 encWay (some ⟨b, off, none⟩) n xs) {i : Nat} {x0 : ByteArray} {x1 : ByteArray} {x2 : Int} (hx : xs[i]? = some ⟨x0, x1, x2⟩) :
    w.cell? ⟨b, off + i * 3, none⟩ = some (.string x0) ∧ w.cell? ⟨b, off + i * 3 + 1, none⟩ = some (.string x1) ∧ w.cell? ⟨b, off + i * 3 + 2, none⟩ = some (.int .i64 x2) := by
  obtain ⟨b', off', e, _, hc⟩ := h.2 i _ hx
  injection e with e
  injection e with e1 e2
  subst e1 e2
  exact ⟨hc 0 _ rfl, hc 1 _ rfl, hc 2 _ rfl⟩

/-- the bytes of all strings of some Ways -/
def totWay (xs : List Way) : Nat := (xs.map fun x => x.fr.size + x.«to».size).sum
theorem totWay_take {xs : List Way} {k : Nat} {x : Way} (h : xs[k]? = some x) : totWay (xs.take (k + 1)) = totWay (xs.take k) + (x.fr.size + x.«to».size) := by
  rw [take_at h]; simp [totWay]
theorem totWay_mem {xs : List Way} {x : Way} (h : x ∈ xs) : (x.fr.size + x.«to».size) ≤ totWay xs := by
  induction xs with
  | nil => simp at h
  | cons y l ih =>
    simp only [totWay, List.map_cons, List.sum_cons]
    rcases List.mem_cons.1 h with rfl | h
    · omega
    · have := ih h
      simp only [totWay] at this
      omega
theorem totWay_le {xs : List Way} {k : Nat} : totWay (xs.take k) ≤ totWay xs := by
  induction xs generalizing k with
  | nil => simp
  | cons x l ih =>
    cases k with
    | zero => simp [totWay]
    | succ k =>
      have := @ih k
      simp only [totWay, List.take_succ_cons, List.map_cons, List.sum_cons] at this ⊢
      omega
theorem Way_info : (Tryz.prog.info? 62).map (fun i => (i.zero, i.size, i.bytes)) = some (some (.agg #[.string ByteArray.empty, .string ByteArray.empty, .int .i64 0]), 3, 40) := by kernel_rfl
theorem eqWay_yes (x0 : ByteArray) (x1 : ByteArray) (x2 : Int) (w : World) :
    Calls Tryz.prog 65 #[.agg #[.string x0, .string x1, .int .i64 x2], .agg #[.string x0, .string x1, .int .i64 x2]] w fun e w' => e = .returned (.bool true) ∧ Below w.heap.size w w' := by
  go_enter Tryz.func65, Tryz.ntmps65
  go_wp2
  all_goals go_ret
  all_goals refine ⟨rfl, ?_⟩
  all_goals repeat (first | with_reducible assumption | with_reducible exact Below.refl _ _ | with_reducible refine bl_drew ?_ | with_reducible refine bl_drewN ?_ | ((with_reducible refine bl_set ?_ ?_); focus (first | (simp; done) | (simp; omega) | omega)) | ((with_reducible refine bl_alloc ?_ ?_); focus (first | (simp; done) | (simp; omega) | omega)))
theorem eqWayS_yes (A : Option Addr) (n c : Nat) (A' : Option Addr) (n' c' : Nat) (w : World) (B : Nat) (hB : B ≤ w.heap.size) (xs : List Way) (hn : n ≤ 2000000) (hx : Sl w B 3 encWay A n xs) (hy : Sl w B 3 encWay A' n' xs) :
    Calls Tryz.prog 32 #[.slice A n c, .slice A' n' c'] w fun e w' => e = .returned (.bool true) ∧ Below w.heap.size w w' := by
  obtain rfl : n = n' := hx.len.symm.trans hy.len
  go_enter Tryz.func32, Tryz.ntmps32
  go_wp2
  go_loopw [5] (fun i w1 => ∃ k : Nat, k ≤ n ∧ i = .int .i64 k ∧ Below w.heap.size w w1) (fun i _ => n - (intOf i).toNat)
  case atStart => exact ⟨0, Nat.zero_le _, rfl, Below.refl _ _⟩
  case round =>
    obtain ⟨k, hk, rfl, hb⟩ := hrel
    by_cases hlt : k < n
    · obtain ⟨x0, x1, x2, b, off, Hx, rfl, hbB, c0, c1, c2⟩ := (hx.below (hb.mono hB)).atWay hlt
      obtain ⟨x0', x1', x2', b', off', Hy, rfl, hbB', c0', c1', c2'⟩ := (hy.below (hb.mono hB)).atWay hlt
      obtain ⟨rfl, rfl, rfl⟩ : x0 = x0' ∧ x1 = x1' ∧ x2 = x2' := by have := Hx.out.symm.trans Hy.out; simpa using this
      clear hx hy
      go_wp2
      go_region_with (go_at_call 65; refine (eqWay_yes _ _ _ _).mono ?_; rintro e w' ⟨rfl, hbb⟩)
      all_goals go_wp2
      all_goals have hb2 := hb.trans (Below.mono ((Below.refl _ _).drew.trans hbb) (by simpa using hb.size))
      all_goals go_roundw
      all_goals first | exact ⟨k + 1, by omega, by go_num, hb2⟩ | exact ⟨⟨k + 1, by omega, by go_num, hb2⟩, by simp [intOf]; omega⟩ | (simp [intOf]; omega)
    · go_wp2
      go_ret
      exact ⟨rfl, hb⟩
/-- the marks of some structs, one number a field -/
def marksWay (m : Int) (n : Nat) : List Way := (List.range n).map fun i => ⟨mtxt (m + 3 * (i : Nat)), mtxt (m + 3 * (i : Nat) + 1), m + 3 * (i : Nat) + 1 + 1⟩
theorem marksWay_succ (m : Int) (n : Nat) : marksWay m (n + 1) = marksWay m n ++ [⟨mtxt (m + 3 * n), mtxt (m + 3 * n + 1), m + 3 * n + 1 + 1⟩] := by simp [marksWay, List.range_succ]
theorem marksWay_len (m : Int) (n : Nat) : (marksWay m n).length = n := by simp [marksWay]
set_option maxHeartbeats 2000000 in
theorem markWayS_any (lo : Nat) (A : Option Addr) (n c : Nat) (l : List Value) (m : Int) (w : World) (hn : n ≤ 2000000) (h0 : 0 ≤ m) (h1 : m ≤ 9000000) (hown : w.ownsRow lo 62 3 (.slice A n c) n l) :
    Calls Tryz.prog 35 #[.slice A n c, .int .i64 m] w fun e w' => e = .returned (.int .i64 (m + 3 * n)) ∧ w'.ownsRow lo 62 3 (.slice A n c) n ((marksWay m n).flatMap encWay) ∧ w.grownBy w' (Value.slice A n c).ownBlock := by
  go_enter Tryz.func35, Tryz.ntmps35
  go_wp2
  go_loopw [1, 5] (fun s i w1 => ∃ k l1, k ≤ n ∧ i = .int .i64 (k : Nat) ∧ s = .int .i64 (m + 3 * (k : Nat)) ∧ w1.ownsRow lo 62 3 (.slice A n c) n l1 ∧ Pre l1 ((marksWay m k).flatMap encWay) ∧ w.grownBy w1 (Value.slice A n c).ownBlock) (fun _ i _ => n - (intOf i).toNat)
  case atStart => exact ⟨0, l, Nat.zero_le _, rfl, by go_num, hown, Pre.nil _, World.grownBy.refl _ _⟩
  case round =>
    obtain ⟨k, l1, hk, rfl, rfl, hown1, hpre, hg⟩ := hrel
    clear hown
    by_cases hlt : k < n
    · obtain ⟨g, rfl, hlo, hgs⟩ := own_some hown1 (by omega)
      have hP : ((marksWay m k).flatMap encWay).length = k * 3 := by rw [flatMap_len encWay_len, marksWay_len]
      go_wp2_with fail
      refine (markText_any (m + 3 * (k : Nat)) _ (by omega) (by omega)).mono ?_
      rintro r v0 ⟨rfl, b0⟩
      have p0 := own_below hown1 b0
      replace hg := hg.trans (Span0 b0 _)
      clear b0
      obtain ⟨⟨u0, e0⟩, f0⟩ := own_at p0 (Below.refl _ _) (k * 3) (by omega)
      have t1 := own_set p0 hpre (j := k * 3) hP.symm (by omega) (.string (mtxt (m + 3 * (k : Nat))))
      have g1 := (p0.stored (k * 3) (.string (mtxt (m + 3 * (k : Nat))))).2
      replace hg := hg.trans g1
      clear g1
      go_wp2_with fail
      refine (markText_any (m + 3 * (k : Nat) + 1) _ (by omega) (by omega)).mono ?_
      rintro r v1 ⟨rfl, b1⟩
      have p1 := own_below t1.1 b1
      replace hg := hg.trans (Span0 b1 _)
      clear b1
      obtain ⟨⟨u1, e1⟩, f1⟩ := own_at p1 (Below.refl _ _) (k * 3 + 1) (by omega)
      have t2 := own_set p1 t1.2 (j := k * 3 + 1) (by simp [hP]) (by omega) (.string (mtxt (m + 3 * (k : Nat) + 1)))
      have g2 := (p1.stored (k * 3 + 1) (.string (mtxt (m + 3 * (k : Nat) + 1)))).2
      replace hg := hg.trans g2
      clear g2
      obtain ⟨⟨u2, e2⟩, f2⟩ := own_at t2.1 (Below.refl _ _) (k * 3 + 2) (by omega)
      have t3 := own_set t2.1 t2.2 (j := k * 3 + 2) (by simp [hP]) (by omega) (.int .i64 (m + 3 * (k : Nat) + 1 + 1))
      have g3 := (t2.1.stored (k * 3 + 2) (.int .i64 (m + 3 * (k : Nat) + 1 + 1))).2
      replace hg := hg.trans g3
      clear g3
      have e9 : (((marksWay m k).flatMap encWay ++ [.string (mtxt (m + 3 * (k : Nat)))]) ++ [.string (mtxt (m + 3 * (k : Nat) + 1))]) ++ [.int .i64 (m + 3 * (k : Nat) + 1 + 1)] = (marksWay m (k + 1)).flatMap encWay := by rw [marksWay_succ, List.flatMap_append]; simp [encWay]
      have s9 := t3.2
      rw [e9] at s9
      have q9 := t3.1
      clear e9 hP
      go_wp2_with fail
      go_roundw
      all_goals first | exact ⟨k + 1, _, by omega, by go_num, by go_num, q9, s9, hg⟩ | exact ⟨⟨k + 1, _, by omega, by go_num, by go_num, q9, s9, hg⟩, by simp [intOf]; omega⟩ | (simp [intOf]; omega)
    · have : k = n := by omega
      subst this
      have e := hpre.all (by rw [hown1.1, flatMap_len encWay_len, marksWay_len])
      subst e
      clear hpre
      go_wp2
      go_ret
      exact ⟨rfl, hown1, hg⟩
set_option maxHeartbeats 2000000 in
theorem heldWayS_any (A : Option Addr) (n c : Nat) (m : Int) (w : World) (B : Nat) (hB : B ≤ w.heap.size) (hn : n ≤ 2000000) (h0 : 0 ≤ m) (h1 : m ≤ 9000000) (hx : Sl w B 3 encWay A n (marksWay m n)) :
    Calls Tryz.prog 37 #[.slice A n c, .int .i64 m] w fun e w' => e = .returned (.int .i64 (m + 3 * n)) ∧ Below w.heap.size w w' := by
  go_enter Tryz.func37, Tryz.ntmps37
  go_wp2
  go_loopw [1, 5] (fun s i w1 => ∃ k : Nat, k ≤ n ∧ i = .int .i64 k ∧ s = .int .i64 (m + 3 * k) ∧ Below w.heap.size w w1) (fun _ i _ => n - (intOf i).toNat)
  case atStart => exact ⟨0, Nat.zero_le _, rfl, by go_num, Below.refl _ _⟩
  case round =>
    obtain ⟨k, hk, rfl, rfl, hb⟩ := hrel
    by_cases hlt : k < n
    · obtain ⟨x0, x1, x2, b, off, Hx, rfl, hbB, c0, c1, c2⟩ := (hx.below (hb.mono hB)).atWay hlt
      obtain ⟨rfl, rfl, rfl⟩ : x0 = mtxt (m + 3 * k) ∧ x1 = mtxt (m + 3 * k + 1) ∧ x2 = m + 3 * k + 1 + 1 := by
        have := Hx.out
        simp only [marksWay, List.getElem?_map, List.getElem?_range hlt, Option.map_some, Option.some.injEq, Way.mk.injEq] at this
        obtain ⟨h0, h1, h2⟩ := this
        exact ⟨h0.symm, h1.symm, h2.symm⟩
      have i0 : (0 : Int) ≤ (k : Int) := by omega
      have i1 : (k : Int) < (n : Int) := by omega
      clear hx
      have hm0 := fun W => markText_any (m + 3 * (k : Nat)) W (by omega) (by omega)
      generalize mtxt (m + 3 * (k : Nat)) = t0 at hm0 c0
      have hm1 := fun W => markText_any (m + 3 * (k : Nat) + 1) W (by omega) (by omega)
      generalize mtxt (m + 3 * (k : Nat) + 1) = t1 at hm1 c1
      have q0 : ∀ i : After wr, i.w.cell? ⟨b, off + k * 3, none⟩ = some (.string t0) := After.cell c0
      go_wp2_with fail
      refine wp_after (by kernel_rfl) (by kernel_rfl) ?_
      repeat (first | go_big_quiet_skip | (go_big_quiet_want; go_big_quiet_op; first | go_big_quiet_on | go_big_quiet_call ((go_at_call 66; exact Calls.after (hm0 _)))))
      refine wpQuiet_nil ?_
      rintro _ ⟨i0, rfl⟩
      replace hb := hb.trans (i0.below.mono hb.size)
      replace c0 := below_cell c0 i0.below
      replace c1 := below_cell c1 i0.below
      replace c2 := below_cell c2 i0.below
      have q1 : ∀ i : After i0.w, i.w.cell? ⟨b, off + k * 3 + 1, none⟩ = some (.string t1) := After.cell c1
      go_wp2_with fail
      refine wp_after (by kernel_rfl) (by kernel_rfl) ?_
      repeat (first | go_big_quiet_skip | (go_big_quiet_want; go_big_quiet_op; first | go_big_quiet_on | go_big_quiet_call ((go_at_call 66; exact Calls.after (hm1 _)))))
      refine wpQuiet_nil ?_
      rintro _ ⟨i1, rfl⟩
      replace hb := hb.trans (i1.below.mono hb.size)
      replace c0 := below_cell c0 i1.below
      replace c1 := below_cell c1 i1.below
      replace c2 := below_cell c2 i1.below
      go_wp2_with fail
      go_roundw
      all_goals first | exact ⟨k + 1, by omega, by go_num, by go_num, hb⟩ | exact ⟨⟨k + 1, by omega, by go_num, by go_num, hb⟩, by simp [intOf]; omega⟩ | (simp [intOf]; omega)
    · have : k = n := by omega
      subst this
      go_wp2
      go_ret
      exact ⟨rfl, hb⟩
end Go.Proofs.YtcgkcfmiabninaaGreatDoor
/-
  Lists of Ways that are alike. No condition.
-/
namespace Go.Proofs.YtcgkcfmiabninaaGreatDoor
open Go.RowKit
set_option maxHeartbeats 400000

theorem diffWay (x0 y0 : ByteArray) (x1 y1 : ByteArray) (x2 y2 : Int) : (x0 = y0 ∧ x1 = y1 ∧ x2 = y2) ∨ (x0 ≠ y0) ∨ (x0 = y0 ∧ x1 ≠ y1) ∨ (x0 = y0 ∧ x1 = y1 ∧ x2 ≠ y2) := by
  by_cases h0 : x0 = y0
  rotate_left
  · exact .inr (.inl h0)
  by_cases h1 : x1 = y1
  rotate_left
  · exact .inr (.inr (.inl ⟨h0, h1⟩))
  by_cases h2 : x2 = y2
  · exact .inl ⟨h0, h1, h2⟩
  · exact .inr (.inr (.inr (⟨h0, h1, h2⟩)))
theorem firstWay {x0 y0 : ByteArray} {x1 y1 : ByteArray} {x2 y2 : Int} {xs ys : List Way} : ((⟨x0, x1, x2⟩ : Way) :: xs = ⟨y0, y1, y2⟩ :: ys) = ((x0 = y0 ∧ x1 = y1 ∧ x2 = y2) ∧ xs = ys) := by simp
set_option maxHeartbeats 1000000 in
theorem equalWay_any (A : Option Addr) (n c : Nat) (A' : Option Addr) (n' c' : Nat) (xs ys : List Way) (w : World) (B : Nat) (hB : B ≤ w.heap.size) (hn : n ≤ 2000000) (hn' : n' ≤ 2000000) (hx : Sl w B 3 encWay A n xs) (hy : Sl w B 3 encWay A' n' ys) :
    Calls Tryz.prog 50 #[.slice A n c, .slice A' n' c'] w fun r w' => r = .returned (.bool (decide (xs = ys))) ∧ Below w.heap.size w w' := by
  have hxl := hx.len
  have hyl := hy.len
  by_cases hnn : n = n'
  · subst hnn
    go_enter Tryz.func50, Tryz.ntmps50
    go_wp2
    go_loopw [13] (fun i w1 => ∃ k : Nat, k ≤ n ∧ i = .int .i64 k ∧ Hid ((xs = ys) = (xs.drop k = ys.drop k)) ∧ Below w.heap.size w w1) (fun i _ => n - (intOf i).toNat)
    case atStart => exact ⟨0, Nat.zero_le _, rfl, hid rfl, Below.refl _ _⟩
    case round =>
      obtain ⟨k, hk, rfl, he, hb⟩ := hrel
      by_cases hlt : k < n
      · obtain ⟨x0, x1, x2, b, off, Hx, rfl, hbB, c0, c1, c2⟩ := (hx.below (hb.mono hB)).atWay hlt
        obtain ⟨y0, y1, y2, b', off', Hy, rfl, hbB', d0, d1, d2⟩ := (hy.below (hb.mono hB)).atWay hlt
        have he2 := he.out
        rw [drop_at Hx.out, drop_at Hy.out, firstWay] at he2
        have lb : b < wr.heap.size := by have := hb.size; omega
        have lb' : b' < wr.heap.size := by have := hb.size; omega
        clear he hx hy Hx Hy
        rcases diffWay x0 y0 x1 y1 x2 y2 with q | q | ⟨rfl, q⟩ | ⟨rfl, rfl, q⟩
        · have He2 : Hid ((xs = ys) = (xs.drop (k + 1) = ys.drop (k + 1))) := by rw [he2]; simp [Hid, q]
          obtain ⟨rfl, rfl, rfl⟩ := q
          clear he2
          go_wp2
          go_quiet (fail)
          go_wp2
          have hb5 := below_drewN hb nq
          go_roundw
          all_goals first | exact ⟨k + 1, by omega, by go_num, He2, hb5⟩ | exact ⟨⟨k + 1, by omega, by go_num, He2, hb5⟩, by simp [intOf]; omega⟩ | (simp [intOf]; omega)
        · have E : Hid (decide (xs = ys) = false) := by rw [Hid, decide_eq_false_iff_not, he2]; exact fun h => q h.1.1
          have z0 := bs_ne q
          clear he2 q
          go_wp2
          go_quiet (fail)
          go_wp2
          go_ret
          exact ⟨retB E.out.symm, below_drewN hb nq⟩
        · have E : Hid (decide (xs = ys) = false) := by rw [Hid, decide_eq_false_iff_not, he2]; exact fun h => q h.1.2.1
          have z0 := bs_ne q
          clear he2 q
          go_wp2
          go_quiet (fail)
          go_wp2
          go_ret
          exact ⟨retB E.out.symm, below_drewN hb nq⟩
        · have E : Hid (decide (xs = ys) = false) := by rw [Hid, decide_eq_false_iff_not, he2]; exact fun h => q h.1.2.2
          have z0 : decide (x2 = y2) = false := by simpa using q
          have z1 : (x2 == y2) = false := by simpa using q
          clear he2 q
          go_wp2
          go_quiet (fail)
          go_wp2
          go_ret
          exact ⟨retB E.out.symm, below_drewN hb nq⟩
      · have : k = n := by omega
        subst this
        have E : Hid (decide (xs = ys) = true) := by
          have he2 := he.out
          rw [List.drop_of_length_le (by omega), List.drop_of_length_le (by omega)] at he2
          rw [Hid, decide_eq_true_iff, he2]
        clear he
        go_wp2
        go_ret
        exact ⟨retB E.out.symm, hb⟩
  · have E : Hid (decide (xs = ys) = false) := by
      rw [Hid, decide_eq_false_iff_not]; intro h; subst h; exact hnn (hxl.symm.trans hyl)
    clear hx hy
    go_enter Tryz.func50, Tryz.ntmps50
    go_wp2
    go_ret
    exact ⟨retB E.out.symm, Below.refl _ _⟩
end Go.Proofs.YtcgkcfmiabninaaGreatDoor
