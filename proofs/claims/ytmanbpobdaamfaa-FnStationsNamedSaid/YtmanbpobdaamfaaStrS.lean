/-
  Lists of strings: sizes, copies, comparisons, marks, alike. No condition.
-/
import Derived.Test.YtmanbpobdaamfaaMark
import Derived.Test.YtmanbpobdaamfaaGRow
namespace Go.Proofs.Ytmanbpobdaamfaa
open Go.RowKit
set_option maxHeartbeats 400000

theorem szStringS_any (A : Option Addr) (n c : Nat) (xs : List ByteArray) (left : Int) (w : World) (B : Nat) (hB : B ≤ w.heap.size) (hn : n ≤ 9223372036854775807) (h0 : 0 ≤ left) (h1 : left ≤ 1048576) (hx : Sl w B 1 encS A n xs) (hz : Hid (∀ z ∈ xs, z.size ≤ 9223372036854775807)) :
    Calls Try.prog 33 #[.slice A n c, .int .i64 left] w fun e w' => e = .returned (.int .i64 (szF left (n + totS xs))) ∧ Below w.heap.size w w' := by
  have hlx := hid hx.len
  by_cases hg : left < (n : Int)
  · have E : Hid (szF left (n + totS xs) = -1) := szF_no (by omega)
    clear hx
    go_enter Try.func33, Try.ntmps33
    go_wp2_with fail
    go_ret
    exact ⟨retI E.out.symm, Below.refl _ _⟩
  · go_enter Try.func33, Try.ntmps33
    go_wp2_with fail
    go_loopw [1, 5] (fun s i w1 => ∃ (k : Nat) (z : Int), k ≤ n ∧ i = .int .i64 k ∧ s = .int .i64 z ∧ 0 ≤ z ∧ z ≤ 1048576 ∧ Hid (z = left - n - (totS (xs.take k) : Nat)) ∧ Below w.heap.size w w1) (fun _ i _ => n - (intOf i).toNat)
    case atStart => exact ⟨0, left - n, Nat.zero_le _, rfl, rfl, by omega, by omega, by simp [Hid, totS], Below.refl _ _⟩
    case round =>
      obtain ⟨k, z, hk, rfl, rfl, z0, z1, he, hb⟩ := hrel
      by_cases hlt : k < n
      · obtain ⟨x, b, off, Hx, rfl, hbB, c0⟩ := (hx.below (hb.mono hB)).str hlt
        have ht := hid (totS_take Hx.out)
        have hsz := hz.out _ (List.mem_of_getElem? Hx.out)
        clear hx
        by_cases hq : z - (x.size : Int) < 0
        · have E : Hid (szF left (n + totS xs) = -1) := szF_no (by have h1 := ht.out; have h2 := he.out; have h3 := totS_le (xs := xs) (k := k + 1); omega)
          go_wp2_with fail
          go_ret
          exact ⟨retI E.out.symm, hb⟩
        · have V : Hid (z - (x.size : Int) = left - n - (totS (xs.take (k + 1)) : Nat)) := by
            rw [Hid, ht.out, he.out]; omega
          have v0 : 0 ≤ z - (x.size : Int) := by omega
          have v1 : z - (x.size : Int) ≤ 1048576 := by omega
          go_wp2_with fail
          go_roundw
          all_goals first | exact ⟨k + 1, z - (x.size : Int), by omega, by go_num, rfl, v0, v1, V, hb⟩ | exact ⟨⟨k + 1, z - (x.size : Int), by omega, by go_num, rfl, v0, v1, V, hb⟩, by simp [intOf]; omega⟩ | (simp [intOf]; omega)
      · have : k = n := by omega
        subst this
        have E : Hid (szF left (k + totS xs) = z) := by
          have h1 := he.out
          rw [List.take_of_length_le (by rw [hlx.out]; omega)] at h1
          rw [Hid, szF_yes (by omega)]
          omega
        clear hx
        go_wp2
        go_ret
        exact ⟨retI E.out.symm, hb⟩
theorem str_info : (Try.prog.info? 9).map (fun i => (i.zero, i.size, i.bytes)) = some (some (.string ByteArray.empty), 1, 16) := by kernel_rfl
/-- a string in an own row -/
theorem own_str {w : World} {lo T g n c : Nat} {l : List ByteArray} (h : w.ownsRow lo T 1 (.slice (some ⟨g, 0, none⟩) n c) n (l.flatMap encS)) {k : Nat} {z : ByteArray} (hk : l[k]? = some z) : w.cell? ⟨g, k, none⟩ = some (.string z) ∧ w.frozen? ⟨g, k, none⟩ = false := by
  have hl := h.1
  rw [flatMap_len encS_len] at hl
  have hkl := (List.getElem?_eq_some_iff.1 hk).1
  refine ⟨?_, h.frozenAt k⟩
  rw [h.cellAt k (by omega)]
  have := flatMap_get encS_len (j := 0) (u := .string z) l k hk rfl
  simpa using this
theorem toStringS_any (A : Option Addr) (n c : Nat) (xs : List ByteArray) (w : World) (B : Nat) (hB : B ≤ w.heap.size) (hn : n ≤ 2000000) (hx : Sl w B 1 encS A n xs) :
    Calls Try.prog 39 #[.slice A n c] w fun e w' => ∃ g, e = .returned (.slice (some ⟨g, 0, none⟩) n n) ∧ w'.ownsRow w.heap.size 9 1 (.slice (some ⟨g, 0, none⟩) n n) n (xs.flatMap encS) ∧ Below w.heap.size w w' := by
  obtain ⟨i0, hi, hz0, hz1, hz2⟩ := info_parts str_info
  have hmk : ∀ u : World, (Instr.makeSlice 22 (.int .i64 (n : Int)) (.int .i64 (n : Int))).run Try.prog u =
      .ok (.slice (some ⟨u.heap.size, 0, none⟩) n n) (u.alloc (.cells (madeCells #[.string ByteArray.empty] n) 9)) := fun u => by
    have h := run_make (P := Try.prog) u 22 9 i0 _ Try.underlying22 hi hz0 .i64 .i64 (n : Int) (n : Int) (by omega) (Int.le_refl _) (by rw [hz2]; omega) (by omega)
    simpa [hz1, Value.cells] using h
  clear hi hz0 hz1 hz2
  have hown0 : ((w.alloc (.cells (madeCells #[.string ByteArray.empty] n) 9))).ownsRow w.heap.size 9 1 (.slice (some ⟨w.heap.size, 0, none⟩) n n) n (madeCells #[.string ByteArray.empty] n).toList :=
    World.ownsRow_lit w _ n (Nat.le_refl _) (by simp only [maxLen]; omega) (by simp [size_madeCells])
  go_enter Try.func39, Try.ntmps39
  go_wp2
  go_loopw [4] (fun i w1 => ∃ k l, k ≤ n ∧ i = .int .i64 (k : Nat) ∧ w1.ownsRow w.heap.size 9 1 (.slice (some ⟨w.heap.size, 0, none⟩) n n) n l ∧ Pre l ((xs.take k).flatMap encS) ∧ Below w.heap.size w w1) (fun i _ => n - (intOf i).toNat)
  case atStart => exact ⟨0, _, Nat.zero_le _, rfl, hown0, Pre.nil _, (Below.refl _ _).alloc (Nat.le_refl _) _⟩
  case round =>
    obtain ⟨k, l, hk, rfl, hown, hpre, hb⟩ := hrel
    clear hown0 hmk
    by_cases hlt : k < n
    · obtain ⟨x0, b, off, Hx, rfl, hbB, c0⟩ := (hx.below (hb.mono hB)).str hlt
      obtain ⟨⟨u0, e0⟩, f0⟩ := own_at hown (Below.refl _ _) k (by omega)
      go_wp2
      go_roundw
      case measure => simp [intOf]; omega
      case rel =>
        have hP : ((xs.take k).flatMap encS).length = k := by rw [flatMap_len encS_len, List.length_take_of_le (by rw [hx.len]; omega), Nat.mul_one]
        have s1 := own_set hown hpre (j := k) hP.symm (by omega) (.string x0)
        refine ⟨k + 1, _, by omega, by go_num, s1.1, ?_, ?_⟩
        · rw [take_at Hx.out, List.flatMap_append]
          have := s1.2
          simpa [encS] using this
        · repeat (first | with_reducible assumption | with_reducible exact Below.refl _ _ | with_reducible refine bl_drew ?_ | with_reducible refine bl_drewN ?_ | ((with_reducible refine bl_set ?_ ?_); focus (first | (simp; done) | (simp; omega) | omega)) | ((with_reducible refine bl_alloc ?_ ?_); focus (first | (simp; done) | (simp; omega) | omega)))
    · have : k = n := by omega
      subst this
      have hP : (xs.flatMap encS).length = k := by rw [flatMap_len encS_len, hx.len, Nat.mul_one]
      rw [List.take_of_length_le (by rw [hx.len]; omega)] at hpre
      have e := hpre.all (by rw [hown.1, hP, Nat.mul_one])
      subst e
      clear hpre hP
      go_wp2
      go_ret
      exact ⟨_, rfl, hown, hb⟩
/-- two copies of one list are found equal -/
theorem eqStringS_yes (A : Option Addr) (n c : Nat) (A' : Option Addr) (n' c' : Nat) (w : World) (B : Nat) (hB : B ≤ w.heap.size) (xs : List ByteArray) (hn : n ≤ 2000000) (hx : Sl w B 1 encS A n xs) (hy : Sl w B 1 encS A' n' xs) :
    Calls Try.prog 45 #[.slice A n c, .slice A' n' c'] w fun e w' => e = .returned (.bool true) ∧ Below w.heap.size w w' := by
  obtain rfl : n = n' := hx.len.symm.trans hy.len
  go_enter Try.func45, Try.ntmps45
  go_wp2
  go_loopw [5] (fun i w1 => ∃ k : Nat, k ≤ n ∧ i = .int .i64 k ∧ Below w.heap.size w w1) (fun i _ => n - (intOf i).toNat)
  case atStart => exact ⟨0, Nat.zero_le _, rfl, Below.refl _ _⟩
  case round =>
    obtain ⟨k, hk, rfl, hb⟩ := hrel
    by_cases hlt : k < n
    · obtain ⟨x, b, off, Hx, rfl, hbB, c0⟩ := (hx.below (hb.mono hB)).str hlt
      obtain ⟨x', b', off', Hy, rfl, hbB', c0'⟩ := (hy.below (hb.mono hB)).str hlt
      obtain rfl : x = x' := by have := Hx.out.symm.trans Hy.out; simpa using this
      have i0 : (0 : Int) ≤ (k : Int) := by omega
      have i1 : (k : Int) < (n : Int) := by omega
      clear hx hy
      go_wp2
      go_quiet (fail)
      go_wp2
      have hb2 := below_drewN hb nq
      go_roundw
      all_goals first | exact ⟨k + 1, by omega, by go_num, hb2⟩ | exact ⟨⟨k + 1, by omega, by go_num, hb2⟩, by simp [intOf]; omega⟩ | (simp [intOf]; omega)
    · go_wp2
      go_ret
      exact ⟨rfl, hb⟩
/-- the marks of strings -/
def marksS (m : Int) (n : Nat) : List ByteArray := (List.range n).map fun i => mtxt (m + (i : Nat))
theorem marksS_succ (m : Int) (n : Nat) : marksS m (n + 1) = marksS m n ++ [mtxt (m + n)] := by simp [marksS, List.range_succ]
theorem marksS_len (m : Int) (n : Nat) : (marksS m n).length = n := by simp [marksS]
set_option maxHeartbeats 1000000 in
theorem markStringS_any (lo : Nat) (A : Option Addr) (n c : Nat) (l : List Value) (m : Int) (w : World) (hn : n ≤ 2000000) (h0 : 0 ≤ m) (h1 : m ≤ 9000000) (hown : w.ownsRow lo 9 1 (.slice A n c) n l) :
    Calls Try.prog 47 #[.slice A n c, .int .i64 m] w fun e w' => e = .returned (.int .i64 (m + n)) ∧ w'.ownsRow lo 9 1 (.slice A n c) n ((marksS m n).flatMap encS) ∧ w.grownBy w' (Value.slice A n c).ownBlock := by
  go_enter Try.func47, Try.ntmps47
  go_wp2
  go_loopw [1, 5] (fun s i w1 => ∃ k l1, k ≤ n ∧ i = .int .i64 (k : Nat) ∧ s = .int .i64 (m + (k : Nat)) ∧ w1.ownsRow lo 9 1 (.slice A n c) n l1 ∧ Pre l1 ((marksS m k).flatMap encS) ∧ w.grownBy w1 (Value.slice A n c).ownBlock) (fun _ i _ => n - (intOf i).toNat)
  case atStart => exact ⟨0, l, Nat.zero_le _, rfl, by go_num, hown, Pre.nil _, World.grownBy.refl _ _⟩
  case round =>
    obtain ⟨k, l1, hk, rfl, rfl, hown1, hpre, hg⟩ := hrel
    clear hown
    by_cases hlt : k < n
    · obtain ⟨g, rfl, hlo, hgs⟩ := own_some hown1 (by omega)
      have hP : ((marksS m k).flatMap encS).length = k := by rw [flatMap_len encS_len, marksS_len, Nat.mul_one]
      go_wp2_with fail
      refine (markText_any (m + (k : Nat)) _ (by omega) (by omega)).mono ?_
      rintro r v0 ⟨rfl, b0⟩
      have p0 := own_below hown1 b0
      replace hg := hg.trans (Span0 b0 _)
      clear b0
      obtain ⟨⟨u, e0⟩, f0⟩ := own_at p0 (Below.refl _ _) k (by omega)
      have s1 := own_set p0 hpre (j := k) hP.symm (by omega) (.string (mtxt (m + (k : Nat))))
      have e1 : (marksS m k).flatMap encS ++ [.string (mtxt (m + (k : Nat)))] = (marksS m (k + 1)).flatMap encS := by rw [marksS_succ, List.flatMap_append]; rfl
      rw [e1] at s1
      have hg2 := hg.trans (p0.stored k (.string (mtxt (m + (k : Nat))))).2
      clear e1 hP
      go_wp2_with fail
      go_roundw
      all_goals first | exact ⟨k + 1, _, by omega, by go_num, by go_num, s1.1, s1.2, hg2⟩ | exact ⟨⟨k + 1, _, by omega, by go_num, by go_num, s1.1, s1.2, hg2⟩, by simp [intOf]; omega⟩ | (simp [intOf]; omega)
    · have : k = n := by omega
      subst this
      have e := hpre.all (by rw [hown1.1, flatMap_len encS_len, marksS_len])
      subst e
      clear hpre
      go_wp2
      go_ret
      exact ⟨rfl, hown1, hg⟩
set_option maxHeartbeats 1000000 in
theorem heldStringS_any (A : Option Addr) (n c : Nat) (m : Int) (w : World) (B : Nat) (hB : B ≤ w.heap.size) (hn : n ≤ 2000000) (h0 : 0 ≤ m) (h1 : m ≤ 9000000) (hx : Sl w B 1 encS A n (marksS m n)) :
    Calls Try.prog 49 #[.slice A n c, .int .i64 m] w fun e w' => e = .returned (.int .i64 (m + n)) ∧ Below w.heap.size w w' := by
  go_enter Try.func49, Try.ntmps49
  go_wp2
  go_loopw [1, 5] (fun s i w1 => ∃ k : Nat, k ≤ n ∧ i = .int .i64 k ∧ s = .int .i64 (m + k) ∧ Below w.heap.size w w1) (fun _ i _ => n - (intOf i).toNat)
  case atStart => exact ⟨0, Nat.zero_le _, rfl, by go_num, Below.refl _ _⟩
  case round =>
    obtain ⟨k, hk, rfl, rfl, hb⟩ := hrel
    by_cases hlt : k < n
    · obtain ⟨x, b, off, Hx, rfl, hbB, c0⟩ := (hx.below (hb.mono hB)).str hlt
      obtain rfl : x = mtxt (m + k) := by
        have := Hx.out
        simp only [marksS, List.getElem?_map, List.getElem?_range hlt, Option.map_some, Option.some.injEq] at this
        exact this.symm
      have i0 : (0 : Int) ≤ (k : Int) := by omega
      have i1 : (k : Int) < (n : Int) := by omega
      clear hx
      have hm := fun W => markText_any (m + (k : Nat)) W (by omega) (by omega)
      generalize mtxt (m + (k : Nat)) = t at hm c0
      have q0 : ∀ i : After wr, i.w.cell? ⟨b, off + k, none⟩ = some (.string t) := After.cell c0
      go_wp2_with fail
      refine wp_after (by kernel_rfl) (by kernel_rfl) ?_
      repeat (first | go_big_quiet_skip | (go_big_quiet_want; go_big_quiet_op; first | go_big_quiet_on | go_big_quiet_call ((go_at_call 76; exact Calls.after (hm _)))))
      refine wpQuiet_nil ?_
      rintro _ ⟨i, rfl⟩
      replace hb := hb.trans (i.below.mono hb.size)
      go_wp2_with fail
      go_roundw
      all_goals first | exact ⟨k + 1, by omega, by go_num, by go_num, hb⟩ | exact ⟨⟨k + 1, by omega, by go_num, by go_num, hb⟩, by simp [intOf]; omega⟩ | (simp [intOf]; omega)
    · have : k = n := by omega
      subst this
      go_wp2
      go_ret
      exact ⟨rfl, hb⟩
theorem firstS {x y : ByteArray} {xs ys : List ByteArray} : (x :: xs = y :: ys) = (x = y ∧ xs = ys) := by simp
end Go.Proofs.Ytmanbpobdaamfaa
