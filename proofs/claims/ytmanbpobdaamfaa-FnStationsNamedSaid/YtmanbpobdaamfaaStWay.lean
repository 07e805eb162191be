/-
  Way: a struct of numbers: how a slice of it reads; its copies, comparisons and marks. No condition.
-/
import Derived.Test.YtmanbpobdaamfaaInt
import Derived.Test.YtmanbpobdaamfaaOpen
import Derived.Test.YtmanbpobdaamfaaStr
import Derived.Test.YtmanbpobdaamfaaMark
namespace Go.Proofs.Ytmanbpobdaamfaa
open Go.RowKit Go.ChangeShapes Go.WideShapes Go.ChangeAt Go.Deep
set_option maxHeartbeats 400000

structure Way where
  fr : ByteArray
  to : ByteArray
  metres : Int
  deriving DecidableEq
def encWay (x : Way) : List Value := [.string x.fr, .string x.to, .int .i64 x.metres]
theorem encWay_len (x : Way) : (encWay x).length = 3 := rfl
theorem Sl.atWay {w : World} {B : Nat} {A : Option Addr} {n : Nat} {xs : List Way} (h : Sl w B 3 encWay A n xs) {i : Nat} (hi : i < n) :
    ∃ (x0 : ByteArray) (x1 : ByteArray) (x2 : Int) (b off : Nat), Hid (xs[i]? = some ⟨x0, x1, x2⟩) ∧ A = some ⟨b, off, none⟩ ∧ b < B ∧ w.cell? ⟨b, off + i * 3, none⟩ = some (.string x0) ∧ w.cell? ⟨b, off + i * 3 + 1, none⟩ = some (.string x1) ∧ w.cell? ⟨b, off + i * 3 + 2, none⟩ = some (.int .i64 x2) := by
  obtain ⟨⟨x0, x1, x2⟩, b, off, hx, e, hb, hc⟩ := h.at_ hi
  exact ⟨x0, x1, x2, b, off, hx, e, hb, hc 0 _ rfl, hc 1 _ rfl, hc 2 _ rfl⟩
theorem Sl.ofWay {w : World} {B n : Nat} {A : Option Addr} {xs : List Way} (h : Sl w B 3 encWay A n xs) {i : Nat} {x0 : ByteArray} {x1 : ByteArray} {x2 : Int} (hx : xs[i]? = some ⟨x0, x1, x2⟩) :
    ∃ b off, A = some ⟨b, off, none⟩ ∧ b < B ∧ w.cell? ⟨b, off + i * 3, none⟩ = some (.string x0) ∧ w.cell? ⟨b, off + i * 3 + 1, none⟩ = some (.string x1) ∧ w.cell? ⟨b, off + i * 3 + 2, none⟩ = some (.int .i64 x2) := by
  obtain ⟨b, off, e, hb, hc⟩ := h.2 i _ hx
  exact ⟨b, off, e, hb, hc 0 _ rfl, hc 1 _ rfl, hc 2 _ rfl⟩
theorem Sl.inWay {w : World} {B b off n : Nat} {xs : List Way} (h : Sl w B 3 encWay (some ⟨b, off, none⟩) n xs) {i : Nat} {x0 : ByteArray} {x1 : ByteArray} {x2 : Int} (hx : xs[i]? = some ⟨x0, x1, x2⟩) :
    w.cell? ⟨b, off + i * 3, none⟩ = some (.string x0) ∧ w.cell? ⟨b, off + i * 3 + 1, none⟩ = some (.string x1) ∧ w.cell? ⟨b, off + i * 3 + 2, none⟩ = some (.int .i64 x2) := by
  obtain ⟨b', off', e, _, hc⟩ := h.2 i _ hx
  injection e with e
  injection e with e1 e2
  subst e1 e2
  exact ⟨hc 0 _ rfl, hc 1 _ rfl, hc 2 _ rfl⟩

/-- the bytes of all strings of some Ways -/
def totWay (xs : List Way) : Nat := (xs.map fun x => x.fr.size + x.to.size).sum
theorem totWay_take {xs : List Way} {k : Nat} {x : Way} (h : xs[k]? = some x) : totWay (xs.take (k + 1)) = totWay (xs.take k) + (x.fr.size + x.to.size) := by
  rw [take_at h]; simp [totWay]
theorem totWay_mem {xs : List Way} {x : Way} (h : x ∈ xs) : (x.fr.size + x.to.size) ≤ totWay xs := by
  induction xs with
  | nil => simp at h
  | cons y l ih =>
    simp only [totWay, List.map_cons, List.sum_cons]
    rcases List.mem_cons.1 h with rfl | h
    · omega
    · have := ih h
      simp only [totWay] at this
      omega
theorem totWay_le {xs : List Way} {k : Nat} : totWay (xs.take k) ≤ totWay xs := by
  induction xs generalizing k with
  | nil => simp
  | cons x l ih =>
    cases k with
    | zero => simp [totWay]
    | succ k =>
      have := @ih k
      simp only [totWay, List.take_succ_cons, List.map_cons, List.sum_cons] at this ⊢
      omega
theorem szWay_any (x0 : ByteArray) (x1 : ByteArray) (x2 : Int) (left : Int) (w : World) (h0 : 0 ≤ left) (h1 : left ≤ 1048576) (s0 : x0.size ≤ 9223372036854775807) (s1 : x1.size ≤ 9223372036854775807) :
    Calls Try.prog 70 #[.agg #[.string x0, .string x1, .int .i64 x2], .int .i64 left] w fun e w' => e = .returned (.int .i64 (szF left (x0.size + x1.size))) ∧ Below w.heap.size w w' := by
  unfold szF
  go_enter Try.func70, Try.ntmps70
  go_wp2
  all_goals go_ret
  all_goals refine ⟨retI (by first | rfl | omega | (split <;> omega)), ?_⟩
  all_goals repeat (first | with_reducible assumption | with_reducible exact Below.refl _ _ | with_reducible refine bl_drew ?_ | with_reducible refine bl_drewN ?_ | ((with_reducible refine bl_set ?_ ?_); focus (first | (simp; done) | (simp; omega) | omega)) | ((with_reducible refine bl_alloc ?_ ?_); focus (first | (simp; done) | (simp; omega) | omega)))
theorem szWayS_any (A : Option Addr) (n c : Nat) (xs : List Way) (left : Int) (w : World) (B : Nat) (hB : B ≤ w.heap.size) (hn : n ≤ 9223372036854775807) (h0 : 0 ≤ left) (h1 : left ≤ 1048576) (hx : Sl w B 3 encWay A n xs) (hz : Hid (∀ x ∈ xs, x.fr.size ≤ 9223372036854775807 ∧ x.to.size ≤ 9223372036854775807)) :
    Calls Try.prog 34 #[.slice A n c, .int .i64 left] w fun e w' => e = .returned (.int .i64 (szF left (n + totWay xs))) ∧ Below w.heap.size w w' := by
  have hlx := hid hx.len
  by_cases hg : left < (n : Int)
  · have E : Hid (szF left (n + totWay xs) = -1) := szF_no (by omega)
    clear hx
    go_enter Try.func34, Try.ntmps34
    go_wp2_with fail
    go_ret
    exact ⟨retI E.out.symm, Below.refl _ _⟩
  · go_enter Try.func34, Try.ntmps34
    go_wp2_with fail
    go_loopw [1, 5] (fun s i w1 => ∃ (k : Nat) (z : Int), k ≤ n ∧ i = .int .i64 k ∧ s = .int .i64 z ∧ 0 ≤ z ∧ z ≤ 1048576 ∧ Hid (z = left - n - (totWay (xs.take k) : Nat)) ∧ Below w.heap.size w w1) (fun _ i _ => n - (intOf i).toNat)
    case atStart => exact ⟨0, left - n, Nat.zero_le _, rfl, rfl, by omega, by omega, by simp [Hid, totWay], Below.refl _ _⟩
    case round =>
      obtain ⟨k, z, hk, rfl, rfl, z0, z1, he, hb⟩ := hrel
      by_cases hlt : k < n
      · obtain ⟨x0, x1, x2, b, off, Hx, rfl, hbB, c0, c1, c2⟩ := (hx.below (hb.mono hB)).atWay hlt
        have ht := hid (totWay_take Hx.out)
        have hsz := hz.out _ (List.mem_of_getElem? Hx.out)
        simp only at hsz
        obtain ⟨s0, s1⟩ := hsz
        have hs := fun W => szWay_any x0 x1 x2 z W z0 z1 s0 s1
        have i0 : (0 : Int) ≤ (k : Int) := by omega
        have i1 : (k : Int) < (n : Int) := by omega
        clear hx
        by_cases hq : z < ((x0.size + x1.size : Nat) : Int)
        · have E : Hid (szF left (n + totWay xs) = -1) := szF_no (by have h1 := ht.out; have h2 := he.out; have h3 := totWay_le (xs := xs) (k := k + 1); simp only at h1; omega)
          have E2 := hid (szF_no hq)
          generalize szF z (x0.size + x1.size) = v at hs E2
          rw [E2.out] at hs
          clear E2
          go_wp2_with fail
          refine (hs _).mono ?_
          rintro e w' ⟨rfl, b1⟩
          go_wp2_with fail
          go_ret
          exact ⟨retI E.out.symm, hb.trans (b1.mono hb.size)⟩
        · have E2 := hid (szF_yes (n := (x0.size + x1.size)) (by omega : ((x0.size + x1.size : Nat) : Int) ≤ z))
          have hv : ∃ v, szF z (x0.size + x1.size) = v ∧ 0 ≤ v ∧ v ≤ 1048576 ∧ Hid (v = left - n - (totWay (xs.take (k + 1)) : Nat)) := ⟨_, rfl, by rw [E2.out]; omega, by rw [E2.out]; omega, by
            rw [Hid, E2.out, ht.out, he.out]
            simp only
            omega⟩
          obtain ⟨v, hv, v0, v1, V⟩ := hv
          rw [hv] at hs
          clear E2 hv
          go_wp2_with fail
          refine (hs _).mono ?_
          rintro e w' ⟨rfl, b1⟩
          have hb2 := hb.trans (b1.mono hb.size)
          go_wp2_with fail
          go_roundw
          all_goals first | exact ⟨k + 1, v, by omega, by go_num, rfl, v0, v1, V, hb2⟩ | exact ⟨⟨k + 1, v, by omega, by go_num, rfl, v0, v1, V, hb2⟩, by simp [intOf]; omega⟩ | (simp [intOf]; omega)
      · have : k = n := by omega
        subst this
        have E : Hid (szF left (k + totWay xs) = z) := by
          have h1 := he.out
          rw [List.take_of_length_le (by rw [hlx.out]; omega)] at h1
          rw [Hid, szF_yes (by omega)]
          omega
        clear hx
        go_wp2
        go_ret
        exact ⟨retI E.out.symm, hb⟩
theorem toWay_any (x0 : ByteArray) (x1 : ByteArray) (x2 : Int) (w : World) :
    Calls Try.prog 73 #[.agg #[.string x0, .string x1, .int .i64 x2]] w fun e w' => e = .returned (.agg #[.string x0, .string x1, .int .i64 x2]) ∧ Below w.heap.size w w' := by
  go_enter Try.func73, Try.ntmps73
  go_wp2
  refine bodyPost_ret (v := .agg #[.string x0, .string x1, .int .i64 x2]) (by simp [results, Try.results73, go_sem]) rfl ⟨rfl, ?_⟩
  repeat (first | with_reducible assumption | with_reducible exact Below.refl _ _ | with_reducible refine bl_drew ?_ | with_reducible refine bl_drewN ?_ | ((with_reducible refine bl_set ?_ ?_); focus (first | (simp; done) | (simp; omega) | omega)) | ((with_reducible refine bl_alloc ?_ ?_); focus (first | (simp; done) | (simp; omega) | omega)))
theorem Way_info : (Try.prog.info? 54).map (fun i => (i.zero, i.size, i.bytes)) = some (some (.agg #[.string ByteArray.empty, .string ByteArray.empty, .int .i64 0]), 3, 40) := by kernel_rfl
theorem eqWay_yes (x0 : ByteArray) (x1 : ByteArray) (x2 : Int) (w : World) :
    Calls Try.prog 75 #[.agg #[.string x0, .string x1, .int .i64 x2], .agg #[.string x0, .string x1, .int .i64 x2]] w fun e w' => e = .returned (.bool true) ∧ Below w.heap.size w w' := by
  go_enter Try.func75, Try.ntmps75
  go_wp2
  all_goals go_ret
  all_goals refine ⟨rfl, ?_⟩
  all_goals repeat (first | with_reducible assumption | with_reducible exact Below.refl _ _ | with_reducible refine bl_drew ?_ | with_reducible refine bl_drewN ?_ | ((with_reducible refine bl_set ?_ ?_); focus (first | (simp; done) | (simp; omega) | omega)) | ((with_reducible refine bl_alloc ?_ ?_); focus (first | (simp; done) | (simp; omega) | omega)))
theorem eqWayS_yes (A : Option Addr) (n c : Nat) (A' : Option Addr) (n' c' : Nat) (w : World) (B : Nat) (hB : B ≤ w.heap.size) (xs : List Way) (hn : n ≤ 2000000) (hx : Sl w B 3 encWay A n xs) (hy : Sl w B 3 encWay A' n' xs) :
    Calls Try.prog 46 #[.slice A n c, .slice A' n' c'] w fun e w' => e = .returned (.bool true) ∧ Below w.heap.size w w' := by
  obtain rfl : n = n' := hx.len.symm.trans hy.len
  go_enter Try.func46, Try.ntmps46
  go_wp2
  go_loopw [5] (fun i w1 => ∃ k : Nat, k ≤ n ∧ i = .int .i64 k ∧ Below w.heap.size w w1) (fun i _ => n - (intOf i).toNat)
  case atStart => exact ⟨0, Nat.zero_le _, rfl, Below.refl _ _⟩
  case round =>
    obtain ⟨k, hk, rfl, hb⟩ := hrel
    by_cases hlt : k < n
    · obtain ⟨x0, x1, x2, b, off, Hx, rfl, hbB, c0, c1, c2⟩ := (hx.below (hb.mono hB)).atWay hlt
      obtain ⟨x0', x1', x2', b', off', Hy, rfl, hbB', c0', c1', c2'⟩ := (hy.below (hb.mono hB)).atWay hlt
      obtain ⟨rfl, rfl, rfl⟩ : x0 = x0' ∧ x1 = x1' ∧ x2 = x2' := by have := Hx.out.symm.trans Hy.out; simpa using this
      clear hx hy
      go_wp2
      go_region_with (go_at_call 75; refine (eqWay_yes _ _ _ _).mono ?_; rintro e w' ⟨rfl, hbb⟩)
      all_goals go_wp2
      all_goals have hb2 := hb.trans (Below.mono ((Below.refl _ _).drew.trans hbb) (by simpa using hb.size))
      all_goals go_roundw
      all_goals first | exact ⟨k + 1, by omega, by go_num, hb2⟩ | exact ⟨⟨k + 1, by omega, by go_num, hb2⟩, by simp [intOf]; omega⟩ | (simp [intOf]; omega)
    · go_wp2
      go_ret
      exact ⟨rfl, hb⟩
theorem toWayS_any (A : Option Addr) (n c : Nat) (xs : List Way) (w : World) (B : Nat) (hB : B ≤ w.heap.size) (hn : n ≤ 2000000) (hx : Sl w B 3 encWay A n xs) :
    Calls Try.prog 40 #[.slice A n c] w fun e w' => ∃ g, e = .returned (.slice (some ⟨g, 0, none⟩) n n) ∧ w'.ownsRow w.heap.size 54 3 (.slice (some ⟨g, 0, none⟩) n n) n (xs.flatMap encWay) ∧ Below w.heap.size w w' := by
  obtain ⟨i0, hi, hz0, hz1, hz2⟩ := info_parts Way_info
  have hmk : ∀ u : World, (Instr.makeSlice 27 (.int .i64 (n : Int)) (.int .i64 (n : Int))).run Try.prog u =
      .ok (.slice (some ⟨u.heap.size, 0, none⟩) n n) (u.alloc (.cells (madeCells #[.string ByteArray.empty, .string ByteArray.empty, .int .i64 0] (n * 3)) 54)) := fun u => by
    have h := run_make (P := Try.prog) u 27 54 i0 _ Try.underlying27 hi hz0 .i64 .i64 (n : Int) (n : Int) (by omega) (Int.le_refl _) (by rw [hz2]; omega) (by omega)
    simpa [hz1, Value.cells] using h
  clear hi hz0 hz1 hz2
  have hown0 : ((w.alloc (.cells (madeCells #[.string ByteArray.empty, .string ByteArray.empty, .int .i64 0] (n * 3)) 54))).ownsRow w.heap.size 54 3 (.slice (some ⟨w.heap.size, 0, none⟩) n n) n (madeCells #[.string ByteArray.empty, .string ByteArray.empty, .int .i64 0] (n * 3)).toList :=
    World.ownsRow_lit w _ n (Nat.le_refl _) (by simp only [maxLen]; omega) (size_madeCells _ _)
  go_enter Try.func40, Try.ntmps40
  go_wp2
  go_loopw [4] (fun i w1 => ∃ k l, k ≤ n ∧ i = .int .i64 (k : Nat) ∧ w1.ownsRow w.heap.size 54 3 (.slice (some ⟨w.heap.size, 0, none⟩) n n) n l ∧ Pre l ((xs.take k).flatMap encWay) ∧ Below w.heap.size w w1) (fun i _ => n - (intOf i).toNat)
  case atStart => exact ⟨0, _, Nat.zero_le _, rfl, hown0, Pre.nil _, (Below.refl _ _).alloc (Nat.le_refl _) _⟩
  case round =>
    obtain ⟨k, l, hk, rfl, hown, hpre, hb⟩ := hrel
    clear hown0 hmk
    by_cases hlt : k < n
    · obtain ⟨x0, x1, x2, b, off, Hx, rfl, hbB, c0, c1, c2⟩ := (hx.below (hb.mono hB)).atWay hlt
      have f0 := fun W hB => (own_at (w' := W) hown hB (k * 3) (by omega)).2
      have e0 := fun W hB => (own_at (w' := W) hown hB (k * 3) (by omega)).1
      have f1 := fun W hB => (own_at (w' := W) hown hB (k * 3 + 1) (by omega)).2
      have e1 := fun W hB => (own_at (w' := W) hown hB (k * 3 + 1) (by omega)).1
      have f2 := fun W hB => (own_at (w' := W) hown hB (k * 3 + 2) (by omega)).2
      have e2 := fun W hB => (own_at (w' := W) hown hB (k * 3 + 2) (by omega)).1
      go_wp2_with (go_at_call 73; refine (toWay_any _ _ _ _).mono ?_; rintro e w' ⟨rfl, hbb⟩; replace f0 := f0 _ hbb; obtain ⟨v0, e0⟩ := e0 _ hbb; replace f1 := f1 _ hbb; obtain ⟨v1, e1⟩ := e1 _ hbb; replace f2 := f2 _ hbb; obtain ⟨v2, e2⟩ := e2 _ hbb)
      go_roundw
      case measure => simp [intOf]; omega
      case rel =>
        have hP : ((xs.take k).flatMap encWay).length = k * 3 := by rw [flatMap_len encWay_len, List.length_take_of_le (by rw [hx.len]; omega)]
        have s1 := own_set (own_below hown hbb) hpre (j := k * 3) hP.symm (by omega) (.string x0)
        have s2 := own_set s1.1 s1.2 (j := k * 3 + 1) (by simp [hP]) (by omega) (.string x1)
        have s3 := own_set s2.1 s2.2 (j := k * 3 + 2) (by simp [hP]) (by omega) (.int .i64 x2)
        refine ⟨k + 1, _, by omega, by go_num, s3.1, ?_, ?_⟩
        · rw [take_at Hx.out, List.flatMap_append]
          have := s3.2
          simpa [encWay] using this
        · have hb2 := hb.trans (hbb.mono hb.size)
          repeat (first | with_reducible assumption | with_reducible exact Below.refl _ _ | with_reducible refine bl_drew ?_ | with_reducible refine bl_drewN ?_ | ((with_reducible refine bl_set ?_ ?_); focus (first | (simp; done) | (simp; omega) | omega)) | ((with_reducible refine bl_alloc ?_ ?_); focus (first | (simp; done) | (simp; omega) | omega)))
    · have : k = n := by omega
      subst this
      have hP : (xs.flatMap encWay).length = k * 3 := by rw [flatMap_len encWay_len, hx.len]
      rw [List.take_of_length_le (by rw [hx.len]; omega)] at hpre
      have e := hpre.all (by rw [hown.1, hP])
      subst e
      clear hpre hP
      go_wp2
      go_ret
      exact ⟨_, rfl, hown, hb⟩
/-- the marks of some structs, one number a field -/
def marksWay (m : Int) (n : Nat) : List Way := (List.range n).map fun i => ⟨mtxt (m + 3 * (i : Nat)), mtxt (m + 3 * (i : Nat) + 1), m + 3 * (i : Nat) + 1 + 1⟩
theorem marksWay_succ (m : Int) (n : Nat) : marksWay m (n + 1) = marksWay m n ++ [⟨mtxt (m + 3 * n), mtxt (m + 3 * n + 1), m + 3 * n + 1 + 1⟩] := by simp [marksWay, List.range_succ]
theorem marksWay_len (m : Int) (n : Nat) : (marksWay m n).length = n := by simp [marksWay]
set_option maxHeartbeats 2000000 in
theorem markWayS_any (lo : Nat) (A : Option Addr) (n c : Nat) (l : List Value) (m : Int) (w : World) (hn : n ≤ 2000000) (h0 : 0 ≤ m) (h1 : m ≤ 9000000) (hown : w.ownsRow lo 54 3 (.slice A n c) n l) :
    Calls Try.prog 48 #[.slice A n c, .int .i64 m] w fun e w' => e = .returned (.int .i64 (m + 3 * n)) ∧ w'.ownsRow lo 54 3 (.slice A n c) n ((marksWay m n).flatMap encWay) ∧ w.grownBy w' (Value.slice A n c).ownBlock := by
  go_enter Try.func48, Try.ntmps48
  go_wp2
  go_loopw [1, 5] (fun s i w1 => ∃ k l1, k ≤ n ∧ i = .int .i64 (k : Nat) ∧ s = .int .i64 (m + 3 * (k : Nat)) ∧ w1.ownsRow lo 54 3 (.slice A n c) n l1 ∧ Pre l1 ((marksWay m k).flatMap encWay) ∧ w.grownBy w1 (Value.slice A n c).ownBlock) (fun _ i _ => n - (intOf i).toNat)
  case atStart => exact ⟨0, l, Nat.zero_le _, rfl, by go_num, hown, Pre.nil _, World.grownBy.refl _ _⟩
  case round =>
    obtain ⟨k, l1, hk, rfl, rfl, hown1, hpre, hg⟩ := hrel
    clear hown
    by_cases hlt : k < n
    · obtain ⟨g, rfl, hlo, hgs⟩ := own_some hown1 (by omega)
      have hP : ((marksWay m k).flatMap encWay).length = k * 3 := by rw [flatMap_len encWay_len, marksWay_len]
      go_wp2_with fail
      refine (markText_any (m + 3 * (k : Nat)) _ (by omega) (by omega)).mono ?_
      rintro r v0 ⟨rfl, b0⟩
      have p0 := own_below hown1 b0
      replace hg := hg.trans (Span0 b0 _)
      clear b0
      obtain ⟨⟨u0, e0⟩, f0⟩ := own_at p0 (Below.refl _ _) (k * 3) (by omega)
      have t1 := own_set p0 hpre (j := k * 3) hP.symm (by omega) (.string (mtxt (m + 3 * (k : Nat))))
      have g1 := (p0.stored (k * 3) (.string (mtxt (m + 3 * (k : Nat))))).2
      replace hg := hg.trans g1
      clear g1
      go_wp2_with fail
      refine (markText_any (m + 3 * (k : Nat) + 1) _ (by omega) (by omega)).mono ?_
      rintro r v1 ⟨rfl, b1⟩
      have p1 := own_below t1.1 b1
      replace hg := hg.trans (Span0 b1 _)
      clear b1
      obtain ⟨⟨u1, e1⟩, f1⟩ := own_at p1 (Below.refl _ _) (k * 3 + 1) (by omega)
      have t2 := own_set p1 t1.2 (j := k * 3 + 1) (by simp [hP]) (by omega) (.string (mtxt (m + 3 * (k : Nat) + 1)))
      have g2 := (p1.stored (k * 3 + 1) (.string (mtxt (m + 3 * (k : Nat) + 1)))).2
      replace hg := hg.trans g2
      clear g2
      obtain ⟨⟨u2, e2⟩, f2⟩ := own_at t2.1 (Below.refl _ _) (k * 3 + 2) (by omega)
      have t3 := own_set t2.1 t2.2 (j := k * 3 + 2) (by simp [hP]) (by omega) (.int .i64 (m + 3 * (k : Nat) + 1 + 1))
      have g3 := (t2.1.stored (k * 3 + 2) (.int .i64 (m + 3 * (k : Nat) + 1 + 1))).2
      replace hg := hg.trans g3
      clear g3
      have e9 : (((marksWay m k).flatMap encWay ++ [.string (mtxt (m + 3 * (k : Nat)))]) ++ [.string (mtxt (m + 3 * (k : Nat) + 1))]) ++ [.int .i64 (m + 3 * (k : Nat) + 1 + 1)] = (marksWay m (k + 1)).flatMap encWay := by rw [marksWay_succ, List.flatMap_append]; simp [encWay]
      have s9 := t3.2
      rw [e9] at s9
      have q9 := t3.1
      clear e9 hP
      go_wp2_with fail
      go_roundw
      all_goals first | exact ⟨k + 1, _, by omega, by go_num, by go_num, q9, s9, hg⟩ | exact ⟨⟨k + 1, _, by omega, by go_num, by go_num, q9, s9, hg⟩, by simp [intOf]; omega⟩ | (simp [intOf]; omega)
    · have : k = n := by omega
      subst this
      have e := hpre.all (by rw [hown1.1, flatMap_len encWay_len, marksWay_len])
      subst e
      clear hpre
      go_wp2
      go_ret
      exact ⟨rfl, hown1, hg⟩
set_option maxHeartbeats 2000000 in
theorem heldWayS_any (A : Option Addr) (n c : Nat) (m : Int) (w : World) (B : Nat) (hB : B ≤ w.heap.size) (hn : n ≤ 2000000) (h0 : 0 ≤ m) (h1 : m ≤ 9000000) (hx : Sl w B 3 encWay A n (marksWay m n)) :
    Calls Try.prog 50 #[.slice A n c, .int .i64 m] w fun e w' => e = .returned (.int .i64 (m + 3 * n)) ∧ Below w.heap.size w w' := by
  go_enter Try.func50, Try.ntmps50
  go_wp2
  go_loopw [1, 5] (fun s i w1 => ∃ k : Nat, k ≤ n ∧ i = .int .i64 k ∧ s = .int .i64 (m + 3 * k) ∧ Below w.heap.size w w1) (fun _ i _ => n - (intOf i).toNat)
  case atStart => exact ⟨0, Nat.zero_le _, rfl, by go_num, Below.refl _ _⟩
  case round =>
    obtain ⟨k, hk, rfl, rfl, hb⟩ := hrel
    by_cases hlt : k < n
    · obtain ⟨x0, x1, x2, b, off, Hx, rfl, hbB, c0, c1, c2⟩ := (hx.below (hb.mono hB)).atWay hlt
      obtain ⟨rfl, rfl, rfl⟩ : x0 = mtxt (m + 3 * k) ∧ x1 = mtxt (m + 3 * k + 1) ∧ x2 = m + 3 * k + 1 + 1 := by
        have := Hx.out
        simp only [marksWay, List.getElem?_map, List.getElem?_range hlt, Option.map_some, Option.some.injEq, Way.mk.injEq] at this
        obtain ⟨h0, h1, h2⟩ := this
        exact ⟨h0.symm, h1.symm, h2.symm⟩
      have i0 : (0 : Int) ≤ (k : Int) := by omega
      have i1 : (k : Int) < (n : Int) := by omega
      clear hx
      have hm0 := fun W => markText_any (m + 3 * (k : Nat)) W (by omega) (by omega)
      generalize mtxt (m + 3 * (k : Nat)) = t0 at hm0 c0
      have hm1 := fun W => markText_any (m + 3 * (k : Nat) + 1) W (by omega) (by omega)
      generalize mtxt (m + 3 * (k : Nat) + 1) = t1 at hm1 c1
      have q0 : ∀ i : After wr, i.w.cell? ⟨b, off + k * 3, none⟩ = some (.string t0) := After.cell c0
      go_wp2_with fail
      refine wp_after (by kernel_rfl) (by kernel_rfl) ?_
      repeat (first | go_big_quiet_skip | (go_big_quiet_want; go_big_quiet_op; first | go_big_quiet_on | go_big_quiet_call ((go_at_call 76; exact Calls.after (hm0 _)))))
      refine wpQuiet_nil ?_
      rintro _ ⟨i0, rfl⟩
      replace hb := hb.trans (i0.below.mono hb.size)
      replace c0 := below_cell c0 i0.below
      replace c1 := below_cell c1 i0.below
      replace c2 := below_cell c2 i0.below
      have q1 : ∀ i : After i0.w, i.w.cell? ⟨b, off + k * 3 + 1, none⟩ = some (.string t1) := After.cell c1
      go_wp2_with fail
      refine wp_after (by kernel_rfl) (by kernel_rfl) ?_
      repeat (first | go_big_quiet_skip | (go_big_quiet_want; go_big_quiet_op; first | go_big_quiet_on | go_big_quiet_call ((go_at_call 76; exact Calls.after (hm1 _)))))
      refine wpQuiet_nil ?_
      rintro _ ⟨i1, rfl⟩
      replace hb := hb.trans (i1.below.mono hb.size)
      replace c0 := below_cell c0 i1.below
      replace c1 := below_cell c1 i1.below
      replace c2 := below_cell c2 i1.below
      go_wp2_with fail
      go_roundw
      all_goals first | exact ⟨k + 1, by omega, by go_num, by go_num, hb⟩ | exact ⟨⟨k + 1, by omega, by go_num, by go_num, hb⟩, by simp [intOf]; omega⟩ | (simp [intOf]; omega)
    · have : k = n := by omega
      subst this
      go_wp2
      go_ret
      exact ⟨rfl, hb⟩
theorem open_WayS {H : Type} {enc : TypeId × Value → H} {W : World} {b0 : Nat} {sp0 : Nat → Bool} {cs : List Value} {fuel : Nat} {x : DataW H × List MemPlace} (hs0 : sp0 = fun _ => true)
    (hf : DataW.trod enc Try.prog W b0 sp0 true fuel 23 cs = some x) : ∃ A n c xs, cs = [.slice A n c] ∧ n ≤ 9223372036854775807 ∧ Sl W W.heap.size 3 encWay A n xs ∧ ∀ x ∈ xs, x.fr.size ≤ 9223372036854775807 ∧ x.to.size ≤ 9223372036854775807 := by
  subst hs0
  rcases open_slice_fields Try.underlying23 Try.underlying86 (by kernel_rfl) (by kernel_rfl) hf with ⟨hcs, _⟩ | ⟨a, len, cap, m, D, Pl, hcs, _, hl, hm, hmm, _, hi⟩
  · exact ⟨_, _, _, [], hcs, by omega, ⟨rfl, fun i x hx => by simp at hx⟩, fun x hx => by simp at hx⟩
  · obtain ⟨b, off, sp⟩ := a
    have hmc : m = cap := by simpa using hmm
    subst hmc
    have hc : ∀ i, i < len → sp = none ∧ b < W.heap.size ∧ ∃ (x0 : ByteArray) (x1 : ByteArray) (x2 : Int), W.cell? ⟨b, off + i * 3, none⟩ = some (.string x0) ∧ W.cell? ⟨b, off + i * 3 + 1, none⟩ = some (.string x1) ∧ W.cell? ⟨b, off + i * 3 + 2, none⟩ = some (.int .i64 x2) ∧ x0.size ≤ 9223372036854775807 ∧ x1.size ≤ 9223372036854775807 := by
      intro i hil
      have hsp : sp = none := by
        obtain ⟨ys, n, _, _, _, hj⟩ := hi 0 (by omega)
        obtain ⟨v, y, hcell, _, _⟩ := hj 0 _ rfl
        exact spot_none hcell
      subst hsp
      obtain ⟨ys, n, _, _, _, hj⟩ := hi i (by omega)
      obtain ⟨v0, y0, c0, _, t0⟩ := hj 0 _ rfl
      obtain ⟨z0, e0, _, m0⟩ := DataW.trod_string Try.underlying9 t0
      simp only [List.cons.injEq, and_true] at e0
      subst e0
      rw [Addr.add_lit] at c0
      obtain ⟨v1, y1, c1, _, t1⟩ := hj 1 _ rfl
      obtain ⟨z1, e1, _, m1⟩ := DataW.trod_string Try.underlying9 t1
      simp only [List.cons.injEq, and_true] at e1
      subst e1
      rw [Addr.add_lit] at c1
      obtain ⟨v2, y2, c2, _, t2⟩ := hj 2 _ rfl
      obtain ⟨z2, e2, _, m2⟩ := DataW.trod_int Try.underlying2 t2
      simp only [List.cons.injEq, and_true] at e2
      subst e2
      rw [Addr.add_lit] at c2
      exact ⟨rfl, World.block_lt_of_cell? _ _ c0, z0, z1, z2, c0, c1, c2, by unfold maxLen at m0; exact m0, by unfold maxLen at m1; exact m1⟩
    refine ⟨_, len, m, (List.range len).map fun i => ⟨strAt W ⟨b, off + i * 3, none⟩, strAt W ⟨b, off + i * 3 + 1, none⟩, numAt W ⟨b, off + i * 3 + 2, none⟩⟩, hcs, by unfold maxLen at hm; omega, ⟨by simp, fun i x hx => ?_⟩, fun x hx => ?_⟩
    rotate_left
    · obtain ⟨i, hil, rfl⟩ := List.mem_map.1 hx
      obtain ⟨hs, hb, x0, x1, x2, c0, c1, c2, m0, m1⟩ := hc i (List.mem_range.1 hil)
      subst hs
      simp only [strAt_of c0, strAt_of c1]
      exact ⟨m0, m1⟩
    have hil : i < len := by simpa using (List.getElem?_eq_some_iff.1 hx).1
    obtain ⟨hs, hb, x0, x1, x2, c0, c1, c2, m0, m1⟩ := hc i hil
    simp [hil] at hx
    subst hx hs
    rw [strAt_of c0, strAt_of c1, numAt_of c2]
    refine ⟨b, off, rfl, hb, fun j u hj => ?_⟩
    match j, hj with
    | 0, hj => simp [encWay] at hj; subst hj; exact c0
    | 1, hj => simp [encWay] at hj; subst hj; exact c1
    | 2, hj => simp [encWay] at hj; subst hj; exact c2
set_option maxRecDepth 100000 in
theorem open_Ways {H : Type} {enc : TypeId × Value → H} {W : World} {base : Nat} {v : Value} {d : DataW H} {p : List MemPlace} (hv : Value.okWide Try.prog W .any base 23 v)
    (h : DataW.Trod enc Try.prog W 0 (fun _ => true) true 23 v d p) : ∃ A n c xs, v = .slice A n c ∧ n ≤ 9223372036854775807 ∧ Sl W W.heap.size 3 encWay A n xs ∧ ∀ x ∈ xs, x.fr.size ≤ 9223372036854775807 ∧ x.to.size ≤ 9223372036854775807 := by
  obtain ⟨a0, len, cap, rfl⟩ := okWide_slice Try.underlying23 hv
  obtain ⟨fuel, hf⟩ := h
  obtain ⟨A, n, c, xs, e, hn, hx, hz⟩ := open_WayS rfl hf
  simp [Value.cells] at e
  obtain ⟨rfl, rfl, rfl⟩ := e
  exact ⟨_, _, _, xs, rfl, hn, hx, hz⟩
end Go.Proofs.Ytmanbpobdaamfaa
