/-
  FS: texts StrS, StWay, EqWay, Schm, Schm2, Name, one behind the other. No condition but what each says.
-/
import Derived.Test.YtcgkcfmiabninaaGreatDoorFS01
import Derived.Lib.SmallJoins
/-
  Lists of strings: sizes, copies, comparisons, marks, alike. No condition.
-/
namespace Go.Proofs.YtcgkcfmiabninaaGreatDoor
open Go.RowKit
set_option maxHeartbeats 400000

theorem str_info : (Tryz.prog.info? 9).map (fun i => (i.zero, i.size, i.bytes)) = some (some (.string ByteArray.empty), 1, 16) := by kernel_rfl
/-- a string in an own row -/
theorem own_str {w : World} {lo T g n c : Nat} {l : List ByteArray} (h : w.ownsRow lo T 1 (.slice (some ⟨g, 0, none⟩) n c) n (l.flatMap encS)) {k : Nat} {z : ByteArray} (hk : l[k]? = some z) : w.cell? ⟨g, k, none⟩ = some (.string z) ∧ w.frozen? ⟨g, k, none⟩ = false := by
  have hl := h.1
  rw [flatMap_len encS_len] at hl
  have hkl := (List.getElem?_eq_some_iff.1 hk).1
  refine ⟨?_, h.frozenAt k⟩
  rw [h.cellAt k (by omega)]
  have := flatMap_get encS_len (j := 0) (u := .string z) l k hk rfl
  simpa using this
/-- two copies of one list are found equal -/
theorem eqStringS_yes (A : Option Addr) (n c : Nat) (A' : Option Addr) (n' c' : Nat) (w : World) (B : Nat) (hB : B ≤ w.heap.size) (xs : List ByteArray) (hn : n ≤ 2000000) (hx : Sl w B 1 encS A n xs) (hy : Sl w B 1 encS A' n' xs) :
    Calls Tryz.prog 31 #[.slice A n c, .slice A' n' c'] w fun e w' => e = .returned (.bool true) ∧ Below w.heap.size w w' := by
  obtain rfl : n = n' := hx.len.symm.trans hy.len
  go_enter Tryz.func31, Tryz.ntmps31
  go_wp2
  go_loopw [5] (fun i w1 => ∃ k : Nat, k ≤ n ∧ i = .int .i64 k ∧ Below w.heap.size w w1) (fun i _ => n - (intOf i).toNat)
  case atStart => exact ⟨0, Nat.zero_le _, rfl, Below.refl _ _⟩
  case round =>
    obtain ⟨k, hk, rfl, hb⟩ := hrel
    by_cases hlt : k < n
    · obtain ⟨x, b, off, Hx, rfl, hbB, c0⟩ := (hx.below (hb.mono hB)).str hlt
      obtain ⟨x', b', off', Hy, rfl, hbB', c0'⟩ := (hy.below (hb.mono hB)).str hlt
      obtain rfl : x = x' := by have := Hx.out.symm.trans Hy.out; simpa using this
      have i0 : (0 : Int) ≤ (k : Int) := by omega
      have i1 : (k : Int) < (n : Int) := by omega
      clear hx hy
      go_wp2
      go_quiet (fail)
      go_wp2
      have hb2 := below_drewN hb nq
      go_roundw
      all_goals first | exact ⟨k + 1, by omega, by go_num, hb2⟩ | exact ⟨⟨k + 1, by omega, by go_num, hb2⟩, by simp [intOf]; omega⟩ | (simp [intOf]; omega)
    · go_wp2
      go_ret
      exact ⟨rfl, hb⟩
/-- the marks of strings -/
def marksS (m : Int) (n : Nat) : List ByteArray := (List.range n).map fun i => mtxt (m + (i : Nat))
theorem marksS_succ (m : Int) (n : Nat) : marksS m (n + 1) = marksS m n ++ [mtxt (m + n)] := by simp [marksS, List.range_succ]
theorem marksS_len (m : Int) (n : Nat) : (marksS m n).length = n := by simp [marksS]
set_option maxHeartbeats 1000000 in
theorem markStringS_any (lo : Nat) (A : Option Addr) (n c : Nat) (l : List Value) (m : Int) (w : World) (hn : n ≤ 2000000) (h0 : 0 ≤ m) (h1 : m ≤ 9000000) (hown : w.ownsRow lo 9 1 (.slice A n c) n l) :
    Calls Tryz.prog 34 #[.slice A n c, .int .i64 m] w fun e w' => e = .returned (.int .i64 (m + n)) ∧ w'.ownsRow lo 9 1 (.slice A n c) n ((marksS m n).flatMap encS) ∧ w.grownBy w' (Value.slice A n c).ownBlock := by
  go_enter Tryz.func34, Tryz.ntmps34
  go_wp2
  go_loopw [1, 5] (fun s i w1 => ∃ k l1, k ≤ n ∧ i = .int .i64 (k : Nat) ∧ s = .int .i64 (m + (k : Nat)) ∧ w1.ownsRow lo 9 1 (.slice A n c) n l1 ∧ Pre l1 ((marksS m k).flatMap encS) ∧ w.grownBy w1 (Value.slice A n c).ownBlock) (fun _ i _ => n - (intOf i).toNat)
  case atStart => exact ⟨0, l, Nat.zero_le _, rfl, by go_num, hown, Pre.nil _, World.grownBy.refl _ _⟩
  case round =>
    obtain ⟨k, l1, hk, rfl, rfl, hown1, hpre, hg⟩ := hrel
    clear hown
    by_cases hlt : k < n
    · obtain ⟨g, rfl, hlo, hgs⟩ := own_some hown1 (by omega)
      have hP : ((marksS m k).flatMap encS).length = k := by rw [flatMap_len encS_len, marksS_len, Nat.mul_one]
      go_wp2_with fail
      refine (markText_any (m + (k : Nat)) _ (by omega) (by omega)).mono ?_
      rintro r v0 ⟨rfl, b0⟩
      have p0 := own_below hown1 b0
      replace hg := hg.trans (Span0 b0 _)
      clear b0
      obtain ⟨⟨u, e0⟩, f0⟩ := own_at p0 (Below.refl _ _) k (by omega)
      have s1 := own_set p0 hpre (j := k) hP.symm (by omega) (.string (mtxt (m + (k : Nat))))
      have e1 : (marksS m k).flatMap encS ++ [.string (mtxt (m + (k : Nat)))] = (marksS m (k + 1)).flatMap encS := by rw [marksS_succ, List.flatMap_append]; rfl
      rw [e1] at s1
      have hg2 := hg.trans (p0.stored k (.string (mtxt (m + (k : Nat))))).2
      clear e1 hP
      go_wp2_with fail
      go_roundw
      all_goals first | exact ⟨k + 1, _, by omega, by go_num, by go_num, s1.1, s1.2, hg2⟩ | exact ⟨⟨k + 1, _, by omega, by go_num, by go_num, s1.1, s1.2, hg2⟩, by simp [intOf]; omega⟩ | (simp [intOf]; omega)
    · have : k = n := by omega
      subst this
      have e := hpre.all (by rw [hown1.1, flatMap_len encS_len, marksS_len])
      subst e
      clear hpre
      go_wp2
      go_ret
      exact ⟨rfl, hown1, hg⟩
set_option maxHeartbeats 1000000 in
theorem heldStringS_any (A : Option Addr) (n c : Nat) (m : Int) (w : World) (B : Nat) (hB : B ≤ w.heap.size) (hn : n ≤ 2000000) (h0 : 0 ≤ m) (h1 : m ≤ 9000000) (hx : Sl w B 1 encS A n (marksS m n)) :
    Calls Tryz.prog 36 #[.slice A n c, .int .i64 m] w fun e w' => e = .returned (.int .i64 (m + n)) ∧ Below w.heap.size w w' := by
  go_enter Tryz.func36, Tryz.ntmps36
  go_wp2
  go_loopw [1, 5] (fun s i w1 => ∃ k : Nat, k ≤ n ∧ i = .int .i64 k ∧ s = .int .i64 (m + k) ∧ Below w.heap.size w w1) (fun _ i _ => n - (intOf i).toNat)
  case atStart => exact ⟨0, Nat.zero_le _, rfl, by go_num, Below.refl _ _⟩
  case round =>
    obtain ⟨k, hk, rfl, rfl, hb⟩ := hrel
    by_cases hlt : k < n
    · obtain ⟨x, b, off, Hx, rfl, hbB, c0⟩ := (hx.below (hb.mono hB)).str hlt
      obtain rfl : x = mtxt (m + k) := by
        have := Hx.out
        simp only [marksS, List.getElem?_map, List.getElem?_range hlt, Option.map_some, Option.some.injEq] at this
        exact this.symm
      have i0 : (0 : Int) ≤ (k : Int) := by omega
      have i1 : (k : Int) < (n : Int) := by omega
      clear hx
      have hm := fun W => markText_any (m + (k : Nat)) W (by omega) (by omega)
      generalize mtxt (m + (k : Nat)) = t at hm c0
      have q0 : ∀ i : After wr, i.w.cell? ⟨b, off + k, none⟩ = some (.string t) := After.cell c0
      go_wp2_with fail
      refine wp_after (by kernel_rfl) (by kernel_rfl) ?_
      repeat (first | go_big_quiet_skip | (go_big_quiet_want; go_big_quiet_op; first | go_big_quiet_on | go_big_quiet_call ((go_at_call 66; exact Calls.after (hm _)))))
      refine wpQuiet_nil ?_
      rintro _ ⟨i, rfl⟩
      replace hb := hb.trans (i.below.mono hb.size)
      go_wp2_with fail
      go_roundw
      all_goals first | exact ⟨k + 1, by omega, by go_num, by go_num, hb⟩ | exact ⟨⟨k + 1, by omega, by go_num, by go_num, hb⟩, by simp [intOf]; omega⟩ | (simp [intOf]; omega)
    · have : k = n := by omega
      subst this
      go_wp2
      go_ret
      exact ⟨rfl, hb⟩
theorem firstS {x y : ByteArray} {xs ys : List ByteArray} : (x :: xs = y :: ys) = (x = y ∧ xs = ys) := by simp
set_option maxHeartbeats 1000000 in
theorem equalS_any (A : Option Addr) (n c : Nat) (A' : Option Addr) (n' c' : Nat) (xs ys : List ByteArray) (w : World) (B : Nat) (hB : B ≤ w.heap.size) (hn : n ≤ 2000000) (hn' : n' ≤ 2000000) (hx : Sl w B 1 encS A n xs) (hy : Sl w B 1 encS A' n' ys) :
    Calls Tryz.prog 49 #[.slice A n c, .slice A' n' c'] w fun r w' => r = .returned (.bool (decide (xs = ys))) ∧ Below w.heap.size w w' := by
  have hxl := hx.len
  have hyl := hy.len
  by_cases hnn : n = n'
  · subst hnn
    go_enter Tryz.func49, Tryz.ntmps49
    go_wp2
    go_loopw [13] (fun i w1 => ∃ k : Nat, k ≤ n ∧ i = .int .i64 k ∧ Hid ((xs = ys) = (xs.drop k = ys.drop k)) ∧ Below w.heap.size w w1) (fun i _ => n - (intOf i).toNat)
    case atStart => exact ⟨0, Nat.zero_le _, rfl, hid rfl, Below.refl _ _⟩
    case round =>
      obtain ⟨k, hk, rfl, he, hb⟩ := hrel
      by_cases hlt : k < n
      · obtain ⟨x, b, off, Hx, rfl, hbB, c0⟩ := (hx.below (hb.mono hB)).str hlt
        obtain ⟨y, b', off', Hy, rfl, hbB', d0⟩ := (hy.below (hb.mono hB)).str hlt
        have he2 := he.out
        rw [drop_at Hx.out, drop_at Hy.out, firstS] at he2
        have lb : b < wr.heap.size := by have := hb.size; omega
        have lb' : b' < wr.heap.size := by have := hb.size; omega
        clear he hx hy Hx Hy
        by_cases q : x = y
        · have He2 : Hid ((xs = ys) = (xs.drop (k + 1) = ys.drop (k + 1))) := by rw [he2]; simp [Hid, q]
          subst q
          clear he2
          go_wp2
          go_quiet (fail)
          go_wp2
          have hb5 := below_drewN hb nq
          go_roundw
          all_goals first | exact ⟨k + 1, by omega, by go_num, He2, hb5⟩ | exact ⟨⟨k + 1, by omega, by go_num, He2, hb5⟩, by simp [intOf]; omega⟩ | (simp [intOf]; omega)
        · have E : Hid (decide (xs = ys) = false) := by rw [Hid, decide_eq_false_iff_not, he2]; exact fun h => q h.1
          have z0 := bs_ne q
          clear he2 q
          go_wp2
          go_quiet (fail)
          go_wp2
          go_ret
          exact ⟨retB E.out.symm, below_drewN hb nq⟩
      · have : k = n := by omega
        subst this
        have E : Hid (decide (xs = ys) = true) := by
          have he2 := he.out
          rw [List.drop_of_length_le (by omega), List.drop_of_length_le (by omega)] at he2
          rw [Hid, decide_eq_true_iff, he2]
        clear he
        go_wp2
        go_ret
        exact ⟨retB E.out.symm, hb⟩
  · have E : Hid (decide (xs = ys) = false) := by
      rw [Hid, decide_eq_false_iff_not]; intro h; subst h; exact hnn (hxl.symm.trans hyl)
    clear hx hy
    go_enter Tryz.func49, Tryz.ntmps49
    go_wp2
    go_ret
    exact ⟨retB E.out.symm, Below.refl _ _⟩
end Go.Proofs.YtcgkcfmiabninaaGreatDoor
/-
  Way: a struct of numbers: how a slice of it reads; its copies, comparisons and marks. No condition.
-/
namespace Go.Proofs.YtcgkcfmiabninaaGreatDoor
open Go.RowKit Go.ChangeShapes Go.WideShapes Go.ChangeAt Go.Deep
set_option maxHeartbeats 400000

structure Way where
  fr : ByteArray
  «to» : ByteArray
  metres : Int
  deriving DecidableEq
def encWay (x : Way) : List Value := [.string x.fr, .string x.«to», .int .i64 x.metres]
theorem encWay_len (x : Way) : (encWay x).length = 3 := rfl
theorem Sl.atWay {w : World} {B : Nat} {A : Option Addr} {n : Nat} {xs : List Way} (h : Sl w B 3 encWay A n xs) {i : Nat} (hi : i < n) :
    ∃ (x0 : ByteArray) (x1 : ByteArray) (x2 : Int) (b off : Nat), Hid (xs[i]? = some ⟨x0, x1, x2⟩) ∧ A = some ⟨b, off, none⟩ ∧ b < B ∧ w.cell? ⟨b, off + i * 3, none⟩ = some (.string x0) ∧ w.cell? ⟨b, off + i * 3 + 1, none⟩ = some (.string x1) ∧ w.cell? ⟨b, off + i * 3 + 2, none⟩ = some (.int .i64 x2) := by
  obtain ⟨⟨x0, x1, x2⟩, b, off, hx, e, hb, hc⟩ := h.at_ hi
  exact ⟨x0, x1, x2, b, off, hx, e, hb, hc 0 _ rfl, hc 1 _ rfl, hc 2 _ rfl⟩
theorem Sl.ofWay {w : World} {B n : Nat} {A : Option Addr} {xs : List Way} (h : Sl w B 3 encWay A n xs) {i : Nat} {x0 : ByteArray} {x1 : ByteArray} {x2 : Int} (hx : xs[i]? = some ⟨x0, x1, x2⟩) :
    ∃ b off, A = some ⟨b, off, none⟩ ∧ b < B ∧ w.cell? ⟨b, off + i * 3, none⟩ = some (.string x0) ∧ w.cell? ⟨b, off + i * 3 + 1, none⟩ = some (.string x1) ∧ w.cell? ⟨b, off + i * 3 + 2, none⟩ = some (.int .i64 x2) := by
  obtain ⟨b, off, e, hb, hc⟩ := h.2 i _ hx
  exact ⟨b, off, e, hb, hc 0 _ rfl, hc 1 _ rfl, hc 2 _ rfl⟩
theorem Sl.inWay {w : World} {B b off n : Nat} {xs : List Way} (h : Sl w B 3 encWay (some ⟨b, off, none⟩) n xs) {i : Nat} {x0 : ByteArray} {x1 : ByteArray} {x2 : Int} (hx : xs[i]? = some ⟨x0, x1, x2⟩) :
    w.cell? ⟨b, off + i * 3, none⟩ = some (.string x0) ∧ w.cell? ⟨b, off + i * 3 + 1, none⟩ = some (.string x1) ∧ w.cell? ⟨b, off + i * 3 + 2, none⟩ = some (.int .i64 x2) := by
  obtain ⟨b', off', e, _, hc⟩ := h.2 i _ hx
  injection e with e
  injection e with e1 e2
  subst e1 e2
  exact ⟨hc 0 _ rfl, hc 1 _ rfl, hc 2 _ rfl⟩

/-- the bytes of all strings of some Ways -/
def totWay (xs : List Way) : Nat := (xs.map fun x => x.fr.size + x.«to».size).sum
theorem totWay_take {xs : List Way} {k : Nat} {x : Way} (h : xs[k]? = some x) : totWay (xs.take (k + 1)) = totWay (xs.take k) + (x.fr.size + x.«to».size) := by
  rw [take_at h]; simp [totWay]
theorem totWay_mem {xs : List Way} {x : Way} (h : x ∈ xs) : (x.fr.size + x.«to».size) ≤ totWay xs := by
  induction xs with
  | nil => simp at h
  | cons y l ih =>
    simp only [totWay, List.map_cons, List.sum_cons]
    rcases List.mem_cons.1 h with rfl | h
    · omega
    · have := ih h
      simp only [totWay] at this
      omega
theorem totWay_le {xs : List Way} {k : Nat} : totWay (xs.take k) ≤ totWay xs := by
  induction xs generalizing k with
  | nil => simp
  | cons x l ih =>
    cases k with
    | zero => simp [totWay]
    | succ k =>
      have := @ih k
      simp only [totWay, List.take_succ_cons, List.map_cons, List.sum_cons] at this ⊢
      omega
theorem Way_info : (Tryz.prog.info? 62).map (fun i => (i.zero, i.size, i.bytes)) = some (some (.agg #[.string ByteArray.empty, .string ByteArray.empty, .int .i64 0]), 3, 40) := by kernel_rfl
theorem eqWay_yes (x0 : ByteArray) (x1 : ByteArray) (x2 : Int) (w : World) :
    Calls Tryz.prog 65 #[.agg #[.string x0, .string x1, .int .i64 x2], .agg #[.string x0, .string x1, .int .i64 x2]] w fun e w' => e = .returned (.bool true) ∧ Below w.heap.size w w' := by
  go_enter Tryz.func65, Tryz.ntmps65
  go_wp2
  all_goals go_ret
  all_goals refine ⟨rfl, ?_⟩
  all_goals repeat (first | with_reducible assumption | with_reducible exact Below.refl _ _ | with_reducible refine bl_drew ?_ | with_reducible refine bl_drewN ?_ | ((with_reducible refine bl_set ?_ ?_); focus (first | (simp; done) | (simp; omega) | omega)) | ((with_reducible refine bl_alloc ?_ ?_); focus (first | (simp; done) | (simp; omega) | omega)))
theorem eqWayS_yes (A : Option Addr) (n c : Nat) (A' : Option Addr) (n' c' : Nat) (w : World) (B : Nat) (hB : B ≤ w.heap.size) (xs : List Way) (hn : n ≤ 2000000) (hx : Sl w B 3 encWay A n xs) (hy : Sl w B 3 encWay A' n' xs) :
    Calls Tryz.prog 32 #[.slice A n c, .slice A' n' c'] w fun e w' => e = .returned (.bool true) ∧ Below w.heap.size w w' := by
  obtain rfl : n = n' := hx.len.symm.trans hy.len
  go_enter Tryz.func32, Tryz.ntmps32
  go_wp2
  go_loopw [5] (fun i w1 => ∃ k : Nat, k ≤ n ∧ i = .int .i64 k ∧ Below w.heap.size w w1) (fun i _ => n - (intOf i).toNat)
  case atStart => exact ⟨0, Nat.zero_le _, rfl, Below.refl _ _⟩
  case round =>
    obtain ⟨k, hk, rfl, hb⟩ := hrel
    by_cases hlt : k < n
    · obtain ⟨x0, x1, x2, b, off, Hx, rfl, hbB, c0, c1, c2⟩ := (hx.below (hb.mono hB)).atWay hlt
      obtain ⟨x0', x1', x2', b', off', Hy, rfl, hbB', c0', c1', c2'⟩ := (hy.below (hb.mono hB)).atWay hlt
      obtain ⟨rfl, rfl, rfl⟩ : x0 = x0' ∧ x1 = x1' ∧ x2 = x2' := by have := Hx.out.symm.trans Hy.out; simpa using this
      clear hx hy
      go_wp2
      go_region_with (go_at_call 65; refine (eqWay_yes _ _ _ _).mono ?_; rintro e w' ⟨rfl, hbb⟩)
      all_goals go_wp2
      all_goals have hb2 := hb.trans (Below.mono ((Below.refl _ _).drew.trans hbb) (by simpa using hb.size))
      all_goals go_roundw
      all_goals first | exact ⟨k + 1, by omega, by go_num, hb2⟩ | exact ⟨⟨k + 1, by omega, by go_num, hb2⟩, by simp [intOf]; omega⟩ | (simp [intOf]; omega)
    · go_wp2
      go_ret
      exact ⟨rfl, hb⟩
/-- the marks of some structs, one number a field -/
def marksWay (m : Int) (n : Nat) : List Way := (List.range n).map fun i => ⟨mtxt (m + 3 * (i : Nat)), mtxt (m + 3 * (i : Nat) + 1), m + 3 * (i : Nat) + 1 + 1⟩
theorem marksWay_succ (m : Int) (n : Nat) : marksWay m (n + 1) = marksWay m n ++ [⟨mtxt (m + 3 * n), mtxt (m + 3 * n + 1), m + 3 * n + 1 + 1⟩] := by simp [marksWay, List.range_succ]
theorem marksWay_len (m : Int) (n : Nat) : (marksWay m n).length = n := by simp [marksWay]
set_option maxHeartbeats 2000000 in
theorem markWayS_any (lo : Nat) (A : Option Addr) (n c : Nat) (l : List Value) (m : Int) (w : World) (hn : n ≤ 2000000) (h0 : 0 ≤ m) (h1 : m ≤ 9000000) (hown : w.ownsRow lo 62 3 (.slice A n c) n l) :
    Calls Tryz.prog 35 #[.slice A n c, .int .i64 m] w fun e w' => e = .returned (.int .i64 (m + 3 * n)) ∧ w'.ownsRow lo 62 3 (.slice A n c) n ((marksWay m n).flatMap encWay) ∧ w.grownBy w' (Value.slice A n c).ownBlock := by
  go_enter Tryz.func35, Tryz.ntmps35
  go_wp2
  go_loopw [1, 5] (fun s i w1 => ∃ k l1, k ≤ n ∧ i = .int .i64 (k : Nat) ∧ s = .int .i64 (m + 3 * (k : Nat)) ∧ w1.ownsRow lo 62 3 (.slice A n c) n l1 ∧ Pre l1 ((marksWay m k).flatMap encWay) ∧ w.grownBy w1 (Value.slice A n c).ownBlock) (fun _ i _ => n - (intOf i).toNat)
  case atStart => exact ⟨0, l, Nat.zero_le _, rfl, by go_num, hown, Pre.nil _, World.grownBy.refl _ _⟩
  case round =>
    obtain ⟨k, l1, hk, rfl, rfl, hown1, hpre, hg⟩ := hrel
    clear hown
    by_cases hlt : k < n
    · obtain ⟨g, rfl, hlo, hgs⟩ := own_some hown1 (by omega)
      have hP : ((marksWay m k).flatMap encWay).length = k * 3 := by rw [flatMap_len encWay_len, marksWay_len]
      go_wp2_with fail
      refine (markText_any (m + 3 * (k : Nat)) _ (by omega) (by omega)).mono ?_
      rintro r v0 ⟨rfl, b0⟩
      have p0 := own_below hown1 b0
      replace hg := hg.trans (Span0 b0 _)
      clear b0
      obtain ⟨⟨u0, e0⟩, f0⟩ := own_at p0 (Below.refl _ _) (k * 3) (by omega)
      have t1 := own_set p0 hpre (j := k * 3) hP.symm (by omega) (.string (mtxt (m + 3 * (k : Nat))))
      have g1 := (p0.stored (k * 3) (.string (mtxt (m + 3 * (k : Nat))))).2
      replace hg := hg.trans g1
      clear g1
      go_wp2_with fail
      refine (markText_any (m + 3 * (k : Nat) + 1) _ (by omega) (by omega)).mono ?_
      rintro r v1 ⟨rfl, b1⟩
      have p1 := own_below t1.1 b1
      replace hg := hg.trans (Span0 b1 _)
      clear b1
      obtain ⟨⟨u1, e1⟩, f1⟩ := own_at p1 (Below.refl _ _) (k * 3 + 1) (by omega)
      have t2 := own_set p1 t1.2 (j := k * 3 + 1) (by simp [hP]) (by omega) (.string (mtxt (m + 3 * (k : Nat) + 1)))
      have g2 := (p1.stored (k * 3 + 1) (.string (mtxt (m + 3 * (k : Nat) + 1)))).2
      replace hg := hg.trans g2
      clear g2
      obtain ⟨⟨u2, e2⟩, f2⟩ := own_at t2.1 (Below.refl _ _) (k * 3 + 2) (by omega)
      have t3 := own_set t2.1 t2.2 (j := k * 3 + 2) (by simp [hP]) (by omega) (.int .i64 (m + 3 * (k : Nat) + 1 + 1))
      have g3 := (t2.1.stored (k * 3 + 2) (.int .i64 (m + 3 * (k : Nat) + 1 + 1))).2
      replace hg := hg.trans g3
      clear g3
      have e9 : (((marksWay m k).flatMap encWay ++ [.string (mtxt (m + 3 * (k : Nat)))]) ++ [.string (mtxt (m + 3 * (k : Nat) + 1))]) ++ [.int .i64 (m + 3 * (k : Nat) + 1 + 1)] = (marksWay m (k + 1)).flatMap encWay := by rw [marksWay_succ, List.flatMap_append]; simp [encWay]
      have s9 := t3.2
      rw [e9] at s9
      have q9 := t3.1
      clear e9 hP
      go_wp2_with fail
      go_roundw
      all_goals first | exact ⟨k + 1, _, by omega, by go_num, by go_num, q9, s9, hg⟩ | exact ⟨⟨k + 1, _, by omega, by go_num, by go_num, q9, s9, hg⟩, by simp [intOf]; omega⟩ | (simp [intOf]; omega)
    · have : k = n := by omega
      subst this
      have e := hpre.all (by rw [hown1.1, flatMap_len encWay_len, marksWay_len])
      subst e
      clear hpre
      go_wp2
      go_ret
      exact ⟨rfl, hown1, hg⟩
set_option maxHeartbeats 2000000 in
theorem heldWayS_any (A : Option Addr) (n c : Nat) (m : Int) (w : World) (B : Nat) (hB : B ≤ w.heap.size) (hn : n ≤ 2000000) (h0 : 0 ≤ m) (h1 : m ≤ 9000000) (hx : Sl w B 3 encWay A n (marksWay m n)) :
    Calls Tryz.prog 37 #[.slice A n c, .int .i64 m] w fun e w' => e = .returned (.int .i64 (m + 3 * n)) ∧ Below w.heap.size w w' := by
  go_enter Tryz.func37, Tryz.ntmps37
  go_wp2
  go_loopw [1, 5] (fun s i w1 => ∃ k : Nat, k ≤ n ∧ i = .int .i64 k ∧ s = .int .i64 (m + 3 * k) ∧ Below w.heap.size w w1) (fun _ i _ => n - (intOf i).toNat)
  case atStart => exact ⟨0, Nat.zero_le _, rfl, by go_num, Below.refl _ _⟩
  case round =>
    obtain ⟨k, hk, rfl, rfl, hb⟩ := hrel
    by_cases hlt : k < n
    · obtain ⟨x0, x1, x2, b, off, Hx, rfl, hbB, c0, c1, c2⟩ := (hx.below (hb.mono hB)).atWay hlt
      obtain ⟨rfl, rfl, rfl⟩ : x0 = mtxt (m + 3 * k) ∧ x1 = mtxt (m + 3 * k + 1) ∧ x2 = m + 3 * k + 1 + 1 := by
        have := Hx.out
        simp only [marksWay, List.getElem?_map, List.getElem?_range hlt, Option.map_some, Option.some.injEq, Way.mk.injEq] at this
        obtain ⟨h0, h1, h2⟩ := this
        exact ⟨h0.symm, h1.symm, h2.symm⟩
      have i0 : (0 : Int) ≤ (k : Int) := by omega
      have i1 : (k : Int) < (n : Int) := by omega
      clear hx
      have hm0 := fun W => markText_any (m + 3 * (k : Nat)) W (by omega) (by omega)
      generalize mtxt (m + 3 * (k : Nat)) = t0 at hm0 c0
      have hm1 := fun W => markText_any (m + 3 * (k : Nat) + 1) W (by omega) (by omega)
      generalize mtxt (m + 3 * (k : Nat) + 1) = t1 at hm1 c1
      have q0 : ∀ i : After wr, i.w.cell? ⟨b, off + k * 3, none⟩ = some (.string t0) := After.cell c0
      go_wp2_with fail
      refine wp_after (by kernel_rfl) (by kernel_rfl) ?_
      repeat (first | go_big_quiet_skip | (go_big_quiet_want; go_big_quiet_op; first | go_big_quiet_on | go_big_quiet_call ((go_at_call 66; exact Calls.after (hm0 _)))))
      refine wpQuiet_nil ?_
      rintro _ ⟨i0, rfl⟩
      replace hb := hb.trans (i0.below.mono hb.size)
      replace c0 := below_cell c0 i0.below
      replace c1 := below_cell c1 i0.below
      replace c2 := below_cell c2 i0.below
      have q1 : ∀ i : After i0.w, i.w.cell? ⟨b, off + k * 3 + 1, none⟩ = some (.string t1) := After.cell c1
      go_wp2_with fail
      refine wp_after (by kernel_rfl) (by kernel_rfl) ?_
      repeat (first | go_big_quiet_skip | (go_big_quiet_want; go_big_quiet_op; first | go_big_quiet_on | go_big_quiet_call ((go_at_call 66; exact Calls.after (hm1 _)))))
      refine wpQuiet_nil ?_
      rintro _ ⟨i1, rfl⟩
      replace hb := hb.trans (i1.below.mono hb.size)
      replace c0 := below_cell c0 i1.below
      replace c1 := below_cell c1 i1.below
      replace c2 := below_cell c2 i1.below
      go_wp2_with fail
      go_roundw
      all_goals first | exact ⟨k + 1, by omega, by go_num, by go_num, hb⟩ | exact ⟨⟨k + 1, by omega, by go_num, by go_num, hb⟩, by simp [intOf]; omega⟩ | (simp [intOf]; omega)
    · have : k = n := by omega
      subst this
      go_wp2
      go_ret
      exact ⟨rfl, hb⟩
end Go.Proofs.YtcgkcfmiabninaaGreatDoor
/-
  Lists of Ways that are alike. No condition.
-/
namespace Go.Proofs.YtcgkcfmiabninaaGreatDoor
open Go.RowKit
set_option maxHeartbeats 400000

theorem diffWay (x0 y0 : ByteArray) (x1 y1 : ByteArray) (x2 y2 : Int) : (x0 = y0 ∧ x1 = y1 ∧ x2 = y2) ∨ (x0 ≠ y0) ∨ (x0 = y0 ∧ x1 ≠ y1) ∨ (x0 = y0 ∧ x1 = y1 ∧ x2 ≠ y2) := by
  by_cases h0 : x0 = y0
  rotate_left
  · exact .inr (.inl h0)
  by_cases h1 : x1 = y1
  rotate_left
  · exact .inr (.inr (.inl ⟨h0, h1⟩))
  by_cases h2 : x2 = y2
  · exact .inl ⟨h0, h1, h2⟩
  · exact .inr (.inr (.inr (⟨h0, h1, h2⟩)))
theorem firstWay {x0 y0 : ByteArray} {x1 y1 : ByteArray} {x2 y2 : Int} {xs ys : List Way} : ((⟨x0, x1, x2⟩ : Way) :: xs = ⟨y0, y1, y2⟩ :: ys) = ((x0 = y0 ∧ x1 = y1 ∧ x2 = y2) ∧ xs = ys) := by simp
set_option maxHeartbeats 1000000 in
theorem equalWay_any (A : Option Addr) (n c : Nat) (A' : Option Addr) (n' c' : Nat) (xs ys : List Way) (w : World) (B : Nat) (hB : B ≤ w.heap.size) (hn : n ≤ 2000000) (hn' : n' ≤ 2000000) (hx : Sl w B 3 encWay A n xs) (hy : Sl w B 3 encWay A' n' ys) :
    Calls Tryz.prog 50 #[.slice A n c, .slice A' n' c'] w fun r w' => r = .returned (.bool (decide (xs = ys))) ∧ Below w.heap.size w w' := by
  have hxl := hx.len
  have hyl := hy.len
  by_cases hnn : n = n'
  · subst hnn
    go_enter Tryz.func50, Tryz.ntmps50
    go_wp2
    go_loopw [13] (fun i w1 => ∃ k : Nat, k ≤ n ∧ i = .int .i64 k ∧ Hid ((xs = ys) = (xs.drop k = ys.drop k)) ∧ Below w.heap.size w w1) (fun i _ => n - (intOf i).toNat)
    case atStart => exact ⟨0, Nat.zero_le _, rfl, hid rfl, Below.refl _ _⟩
    case round =>
      obtain ⟨k, hk, rfl, he, hb⟩ := hrel
      by_cases hlt : k < n
      · obtain ⟨x0, x1, x2, b, off, Hx, rfl, hbB, c0, c1, c2⟩ := (hx.below (hb.mono hB)).atWay hlt
        obtain ⟨y0, y1, y2, b', off', Hy, rfl, hbB', d0, d1, d2⟩ := (hy.below (hb.mono hB)).atWay hlt
        have he2 := he.out
        rw [drop_at Hx.out, drop_at Hy.out, firstWay] at he2
        have lb : b < wr.heap.size := by have := hb.size; omega
        have lb' : b' < wr.heap.size := by have := hb.size; omega
        clear he hx hy Hx Hy
        rcases diffWay x0 y0 x1 y1 x2 y2 with q | q | ⟨rfl, q⟩ | ⟨rfl, rfl, q⟩
        · have He2 : Hid ((xs = ys) = (xs.drop (k + 1) = ys.drop (k + 1))) := by rw [he2]; simp [Hid, q]
          obtain ⟨rfl, rfl, rfl⟩ := q
          clear he2
          go_wp2
          go_quiet (fail)
          go_wp2
          have hb5 := below_drewN hb nq
          go_roundw
          all_goals first | exact ⟨k + 1, by omega, by go_num, He2, hb5⟩ | exact ⟨⟨k + 1, by omega, by go_num, He2, hb5⟩, by simp [intOf]; omega⟩ | (simp [intOf]; omega)
        · have E : Hid (decide (xs = ys) = false) := by rw [Hid, decide_eq_false_iff_not, he2]; exact fun h => q h.1.1
          have z0 := bs_ne q
          clear he2 q
          go_wp2
          go_quiet (fail)
          go_wp2
          go_ret
          exact ⟨retB E.out.symm, below_drewN hb nq⟩
        · have E : Hid (decide (xs = ys) = false) := by rw [Hid, decide_eq_false_iff_not, he2]; exact fun h => q h.1.2.1
          have z0 := bs_ne q
          clear he2 q
          go_wp2
          go_quiet (fail)
          go_wp2
          go_ret
          exact ⟨retB E.out.symm, below_drewN hb nq⟩
        · have E : Hid (decide (xs = ys) = false) := by rw [Hid, decide_eq_false_iff_not, he2]; exact fun h => q h.1.2.2
          have z0 : decide (x2 = y2) = false := by simpa using q
          have z1 : (x2 == y2) = false := by simpa using q
          clear he2 q
          go_wp2
          go_quiet (fail)
          go_wp2
          go_ret
          exact ⟨retB E.out.symm, below_drewN hb nq⟩
      · have : k = n := by omega
        subst this
        have E : Hid (decide (xs = ys) = true) := by
          have he2 := he.out
          rw [List.drop_of_length_le (by omega), List.drop_of_length_le (by omega)] at he2
          rw [Hid, decide_eq_true_iff, he2]
        clear he
        go_wp2
        go_ret
        exact ⟨retB E.out.symm, hb⟩
  · have E : Hid (decide (xs = ys) = false) := by
      rw [Hid, decide_eq_false_iff_not]; intro h; subst h; exact hnn (hxl.symm.trans hyl)
    clear hx hy
    go_enter Tryz.func50, Tryz.ntmps50
    go_wp2
    go_ret
    exact ⟨retB E.out.symm, Below.refl _ _⟩
end Go.Proofs.YtcgkcfmiabninaaGreatDoor
/-
  Schemes: three lists by value; sizes, copies, comparisons, marks; how one that comes in reads. No condition.
-/
namespace Go.Proofs.YtcgkcfmiabninaaGreatDoor
open Go.RowKit Go.ChangeShapes Go.WideShapes Go.ChangeAt Go.Deep
set_option maxHeartbeats 400000

structure Sch where
  st : List ByteArray
  rm : List ByteArray
  wy : List Way
  deriving DecidableEq
/-- the three slices of a scheme -/
structure SV where
  A1 : Option Addr
  n1 : Nat
  c1 : Nat
  A2 : Option Addr
  n2 : Nat
  c2 : Nat
  A3 : Option Addr
  n3 : Nat
  c3 : Nat
def SV.v (s : SV) : Value := .agg #[.slice s.A1 s.n1 s.c1, .slice s.A2 s.n2 s.c2, .slice s.A3 s.n3 s.c3]
structure SlX (w : World) (B : Nat) (s : SV) (x : Sch) : Prop where
  st : Sl w B 1 encS s.A1 s.n1 x.st
  rm : Sl w B 1 encS s.A2 s.n2 x.rm
  wy : Sl w B 3 encWay s.A3 s.n3 x.wy
theorem SlX.below {w w' : World} {B : Nat} {s : SV} {x : Sch} (h : SlX w B s x) (hb : Below B w w') : SlX w' B s x := ⟨h.st.below hb, h.rm.below hb, h.wy.below hb⟩
theorem SlX.more {w : World} {B B' : Nat} {s : SV} {x : Sch} (h : SlX w B s x) (hB : B ≤ B') : SlX w B' s x := ⟨h.st.more hB, h.rm.more hB, h.wy.more hB⟩
/-- all strings of a scheme are of some length -/
def BigX (x : Sch) : Prop := (∀ z ∈ x.st, z.size ≤ 9223372036854775807) ∧ (∀ z ∈ x.rm, z.size ≤ 9223372036854775807) ∧ ∀ z ∈ x.wy, z.fr.size ≤ 9223372036854775807 ∧ z.«to».size ≤ 9223372036854775807
def totX (x : Sch) : Nat := (x.st.length + totS x.st) + (x.rm.length + totS x.rm) + (x.wy.length + totWay x.wy)
/-- rows of a scheme of one's own -/
structure OwnX (w : World) (lo : Nat) (s : SV) (x : Sch) : Prop where
  st : w.ownsRow lo 9 1 (.slice s.A1 s.n1 s.c1) s.n1 (x.st.flatMap encS)
  rm : w.ownsRow lo 9 1 (.slice s.A2 s.n2 s.c2) s.n2 (x.rm.flatMap encS)
  wy : w.ownsRow lo 62 3 (.slice s.A3 s.n3 s.c3) s.n3 (x.wy.flatMap encWay)
  ap12 : ∀ b, (Value.slice s.A1 s.n1 s.c1).ownBlock = some b → (Value.slice s.A2 s.n2 s.c2).ownBlock ≠ some b
  ap13 : ∀ b, (Value.slice s.A1 s.n1 s.c1).ownBlock = some b → (Value.slice s.A3 s.n3 s.c3).ownBlock ≠ some b
  ap23 : ∀ b, (Value.slice s.A2 s.n2 s.c2).ownBlock = some b → (Value.slice s.A3 s.n3 s.c3).ownBlock ≠ some b
theorem OwnX.below {w w' : World} {lo : Nat} {s : SV} {x : Sch} (h : OwnX w lo s x) (hb : Below w.heap.size w w') : OwnX w' lo s x := ⟨own_below h.st hb, own_below h.rm hb, own_below h.wy hb, h.ap12, h.ap13, h.ap23⟩
theorem OwnX.sl {w : World} {lo : Nat} {s : SV} {x : Sch} (h : OwnX w lo s x) : SlX w w.heap.size s x := ⟨own_sl encS_len (by omega) h.st, own_sl encS_len (by omega) h.rm, own_sl encWay_len (by omega) h.wy⟩
theorem OwnX.mono {w : World} {lo lo' : Nat} {s : SV} {x : Sch} (h : OwnX w lo s x) (hl : lo' ≤ lo) : OwnX w lo' s x := ⟨h.st.mono hl, h.rm.mono hl, h.wy.mono hl, h.ap12, h.ap13, h.ap23⟩
/-- a scheme's rows are kept where blocks outside them are written -/
theorem OwnX.span {w w' : World} {lo : Nat} {s : SV} {x : Sch} (h : OwnX w lo s x) {a b : Nat} (hs : Span a b w w') (hv : w.heap.size ≤ a ∨ b ≤ lo) : OwnX w' lo s x := by
  refine ⟨hs.own h.st fun q hq hh => ?_, hs.own h.rm fun q hq hh => ?_, hs.own h.wy fun q hq hh => ?_, h.ap12, h.ap13, h.ap23⟩
  · have := h.st.lt q hq; omega
  · have := h.rm.lt q hq; omega
  · have := h.wy.lt q hq; omega
theorem Span.wide {lo hi lo' hi' : Nat} {a w : World} (h : Span lo hi a w) (h1 : lo' ≤ lo) (h2 : hi ≤ hi') : Span lo' hi' a w := ⟨h.os, h.tape, h.output, h.size, fun i hi hn => h.block i hi (fun hh => hn ⟨by omega, by omega⟩)⟩
def marksX (m : Int) (x : Sch) : Sch := ⟨marksS m x.st.length, marksS (m + x.st.length) x.rm.length, marksWay (m + x.st.length + x.rm.length) x.wy.length⟩
def lenX (x : Sch) : Int := x.st.length + x.rm.length + 3 * x.wy.length
theorem below_frz {w w' : World} {p : Addr} {v : Value} (hc : w.cell? p = some v) (h : w.frozen? p = false) (hb : Below w.heap.size w w') : w'.frozen? p = false := (hb.frozen (World.block_lt_of_cell? _ _ hc)).trans h
end Go.Proofs.YtcgkcfmiabninaaGreatDoor
/-
  Schemes: comparisons, marks; how one that comes in reads. No condition.
-/
namespace Go.Proofs.YtcgkcfmiabninaaGreatDoor
open Go.RowKit Go.ChangeShapes Go.WideShapes Go.ChangeAt Go.Deep Go.Joins
set_option maxHeartbeats 400000

def InX (s : SV) (lo hi : Nat) : Prop := ∀ b, ((Value.slice s.A1 s.n1 s.c1).ownBlock = some b ∨ (Value.slice s.A2 s.n2 s.c2).ownBlock = some b ∨ (Value.slice s.A3 s.n3 s.c3).ownBlock = some b) → lo ≤ b ∧ b < hi
theorem OwnX.inX {w : World} {lo : Nat} {s : SV} {x : Sch} (h : OwnX w lo s x) : InX s lo w.heap.size := fun b hb => by
  rcases hb with hb | hb | hb
  · exact h.st.lt b hb
  · exact h.rm.lt b hb
  · exact h.wy.lt b hb
set_option maxHeartbeats 1000000 in
theorem eqScheme_yes (s t : SV) (x : Sch) (w : World) (B : Nat) (hB : B ≤ w.heap.size) (hn1 : s.n1 ≤ 2000000) (hn2 : s.n2 ≤ 2000000) (hn3 : s.n3 ≤ 2000000) (hx : SlX w B s x) (hy : SlX w B t x) :
    Calls Tryz.prog 7 #[s.v, t.v] w fun e w' => e = .returned (.bool true) ∧ Below w.heap.size w w' := by
  obtain ⟨A1, n1, c1, A2, n2, c2, A3, n3, c3⟩ := s
  obtain ⟨A1', n1', c1', A2', n2', c2', A3', n3', c3'⟩ := t
  simp only [SV.v] at hn1 hn2 hn3 ⊢
  obtain ⟨W0, hW0⟩ : ∃ W0, W0 = (w.alloc (.cells #[.slice A1 n1 c1, .slice A2 n2 c2, .slice A3 n3 c3] 25)).alloc (.cells #[.slice A1' n1' c1', .slice A2' n2' c2', .slice A3' n3' c3'] 25) := ⟨_, rfl⟩
  have b0 : Below w.heap.size w W0 := by rw [hW0]; exact ((Below.refl _ _).alloc (Nat.le_refl _) _).alloc (by simp) _
  have k1 : W0.cell? ⟨w.heap.size, 1, none⟩ = some (.slice A2 n2 c2) := by rw [hW0]; go_simp
  have k2 : W0.cell? ⟨w.heap.size, 2, none⟩ = some (.slice A3 n3 c3) := by rw [hW0]; go_simp
  have l1 : W0.cell? ⟨w.heap.size + 1, 1, none⟩ = some (.slice A2' n2' c2') := by rw [hW0]; go_simp
  have l2 : W0.cell? ⟨w.heap.size + 1, 2, none⟩ = some (.slice A3' n3' c3') := by rw [hW0]; go_simp
  have HW := hid hW0
  have t1 := eqStringS_yes A1 n1 c1 A1' n1' c1' W0 B (Nat.le_trans hB b0.size) x.st hn1 (hx.st.below (b0.mono hB)) (hy.st.below (b0.mono hB))
  clear hW0
  go_enter Tryz.func7, Tryz.ntmps7
  go_wp2_with fail
  rw [← HW.out]
  refine t1.mono ?_
  rintro r w1 ⟨rfl, b1⟩
  replace k1 := below_cell k1 b1
  replace k2 := below_cell k2 b1
  replace l1 := below_cell l1 b1
  replace l2 := below_cell l2 b1
  replace b1 := b0.trans (b1.mono b0.size)
  go_wp2_with fail
  refine (eqStringS_yes A2 n2 c2 A2' n2' c2' _ B (Nat.le_trans hB b1.size) x.rm hn2 (hx.rm.below (b1.mono hB)) (hy.rm.below (b1.mono hB))).mono ?_
  rintro r w2 ⟨rfl, b2⟩
  replace k2 := below_cell k2 b2
  replace l2 := below_cell l2 b2
  replace b2 := b1.trans (b2.mono b1.size)
  go_wp2_with fail
  refine (eqWayS_yes A3 n3 c3 A3' n3' c3' _ B (Nat.le_trans hB b2.size) x.wy hn3 (hx.wy.below (b2.mono hB)) (hy.wy.below (b2.mono hB))).mono ?_
  rintro r w3 ⟨rfl, b3⟩
  go_wp2_with fail
  go_ret
  exact ⟨rfl, b2.trans (b3.mono b2.size)⟩
set_option maxHeartbeats 1000000 in
theorem markScheme_any (lo hi : Nat) (s : SV) (x : Sch) (m : Int) (w : World) (hn1 : s.n1 ≤ 2000000) (hn2 : s.n2 ≤ 2000000) (hn3 : s.n3 ≤ 2000000) (h0 : 0 ≤ m) (h1 : m ≤ 1000000) (ho : OwnX w lo s x) (hi' : InX s lo hi) :
    Calls Tryz.prog 9 #[s.v, .int .i64 m] w fun e w' => e = .returned (.int .i64 (m + lenX x)) ∧ OwnX w' lo s (marksX m x) ∧ Span lo hi w w' := by
  obtain ⟨A1, n1, c1, A2, n2, c2, A3, n3, c3⟩ := s
  simp only [SV.v] at hn1 hn2 hn3 ⊢
  obtain ⟨o1, o2, o3, p12, p13, p23⟩ := ho
  simp only at o1 o2 o3 p12 p13 p23
  have l1 := own_len encS_len (by omega) o1
  have l2 := own_len encS_len (by omega) o2
  have l3 := own_len encWay_len (by omega) o3
  have hl : lenX x = n1 + n2 + 3 * n3 := by simp only [lenX, ← l1, ← l2, ← l3]
  have hm : marksX m x = ⟨marksS m n1, marksS (m + n1) n2, marksWay (m + n1 + n2) n3⟩ := by simp only [marksX, ← l1, ← l2, ← l3]
  rw [hl, hm]
  obtain ⟨W0, hW0⟩ : ∃ W0, W0 = w.alloc (.cells #[.slice A1 n1 c1, .slice A2 n2 c2, .slice A3 n3 c3] 25) := ⟨_, rfl⟩
  have s0 : Span lo hi w W0 := by rw [hW0]; exact Span.ofBelow ((Below.refl _ _).alloc (Nat.le_refl _) _)
  have k1 : W0.cell? ⟨w.heap.size, 1, none⟩ = some (.slice A2 n2 c2) := by rw [hW0]; go_simp
  have k2 : W0.cell? ⟨w.heap.size, 2, none⟩ = some (.slice A3 n3 c3) := by rw [hW0]; go_simp
  have r1 : W0.ownsRow lo 9 1 (.slice A1 n1 c1) n1 (x.st.flatMap encS) := by rw [hW0]; exact o1.alloc _
  have r2 : W0.ownsRow lo 9 1 (.slice A2 n2 c2) n2 (x.rm.flatMap encS) := by rw [hW0]; exact o2.alloc _
  have r3 : W0.ownsRow lo 62 3 (.slice A3 n3 c3) n3 (x.wy.flatMap encWay) := by rw [hW0]; exact o3.alloc _
  have q1 := o1.lt
  have q2 := o2.lt
  have q3 := o3.lt
  have HW := hid hW0
  have hI1 : ∀ b, (Value.slice A1 n1 c1).ownBlock = some b → lo ≤ b ∧ b < hi := fun b h => hi' b (.inl h)
  have hI2 : ∀ b, (Value.slice A2 n2 c2).ownBlock = some b → lo ≤ b ∧ b < hi := fun b h => hi' b (.inr (.inl h))
  have hI3 : ∀ b, (Value.slice A3 n3 c3).ownBlock = some b → lo ≤ b ∧ b < hi := fun b h => hi' b (.inr (.inr h))
  clear hW0 o1 o2 o3 l1 l2 l3 hl hm hi'
  go_enter Tryz.func9, Tryz.ntmps9
  go_wp2_with fail
  rw [← HW.out]
  refine (markStringS_any lo A1 n1 c1 _ m W0 hn1 h0 (by omega) r1).mono ?_
  rintro r w1 ⟨rfl, m1, g1⟩
  have hne : ∀ (v : Value), (∀ b, v.ownBlock = some b → lo ≤ b ∧ b < w.heap.size) → some w.heap.size ≠ v.ownBlock := fun v h e => by have := (h _ e.symm).2; omega
  replace k1 := g1.cell k1 (hne _ q1)
  replace k2 := g1.cell k2 (hne _ q1)
  replace r2 := own_keep r2 (v2 := .slice A1 n1 c1) (fun b hb => p12 b hb) g1
  replace r3 := own_keep r3 (v2 := .slice A1 n1 c1) (fun b hb => p13 b hb) g1
  replace s0 := s0.trans (Span.ofGrown g1 hI1)
  clear g1 r1
  go_wp2_with fail
  refine (markStringS_any lo A2 n2 c2 _ (m + n1) w1 hn2 (by omega) (by omega) r2).mono ?_
  rintro r w2 ⟨rfl, m2, g2⟩
  replace k2 := g2.cell k2 (hne _ q2)
  replace m1 := own_keep m1 (v2 := .slice A2 n2 c2) (fun b hb e => p12 b e hb) g2
  replace r3 := own_keep r3 (v2 := .slice A2 n2 c2) (fun b hb => p23 b hb) g2
  replace s0 := s0.trans (Span.ofGrown g2 hI2)
  clear g2 r2
  go_wp2_with fail
  refine (markWayS_any lo A3 n3 c3 _ (m + n1 + n2) w2 hn3 (by omega) (by omega) r3).mono ?_
  rintro r w3 ⟨rfl, m3, g3⟩
  replace m1 := own_keep m1 (v2 := .slice A3 n3 c3) (fun b hb e => p13 b e hb) g3
  replace m2 := own_keep m2 (v2 := .slice A3 n3 c3) (fun b hb e => p23 b e hb) g3
  replace s0 := s0.trans (Span.ofGrown g3 hI3)
  clear g3 r3
  go_wp2_with fail
  go_ret
  exact ⟨retI (by omega), ⟨m1, m2, m3, p12, p13, p23⟩, s0⟩
set_option maxHeartbeats 1000000 in
theorem heldScheme_any (s : SV) (x : Sch) (m : Int) (w : World) (B : Nat) (hB : B ≤ w.heap.size) (hn1 : s.n1 ≤ 2000000) (hn2 : s.n2 ≤ 2000000) (hn3 : s.n3 ≤ 2000000) (hl1 : Hid (x.st.length = s.n1)) (hl2 : Hid (x.rm.length = s.n2)) (hl3 : Hid (x.wy.length = s.n3)) (h0 : 0 ≤ m) (h1 : m ≤ 1000000) (hx : SlX w B s (marksX m x)) :
    Calls Tryz.prog 11 #[s.v, .int .i64 m] w fun e w' => e = .returned (.int .i64 (m + lenX x)) ∧ Below w.heap.size w w' := by
  obtain ⟨A1, n1, c1, A2, n2, c2, A3, n3, c3⟩ := s
  simp only [SV.v] at hn1 hn2 hn3 hl1 hl2 hl3 ⊢
  have hl : lenX x = n1 + n2 + 3 * n3 := by simp only [lenX, hl1.out, hl2.out, hl3.out]
  have hm : marksX m x = ⟨marksS m n1, marksS (m + n1) n2, marksWay (m + n1 + n2) n3⟩ := by simp only [marksX, hl1.out, hl2.out, hl3.out]
  rw [hm] at hx
  rw [hl]
  obtain ⟨W0, hW0⟩ : ∃ W0, W0 = w.alloc (.cells #[.slice A1 n1 c1, .slice A2 n2 c2, .slice A3 n3 c3] 25) := ⟨_, rfl⟩
  have b0 : Below w.heap.size w W0 := by rw [hW0]; exact (Below.refl _ _).alloc (Nat.le_refl _) _
  have k1 : W0.cell? ⟨w.heap.size, 1, none⟩ = some (.slice A2 n2 c2) := by rw [hW0]; go_simp
  have k2 : W0.cell? ⟨w.heap.size, 2, none⟩ = some (.slice A3 n3 c3) := by rw [hW0]; go_simp
  have HW := hid hW0
  have t1 := heldStringS_any A1 n1 c1 m W0 B (Nat.le_trans hB b0.size) hn1 h0 (by omega) (hx.st.below (b0.mono hB))
  clear hW0 hl hm hl1 hl2 hl3
  go_enter Tryz.func11, Tryz.ntmps11
  go_wp2_with fail
  rw [← HW.out]
  refine t1.mono ?_
  rintro r w1 ⟨rfl, b1⟩
  replace k1 := below_cell k1 b1
  replace k2 := below_cell k2 b1
  replace b1 := b0.trans (b1.mono b0.size)
  go_wp2_with fail
  refine (heldStringS_any A2 n2 c2 (m + n1) _ B (Nat.le_trans hB b1.size) hn2 (by omega) (by omega) (hx.rm.below (b1.mono hB))).mono ?_
  rintro r w2 ⟨rfl, b2⟩
  replace k2 := below_cell k2 b2
  replace b2 := b1.trans (b2.mono b1.size)
  go_wp2_with fail
  refine (heldWayS_any A3 n3 c3 (m + n1 + n2) _ B (Nat.le_trans hB b2.size) hn3 (by omega) (by omega) (hx.wy.below (b2.mono hB))).mono ?_
  rintro r w3 ⟨rfl, b3⟩
  go_wp2_with fail
  go_ret
  exact ⟨retI (by omega), b2.trans (b3.mono b2.size)⟩
end Go.Proofs.YtcgkcfmiabninaaGreatDoor
/-
  Names: the program's test and the reference's. No condition.
-/
namespace Go.Proofs.YtcgkcfmiabninaaGreatDoor
open Go.RowKit
set_option maxHeartbeats 400000

theorem beq_int (a b : Int) : (a == b) = decide (a = b) := by by_cases h : a = b <;> simp [h]
def smallC (c : UInt8) : Bool := decide (97 ≤ (c.toNat : Int)) && decide ((c.toNat : Int) ≤ 122)
def digitC (c : UInt8) : Bool := decide (48 ≤ (c.toNat : Int)) && decide ((c.toNat : Int) ≤ 57)
def okC (c : UInt8) : Bool := smallC c || digitC c || decide ((c.toNat : Int) = 45)
def nameL : List UInt8 → Bool
  | [] => false
  | c :: r => smallC c && r.all okC
def nameB (s : ByteArray) : Bool := decide (s.size ≤ 12) && nameL s.data.toList
theorem nameB_big {s : ByteArray} (h : 12 < s.size) : nameB s = false := by simp [nameB]; omega
theorem nameB_nil {s : ByteArray} (h : s.size = 0) : nameB s = false := by
  have : s.data.toList = [] := List.eq_nil_of_length_eq_zero (by simpa using h)
  simp [nameB, nameL, this]
theorem bs_at {s : ByteArray} {k : Nat} (h : k < s.size) : s.data.toList[k]? = some s[k] := by
  rw [List.getElem?_eq_getElem (by simpa using h)]; rfl
theorem nameB_cons {s : ByteArray} (h0 : 0 < s.size) (h : s.size ≤ 12) : nameB s = (smallC s[0] && (s.data.toList.drop 1).all okC) := by
  have h1 := bs_at h0
  cases hl : s.data.toList with
  | nil => rw [hl] at h1; simp at h1
  | cons c r =>
    rw [hl] at h1
    simp at h1
    simp [nameB, nameL, hl, h, ← h1]
theorem bs_drop {s : ByteArray} {k : Nat} (h : k < s.size) : s.data.toList.drop k = s[k] :: s.data.toList.drop (k + 1) := drop_at (bs_at h)
theorem bs_end {s : ByteArray} : s.data.toList.drop s.size = [] := List.drop_of_length_le (by simp)
theorem l01Small_any (c : UInt8) (w : World) : Calls Tryz.prog 89 #[.int .u8 (c.toNat : Int)] w fun r w' => r = .returned (.bool (smallC c)) ∧ w' = w := by
  go_enter Tryz.func89, Tryz.ntmps89
  go_wp2
  all_goals go_ret
  all_goals exact ⟨retB (by simp [smallC]; try omega), rfl⟩
theorem l01Digit_any (c : UInt8) (w : World) : Calls Tryz.prog 76 #[.int .u8 (c.toNat : Int)] w fun r w' => r = .returned (.bool (digitC c)) ∧ w' = w := by
  go_enter Tryz.func76, Tryz.ntmps76
  go_wp2
  all_goals go_ret
  all_goals exact ⟨retB (by simp [digitC]; try omega), rfl⟩
set_option maxHeartbeats 2000000 in
theorem implIsName_any (s : ByteArray) (w : World) (hs : s.size ≤ 9223372036854775807) :
    Calls Tryz.prog 70 #[.string s] w fun r w' => r = .returned (.bool (nameB s)) ∧ w' = w := by
  by_cases h12 : 12 < s.size
  · have E := hid (nameB_big h12)
    go_enter Tryz.func70, Tryz.ntmps70
    go_wp2
    all_goals go_ret
    all_goals exact ⟨retB E.out.symm, rfl⟩
  by_cases h0 : s.size = 0
  · have E := hid (nameB_nil h0)
    have h1 : s.size < 1 := by omega
    clear h0
    go_enter Tryz.func70, Tryz.ntmps70
    go_wp2
    all_goals go_ret
    all_goals exact ⟨retB E.out.symm, rfl⟩
  have hp : 0 < s.size := by omega
  have h1 : ¬ s.size < 1 := by omega
  have E := hid (nameB_cons hp (by omega))
  clear h0
  cases hf : smallC s[0] with
  | false =>
    have E2 : Hid (nameB s = false) := by rw [Hid, E.out, hf]; rfl
    clear E
    simp [smallC] at hf
    go_enter Tryz.func70, Tryz.ntmps70
    go_wp2
    all_goals first
      | (go_ret; exact ⟨retB E2.out.symm, rfl⟩)
      | (exfalso; omega)
  | true =>
    have E2 : Hid (nameB s = (s.data.toList.drop 1).all okC) := by rw [Hid, E.out, hf]; rfl
    clear E
    simp [smallC] at hf
    obtain ⟨f1, f2⟩ := hf
    go_enter Tryz.func70, Tryz.ntmps70
    go_wp2
    go_loop [3] (fun i => ∃ k : Nat, k ≤ s.size ∧ 1 ≤ k ∧ i = .int .i64 k ∧ Hid (nameB s = (s.data.toList.drop k).all okC)) (fun i => s.size - (intOf i).toNat)
    case atStart => exact ⟨1, by omega, by omega, rfl, E2⟩
    case round =>
      obtain ⟨k, hk, hk1, rfl, he⟩ := hrel
      clear E2
      by_cases hlt : k < s.size
      · have he2 := he.out
        rw [bs_drop hlt, List.all_cons] at he2
        cases hc : okC s[k] with
        | false =>
          have E3 : Hid (nameB s = false) := by rw [Hid, he2, hc]; rfl
          clear he he2
          simp [okC, smallC, digitC] at hc
          go_wp2
          all_goals first
            | (go_ret; exact ⟨retB E3.out.symm, rfl⟩)
            | (exfalso; omega)
        | true =>
          have E3 : Hid (nameB s = (s.data.toList.drop (k + 1)).all okC) := by rw [Hid, he2, hc]; rfl
          clear he he2
          simp [okC, smallC, digitC] at hc
          go_wp2
          all_goals first
            | (exfalso; omega)
            | (go_round
               case rel => exact ⟨k + 1, by omega, by omega, by go_num, E3⟩
               case measure => simp [intOf]; omega)
      · have : k = s.size := by omega
        subst this
        have E3 : Hid (nameB s = true) := by rw [Hid, he.out, bs_end]; rfl
        clear he
        go_wp2
        go_ret
        exact ⟨retB E3.out.symm, rfl⟩
theorem toList_size (s : ByteArray) : s.toList.length = s.size := by rw [ByteArray.toList_eq]; simp
theorem bs_nil {s : ByteArray} (h : s.size = 0) : s.toList = [] := List.eq_nil_of_length_eq_zero (by rw [toList_size]; exact h)
theorem bs_full {s : ByteArray} (h : 0 < s.size) : s.toList.isEmpty = false := by
  cases hl : s.toList with
  | nil => have := toList_size s; rw [hl] at this; simp at this; omega
  | cons c r => rfl
set_option maxHeartbeats 2000000 in
theorem specIsName_any (s : ByteArray) (w : World) (hs : s.size ≤ 9223372036854775807) :
    Calls Tryz.prog 74 #[.string s] w fun r w' => r = .returned (.bool (nameB s)) ∧ w' = w := by
  by_cases h0 : s.size = 0
  · have E := hid (nameB_nil h0)
    have e0 := bs_nil h0
    clear h0
    go_enter Tryz.func74, Tryz.ntmps74
    go_wp2
    all_goals go_ret
    all_goals exact ⟨retB E.out.symm, rfl⟩
  have hp : 0 < s.size := by omega
  have e0 := bs_full hp
  clear h0
  by_cases h12 : 12 < s.size
  · have E := hid (nameB_big h12)
    go_enter Tryz.func74, Tryz.ntmps74
    go_wp2
    all_goals go_ret
    all_goals exact ⟨retB E.out.symm, rfl⟩
  have E := hid (nameB_cons hp (by omega))
  have hi := l01Small_any s[0]
  cases hf : smallC s[0] with
  | false =>
    have E2 : Hid (nameB s = false) := by rw [Hid, E.out, hf]; rfl
    rw [hf] at hi
    clear E hf
    go_enter Tryz.func74, Tryz.ntmps74
    go_wp2_with (go_at_call 89; refine (hi _).mono ?_; rintro r w1 ⟨rfl, rfl⟩)
    all_goals go_ret
    all_goals exact ⟨retB E2.out.symm, rfl⟩
  | true =>
    have E2 : Hid (nameB s = (s.data.toList.drop 0).all okC) := by
      rw [Hid, E.out, hf, bs_drop hp, List.all_cons, Bool.true_and]
      simp [okC, hf]
    rw [hf] at hi
    clear E hf
    go_enter Tryz.func74, Tryz.ntmps74
    go_wp2_with (go_at_call 89; refine (hi _).mono ?_; rintro r w1 ⟨rfl, rfl⟩)
    go_loop [3] (fun i => ∃ k : Nat, k ≤ s.size ∧ i = .int .i64 k ∧ Hid (nameB s = (s.data.toList.drop k).all okC)) (fun i => s.size - (intOf i).toNat)
    case atStart => exact ⟨0, by omega, rfl, E2⟩
    case round =>
      obtain ⟨k, hk, rfl, he⟩ := hrel
      clear E2 hi
      by_cases hlt : k < s.size
      · have he2 := he.out
        rw [bs_drop hlt, List.all_cons] at he2
        have h1 := l01Small_any s[k]
        have h2 := l01Digit_any s[k]
        have E3 : Hid (nameB s = ((smallC s[k] || digitC s[k] || decide (((s[k]).toNat : Int) = 45)) && (s.data.toList.drop (k + 1)).all okC)) := he2
        clear he he2
        cases q1 : smallC s[k] <;> cases q2 : digitC s[k]
        all_goals
          rw [q1] at h1 E3
          rw [q2] at h2 E3
          clear q1 q2
          cases q4 : decide (((s[k]).toNat : Int) = 45)
          all_goals
            have q5 : (((s[k]).toNat : Int) == 45) = decide (((s[k]).toNat : Int) = 45) := beq_int _ _
            rw [q4] at q5 E3
            clear q4
            go_wp2_with (first
              | (go_at_call 89; refine (h1 _).mono ?_; rintro r w1 ⟨rfl, rfl⟩)
              | (go_at_call 76; refine (h2 _).mono ?_; rintro r w1 ⟨rfl, rfl⟩))
          all_goals first
            | (go_ret; exact ⟨retB (by rw [E3.out]; rfl), rfl⟩)
            | (have E4 : Hid (nameB s = (s.data.toList.drop (k + 1)).all okC) := by rw [Hid, E3.out]; rfl
               go_round
               case rel => exact ⟨k + 1, by omega, by go_num, E4⟩
               case measure => simp [intOf]; omega)
      · have : k = s.size := by omega
        subst this
        have E3 : Hid (nameB s = true) := by rw [Hid, he.out, bs_end]; rfl
        clear he
        go_wp2
        go_ret
        exact ⟨retB E3.out.symm, rfl⟩
end Go.Proofs.YtcgkcfmiabninaaGreatDoor
