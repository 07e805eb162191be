/-
  Client: a struct of numbers: how a slice of it reads; its copies, comparisons and marks. No condition.
-/
import Derived.Test.YtddnnmfeajnjfaaInt
import Derived.Test.YtddnnmfeajnjfaaOpen
import Derived.Test.YtddnnmfeajnjfaaStr
namespace Go.Proofs.Ytddnnmfeajnjfaa
open Go.RowKit Go.ChangeShapes Go.WideShapes Go.ChangeAt Go.Deep
set_option maxHeartbeats 400000

structure Client where
  name : ByteArray
  st : Int
  fr : Int
  to : Int
  quota : Int
  deriving DecidableEq
def encClient (x : Client) : List Value := [.string x.name, .int .i64 x.st, .int .i64 x.fr, .int .i64 x.to, .int .i64 x.quota]
theorem encClient_len (x : Client) : (encClient x).length = 5 := rfl
theorem Sl.atClient {w : World} {B : Nat} {A : Option Addr} {n : Nat} {xs : List Client} (h : Sl w B 5 encClient A n xs) {i : Nat} (hi : i < n) :
    ∃ (x0 : ByteArray) (x1 : Int) (x2 : Int) (x3 : Int) (x4 : Int) (b off : Nat), Hid (xs[i]? = some ⟨x0, x1, x2, x3, x4⟩) ∧ A = some ⟨b, off, none⟩ ∧ b < B ∧ w.cell? ⟨b, off + i * 5, none⟩ = some (.string x0) ∧ w.cell? ⟨b, off + i * 5 + 1, none⟩ = some (.int .i64 x1) ∧ w.cell? ⟨b, off + i * 5 + 2, none⟩ = some (.int .i64 x2) ∧ w.cell? ⟨b, off + i * 5 + 3, none⟩ = some (.int .i64 x3) ∧ w.cell? ⟨b, off + i * 5 + 4, none⟩ = some (.int .i64 x4) := by
  obtain ⟨⟨x0, x1, x2, x3, x4⟩, b, off, hx, e, hb, hc⟩ := h.at_ hi
  exact ⟨x0, x1, x2, x3, x4, b, off, hx, e, hb, hc 0 _ rfl, hc 1 _ rfl, hc 2 _ rfl, hc 3 _ rfl, hc 4 _ rfl⟩
theorem Sl.ofClient {w : World} {B n : Nat} {A : Option Addr} {xs : List Client} (h : Sl w B 5 encClient A n xs) {i : Nat} {x0 : ByteArray} {x1 : Int} {x2 : Int} {x3 : Int} {x4 : Int} (hx : xs[i]? = some ⟨x0, x1, x2, x3, x4⟩) :
    ∃ b off, A = some ⟨b, off, none⟩ ∧ b < B ∧ w.cell? ⟨b, off + i * 5, none⟩ = some (.string x0) ∧ w.cell? ⟨b, off + i * 5 + 1, none⟩ = some (.int .i64 x1) ∧ w.cell? ⟨b, off + i * 5 + 2, none⟩ = some (.int .i64 x2) ∧ w.cell? ⟨b, off + i * 5 + 3, none⟩ = some (.int .i64 x3) ∧ w.cell? ⟨b, off + i * 5 + 4, none⟩ = some (.int .i64 x4) := by
  obtain ⟨b, off, e, hb, hc⟩ := h.2 i _ hx
  exact ⟨b, off, e, hb, hc 0 _ rfl, hc 1 _ rfl, hc 2 _ rfl, hc 3 _ rfl, hc 4 _ rfl⟩
theorem Sl.inClient {w : World} {B b off n : Nat} {xs : List Client} (h : Sl w B 5 encClient (some ⟨b, off, none⟩) n xs) {i : Nat} {x0 : ByteArray} {x1 : Int} {x2 : Int} {x3 : Int} {x4 : Int} (hx : xs[i]? = some ⟨x0, x1, x2, x3, x4⟩) :
    w.cell? ⟨b, off + i * 5, none⟩ = some (.string x0) ∧ w.cell? ⟨b, off + i * 5 + 1, none⟩ = some (.int .i64 x1) ∧ w.cell? ⟨b, off + i * 5 + 2, none⟩ = some (.int .i64 x2) ∧ w.cell? ⟨b, off + i * 5 + 3, none⟩ = some (.int .i64 x3) ∧ w.cell? ⟨b, off + i * 5 + 4, none⟩ = some (.int .i64 x4) := by
  obtain ⟨b', off', e, _, hc⟩ := h.2 i _ hx
  injection e with e
  injection e with e1 e2
  subst e1 e2
  exact ⟨hc 0 _ rfl, hc 1 _ rfl, hc 2 _ rfl, hc 3 _ rfl, hc 4 _ rfl⟩

/-- the bytes of all strings of some Clients -/
def totClient (xs : List Client) : Nat := (xs.map fun x => x.name.size).sum
theorem totClient_take {xs : List Client} {k : Nat} {x : Client} (h : xs[k]? = some x) : totClient (xs.take (k + 1)) = totClient (xs.take k) + (x.name.size) := by
  rw [take_at h]; simp [totClient]
theorem totClient_mem {xs : List Client} {x : Client} (h : x ∈ xs) : (x.name.size) ≤ totClient xs := by
  induction xs with
  | nil => simp at h
  | cons y l ih =>
    simp only [totClient, List.map_cons, List.sum_cons]
    rcases List.mem_cons.1 h with rfl | h
    · omega
    · have := ih h
      simp only [totClient] at this
      omega
theorem totClient_le {xs : List Client} {k : Nat} : totClient (xs.take k) ≤ totClient xs := by
  induction xs generalizing k with
  | nil => simp
  | cons x l ih =>
    cases k with
    | zero => simp [totClient]
    | succ k =>
      have := @ih k
      simp only [totClient, List.take_succ_cons, List.map_cons, List.sum_cons] at this ⊢
      omega
theorem szClient_any (x0 : ByteArray) (x1 : Int) (x2 : Int) (x3 : Int) (x4 : Int) (left : Int) (w : World) (h0 : 0 ≤ left) (h1 : left ≤ 1048576) (s0 : x0.size ≤ 9223372036854775807) :
    Calls Try.prog 12 #[.agg #[.string x0, .int .i64 x1, .int .i64 x2, .int .i64 x3, .int .i64 x4], .int .i64 left] w fun e w' => e = .returned (.int .i64 (szF left (x0.size))) ∧ Below w.heap.size w w' := by
  unfold szF
  go_enter Try.func12, Try.ntmps12
  go_wp2
  all_goals go_ret
  all_goals refine ⟨retI (by first | rfl | (split <;> omega)), ?_⟩
  all_goals repeat (first | with_reducible assumption | with_reducible exact Below.refl _ _ | with_reducible refine bl_drew ?_ | with_reducible refine bl_drewN ?_ | ((with_reducible refine bl_set ?_ ?_); focus (first | (simp; done) | (simp; omega) | omega)) | ((with_reducible refine bl_alloc ?_ ?_); focus (first | (simp; done) | (simp; omega) | omega)))
theorem szClientS_any (A : Option Addr) (n c : Nat) (xs : List Client) (left : Int) (w : World) (B : Nat) (hB : B ≤ w.heap.size) (hn : n ≤ 9223372036854775807) (h0 : 0 ≤ left) (h1 : left ≤ 1048576) (hx : Sl w B 5 encClient A n xs) (hz : Hid (∀ x ∈ xs, x.name.size ≤ 9223372036854775807)) :
    Calls Try.prog 5 #[.slice A n c, .int .i64 left] w fun e w' => e = .returned (.int .i64 (szF left (n + totClient xs))) ∧ Below w.heap.size w w' := by
  have hlx := hid hx.len
  by_cases hg : left < (n : Int)
  · have E : Hid (szF left (n + totClient xs) = -1) := szF_no (by omega)
    clear hx
    go_enter Try.func5, Try.ntmps5
    go_wp2_with fail
    go_ret
    exact ⟨retI E.out.symm, Below.refl _ _⟩
  · go_enter Try.func5, Try.ntmps5
    go_wp2_with fail
    go_loopw [1, 5] (fun s i w1 => ∃ (k : Nat) (z : Int), k ≤ n ∧ i = .int .i64 k ∧ s = .int .i64 z ∧ 0 ≤ z ∧ z ≤ 1048576 ∧ Hid (z = left - n - (totClient (xs.take k) : Nat)) ∧ Below w.heap.size w w1) (fun _ i _ => n - (intOf i).toNat)
    case atStart => exact ⟨0, left - n, Nat.zero_le _, rfl, rfl, by omega, by omega, by simp [Hid, totClient], Below.refl _ _⟩
    case round =>
      obtain ⟨k, z, hk, rfl, rfl, z0, z1, he, hb⟩ := hrel
      by_cases hlt : k < n
      · obtain ⟨x0, x1, x2, x3, x4, b, off, Hx, rfl, hbB, c0, c1, c2, c3, c4⟩ := (hx.below (hb.mono hB)).atClient hlt
        have ht := hid (totClient_take Hx.out)
        have hsz := hz.out _ (List.mem_of_getElem? Hx.out)
        simp only at hsz
        have s0 := hsz
        have hs := fun W => szClient_any x0 x1 x2 x3 x4 z W z0 z1 s0
        have i0 : (0 : Int) ≤ (k : Int) := by omega
        have i1 : (k : Int) < (n : Int) := by omega
        clear hx
        by_cases hq : z < ((x0.size : Nat) : Int)
        · have E : Hid (szF left (n + totClient xs) = -1) := szF_no (by have h1 := ht.out; have h2 := he.out; have h3 := totClient_le (xs := xs) (k := k + 1); simp only at h1; omega)
          have E2 := hid (szF_no hq)
          generalize szF z (x0.size) = v at hs E2
          rw [E2.out] at hs
          clear E2
          go_wp2_with fail
          refine (hs _).mono ?_
          rintro e w' ⟨rfl, b1⟩
          go_wp2_with fail
          go_ret
          exact ⟨retI E.out.symm, hb.trans (b1.mono hb.size)⟩
        · have E2 := hid (szF_yes (n := (x0.size)) (by omega : ((x0.size : Nat) : Int) ≤ z))
          have hv : ∃ v, szF z (x0.size) = v ∧ 0 ≤ v ∧ v ≤ 1048576 ∧ Hid (v = left - n - (totClient (xs.take (k + 1)) : Nat)) := ⟨_, rfl, by rw [E2.out]; omega, by rw [E2.out]; omega, by
            rw [Hid, E2.out, ht.out, he.out]
            simp only
            omega⟩
          obtain ⟨v, hv, v0, v1, V⟩ := hv
          rw [hv] at hs
          clear E2 hv
          go_wp2_with fail
          refine (hs _).mono ?_
          rintro e w' ⟨rfl, b1⟩
          have hb2 := hb.trans (b1.mono hb.size)
          go_wp2_with fail
          go_roundw
          all_goals first | exact ⟨k + 1, v, by omega, by go_num, rfl, v0, v1, V, hb2⟩ | exact ⟨⟨k + 1, v, by omega, by go_num, rfl, v0, v1, V, hb2⟩, by simp [intOf]; omega⟩ | (simp [intOf]; omega)
      · have : k = n := by omega
        subst this
        have E : Hid (szF left (k + totClient xs) = z) := by
          have h1 := he.out
          rw [List.take_of_length_le (by rw [hlx.out]; omega)] at h1
          rw [Hid, szF_yes (by omega)]
          omega
        clear hx
        go_wp2
        go_ret
        exact ⟨retI E.out.symm, hb⟩
theorem toClient_any (x0 : ByteArray) (x1 : Int) (x2 : Int) (x3 : Int) (x4 : Int) (w : World) :
    Calls Try.prog 13 #[.agg #[.string x0, .int .i64 x1, .int .i64 x2, .int .i64 x3, .int .i64 x4]] w fun e w' => e = .returned (.agg #[.string x0, .int .i64 x1, .int .i64 x2, .int .i64 x3, .int .i64 x4]) ∧ Below w.heap.size w w' := by
  go_enter Try.func13, Try.ntmps13
  go_wp2
  refine bodyPost_ret (v := .agg #[.string x0, .int .i64 x1, .int .i64 x2, .int .i64 x3, .int .i64 x4]) (by simp [results, Try.results13, go_sem]) rfl ⟨rfl, ?_⟩
  repeat (first | with_reducible assumption | with_reducible exact Below.refl _ _ | with_reducible refine bl_drew ?_ | with_reducible refine bl_drewN ?_ | ((with_reducible refine bl_set ?_ ?_); focus (first | (simp; done) | (simp; omega) | omega)) | ((with_reducible refine bl_alloc ?_ ?_); focus (first | (simp; done) | (simp; omega) | omega)))
theorem Client_info : (Try.prog.info? 33).map (fun i => (i.zero, i.size, i.bytes)) = some (some (.agg #[.string ByteArray.empty, .int .i64 0, .int .i64 0, .int .i64 0, .int .i64 0]), 5, 48) := by kernel_rfl
theorem eqClient_yes (x0 : ByteArray) (x1 : Int) (x2 : Int) (x3 : Int) (x4 : Int) (w : World) :
    Calls Try.prog 15 #[.agg #[.string x0, .int .i64 x1, .int .i64 x2, .int .i64 x3, .int .i64 x4], .agg #[.string x0, .int .i64 x1, .int .i64 x2, .int .i64 x3, .int .i64 x4]] w fun e w' => e = .returned (.bool true) ∧ Below w.heap.size w w' := by
  go_enter Try.func15, Try.ntmps15
  go_wp2
  all_goals go_ret
  all_goals refine ⟨rfl, ?_⟩
  all_goals repeat (first | with_reducible assumption | with_reducible exact Below.refl _ _ | with_reducible refine bl_drew ?_ | with_reducible refine bl_drewN ?_ | ((with_reducible refine bl_set ?_ ?_); focus (first | (simp; done) | (simp; omega) | omega)) | ((with_reducible refine bl_alloc ?_ ?_); focus (first | (simp; done) | (simp; omega) | omega)))
theorem eqClientS_yes (A : Option Addr) (n c : Nat) (A' : Option Addr) (n' c' : Nat) (w : World) (B : Nat) (hB : B ≤ w.heap.size) (xs : List Client) (hn : n ≤ 2000000) (hx : Sl w B 5 encClient A n xs) (hy : Sl w B 5 encClient A' n' xs) :
    Calls Try.prog 9 #[.slice A n c, .slice A' n' c'] w fun e w' => e = .returned (.bool true) ∧ Below w.heap.size w w' := by
  obtain rfl : n = n' := hx.len.symm.trans hy.len
  go_enter Try.func9, Try.ntmps9
  go_wp2
  go_loopw [5] (fun i w1 => ∃ k : Nat, k ≤ n ∧ i = .int .i64 k ∧ Below w.heap.size w w1) (fun i _ => n - (intOf i).toNat)
  case atStart => exact ⟨0, Nat.zero_le _, rfl, Below.refl _ _⟩
  case round =>
    obtain ⟨k, hk, rfl, hb⟩ := hrel
    by_cases hlt : k < n
    · obtain ⟨x0, x1, x2, x3, x4, b, off, Hx, rfl, hbB, c0, c1, c2, c3, c4⟩ := (hx.below (hb.mono hB)).atClient hlt
      obtain ⟨x0', x1', x2', x3', x4', b', off', Hy, rfl, hbB', c0', c1', c2', c3', c4'⟩ := (hy.below (hb.mono hB)).atClient hlt
      obtain ⟨rfl, rfl, rfl, rfl, rfl⟩ : x0 = x0' ∧ x1 = x1' ∧ x2 = x2' ∧ x3 = x3' ∧ x4 = x4' := by have := Hx.out.symm.trans Hy.out; simpa using this
      clear hx hy
      go_wp2
      go_region_with (go_at_call 15; refine (eqClient_yes _ _ _ _ _ _).mono ?_; rintro e w' ⟨rfl, hbb⟩)
      all_goals go_wp2
      all_goals have hb2 := hb.trans (Below.mono ((Below.refl _ _).drew.trans hbb) (by simpa using hb.size))
      all_goals go_roundw
      all_goals first | exact ⟨k + 1, by omega, by go_num, hb2⟩ | exact ⟨⟨k + 1, by omega, by go_num, hb2⟩, by simp [intOf]; omega⟩ | (simp [intOf]; omega)
    · go_wp2
      go_ret
      exact ⟨rfl, hb⟩
theorem toClientS_any (A : Option Addr) (n c : Nat) (xs : List Client) (w : World) (B : Nat) (hB : B ≤ w.heap.size) (hn : n ≤ 2000000) (hx : Sl w B 5 encClient A n xs) :
    Calls Try.prog 7 #[.slice A n c] w fun e w' => ∃ g, e = .returned (.slice (some ⟨g, 0, none⟩) n n) ∧ w'.ownsRow w.heap.size 33 5 (.slice (some ⟨g, 0, none⟩) n n) n (xs.flatMap encClient) ∧ Below w.heap.size w w' := by
  obtain ⟨i0, hi, hz0, hz1, hz2⟩ := info_parts Client_info
  have hmk : ∀ u : World, (Instr.makeSlice 25 (.int .i64 (n : Int)) (.int .i64 (n : Int))).run Try.prog u =
      .ok (.slice (some ⟨u.heap.size, 0, none⟩) n n) (u.alloc (.cells (madeCells #[.string ByteArray.empty, .int .i64 0, .int .i64 0, .int .i64 0, .int .i64 0] (n * 5)) 33)) := fun u => by
    have h := run_make (P := Try.prog) u 25 33 i0 _ Try.underlying25 hi hz0 .i64 .i64 (n : Int) (n : Int) (by omega) (Int.le_refl _) (by rw [hz2]; omega) (by omega)
    simpa [hz1, Value.cells] using h
  clear hi hz0 hz1 hz2
  have hown0 : ((w.alloc (.cells (madeCells #[.string ByteArray.empty, .int .i64 0, .int .i64 0, .int .i64 0, .int .i64 0] (n * 5)) 33))).ownsRow w.heap.size 33 5 (.slice (some ⟨w.heap.size, 0, none⟩) n n) n (madeCells #[.string ByteArray.empty, .int .i64 0, .int .i64 0, .int .i64 0, .int .i64 0] (n * 5)).toList :=
    World.ownsRow_lit w _ n (Nat.le_refl _) (by simp only [maxLen]; omega) (size_madeCells _ _)
  go_enter Try.func7, Try.ntmps7
  go_wp2
  go_loopw [4] (fun i w1 => ∃ k l, k ≤ n ∧ i = .int .i64 (k : Nat) ∧ w1.ownsRow w.heap.size 33 5 (.slice (some ⟨w.heap.size, 0, none⟩) n n) n l ∧ Pre l ((xs.take k).flatMap encClient) ∧ Below w.heap.size w w1) (fun i _ => n - (intOf i).toNat)
  case atStart => exact ⟨0, _, Nat.zero_le _, rfl, hown0, Pre.nil _, (Below.refl _ _).alloc (Nat.le_refl _) _⟩
  case round =>
    obtain ⟨k, l, hk, rfl, hown, hpre, hb⟩ := hrel
    clear hown0 hmk
    by_cases hlt : k < n
    · obtain ⟨x0, x1, x2, x3, x4, b, off, Hx, rfl, hbB, c0, c1, c2, c3, c4⟩ := (hx.below (hb.mono hB)).atClient hlt
      have f0 := fun W hB => (own_at (w' := W) hown hB (k * 5) (by omega)).2
      have e0 := fun W hB => (own_at (w' := W) hown hB (k * 5) (by omega)).1
      have f1 := fun W hB => (own_at (w' := W) hown hB (k * 5 + 1) (by omega)).2
      have e1 := fun W hB => (own_at (w' := W) hown hB (k * 5 + 1) (by omega)).1
      have f2 := fun W hB => (own_at (w' := W) hown hB (k * 5 + 2) (by omega)).2
      have e2 := fun W hB => (own_at (w' := W) hown hB (k * 5 + 2) (by omega)).1
      have f3 := fun W hB => (own_at (w' := W) hown hB (k * 5 + 3) (by omega)).2
      have e3 := fun W hB => (own_at (w' := W) hown hB (k * 5 + 3) (by omega)).1
      have f4 := fun W hB => (own_at (w' := W) hown hB (k * 5 + 4) (by omega)).2
      have e4 := fun W hB => (own_at (w' := W) hown hB (k * 5 + 4) (by omega)).1
      go_wp2_with (go_at_call 13; refine (toClient_any _ _ _ _ _ _).mono ?_; rintro e w' ⟨rfl, hbb⟩; replace f0 := f0 _ hbb; obtain ⟨v0, e0⟩ := e0 _ hbb; replace f1 := f1 _ hbb; obtain ⟨v1, e1⟩ := e1 _ hbb; replace f2 := f2 _ hbb; obtain ⟨v2, e2⟩ := e2 _ hbb; replace f3 := f3 _ hbb; obtain ⟨v3, e3⟩ := e3 _ hbb; replace f4 := f4 _ hbb; obtain ⟨v4, e4⟩ := e4 _ hbb)
      go_roundw
      case measure => simp [intOf]; omega
      case rel =>
        have hP : ((xs.take k).flatMap encClient).length = k * 5 := by rw [flatMap_len encClient_len, List.length_take_of_le (by rw [hx.len]; omega)]
        have s1 := own_set (own_below hown hbb) hpre (j := k * 5) hP.symm (by omega) (.string x0)
        have s2 := own_set s1.1 s1.2 (j := k * 5 + 1) (by simp [hP]) (by omega) (.int .i64 x1)
        have s3 := own_set s2.1 s2.2 (j := k * 5 + 2) (by simp [hP]) (by omega) (.int .i64 x2)
        have s4 := own_set s3.1 s3.2 (j := k * 5 + 3) (by simp [hP]) (by omega) (.int .i64 x3)
        have s5 := own_set s4.1 s4.2 (j := k * 5 + 4) (by simp [hP]) (by omega) (.int .i64 x4)
        refine ⟨k + 1, _, by omega, by go_num, s5.1, ?_, ?_⟩
        · rw [take_at Hx.out, List.flatMap_append]
          have := s5.2
          simpa [encClient] using this
        · have hb2 := hb.trans (hbb.mono hb.size)
          repeat (first | with_reducible assumption | with_reducible exact Below.refl _ _ | with_reducible refine bl_drew ?_ | with_reducible refine bl_drewN ?_ | ((with_reducible refine bl_set ?_ ?_); focus (first | (simp; done) | (simp; omega) | omega)) | ((with_reducible refine bl_alloc ?_ ?_); focus (first | (simp; done) | (simp; omega) | omega)))
    · have : k = n := by omega
      subst this
      have hP : (xs.flatMap encClient).length = k * 5 := by rw [flatMap_len encClient_len, hx.len]
      rw [List.take_of_length_le (by rw [hx.len]; omega)] at hpre
      have e := hpre.all (by rw [hown.1, hP])
      subst e
      clear hpre hP
      go_wp2
      go_ret
      exact ⟨_, rfl, hown, hb⟩
/-- the marks of some structs, one number a field -/
def marksClient (m : Int) (n : Nat) : List Client := (List.range n).map fun i => ⟨mtxt (m + 5 * (i : Nat)), m + 5 * (i : Nat) + 1, m + 5 * (i : Nat) + 1 + 1, m + 5 * (i : Nat) + 1 + 1 + 1, m + 5 * (i : Nat) + 1 + 1 + 1 + 1⟩
theorem marksClient_succ (m : Int) (n : Nat) : marksClient m (n + 1) = marksClient m n ++ [⟨mtxt (m + 5 * n), m + 5 * n + 1, m + 5 * n + 1 + 1, m + 5 * n + 1 + 1 + 1, m + 5 * n + 1 + 1 + 1 + 1⟩] := by simp [marksClient, List.range_succ]
theorem marksClient_len (m : Int) (n : Nat) : (marksClient m n).length = n := by simp [marksClient]
theorem open_ClientS {H : Type} {enc : TypeId × Value → H} {W : World} {b0 : Nat} {sp0 : Nat → Bool} {cs : List Value} {fuel : Nat} {x : DataW H × List MemPlace} (hs0 : sp0 = fun _ => true)
    (hf : DataW.trod enc Try.prog W b0 sp0 true fuel 22 cs = some x) : ∃ A n c xs, cs = [.slice A n c] ∧ n ≤ 9223372036854775807 ∧ Sl W W.heap.size 5 encClient A n xs ∧ ∀ x ∈ xs, x.name.size ≤ 9223372036854775807 := by
  subst hs0
  rcases open_slice_fields Try.underlying22 Try.underlying32 (by kernel_rfl) (by kernel_rfl) hf with ⟨hcs, _⟩ | ⟨a, len, cap, m, D, Pl, hcs, _, hl, hm, hmm, _, hi⟩
  · exact ⟨_, _, _, [], hcs, by omega, ⟨rfl, fun i x hx => by simp at hx⟩, fun x hx => by simp at hx⟩
  · obtain ⟨b, off, sp⟩ := a
    have hmc : m = cap := by simpa using hmm
    subst hmc
    have hc : ∀ i, i < len → sp = none ∧ b < W.heap.size ∧ ∃ (x0 : ByteArray) (x1 : Int) (x2 : Int) (x3 : Int) (x4 : Int), W.cell? ⟨b, off + i * 5, none⟩ = some (.string x0) ∧ W.cell? ⟨b, off + i * 5 + 1, none⟩ = some (.int .i64 x1) ∧ W.cell? ⟨b, off + i * 5 + 2, none⟩ = some (.int .i64 x2) ∧ W.cell? ⟨b, off + i * 5 + 3, none⟩ = some (.int .i64 x3) ∧ W.cell? ⟨b, off + i * 5 + 4, none⟩ = some (.int .i64 x4) ∧ x0.size ≤ 9223372036854775807 := by
      intro i hil
      have hsp : sp = none := by
        obtain ⟨ys, n, _, _, _, hj⟩ := hi 0 (by omega)
        obtain ⟨v, y, hcell, _, _⟩ := hj 0 _ rfl
        exact spot_none hcell
      subst hsp
      obtain ⟨ys, n, _, _, _, hj⟩ := hi i (by omega)
      obtain ⟨v0, y0, c0, _, t0⟩ := hj 0 _ rfl
      obtain ⟨z0, e0, _, m0⟩ := DataW.trod_string Try.underlying9 t0
      simp only [List.cons.injEq, and_true] at e0
      subst e0
      rw [Addr.add_lit] at c0
      obtain ⟨v1, y1, c1, _, t1⟩ := hj 1 _ rfl
      obtain ⟨z1, e1, _, m1⟩ := DataW.trod_int Try.underlying2 t1
      simp only [List.cons.injEq, and_true] at e1
      subst e1
      rw [Addr.add_lit] at c1
      obtain ⟨v2, y2, c2, _, t2⟩ := hj 2 _ rfl
      obtain ⟨z2, e2, _, m2⟩ := DataW.trod_int Try.underlying2 t2
      simp only [List.cons.injEq, and_true] at e2
      subst e2
      rw [Addr.add_lit] at c2
      obtain ⟨v3, y3, c3, _, t3⟩ := hj 3 _ rfl
      obtain ⟨z3, e3, _, m3⟩ := DataW.trod_int Try.underlying2 t3
      simp only [List.cons.injEq, and_true] at e3
      subst e3
      rw [Addr.add_lit] at c3
      obtain ⟨v4, y4, c4, _, t4⟩ := hj 4 _ rfl
      obtain ⟨z4, e4, _, m4⟩ := DataW.trod_int Try.underlying2 t4
      simp only [List.cons.injEq, and_true] at e4
      subst e4
      rw [Addr.add_lit] at c4
      exact ⟨rfl, World.block_lt_of_cell? _ _ c0, z0, z1, z2, z3, z4, c0, c1, c2, c3, c4, by unfold maxLen at m0; exact m0⟩
    refine ⟨_, len, m, (List.range len).map fun i => ⟨strAt W ⟨b, off + i * 5, none⟩, numAt W ⟨b, off + i * 5 + 1, none⟩, numAt W ⟨b, off + i * 5 + 2, none⟩, numAt W ⟨b, off + i * 5 + 3, none⟩, numAt W ⟨b, off + i * 5 + 4, none⟩⟩, hcs, by unfold maxLen at hm; omega, ⟨by simp, fun i x hx => ?_⟩, fun x hx => ?_⟩
    rotate_left
    · obtain ⟨i, hil, rfl⟩ := List.mem_map.1 hx
      obtain ⟨hs, hb, x0, x1, x2, x3, x4, c0, c1, c2, c3, c4, m0⟩ := hc i (List.mem_range.1 hil)
      subst hs
      simp only [strAt_of c0]
      exact m0
    have hil : i < len := by simpa using (List.getElem?_eq_some_iff.1 hx).1
    obtain ⟨hs, hb, x0, x1, x2, x3, x4, c0, c1, c2, c3, c4, m0⟩ := hc i hil
    simp [hil] at hx
    subst hx hs
    rw [strAt_of c0, numAt_of c1, numAt_of c2, numAt_of c3, numAt_of c4]
    refine ⟨b, off, rfl, hb, fun j u hj => ?_⟩
    match j, hj with
    | 0, hj => simp [encClient] at hj; subst hj; exact c0
    | 1, hj => simp [encClient] at hj; subst hj; exact c1
    | 2, hj => simp [encClient] at hj; subst hj; exact c2
    | 3, hj => simp [encClient] at hj; subst hj; exact c3
    | 4, hj => simp [encClient] at hj; subst hj; exact c4
theorem open_Clients {H : Type} {enc : TypeId × Value → H} {W : World} {base : Nat} {v : Value} {d : DataW H} {p : List MemPlace} (hv : Value.okWide Try.prog W .any base 22 v)
    (h : DataW.Trod enc Try.prog W 0 (fun _ => true) true 22 v d p) : ∃ A n c xs, v = .slice A n c ∧ n ≤ 9223372036854775807 ∧ Sl W W.heap.size 5 encClient A n xs ∧ ∀ x ∈ xs, x.name.size ≤ 9223372036854775807 := by
  obtain ⟨a0, len, cap, rfl⟩ := okWide_slice Try.underlying22 hv
  obtain ⟨fuel, hf⟩ := h
  obtain ⟨A, n, c, xs, e, hn, hx, hz⟩ := open_ClientS rfl hf
  simp [Value.cells] at e
  obtain ⟨rfl, rfl, rfl⟩ := e
  exact ⟨_, _, _, xs, rfl, hn, hx, hz⟩
end Go.Proofs.Ytddnnmfeajnjfaa
