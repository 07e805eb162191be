/-
  Clients: alike and valid lists of them, both sides. No condition.
-/
import Derived.Test.YtddnnmfeajnjfaaEqClient
import Derived.Test.YtddnnmfeajnjfaaName
import Derived.Deep.RegionHeld3
namespace Go.Proofs.Ytddnnmfeajnjfaa
open Go.RowKit
set_option maxHeartbeats 400000

def sameCs (xs ys : List Client) : Bool := decide (xs = ys)
theorem implSameClients_any (A : Option Addr) (n c : Nat) (A' : Option Addr) (n' c' : Nat) (xs ys : List Client) (w : World) (B : Nat) (hB : B ≤ w.heap.size) (hn : n ≤ 2000000) (hn' : n' ≤ 2000000) (hx : Sl w B 5 encClient A n xs) (hy : Sl w B 5 encClient A' n' ys) :
    Calls Try.prog 8 #[.slice A n c, .slice A' n' c'] w fun r w' => r = .returned (.bool (sameCs xs ys)) ∧ Below w.heap.size w w' := by
  have hc := equalClient_any A n c A' n' c' xs ys w B hB hn hn' hx hy
  clear hx hy
  have E : sameCs xs ys = decide (xs = ys) := rfl
  rw [E]
  generalize decide (xs = ys) = p at hc
  clear E
  go_enter Try.func8, Try.ntmps8
  go_wp2_with (go_at_call 14; refine hc.mono ?_; rintro r w1 ⟨rfl, b1⟩)
  go_ret
  exact ⟨rfl, b1⟩
set_option maxHeartbeats 1000000 in
theorem specSameClients_any (A : Option Addr) (n c : Nat) (A' : Option Addr) (n' c' : Nat) (xs ys : List Client) (w : World) (B : Nat) (hB : B ≤ w.heap.size) (hn : n ≤ 2000000) (hn' : n' ≤ 2000000) (hx : Sl w B 5 encClient A n xs) (hy : Sl w B 5 encClient A' n' ys) :
    Calls Try.prog 6 #[.slice A n c, .slice A' n' c'] w fun r w' => r = .returned (.bool (sameCs xs ys)) ∧ Below w.heap.size w w' := by
  have hxl := hx.len
  have hyl := hy.len
  by_cases hnn : n = n'
  · subst hnn
    go_enter Try.func6, Try.ntmps6
    go_wp2
    go_loopw [5] (fun i w1 => ∃ k : Nat, k ≤ n ∧ i = .int .i64 k ∧ Hid ((xs = ys) = (xs.drop k = ys.drop k)) ∧ Below w.heap.size w w1) (fun i _ => n - (intOf i).toNat)
    case atStart => exact ⟨0, Nat.zero_le _, rfl, hid rfl, Below.refl _ _⟩
    case round =>
      obtain ⟨k, hk, rfl, he, hb⟩ := hrel
      by_cases hlt : k < n
      · obtain ⟨x0, x1, x2, x3, x4, b, off, Hx, rfl, hbB, c0, c1, c2, c3, c4⟩ := (hx.below (hb.mono hB)).atClient hlt
        obtain ⟨y0, y1, y2, y3, y4, b', off', Hy, rfl, hbB', d0, d1, d2, d3, d4⟩ := (hy.below (hb.mono hB)).atClient hlt
        have he2 := he.out
        rw [drop_at Hx.out, drop_at Hy.out, firstClient] at he2
        have lb : b < wr.heap.size := by have := hb.size; omega
        have lb' : b' < wr.heap.size := by have := hb.size; omega
        clear he hx hy Hx Hy
        rcases diffClient x0 y0 x1 y1 x2 y2 x3 y3 x4 y4 with q | q | ⟨rfl, q⟩ | ⟨rfl, rfl, q⟩ | ⟨rfl, rfl, rfl, q⟩ | ⟨rfl, rfl, rfl, rfl, q⟩
        · have He2 : Hid ((xs = ys) = (xs.drop (k + 1) = ys.drop (k + 1))) := by rw [he2]; simp [Hid, q]
          obtain ⟨rfl, rfl, rfl, rfl, rfl⟩ := q
          clear he2
          go_wp2
          go_quiet (fail)
          go_wp2
          have hb5 := below_drewN hb nq
          go_roundw
          all_goals first | exact ⟨k + 1, by omega, by go_num, He2, hb5⟩ | exact ⟨⟨k + 1, by omega, by go_num, He2, hb5⟩, by simp [intOf]; omega⟩ | (simp [intOf]; omega)
        all_goals
          have E : Hid (sameCs xs ys = false) := by simp only [Hid, sameCs, decide_eq_false_iff_not, he2]; intro h; first | exact q h.1.1 | exact q h.1.2.1 | exact q h.1.2.2.1 | exact q h.1.2.2.2.1 | exact q h.1.2.2.2.2
        · have z0 := bs_ne q
          clear he2 q
          go_wp2
          go_quiet (fail)
          go_wp2
          go_ret
          exact ⟨retB E.out.symm, below_drewN hb nq⟩
        all_goals
          have z0 := decide_eq_false q
          have z1 := beq_false_of_ne q
          clear he2 q
          go_wp2
          go_quiet (fail)
          go_wp2
          go_ret
          exact ⟨retB E.out.symm, below_drewN hb nq⟩
      · have : k = n := by omega
        subst this
        have E : Hid (sameCs xs ys = true) := by
          have he2 := he.out
          rw [List.drop_of_length_le (by omega), List.drop_of_length_le (by omega)] at he2
          simp only [Hid, sameCs, decide_eq_true_iff, he2]
        clear he
        go_wp2
        go_ret
        exact ⟨retB E.out.symm, hb⟩
  · have E : Hid (sameCs xs ys = false) := by
      simp only [Hid, sameCs, decide_eq_false_iff_not]; intro h; subst h; exact hnn (hxl.symm.trans hyl)
    clear hx hy
    go_enter Try.func6, Try.ntmps6
    go_wp2
    go_ret
    exact ⟨retB E.out.symm, Below.refl _ _⟩
def okClient (x : Client) : Bool := nameB x.name && (inR x.st 0 9 && (decide (0 ≤ x.fr) && (decide (x.fr < x.to) && (decide (x.to ≤ 20000) && inR x.quota 0 1000))))
def ltS (x y : ByteArray) : Bool := Op.bytesLess x.toList y.toList
def linkS : Option ByteArray → ByteArray → Bool
  | none, _ => true
  | some y, x => ltS y x
def okCs : Option ByteArray → List Client → Bool
  | _, [] => true
  | q, x :: r => okClient x && linkS q x.name && okCs (some x.name) r
def validCs (xs : List Client) : Bool := okCs none xs && decide (xs.length ≤ 30)
def prevS (xs : List Client) (k : Nat) : Option ByteArray := if k = 0 then none else (xs[k - 1]?).map Client.name
theorem prevS_succ {xs : List Client} {k : Nat} {x : Client} (h : xs[k]? = some x) : prevS xs (k + 1) = some x.name := by simp [prevS, h]
theorem client_cases (x0 : ByteArray) (x1 x2 x3 x4 : Int) : (nameB x0 = false ∧ okClient ⟨x0, x1, x2, x3, x4⟩ = false) ∨ (nameB x0 = true ∧ inR x1 0 9 = false ∧ okClient ⟨x0, x1, x2, x3, x4⟩ = false) ∨
    (nameB x0 = true ∧ inR x1 0 9 = true ∧ x2 < 0 ∧ okClient ⟨x0, x1, x2, x3, x4⟩ = false) ∨ (nameB x0 = true ∧ inR x1 0 9 = true ∧ 0 ≤ x2 ∧ x3 ≤ x2 ∧ okClient ⟨x0, x1, x2, x3, x4⟩ = false) ∨
    (nameB x0 = true ∧ inR x1 0 9 = true ∧ 0 ≤ x2 ∧ x2 < x3 ∧ 20000 < x3 ∧ okClient ⟨x0, x1, x2, x3, x4⟩ = false) ∨ (nameB x0 = true ∧ inR x1 0 9 = true ∧ 0 ≤ x2 ∧ x2 < x3 ∧ x3 ≤ 20000 ∧ inR x4 0 1000 = false ∧ okClient ⟨x0, x1, x2, x3, x4⟩ = false) ∨
    (nameB x0 = true ∧ inR x1 0 9 = true ∧ 0 ≤ x2 ∧ x2 < x3 ∧ x3 ≤ 20000 ∧ inR x4 0 1000 = true ∧ okClient ⟨x0, x1, x2, x3, x4⟩ = true) := by
  unfold okClient
  cases h1 : nameB x0
  · exact .inl ⟨rfl, rfl⟩
  cases h2 : inR x1 0 9
  · exact .inr (.inl ⟨rfl, rfl, rfl⟩)
  by_cases h3 : x2 < 0
  · exact .inr (.inr (.inl ⟨rfl, rfl, h3, by simp; omega⟩))
  by_cases h4 : x3 ≤ x2
  · exact .inr (.inr (.inr (.inl ⟨rfl, rfl, by omega, h4, by simp; omega⟩)))
  by_cases h5 : 20000 < x3
  · exact .inr (.inr (.inr (.inr (.inl ⟨rfl, rfl, by omega, by omega, h5, by simp; omega⟩))))
  cases h6 : inR x4 0 1000
  · exact .inr (.inr (.inr (.inr (.inr (.inl ⟨rfl, rfl, by omega, by omega, by omega, rfl, by simp⟩)))))
  · exact .inr (.inr (.inr (.inr (.inr (.inr ⟨rfl, rfl, by omega, by omega, by omega, rfl, by simp; omega⟩)))))
set_option maxHeartbeats 2000000 in
theorem validClient_any (x0 : ByteArray) (x1 x2 x3 x4 : Int) (w : World) (hs : x0.size ≤ 9223372036854775807) :
    Calls Try.prog 17 #[.agg #[.string x0, .int .i64 x1, .int .i64 x2, .int .i64 x3, .int .i64 x4]] w fun r w' => r = .returned (.bool (okClient ⟨x0, x1, x2, x3, x4⟩)) ∧ Below w.heap.size w w' := by
  have h1 := fun W => implIsName_any x0 W hs
  rcases client_cases x0 x1 x2 x3 x4 with ⟨q1, E⟩ | ⟨q1, q2, E⟩ | ⟨q1, q2, q3, E⟩ | ⟨q1, q2, q3, q4, E⟩ | ⟨q1, q2, q3, q4, q5, E⟩ | ⟨q1, q2, q3, q4, q5, q6, E⟩ | ⟨q1, q2, q3, q4, q5, q6, E⟩
  all_goals
    rw [E]
    clear E
    rw [q1] at h1
    go_enter Try.func17, Try.ntmps17
    go_wp2_with (first
      | (go_at_call 19; with_reducible refine (h1 _).mono ?_; rintro r w1 ⟨rfl, rfl⟩)
      | (go_at_call 20; with_reducible refine (within_any _ _ _ _).mono ?_; rintro r w1 ⟨rfl, rfl⟩))
    go_ret
    refine ⟨rfl, ?_⟩
    repeat (first | with_reducible assumption | with_reducible exact Below.refl _ _ | with_reducible refine bl_drew ?_ | with_reducible refine bl_drewN ?_ | ((with_reducible refine bl_set ?_ ?_); focus (first | (simp; done) | (simp; omega) | omega)) | ((with_reducible refine bl_alloc ?_ ?_); focus (first | (simp; done) | (simp; omega) | omega)))
set_option maxHeartbeats 2000000 in
theorem l24One_any (b o : Nat) (x0 : ByteArray) (x1 x2 x3 x4 : Int) (w : World) (hs : x0.size ≤ 9223372036854775807)
    (c0 : w.cell? ⟨b, o, none⟩ = some (.string x0)) (c1 : w.cell? ⟨b, o + 1, none⟩ = some (.int .i64 x1)) (c2 : w.cell? ⟨b, o + 2, none⟩ = some (.int .i64 x2)) (c3 : w.cell? ⟨b, o + 3, none⟩ = some (.int .i64 x3)) (c4 : w.cell? ⟨b, o + 4, none⟩ = some (.int .i64 x4)) :
    Calls Try.prog 18 #[.pointer (some ⟨b, o, none⟩)] w fun r w' => r = .returned (.bool (okClient ⟨x0, x1, x2, x3, x4⟩)) ∧ ∃ q, w' = w.drewN q := by
  have h1 := fun W => specIsName_any x0 W hs

  have hcase : (nameB x0 = false ∧ okClient ⟨x0, x1, x2, x3, x4⟩ = false) ∨ (nameB x0 = true ∧ inR x1 0 9 = false ∧ okClient ⟨x0, x1, x2, x3, x4⟩ = false) ∨ (nameB x0 = true ∧ inR x1 0 9 = true ∧ inR x2 0 20000 = false ∧ okClient ⟨x0, x1, x2, x3, x4⟩ = false) ∨
      (nameB x0 = true ∧ inR x1 0 9 = true ∧ inR x2 0 20000 = true ∧ (0 ≤ x2 ∧ x2 ≤ 20000) ∧ inR x3 (x2 + 1) 20000 = false ∧ okClient ⟨x0, x1, x2, x3, x4⟩ = false) ∨
      (nameB x0 = true ∧ inR x1 0 9 = true ∧ inR x2 0 20000 = true ∧ (0 ≤ x2 ∧ x2 ≤ 20000) ∧ inR x3 (x2 + 1) 20000 = true ∧ inR x4 0 1000 = false ∧ okClient ⟨x0, x1, x2, x3, x4⟩ = false) ∨
      (nameB x0 = true ∧ inR x1 0 9 = true ∧ inR x2 0 20000 = true ∧ (0 ≤ x2 ∧ x2 ≤ 20000) ∧ inR x3 (x2 + 1) 20000 = true ∧ inR x4 0 1000 = true ∧ okClient ⟨x0, x1, x2, x3, x4⟩ = true) := by
    unfold okClient
    cases h1 : nameB x0
    · exact .inl ⟨rfl, rfl⟩
    cases h2 : inR x1 0 9
    · exact .inr (.inl ⟨rfl, rfl, rfl⟩)
    cases h3 : inR x2 0 20000
    · refine .inr (.inr (.inl ⟨rfl, rfl, rfl, ?_⟩))
      simp only [inR, Bool.and_eq_false_iff, decide_eq_false_iff_not] at h3
      simp
      omega
    have h3' : 0 ≤ x2 ∧ x2 ≤ 20000 := by simpa [inR] using h3
    cases h4 : inR x3 (x2 + 1) 20000
    · refine .inr (.inr (.inr (.inl ⟨rfl, rfl, rfl, h3', rfl, ?_⟩)))
      simp only [inR, Bool.and_eq_false_iff, decide_eq_false_iff_not] at h4
      simp
      omega
    have h4' : x2 + 1 ≤ x3 ∧ x3 ≤ 20000 := by simpa [inR] using h4
    cases h6 : inR x4 0 1000
    · exact .inr (.inr (.inr (.inr (.inl ⟨rfl, rfl, rfl, h3', rfl, rfl, by simp⟩))))
    · exact .inr (.inr (.inr (.inr (.inr ⟨rfl, rfl, rfl, h3', rfl, rfl, by simp; omega⟩))))
  rcases hcase with ⟨q1, E⟩ | ⟨q1, q2, E⟩ | ⟨q1, q2, q3, E⟩ | ⟨q1, q2, q3, q0, q4, E⟩ | ⟨q1, q2, q3, q0, q4, q5, E⟩ | ⟨q1, q2, q3, q0, q4, q5, E⟩
  all_goals
    rw [E]
    clear E
    rw [q1] at h1
    try have hw : IntKind.i64.wrap (x2 + 1) = x2 + 1 := IntWalk.i64_in _ (by omega)
    try have r2 := fun W => l00In_any x1 0 9 W
    try rw [q2] at r2
    try have r3 := fun W => l00In_any x2 0 20000 W
    try rw [q3] at r3
    try have r4 := fun W => l00In_any x3 (x2 + 1) 20000 W
    try rw [q4] at r4
    try have r5 := fun W => l00In_any x4 0 1000 W
    try rw [q5] at r5
    go_enter Try.func18, Try.ntmps18
    go_wp2_with fail
    go_quiet ((first
      | (go_at_call 21; exact Calls.quiet_of_same (h1 _))
      | (go_at_call 22; with_reducible exact Calls.quiet_of_same (r2 _))
      | (go_at_call 22; with_reducible exact Calls.quiet_of_same (r3 _))
      | (go_at_call 22; with_reducible exact Calls.quiet_of_same (r4 _))
      | (go_at_call 22; with_reducible exact Calls.quiet_of_same (r5 _))))
    go_wp2_with fail
    go_ret
    exact ⟨rfl, _, rfl⟩
theorem validCs_none {xs : List Client} (h : okCs none xs = false) : validCs xs = false := by simp [validCs, h]
set_option maxHeartbeats 2000000 in
theorem l24Ok_any (A : Option Addr) (n c : Nat) (xs : List Client) (w : World) (B : Nat) (hB : B ≤ w.heap.size) (hn : n ≤ 2000000) (hx : Sl w B 5 encClient A n xs) (hz : Hid (∀ x ∈ xs, x.name.size ≤ 9223372036854775807)) :
    Calls Try.prog 16 #[.slice A n c] w fun r w' => r = .returned (.bool (validCs xs)) ∧ Below w.heap.size w w' := by
  have hol := hid hx.len
  go_enter Try.func16, Try.ntmps16
  go_wp2
  go_loopw [3] (fun i w1 => ∃ k : Nat, k ≤ n ∧ i = .int .i64 k ∧ Hid (okCs none xs = okCs (prevS xs k) (xs.drop k)) ∧ Below w.heap.size w w1) (fun i _ => n - (intOf i).toNat)
  case atStart => exact ⟨0, Nat.zero_le _, rfl, hid rfl, Below.refl _ _⟩
  case round =>
    obtain ⟨k, hk, rfl, he, hb⟩ := hrel
    by_cases hlt : k < n
    · obtain ⟨x0, x1, x2, x3, x4, b, off, Hx, rfl, hbB, c0, c1, c2, c3, c4⟩ := (hx.below (hb.mono hB)).atClient hlt
      have he2 := he.out
      rw [drop_at Hx.out, okCs] at he2
      have hsz := hz.out _ (List.mem_of_getElem? Hx.out)
      have hl := fun (W : World) d0 d1 d2 d3 d4 => l24One_any b (off + k * 5) x0 x1 x2 x3 x4 W hsz d0 d1 d2 d3 d4
      have i0 : (0 : Int) ≤ (k : Int) := by omega
      have i1 : (k : Int) < (n : Int) := by omega
      cases h1 : okClient ⟨x0, x1, x2, x3, x4⟩ with
      | false =>
        have E : Hid (validCs xs = false) := validCs_none (by rw [he2, h1]; rfl)
        rw [h1] at hl
        clear he he2 hx h1 hsz
        go_wp2_with fail
        go_quiet ((go_at_call 18; exact Calls.quiet_of (hl _ c0 c1 c2 c3 c4)))
        go_wp2_with fail
        go_ret
        exact ⟨retB E.out.symm, below_drewN hb nq⟩
      | true =>
        rw [h1] at hl
        cases k with
        | zero =>
          have He2 : Hid (okCs none xs = okCs (prevS xs (0 + 1)) (xs.drop (0 + 1))) := by rw [prevS_succ Hx.out, he2, h1]; simp [Hid, prevS, linkS]
          simp only [Nat.zero_mul, Nat.add_zero] at c0 c1 c2 c3 c4 hl
          clear he he2 hx h1 i0 i1 hsz
          have i1 : (0 : Int) < (n : Int) := by omega
          go_wp2_with fail
          go_quiet ((go_at_call 18; exact Calls.quiet_of (hl _ c0 c1 c2 c3 c4)))
          have hb5 := below_drewN hb nq
          go_wp2_with fail
          go_roundw
          all_goals first | exact ⟨0 + 1, by omega, by go_num, He2, hb5⟩ | exact ⟨⟨0 + 1, by omega, by go_num, He2, hb5⟩, by simp [intOf]; omega⟩ | (simp [intOf]; omega)
        | succ k =>
          obtain ⟨y0, y1, y2, y3, y4, b', off', Hy, e', _, d0, _⟩ := (hx.below (hb.mono hB)).atClient (i := k) (by omega)
          injection e' with e'
          injection e' with e1 e2
          subst e1 e2
          rw [prevS_succ Hy.out] at he2
          have hW : IntKind.i64.wrap ((k : Int) + 1 - 1) = (k : Int) := by rw [show (k : Int) + 1 - 1 = k by omega]; exact IntWalk.i64_in _ (by omega)
          have i2 : (0 : Int) ≤ (k : Int) := by omega
          have i3 : (k : Int) < (n : Int) := by omega
          have i4 : (0 : Int) < (k : Int) + 1 := by omega
          cases q1 : ltS y0 x0 with
          | false =>
            have E : Hid (validCs xs = false) := validCs_none (by rw [he2]; simp [linkS, q1])
            have q2 : Op.bytesLess y0.toList x0.toList = false := q1
            clear he he2 hx h1 hsz q1
            go_wp2_with fail
            go_quiet ((go_at_call 18; exact Calls.quiet_of (hl _ c0 c1 c2 c3 c4)))
            go_wp2_with fail
            go_ret
            exact ⟨retB E.out.symm, below_drewN hb nq⟩
          | true =>
            have He2 : Hid (okCs none xs = okCs (prevS xs (k + 1 + 1)) (xs.drop (k + 1 + 1))) := by rw [prevS_succ Hx.out, he2, h1]; simp [Hid, linkS, q1]
            have q2 : Op.bytesLess y0.toList x0.toList = true := q1
            clear he he2 hx h1 hsz q1
            go_wp2_with fail
            go_quiet ((go_at_call 18; exact Calls.quiet_of (hl _ c0 c1 c2 c3 c4)))
            have hb5 := below_drewN hb nq
            go_wp2_with fail
            go_roundw
            all_goals first | exact ⟨k + 1 + 1, by omega, by go_num, He2, hb5⟩ | exact ⟨⟨k + 1 + 1, by omega, by go_num, He2, hb5⟩, by simp [intOf]; omega⟩ | (simp [intOf]; omega)
    · have : k = n := by omega
      subst this
      have he2 := he.out
      rw [List.drop_of_length_le (by rw [hol.out]; omega), okCs] at he2
      have E : Hid (validCs xs = decide (k ≤ 30)) := by rw [Hid, validCs, he2, hol.out]; rfl
      clear he he2 hx
      go_wp2
      go_ret
      exact ⟨retB (by rw [E.out]; simp; try omega), hb⟩
theorem specValidClients_any (A : Option Addr) (n c : Nat) (xs : List Client) (w : World) (B : Nat) (hB : B ≤ w.heap.size) (hn : n ≤ 2000000) (hx : Sl w B 5 encClient A n xs) (hz : Hid (∀ x ∈ xs, x.name.size ≤ 9223372036854775807)) :
    Calls Try.prog 10 #[.slice A n c] w fun r w' => r = .returned (.bool (validCs xs)) ∧ Below w.heap.size w w' := by
  have hc := l24Ok_any A n c xs w B hB hn hx hz
  clear hx
  go_enter Try.func10, Try.ntmps10
  go_wp2_with (go_at_call 16; refine hc.mono ?_; rintro r w1 ⟨rfl, b1⟩)
  go_ret
  exact ⟨rfl, b1⟩
end Go.Proofs.Ytddnnmfeajnjfaa
