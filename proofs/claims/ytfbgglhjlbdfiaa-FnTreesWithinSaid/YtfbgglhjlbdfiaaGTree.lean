/-
  Parents of places: whether they make a tree, how many tubes lead up, their code. No condition.
-/
import Derived.Test.YtfbgglhjlbdfiaaGCosts2
import Derived.Deep.AppendLies
namespace Go.Proofs.Ytfbgglhjlbdfiaa
open Go.RowKit
set_option maxHeartbeats 400000

theorem outside1_any (x lo hi : Int) (g0 o0 g1 o1 : Nat) (w : World) (h0 : w.cell? ⟨g0, o0, none⟩ = some (.int .i64 lo)) (h1 : w.cell? ⟨g1, o1, none⟩ = some (.int .i64 hi)) :
    Calls Try.prog 47 #[.int .i64 x, .pointer (some ⟨g0, o0, none⟩), .pointer (some ⟨g1, o1, none⟩)] w fun e w' => e = .returned (.bool (!inR x lo hi)) ∧ w' = w := by
  go_enter Try.func47, Try.ntmps47
  go_wp2_with (go_at_call 33; refine (within_any _ _ _ _).mono ?_; rintro r w2 ⟨rfl, rfl⟩)
  go_ret
  exact ⟨rfl, rfl⟩
theorem idxOut_any (A : Option Addr) (n c : Nat) (xs : List Int) (lo hi : Int) (g0 o0 g1 o1 : Nat) (w : World) (B : Nat) (hn : n ≤ 2000000) (hx : Sl w B 1 encI A n xs) (h0 : w.cell? ⟨g0, o0, none⟩ = some (.int .i64 lo)) (h1 : w.cell? ⟨g1, o1, none⟩ = some (.int .i64 hi)) :
    Calls Try.prog 50 #[.slice A n c, .func (.func 47) #[] #[.pointer (some ⟨g0, o0, none⟩), .pointer (some ⟨g1, o1, none⟩)]] w fun e w' => e = .returned (.int .i64 (findFrom (fun x => !inR x lo hi) 0 xs)) ∧ w' = w := by
  go_enter Try.func50, Try.ntmps50
  go_wp2
  go_loopw [8] (fun i w1 => ∃ k : Nat, k ≤ n ∧ i = .int .i64 k ∧ Hid (findFrom (fun x => !inR x lo hi) 0 xs = findFrom (fun x => !inR x lo hi) k (xs.drop k)) ∧ w1 = w) (fun i _ => n - (intOf i).toNat)
  case atStart => exact ⟨0, Nat.zero_le _, rfl, hid rfl, rfl⟩
  case round =>
    obtain ⟨k, hk, rfl, he, rfl⟩ := hrel
    by_cases hlt : k < n
    · obtain ⟨x, b, off, Hx, rfl, hbB, c0⟩ := hx.int hlt
      have he2 := he.out
      rw [drop_at Hx.out, findFrom] at he2
      clear he
      have hcl := outside1_any x lo hi g0 o0 g1 o1 wr h0 h1
      cases hr : inR x lo hi with
      | false =>
        rw [hr] at he2 hcl
        have E : Hid (findFrom (fun x => !inR x lo hi) 0 xs = k) := by rw [Hid, he2]; simp
        clear he2 hr hx
        go_wp2_with (go_at_call 47; refine hcl.mono ?_; rintro r w2 ⟨rfl, rfl⟩)
        go_ret
        exact ⟨retI E.out.symm, rfl⟩
      | true =>
        rw [hr] at he2 hcl
        have E : Hid (findFrom (fun x => !inR x lo hi) 0 xs = findFrom (fun x => !inR x lo hi) (k + 1) (xs.drop (k + 1))) := by rw [Hid, he2]; simp
        clear he2 hr hx
        go_wp2_with (go_at_call 47; refine hcl.mono ?_; rintro r w2 ⟨rfl, rfl⟩)
        go_roundw
        all_goals first | exact ⟨k + 1, by omega, by go_num, E, by trivial⟩ | exact ⟨⟨k + 1, by omega, by go_num, E, by trivial⟩, by simp [intOf]; omega⟩ | (simp [intOf]; omega)
    · have : k = n := by omega
      subst this
      have E : Hid (findFrom (fun x => !inR x lo hi) 0 xs = -1) := by rw [Hid, he.out, List.drop_of_length_le (by rw [hx.len]; omega)]; rfl
      clear he hx
      go_wp2
      go_ret
      exact ⟨retI E.out.symm, rfl⟩
theorem hasOut_any (A : Option Addr) (n c : Nat) (xs : List Int) (lo hi : Int) (g0 o0 g1 o1 : Nat) (w : World) (B : Nat) (hn : n ≤ 2000000) (hx : Sl w B 1 encI A n xs) (h0 : w.cell? ⟨g0, o0, none⟩ = some (.int .i64 lo)) (h1 : w.cell? ⟨g1, o1, none⟩ = some (.int .i64 hi)) :
    Calls Try.prog 46 #[.slice A n c, .func (.func 47) #[] #[.pointer (some ⟨g0, o0, none⟩), .pointer (some ⟨g1, o1, none⟩)]] w fun e w' => e = .returned (.bool (xs.any fun x => !inR x lo hi)) ∧ w' = w := by
  have E := findFrom_any (fun x => !inR x lo hi) xs 0
  have hi2 := idxOut_any A n c xs lo hi g0 o0 g1 o1 w B hn hx h0 h1
  generalize findFrom (fun x => !inR x lo hi) 0 xs = z at E hi2
  have E2 := hid E
  clear E hx
  go_enter Try.func46, Try.ntmps46
  go_wp2_with (go_at_call 50; refine hi2.mono ?_; rintro r w2 ⟨rfl, rfl⟩)
  go_ret
  exact ⟨retB E2.out, rfl⟩
theorem outside_any (A : Option Addr) (n c : Nat) (xs : List Int) (lo hi : Int) (w : World) (B : Nat) (hB : B ≤ w.heap.size) (hn : n ≤ 2000000) (hx : Sl w B 1 encI A n xs) :
    Calls Try.prog 42 #[.slice A n c, .int .i64 lo, .int .i64 hi] w fun e w' => e = .returned (.bool (xs.any fun x => !inR x lo hi)) ∧ Below w.heap.size w w' := by
  have hc := hasOut_any A n c xs lo hi w.heap.size 0 (w.heap.size + 1) 0 ((w.alloc (.cells #[.int .i64 lo] 2)).alloc (.cells #[.int .i64 hi] 2)) B hn ((hx.alloc hB _).alloc (by simp; omega) _) (by go_simp) (by go_simp)
  clear hx
  go_enter Try.func42, Try.ntmps42
  go_wp2_with (go_at_call 46; refine hc.mono ?_; rintro r w2 ⟨rfl, rfl⟩)
  go_ret
  exact ⟨rfl, ((Below.refl _ _).alloc (Nat.le_refl _) _).alloc (by simp) _⟩

theorem upF_done {ps : List Int} {f k : Nat} {p : Int} (h : upF ps f p = (upF ps k 0).map (· + (f - k))) : upF ps f p = some (f - k) := by rw [h, upF_zero]; simp
theorem l20Up_any (A : Option Addr) (n c : Nat) (ps : List Int) (p : Int) (w : World) (B : Nat) (hn : n ≤ 2000000) (hx : Sl w B 1 encI A n ps) (hp : inP ps) (p0 : 0 ≤ p) (p1 : p ≤ n) :
    Calls Try.prog 52 #[.slice A n c, .int .i64 p] w fun e w' => e = .returned (.int .i64 (upV ps p)) ∧ w' = w := by
  have hl := hx.len
  go_enter Try.func52, Try.ntmps52
  go_wp2
  go_loopw [1, 5] (fun s i w1 => ∃ (k : Nat) (q : Int), k ≤ n + 1 ∧ i = .int .i64 k ∧ s = .int .i64 q ∧ 0 ≤ q ∧ q ≤ n ∧ Hid ((k ≤ n ∧ upF ps n p = (upF ps (n - k) q).map (· + k)) ∨ (k = n + 1 ∧ upF ps n p = none)) ∧ w1 = w) (fun _ i _ => n + 1 - (intOf i).toNat)
  case atStart => exact ⟨0, p, Nat.zero_le _, rfl, rfl, p0, p1, .inl ⟨Nat.zero_le _, by simp⟩, rfl⟩
  case round =>
    obtain ⟨k, q, hk, rfl, rfl, q0, q1, he, rfl⟩ := hrel
    by_cases hkn : k ≤ n
    · obtain ⟨_, he2⟩ : k ≤ n ∧ upF ps n p = (upF ps (n - k) q).map (· + k) := by
        rcases he.out with h | h
        · exact h
        · omega
      clear he
      by_cases hq : q = 0
      · subst hq
        have E : Hid (upV ps p = k) := by rw [upF_zero] at he2; rw [Hid, upV, hl, he2]; simp
        clear he2 hx hp
        go_wp2
        go_ret
        exact ⟨retI E.out.symm, rfl⟩
      · have hn0 : 0 < n := by omega
        obtain ⟨j, hj⟩ : ∃ j : Nat, q = (j : Int) + 1 := ⟨(q - 1).toNat, by omega⟩
        have hjn : j < n := by omega
        obtain ⟨z, b, off, Hz, rfl, hbB, c0⟩ := hx.int hjn
        have hz := hp z (List.mem_of_getElem? Hz.out)
        rw [hl] at hz
        have hgz : ps.getD (q - 1).toNat 0 = z := by rw [show (q - 1).toNat = j by omega, List.getD, Hz.out]; rfl
        have E : Hid ((k + 1 ≤ n ∧ upF ps n p = (upF ps (n - (k + 1)) z).map (· + ((k + 1 : Nat)))) ∨ (k + 1 = n + 1 ∧ upF ps n p = none)) := by
          by_cases hk2 : k = n
          · subst hk2
            rw [Nat.sub_self] at he2
            exact .inr ⟨rfl, by rw [he2]; simp [upF, hq]⟩
          · refine .inl ⟨by omega, ?_⟩
            rw [show n - k = (n - (k + 1)) + 1 by omega, upF_step _ _ hq, hgz] at he2
            rw [he2, Option.map_map]
            congr 1
            funext t
            simp only [Function.comp]
            omega
        subst hj
        have hz0 := hz.1
        have hz1 := hz.2
        clear he2 hx hp hgz hz hq
        go_wp2
        go_roundw
        all_goals first | exact ⟨k + 1, z, by omega, by go_num, rfl, hz0, hz1, E, by trivial⟩ | exact ⟨⟨k + 1, z, by omega, by go_num, rfl, hz0, hz1, E, by trivial⟩, by simp [intOf]; omega⟩ | (simp [intOf]; omega)
    · have he2 : upF ps n p = none := by
        rcases he.out with h | h
        · omega
        · exact h.2
      have E : Hid (upV ps p = -1) := by rw [Hid, upV, hl, he2]
      clear he he2 hx hp
      go_wp2
      go_ret
      exact ⟨retI E.out.symm, rfl⟩
theorem upV_neg {ps : List Int} {p : Int} : upV ps p < 0 ↔ upF ps ps.length p = none := by
  unfold upV
  cases upF ps ps.length p with
  | none => simp
  | some d => simp
theorem upV_le {ps : List Int} {p : Int} : -1 ≤ upV ps p ∧ upV ps p ≤ ps.length := by
  unfold upV
  cases h : upF ps ps.length p with
  | none => exact ⟨by simp, by simp only; omega⟩
  | some d => have := (up_mono h).1; exact ⟨by simp only; omega, by simp only; omega⟩
theorem isTree_bad {ps : List Int} {i : Nat} (hi : i < ps.length) (h : upF ps ps.length ((i : Int) + 1) = none) : isTree ps = false := by
  unfold isTree
  rw [List.all_eq_false]
  exact ⟨i, by simpa using hi, by rw [h]; simp⟩
theorem isTree_good {ps : List Int} (h : ∀ i, i < ps.length → upF ps ps.length ((i : Int) + 1) ≠ none) : isTree ps = true := by
  unfold isTree
  rw [List.all_eq_true]
  intro i hi
  have := h i (by simpa using hi)
  cases hq : upF ps ps.length ((i : Int) + 1) with
  | none => exact absurd hq this
  | some d => rfl
theorem l20Tree_any (A : Option Addr) (n c : Nat) (ps : List Int) (w : World) (B : Nat) (hn : n ≤ 2000000) (hx : Sl w B 1 encI A n ps) (hp : inP ps) :
    Calls Try.prog 51 #[.slice A n c] w fun e w' => e = .returned (.bool (isTree ps)) ∧ w' = w := by
  have hl := hx.len
  go_enter Try.func51, Try.ntmps51
  go_wp2
  go_loopw [3] (fun i w1 => ∃ (k : Nat) (z : Int), k ≤ n ∧ Hid (z = (k : Int) + 1) ∧ 1 ≤ z ∧ z ≤ n + 1 ∧ i = .int .i64 z ∧ Hid (∀ i, i < k → upF ps n ((i : Int) + 1) ≠ none) ∧ w1 = w) (fun i _ => (n + 1 - intOf i).toNat)
  case atStart => exact ⟨0, 1, Nat.zero_le _, rfl, by omega, by omega, rfl, fun i h => by omega, rfl⟩
  case round =>
    obtain ⟨k, z, hk, hz, z0, z1, rfl, hall, rfl⟩ := hrel
    by_cases hlt : z ≤ n
    · have hkn : k < n := by have := hz.out; omega
      have hu := l20Up_any A n c ps z wr B hn hx hp (by omega) hlt
      have hv := upV_le (ps := ps) (p := z)
      have hn2 := upV_neg (ps := ps) (p := z)
      rw [hl] at hv hn2
      have HN := hid hn2
      clear hn2
      generalize upV ps z = v at hu hv HN
      obtain ⟨v0, v1⟩ := hv
      by_cases hv2 : v < 0
      · have E : Hid (isTree ps = false) := isTree_bad (i := k) (by omega) (by rw [hl, ← hz.out]; exact HN.out.1 hv2)
        clear hall hx hp HN
        go_wp2_with (go_at_call 52; refine hu.mono ?_; rintro r w2 ⟨rfl, rfl⟩)
        go_ret
        exact ⟨retB E.out.symm, rfl⟩
      · have G : Hid (∀ i, i < k + 1 → upF ps n ((i : Int) + 1) ≠ none) := fun i hi => by
          by_cases hik : i = k
          · subst hik; rw [← hz.out]; exact fun e => hv2 (HN.out.2 e)
          · exact hall.out i (by omega)
        have Hz2 : Hid (z + 1 = ((k + 1 : Nat) : Int) + 1) := by have := hz.out; unfold Hid; omega
        clear hall HN hz
        go_wp2_with (go_at_call 52; refine hu.mono ?_; rintro r w2 ⟨rfl, rfl⟩)
        go_roundw
        case measure => simp [intOf]; omega
        case rel => exact ⟨k + 1, z + 1, by omega, Hz2, by omega, by omega, by go_num, G, by trivial⟩
    · have E : Hid (isTree ps = true) := isTree_good (fun i hi => by rw [hl]; exact hall.out i (by have := hz.out; omega))
      clear hall hx hp hz
      go_wp2
      go_ret
      exact ⟨retB E.out.symm, rfl⟩
end Go.Proofs.Ytfbgglhjlbdfiaa
