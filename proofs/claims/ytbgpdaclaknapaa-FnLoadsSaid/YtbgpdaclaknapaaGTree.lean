/-
  Parents of places: whether they make a tree, how many tubes lead up, their code. No condition.
-/
import Derived.Test.YtbgpdaclaknapaaGCosts2
import Derived.Deep.AppendLies
namespace Go.Proofs.Ytbgpdaclaknapaa
open Go.RowKit
set_option maxHeartbeats 400000

theorem outside1_any (x lo hi : Int) (g0 o0 g1 o1 : Nat) (w : World) (h0 : w.cell? ⟨g0, o0, none⟩ = some (.int .i64 lo)) (h1 : w.cell? ⟨g1, o1, none⟩ = some (.int .i64 hi)) :
    Calls Try.prog 63 #[.int .i64 x, .pointer (some ⟨g0, o0, none⟩), .pointer (some ⟨g1, o1, none⟩)] w fun e w' => e = .returned (.bool (!inR x lo hi)) ∧ w' = w := by
  go_enter Try.func63, Try.ntmps63
  go_wp2_with (go_at_call 53; refine (within_any _ _ _ _).mono ?_; rintro r w2 ⟨rfl, rfl⟩)
  go_ret
  exact ⟨rfl, rfl⟩
theorem idxOut_any (A : Option Addr) (n c : Nat) (xs : List Int) (lo hi : Int) (g0 o0 g1 o1 : Nat) (w : World) (B : Nat) (hn : n ≤ 2000000) (hx : Sl w B 1 encI A n xs) (h0 : w.cell? ⟨g0, o0, none⟩ = some (.int .i64 lo)) (h1 : w.cell? ⟨g1, o1, none⟩ = some (.int .i64 hi)) :
    Calls Try.prog 65 #[.slice A n c, .func (.func 63) #[] #[.pointer (some ⟨g0, o0, none⟩), .pointer (some ⟨g1, o1, none⟩)]] w fun e w' => e = .returned (.int .i64 (findFrom (fun x => !inR x lo hi) 0 xs)) ∧ w' = w := by
  go_enter Try.func65, Try.ntmps65
  go_wp2
  go_loopw [8] (fun i w1 => ∃ k : Nat, k ≤ n ∧ i = .int .i64 k ∧ Hid (findFrom (fun x => !inR x lo hi) 0 xs = findFrom (fun x => !inR x lo hi) k (xs.drop k)) ∧ w1 = w) (fun i _ => n - (intOf i).toNat)
  case atStart => exact ⟨0, Nat.zero_le _, rfl, hid rfl, rfl⟩
  case round =>
    obtain ⟨k, hk, rfl, he, rfl⟩ := hrel
    by_cases hlt : k < n
    · obtain ⟨x, b, off, Hx, rfl, hbB, c0⟩ := hx.int hlt
      have he2 := he.out
      rw [drop_at Hx.out, findFrom] at he2
      clear he
      have hcl := outside1_any x lo hi g0 o0 g1 o1 wr h0 h1
      cases hr : inR x lo hi with
      | false =>
        rw [hr] at he2 hcl
        have E : Hid (findFrom (fun x => !inR x lo hi) 0 xs = k) := by rw [Hid, he2]; simp
        clear he2 hr hx
        go_wp2_with (go_at_call 63; refine hcl.mono ?_; rintro r w2 ⟨rfl, rfl⟩)
        go_ret
        exact ⟨retI E.out.symm, rfl⟩
      | true =>
        rw [hr] at he2 hcl
        have E : Hid (findFrom (fun x => !inR x lo hi) 0 xs = findFrom (fun x => !inR x lo hi) (k + 1) (xs.drop (k + 1))) := by rw [Hid, he2]; simp
        clear he2 hr hx
        go_wp2_with (go_at_call 63; refine hcl.mono ?_; rintro r w2 ⟨rfl, rfl⟩)
        go_roundw
        all_goals first | exact ⟨k + 1, by omega, by go_num, E, by trivial⟩ | exact ⟨⟨k + 1, by omega, by go_num, E, by trivial⟩, by simp [intOf]; omega⟩ | (simp [intOf]; omega)
    · have : k = n := by omega
      subst this
      have E : Hid (findFrom (fun x => !inR x lo hi) 0 xs = -1) := by rw [Hid, he.out, List.drop_of_length_le (by rw [hx.len]; omega)]; rfl
      clear he hx
      go_wp2
      go_ret
      exact ⟨retI E.out.symm, rfl⟩
theorem hasOut_any (A : Option Addr) (n c : Nat) (xs : List Int) (lo hi : Int) (g0 o0 g1 o1 : Nat) (w : World) (B : Nat) (hn : n ≤ 2000000) (hx : Sl w B 1 encI A n xs) (h0 : w.cell? ⟨g0, o0, none⟩ = some (.int .i64 lo)) (h1 : w.cell? ⟨g1, o1, none⟩ = some (.int .i64 hi)) :
    Calls Try.prog 62 #[.slice A n c, .func (.func 63) #[] #[.pointer (some ⟨g0, o0, none⟩), .pointer (some ⟨g1, o1, none⟩)]] w fun e w' => e = .returned (.bool (xs.any fun x => !inR x lo hi)) ∧ w' = w := by
  have E := findFrom_any (fun x => !inR x lo hi) xs 0
  have hi2 := idxOut_any A n c xs lo hi g0 o0 g1 o1 w B hn hx h0 h1
  generalize findFrom (fun x => !inR x lo hi) 0 xs = z at E hi2
  have E2 := hid E
  clear E hx
  go_enter Try.func62, Try.ntmps62
  go_wp2_with (go_at_call 65; refine hi2.mono ?_; rintro r w2 ⟨rfl, rfl⟩)
  go_ret
  exact ⟨retB E2.out, rfl⟩
theorem outside_any (A : Option Addr) (n c : Nat) (xs : List Int) (lo hi : Int) (w : World) (B : Nat) (hB : B ≤ w.heap.size) (hn : n ≤ 2000000) (hx : Sl w B 1 encI A n xs) :
    Calls Try.prog 43 #[.slice A n c, .int .i64 lo, .int .i64 hi] w fun e w' => e = .returned (.bool (xs.any fun x => !inR x lo hi)) ∧ Below w.heap.size w w' := by
  have hc := hasOut_any A n c xs lo hi w.heap.size 0 (w.heap.size + 1) 0 ((w.alloc (.cells #[.int .i64 lo] 2)).alloc (.cells #[.int .i64 hi] 2)) B hn ((hx.alloc hB _).alloc (by simp; omega) _) (by go_simp) (by go_simp)
  clear hx
  go_enter Try.func43, Try.ntmps43
  go_wp2_with (go_at_call 62; refine hc.mono ?_; rintro r w2 ⟨rfl, rfl⟩)
  go_ret
  exact ⟨rfl, ((Below.refl _ _).alloc (Nat.le_refl _) _).alloc (by simp) _⟩

theorem upF_done {ps : List Int} {f k : Nat} {p : Int} (h : upF ps f p = (upF ps k 0).map (· + (f - k))) : upF ps f p = some (f - k) := by rw [h, upF_zero]; simp
theorem upV_neg {ps : List Int} {p : Int} : upV ps p < 0 ↔ upF ps ps.length p = none := by
  unfold upV
  cases upF ps ps.length p with
  | none => simp
  | some d => simp
theorem upV_le {ps : List Int} {p : Int} : -1 ≤ upV ps p ∧ upV ps p ≤ ps.length := by
  unfold upV
  cases h : upF ps ps.length p with
  | none => exact ⟨by simp, by simp only; omega⟩
  | some d => have := (up_mono h).1; exact ⟨by simp only; omega, by simp only; omega⟩
theorem isTree_bad {ps : List Int} {i : Nat} (hi : i < ps.length) (h : upF ps ps.length ((i : Int) + 1) = none) : isTree ps = false := by
  unfold isTree
  rw [List.all_eq_false]
  exact ⟨i, by simpa using hi, by rw [h]; simp⟩
theorem isTree_good {ps : List Int} (h : ∀ i, i < ps.length → upF ps ps.length ((i : Int) + 1) ≠ none) : isTree ps = true := by
  unfold isTree
  rw [List.all_eq_true]
  intro i hi
  have := h i (by simpa using hi)
  cases hq : upF ps ps.length ((i : Int) + 1) with
  | none => exact absurd hq this
  | some d => rfl
end Go.Proofs.Ytbgpdaclaknapaa
