/-
  Faults as text: the program's function and the reference's. No condition.
-/
import Derived.Test.YtjnapgkpcmfjbaaDoorKDec2
import Derived.Test.YtjnapgkpcmfjbaaDoorBasic
import Derived.Deep.RegionHeld3
namespace Go.Proofs.YtjnapgkpcmfjbaaDoor
open Go.RowKit
set_option maxHeartbeats 400000

def faultName (c : Int) : ByteArray :=
  if c = 1 then ⟨#[119, 111, 114, 100]⟩
  else if c = 2 then ⟨#[99, 111, 117, 110, 116]⟩
  else if c = 3 then ⟨#[110, 97, 109, 101]⟩
  else if c = 4 then ⟨#[110, 117, 109, 98, 101, 114]⟩
  else if c = 5 then ⟨#[116, 119, 105, 99, 101]⟩
  else if c = 6 then ⟨#[110, 111, 110, 101]⟩
  else if c = 7 then ⟨#[115, 101, 108, 102]⟩
  else if c = 8 then ⟨#[102, 117, 108, 108]⟩
  else ⟨#[]⟩
/-- a fault as text: its line, a colon, its name -/
def faultF (l c : Int) : ByteArray := if inR l 1 3001 && inR c 1 8 then (⟨(Lib.itoa l).toArray⟩ ++ ⟨#[58, 32]⟩) ++ faultName c else ⟨#[]⟩
theorem inR_iff' {n lo hi : Int} : inR n lo hi = true ↔ lo ≤ n ∧ n ≤ hi := by simp [inR]
theorem code8 {c : Int} (h : inR c 1 8 = true) : c = 1 ∨ c = 2 ∨ c = 3 ∨ c = 4 ∨ c = 5 ∨ c = 6 ∨ c = 7 ∨ c = 8 := by
  rw [inR_iff'] at h; omega
theorem itoa_size {n : Int} (h : inR n 1 3001 = true) : (⟨(Lib.itoa n).toArray⟩ : ByteArray).size ≤ 21 := by
  rw [inR_iff'] at h
  have := Lib.itoa_length_le n (by omega) (by omega)
  simpa [ByteArray.size] using this
set_option maxHeartbeats 4000000 in
set_option maxRecDepth 100000 in
theorem implFaultText_any (l c : Int) (w : World) (htab : TabW w) :
    Calls Tryd.prog 9 #[.agg #[.int .i64 l, .int .i64 c]] w fun e w' => e = .returned (.string (faultF l c)) ∧ Below w.heap.size w w' := by
  have hw := fun n lo hi W => within_any n lo hi W
  have hb0 : Below w.heap.size w (w.alloc (.cells #[.int .i64 l, .int .i64 c] 25)) := (Below.refl _ _).alloc (Nat.le_refl _) _
  cases h1 : inR l 1 3001 with
  | false =>
    have E : Hid (faultF l c = ⟨#[]⟩) := by simp [Hid, faultF, h1]
    have c1 := fun W => hw l 1 3001 W
    rw [h1] at c1
    clear hw h1
    go_enter Tryd.func9, Tryd.ntmps9
    go_wp2_with (go_at_call 25; refine (c1 _).mono ?_; rintro r w' ⟨rfl, rfl⟩)
    go_ret
    rw [E.out]
    exact ⟨rfl, hb0⟩
  | true =>
    cases h2 : inR c 1 8 with
    | false =>
      have E : Hid (faultF l c = ⟨#[]⟩) := by simp [Hid, faultF, h2]
      have c1 := fun W => hw l 1 3001 W
      have c2 := fun W => hw c 1 8 W
      rw [h1] at c1
      rw [h2] at c2
      clear hw h1 h2
      go_enter Tryd.func9, Tryd.ntmps9
      go_wp2_with (go_at_call 25; first | (with_reducible refine (c1 _).mono ?_; rintro r w' ⟨rfl, rfl⟩) | (with_reducible refine (c2 _).mono ?_; rintro r w' ⟨rfl, rfl⟩))
      go_ret
      rw [E.out]
      exact ⟨rfl, hb0⟩
    | true =>
      have E : Hid (faultF l c = (⟨(Lib.itoa l).toArray⟩ ++ ⟨#[58, 32]⟩) ++ faultName c) := by simp [Hid, faultF, h1, h2]
      have c1 := fun W => hw l 1 3001 W
      have c2 := fun W => hw c 1 8 W
      have hz := itoa_size h1
      have hc := code8 h2
      have cD := fun W hW => Decimal_any l W (by rw [inR_iff'] at h1; omega) (by rw [inR_iff'] at h1; omega) hW
      unfold itoaV at cD
      generalize hs : (⟨(Lib.itoa l).toArray⟩ : ByteArray) = s at cD E hz
      rw [h1] at c1
      rw [h2] at c2
      clear hw h1 h2 hs
      obtain ⟨w0, hw0⟩ : ∃ w0, w0 = w.alloc (.cells #[.int .i64 l, .int .i64 c] 25) := ⟨_, rfl⟩
      have htb : TabW w0.drew := by rw [hw0]; exact htab.below hb0.drew
      have k0 : w0.cell? ⟨w.heap.size, 0, none⟩ = some (.int .i64 l) := by rw [hw0]; go_simp
      have k1 : w0.cell? ⟨w.heap.size, 1, none⟩ = some (.int .i64 c) := by rw [hw0]; go_simp
      have lt0 : w.heap.size < w0.heap.size := World.block_lt_of_cell? _ _ k0
      rw [← hw0] at hb0
      have HW0 := hid hw0
      clear hw0
      rcases hc with rfl | rfl | rfl | rfl | rfl | rfl | rfl | rfl
      · go_enter Tryd.func9, Tryd.ntmps9
        go_wp2_with (go_at_call 25; first | (with_reducible refine (c1 _).mono ?_; rintro r w' ⟨rfl, rfl⟩) | (with_reducible refine (c2 _).mono ?_; rintro r w' ⟨rfl, rfl⟩))
        rw [← HW0.out]
        clear HW0 c1 c2 htab
        have hs1 : (9223372036854775807 < s.size + 2) = False := by simp; omega
        have hs2 : (9223372036854775807 < s.size + 2 + 4) = False := by simp; omega
        have hix : ∀ W : World, (Instr.index 59 (.agg #[.string ⟨#[]⟩, .string ⟨#[119, 111, 114, 100]⟩, .string ⟨#[99, 111, 117, 110, 116]⟩, .string ⟨#[110, 97, 109, 101]⟩, .string ⟨#[110, 117, 109, 98, 101, 114]⟩, .string ⟨#[116, 119, 105, 99, 101]⟩, .string ⟨#[110, 111, 110, 101]⟩, .string ⟨#[115, 101, 108, 102]⟩, .string ⟨#[102, 117, 108, 108]⟩]) (.int .i64 1)).run Tryd.prog W = .ok (.string ⟨#[119, 111, 114, 100]⟩) W := fun _ => rfl
        go_region_held3 (fun W => W.cell? ⟨w.heap.size, 0, none⟩ = some (.int .i64 l) ∧ W.cell? ⟨w.heap.size, 1, none⟩ = some (.int .i64 1))
          (first
            | (go_keep; done)
            | (go_split_ands; exact ⟨below_cell (by assumption) b7, below_cell (by assumption) b7⟩))
          (first
            | (go_at_call 26; with_reducible refine (cD _ htb).mono ?_; rintro r w7 ⟨rfl, b7⟩))
        all_goals have hb7 := hb0.trans ((Below.refl _ _).drew.trans (b7.mono hb0.size))
        all_goals clear b7 cD hs1 hs2 hix
        all_goals (try go_wp2_with fail)
        all_goals go_ret
        all_goals rw [E.out]
        all_goals exact ⟨rfl, hb7⟩
      · go_enter Tryd.func9, Tryd.ntmps9
        go_wp2_with (go_at_call 25; first | (with_reducible refine (c1 _).mono ?_; rintro r w' ⟨rfl, rfl⟩) | (with_reducible refine (c2 _).mono ?_; rintro r w' ⟨rfl, rfl⟩))
        rw [← HW0.out]
        clear HW0 c1 c2 htab
        have hs1 : (9223372036854775807 < s.size + 2) = False := by simp; omega
        have hs2 : (9223372036854775807 < s.size + 2 + 5) = False := by simp; omega
        have hix : ∀ W : World, (Instr.index 59 (.agg #[.string ⟨#[]⟩, .string ⟨#[119, 111, 114, 100]⟩, .string ⟨#[99, 111, 117, 110, 116]⟩, .string ⟨#[110, 97, 109, 101]⟩, .string ⟨#[110, 117, 109, 98, 101, 114]⟩, .string ⟨#[116, 119, 105, 99, 101]⟩, .string ⟨#[110, 111, 110, 101]⟩, .string ⟨#[115, 101, 108, 102]⟩, .string ⟨#[102, 117, 108, 108]⟩]) (.int .i64 2)).run Tryd.prog W = .ok (.string ⟨#[99, 111, 117, 110, 116]⟩) W := fun _ => rfl
        go_region_held3 (fun W => W.cell? ⟨w.heap.size, 0, none⟩ = some (.int .i64 l) ∧ W.cell? ⟨w.heap.size, 1, none⟩ = some (.int .i64 2))
          (first
            | (go_keep; done)
            | (go_split_ands; exact ⟨below_cell (by assumption) b7, below_cell (by assumption) b7⟩))
          (first
            | (go_at_call 26; with_reducible refine (cD _ htb).mono ?_; rintro r w7 ⟨rfl, b7⟩))
        all_goals have hb7 := hb0.trans ((Below.refl _ _).drew.trans (b7.mono hb0.size))
        all_goals clear b7 cD hs1 hs2 hix
        all_goals (try go_wp2_with fail)
        all_goals go_ret
        all_goals rw [E.out]
        all_goals exact ⟨rfl, hb7⟩
      · go_enter Tryd.func9, Tryd.ntmps9
        go_wp2_with (go_at_call 25; first | (with_reducible refine (c1 _).mono ?_; rintro r w' ⟨rfl, rfl⟩) | (with_reducible refine (c2 _).mono ?_; rintro r w' ⟨rfl, rfl⟩))
        rw [← HW0.out]
        clear HW0 c1 c2 htab
        have hs1 : (9223372036854775807 < s.size + 2) = False := by simp; omega
        have hs2 : (9223372036854775807 < s.size + 2 + 4) = False := by simp; omega
        have hix : ∀ W : World, (Instr.index 59 (.agg #[.string ⟨#[]⟩, .string ⟨#[119, 111, 114, 100]⟩, .string ⟨#[99, 111, 117, 110, 116]⟩, .string ⟨#[110, 97, 109, 101]⟩, .string ⟨#[110, 117, 109, 98, 101, 114]⟩, .string ⟨#[116, 119, 105, 99, 101]⟩, .string ⟨#[110, 111, 110, 101]⟩, .string ⟨#[115, 101, 108, 102]⟩, .string ⟨#[102, 117, 108, 108]⟩]) (.int .i64 3)).run Tryd.prog W = .ok (.string ⟨#[110, 97, 109, 101]⟩) W := fun _ => rfl
        go_region_held3 (fun W => W.cell? ⟨w.heap.size, 0, none⟩ = some (.int .i64 l) ∧ W.cell? ⟨w.heap.size, 1, none⟩ = some (.int .i64 3))
          (first
            | (go_keep; done)
            | (go_split_ands; exact ⟨below_cell (by assumption) b7, below_cell (by assumption) b7⟩))
          (first
            | (go_at_call 26; with_reducible refine (cD _ htb).mono ?_; rintro r w7 ⟨rfl, b7⟩))
        all_goals have hb7 := hb0.trans ((Below.refl _ _).drew.trans (b7.mono hb0.size))
        all_goals clear b7 cD hs1 hs2 hix
        all_goals (try go_wp2_with fail)
        all_goals go_ret
        all_goals rw [E.out]
        all_goals exact ⟨rfl, hb7⟩
      · go_enter Tryd.func9, Tryd.ntmps9
        go_wp2_with (go_at_call 25; first | (with_reducible refine (c1 _).mono ?_; rintro r w' ⟨rfl, rfl⟩) | (with_reducible refine (c2 _).mono ?_; rintro r w' ⟨rfl, rfl⟩))
        rw [← HW0.out]
        clear HW0 c1 c2 htab
        have hs1 : (9223372036854775807 < s.size + 2) = False := by simp; omega
        have hs2 : (9223372036854775807 < s.size + 2 + 6) = False := by simp; omega
        have hix : ∀ W : World, (Instr.index 59 (.agg #[.string ⟨#[]⟩, .string ⟨#[119, 111, 114, 100]⟩, .string ⟨#[99, 111, 117, 110, 116]⟩, .string ⟨#[110, 97, 109, 101]⟩, .string ⟨#[110, 117, 109, 98, 101, 114]⟩, .string ⟨#[116, 119, 105, 99, 101]⟩, .string ⟨#[110, 111, 110, 101]⟩, .string ⟨#[115, 101, 108, 102]⟩, .string ⟨#[102, 117, 108, 108]⟩]) (.int .i64 4)).run Tryd.prog W = .ok (.string ⟨#[110, 117, 109, 98, 101, 114]⟩) W := fun _ => rfl
        go_region_held3 (fun W => W.cell? ⟨w.heap.size, 0, none⟩ = some (.int .i64 l) ∧ W.cell? ⟨w.heap.size, 1, none⟩ = some (.int .i64 4))
          (first
            | (go_keep; done)
            | (go_split_ands; exact ⟨below_cell (by assumption) b7, below_cell (by assumption) b7⟩))
          (first
            | (go_at_call 26; with_reducible refine (cD _ htb).mono ?_; rintro r w7 ⟨rfl, b7⟩))
        all_goals have hb7 := hb0.trans ((Below.refl _ _).drew.trans (b7.mono hb0.size))
        all_goals clear b7 cD hs1 hs2 hix
        all_goals (try go_wp2_with fail)
        all_goals go_ret
        all_goals rw [E.out]
        all_goals exact ⟨rfl, hb7⟩
      · go_enter Tryd.func9, Tryd.ntmps9
        go_wp2_with (go_at_call 25; first | (with_reducible refine (c1 _).mono ?_; rintro r w' ⟨rfl, rfl⟩) | (with_reducible refine (c2 _).mono ?_; rintro r w' ⟨rfl, rfl⟩))
        rw [← HW0.out]
        clear HW0 c1 c2 htab
        have hs1 : (9223372036854775807 < s.size + 2) = False := by simp; omega
        have hs2 : (9223372036854775807 < s.size + 2 + 5) = False := by simp; omega
        have hix : ∀ W : World, (Instr.index 59 (.agg #[.string ⟨#[]⟩, .string ⟨#[119, 111, 114, 100]⟩, .string ⟨#[99, 111, 117, 110, 116]⟩, .string ⟨#[110, 97, 109, 101]⟩, .string ⟨#[110, 117, 109, 98, 101, 114]⟩, .string ⟨#[116, 119, 105, 99, 101]⟩, .string ⟨#[110, 111, 110, 101]⟩, .string ⟨#[115, 101, 108, 102]⟩, .string ⟨#[102, 117, 108, 108]⟩]) (.int .i64 5)).run Tryd.prog W = .ok (.string ⟨#[116, 119, 105, 99, 101]⟩) W := fun _ => rfl
        go_region_held3 (fun W => W.cell? ⟨w.heap.size, 0, none⟩ = some (.int .i64 l) ∧ W.cell? ⟨w.heap.size, 1, none⟩ = some (.int .i64 5))
          (first
            | (go_keep; done)
            | (go_split_ands; exact ⟨below_cell (by assumption) b7, below_cell (by assumption) b7⟩))
          (first
            | (go_at_call 26; with_reducible refine (cD _ htb).mono ?_; rintro r w7 ⟨rfl, b7⟩))
        all_goals have hb7 := hb0.trans ((Below.refl _ _).drew.trans (b7.mono hb0.size))
        all_goals clear b7 cD hs1 hs2 hix
        all_goals (try go_wp2_with fail)
        all_goals go_ret
        all_goals rw [E.out]
        all_goals exact ⟨rfl, hb7⟩
      · go_enter Tryd.func9, Tryd.ntmps9
        go_wp2_with (go_at_call 25; first | (with_reducible refine (c1 _).mono ?_; rintro r w' ⟨rfl, rfl⟩) | (with_reducible refine (c2 _).mono ?_; rintro r w' ⟨rfl, rfl⟩))
        rw [← HW0.out]
        clear HW0 c1 c2 htab
        have hs1 : (9223372036854775807 < s.size + 2) = False := by simp; omega
        have hs2 : (9223372036854775807 < s.size + 2 + 4) = False := by simp; omega
        have hix : ∀ W : World, (Instr.index 59 (.agg #[.string ⟨#[]⟩, .string ⟨#[119, 111, 114, 100]⟩, .string ⟨#[99, 111, 117, 110, 116]⟩, .string ⟨#[110, 97, 109, 101]⟩, .string ⟨#[110, 117, 109, 98, 101, 114]⟩, .string ⟨#[116, 119, 105, 99, 101]⟩, .string ⟨#[110, 111, 110, 101]⟩, .string ⟨#[115, 101, 108, 102]⟩, .string ⟨#[102, 117, 108, 108]⟩]) (.int .i64 6)).run Tryd.prog W = .ok (.string ⟨#[110, 111, 110, 101]⟩) W := fun _ => rfl
        go_region_held3 (fun W => W.cell? ⟨w.heap.size, 0, none⟩ = some (.int .i64 l) ∧ W.cell? ⟨w.heap.size, 1, none⟩ = some (.int .i64 6))
          (first
            | (go_keep; done)
            | (go_split_ands; exact ⟨below_cell (by assumption) b7, below_cell (by assumption) b7⟩))
          (first
            | (go_at_call 26; with_reducible refine (cD _ htb).mono ?_; rintro r w7 ⟨rfl, b7⟩))
        all_goals have hb7 := hb0.trans ((Below.refl _ _).drew.trans (b7.mono hb0.size))
        all_goals clear b7 cD hs1 hs2 hix
        all_goals (try go_wp2_with fail)
        all_goals go_ret
        all_goals rw [E.out]
        all_goals exact ⟨rfl, hb7⟩
      · go_enter Tryd.func9, Tryd.ntmps9
        go_wp2_with (go_at_call 25; first | (with_reducible refine (c1 _).mono ?_; rintro r w' ⟨rfl, rfl⟩) | (with_reducible refine (c2 _).mono ?_; rintro r w' ⟨rfl, rfl⟩))
        rw [← HW0.out]
        clear HW0 c1 c2 htab
        have hs1 : (9223372036854775807 < s.size + 2) = False := by simp; omega
        have hs2 : (9223372036854775807 < s.size + 2 + 4) = False := by simp; omega
        have hix : ∀ W : World, (Instr.index 59 (.agg #[.string ⟨#[]⟩, .string ⟨#[119, 111, 114, 100]⟩, .string ⟨#[99, 111, 117, 110, 116]⟩, .string ⟨#[110, 97, 109, 101]⟩, .string ⟨#[110, 117, 109, 98, 101, 114]⟩, .string ⟨#[116, 119, 105, 99, 101]⟩, .string ⟨#[110, 111, 110, 101]⟩, .string ⟨#[115, 101, 108, 102]⟩, .string ⟨#[102, 117, 108, 108]⟩]) (.int .i64 7)).run Tryd.prog W = .ok (.string ⟨#[115, 101, 108, 102]⟩) W := fun _ => rfl
        go_region_held3 (fun W => W.cell? ⟨w.heap.size, 0, none⟩ = some (.int .i64 l) ∧ W.cell? ⟨w.heap.size, 1, none⟩ = some (.int .i64 7))
          (first
            | (go_keep; done)
            | (go_split_ands; exact ⟨below_cell (by assumption) b7, below_cell (by assumption) b7⟩))
          (first
            | (go_at_call 26; with_reducible refine (cD _ htb).mono ?_; rintro r w7 ⟨rfl, b7⟩))
        all_goals have hb7 := hb0.trans ((Below.refl _ _).drew.trans (b7.mono hb0.size))
        all_goals clear b7 cD hs1 hs2 hix
        all_goals (try go_wp2_with fail)
        all_goals go_ret
        all_goals rw [E.out]
        all_goals exact ⟨rfl, hb7⟩
      · go_enter Tryd.func9, Tryd.ntmps9
        go_wp2_with (go_at_call 25; first | (with_reducible refine (c1 _).mono ?_; rintro r w' ⟨rfl, rfl⟩) | (with_reducible refine (c2 _).mono ?_; rintro r w' ⟨rfl, rfl⟩))
        rw [← HW0.out]
        clear HW0 c1 c2 htab
        have hs1 : (9223372036854775807 < s.size + 2) = False := by simp; omega
        have hs2 : (9223372036854775807 < s.size + 2 + 4) = False := by simp; omega
        have hix : ∀ W : World, (Instr.index 59 (.agg #[.string ⟨#[]⟩, .string ⟨#[119, 111, 114, 100]⟩, .string ⟨#[99, 111, 117, 110, 116]⟩, .string ⟨#[110, 97, 109, 101]⟩, .string ⟨#[110, 117, 109, 98, 101, 114]⟩, .string ⟨#[116, 119, 105, 99, 101]⟩, .string ⟨#[110, 111, 110, 101]⟩, .string ⟨#[115, 101, 108, 102]⟩, .string ⟨#[102, 117, 108, 108]⟩]) (.int .i64 8)).run Tryd.prog W = .ok (.string ⟨#[102, 117, 108, 108]⟩) W := fun _ => rfl
        go_region_held3 (fun W => W.cell? ⟨w.heap.size, 0, none⟩ = some (.int .i64 l) ∧ W.cell? ⟨w.heap.size, 1, none⟩ = some (.int .i64 8))
          (first
            | (go_keep; done)
            | (go_split_ands; exact ⟨below_cell (by assumption) b7, below_cell (by assumption) b7⟩))
          (first
            | (go_at_call 26; with_reducible refine (cD _ htb).mono ?_; rintro r w7 ⟨rfl, b7⟩))
        all_goals have hb7 := hb0.trans ((Below.refl _ _).drew.trans (b7.mono hb0.size))
        all_goals clear b7 cD hs1 hs2 hix
        all_goals (try go_wp2_with fail)
        all_goals go_ret
        all_goals rw [E.out]
        all_goals exact ⟨rfl, hb7⟩
set_option maxHeartbeats 4000000 in
set_option maxRecDepth 100000 in
theorem specFaultText_any (l c : Int) (w : World) :
    Calls Tryd.prog 7 #[.agg #[.int .i64 l, .int .i64 c]] w fun e w' => e = .returned (.string (faultF l c)) ∧ Below w.heap.size w w' := by
  have hw := fun n lo hi W => l00In_any n lo hi W
  obtain ⟨w0, hw0⟩ : ∃ w0, w0 = (w.alloc (.cells #[.int .i64 l, .int .i64 c] 25)).alloc (.cells #[.string ⟨#[]⟩, .string ⟨#[119, 111, 114, 100]⟩, .string ⟨#[99, 111, 117, 110, 116]⟩, .string ⟨#[110, 97, 109, 101]⟩, .string ⟨#[110, 117, 109, 98, 101, 114]⟩, .string ⟨#[116, 119, 105, 99, 101]⟩, .string ⟨#[110, 111, 110, 101]⟩, .string ⟨#[115, 101, 108, 102]⟩, .string ⟨#[102, 117, 108, 108]⟩] 9) := ⟨_, rfl⟩
  have hb0 : Below w.heap.size w w0 := by rw [hw0]; exact ((Below.refl _ _).alloc (Nat.le_refl _) _).alloc (by simp) _
  have k0 : w0.cell? ⟨w.heap.size, 0, none⟩ = some (.int .i64 l) := by rw [hw0]; go_simp
  have k1 : w0.cell? ⟨w.heap.size, 1, none⟩ = some (.int .i64 c) := by rw [hw0]; go_simp
  have n1 : w0.cell? ⟨w.heap.size + 1, 1, none⟩ = some (.string ⟨#[119, 111, 114, 100]⟩) := by rw [hw0]; go_simp
  have n2 : w0.cell? ⟨w.heap.size + 1, 2, none⟩ = some (.string ⟨#[99, 111, 117, 110, 116]⟩) := by rw [hw0]; go_simp
  have n3 : w0.cell? ⟨w.heap.size + 1, 3, none⟩ = some (.string ⟨#[110, 97, 109, 101]⟩) := by rw [hw0]; go_simp
  have n4 : w0.cell? ⟨w.heap.size + 1, 4, none⟩ = some (.string ⟨#[110, 117, 109, 98, 101, 114]⟩) := by rw [hw0]; go_simp
  have n5 : w0.cell? ⟨w.heap.size + 1, 5, none⟩ = some (.string ⟨#[116, 119, 105, 99, 101]⟩) := by rw [hw0]; go_simp
  have n6 : w0.cell? ⟨w.heap.size + 1, 6, none⟩ = some (.string ⟨#[110, 111, 110, 101]⟩) := by rw [hw0]; go_simp
  have n7 : w0.cell? ⟨w.heap.size + 1, 7, none⟩ = some (.string ⟨#[115, 101, 108, 102]⟩) := by rw [hw0]; go_simp
  have n8 : w0.cell? ⟨w.heap.size + 1, 8, none⟩ = some (.string ⟨#[102, 117, 108, 108]⟩) := by rw [hw0]; go_simp
  have lt0 : w.heap.size < w0.heap.size := World.block_lt_of_cell? _ _ k0
  have lt1 : w.heap.size + 1 < w0.heap.size := World.block_lt_of_cell? _ _ n1
  have HW0 := hid hw0
  cases h1 : inR l 1 3001 with
  | false =>
    have E : Hid (faultF l c = ⟨#[]⟩) := by simp [Hid, faultF, h1]
    have c1 := fun W => hw l 1 3001 W
    rw [h1] at c1
    subst hw0
    clear hw h1 k0 k1 n1 n2 n3 n4 n5 n6 n7 n8 HW0
    go_enter Tryd.func7, Tryd.ntmps7
    go_wp2_with (go_at_call 23; refine (c1 _).mono ?_; rintro r w' ⟨rfl, rfl⟩)
    go_ret
    rw [E.out]
    exact ⟨rfl, hb0⟩
  | true =>
    cases h2 : inR c 1 8 with
    | false =>
      have E : Hid (faultF l c = ⟨#[]⟩) := by simp [Hid, faultF, h2]
      have c1 := fun W => hw l 1 3001 W
      have c2 := fun W => hw c 1 8 W
      rw [h1] at c1
      rw [h2] at c2
      subst hw0
      clear hw h1 h2 k0 k1 n1 n2 n3 n4 n5 n6 n7 n8 HW0
      go_enter Tryd.func7, Tryd.ntmps7
      go_wp2_with (go_at_call 23; first | (with_reducible refine (c1 _).mono ?_; rintro r w' ⟨rfl, rfl⟩) | (with_reducible refine (c2 _).mono ?_; rintro r w' ⟨rfl, rfl⟩))
      go_ret
      rw [E.out]
      exact ⟨rfl, hb0⟩
    | true =>
      have E : Hid (faultF l c = (⟨(Lib.itoa l).toArray⟩ ++ ⟨#[58, 32]⟩) ++ faultName c) := by simp [Hid, faultF, h1, h2]
      have c1 := fun W => hw l 1 3001 W
      have c2 := fun W => hw c 1 8 W
      have hz := itoa_size h1
      have hc := code8 h2
      have cD := fun W => l01Dec_any l W (by rw [inR_iff'] at h1; omega) (by rw [inR_iff'] at h1; omega)
      unfold itoaV at cD
      generalize hs : (⟨(Lib.itoa l).toArray⟩ : ByteArray) = s at cD E hz
      rw [h1] at c1
      rw [h2] at c2
      clear hw h1 h2 hs hw0
      rcases hc with rfl | rfl | rfl | rfl | rfl | rfl | rfl | rfl
      · go_enter Tryd.func7, Tryd.ntmps7
        go_wp2_with (go_at_call 23; first | (with_reducible refine (c1 _).mono ?_; rintro r w' ⟨rfl, rfl⟩) | (with_reducible refine (c2 _).mono ?_; rintro r w' ⟨rfl, rfl⟩))
        rw [← HW0.out]
        clear HW0 c1 c2 n2 n3 n4 n5 n6 n7 n8
        have hs1 : (9223372036854775807 < s.size + 2) = False := by simp; omega
        have hs2 : (9223372036854775807 < s.size + 2 + 4) = False := by simp; omega
        go_region_held3 (fun W => W.cell? ⟨w.heap.size, 0, none⟩ = some (.int .i64 l) ∧ W.cell? ⟨w.heap.size, 1, none⟩ = some (.int .i64 1) ∧ W.cell? ⟨w.heap.size + 1, 1, none⟩ = some (.string ⟨#[119, 111, 114, 100]⟩))
          (first
            | (go_keep; done)
            | (go_split_ands; exact ⟨below_cell (by assumption) b7, below_cell (by assumption) b7, below_cell (by assumption) b7⟩))
          (first
            | (go_at_call 24; with_reducible refine (cD _).mono ?_; rintro r w7 ⟨rfl, b7⟩))
        all_goals have hb7 := hb0.trans ((Below.refl _ _).drew.trans (b7.mono hb0.size))
        all_goals clear b7 cD hs1 hs2
        all_goals (try go_wp2_with fail)
        all_goals go_ret
        all_goals rw [E.out]
        all_goals exact ⟨rfl, hb7⟩
      · go_enter Tryd.func7, Tryd.ntmps7
        go_wp2_with (go_at_call 23; first | (with_reducible refine (c1 _).mono ?_; rintro r w' ⟨rfl, rfl⟩) | (with_reducible refine (c2 _).mono ?_; rintro r w' ⟨rfl, rfl⟩))
        rw [← HW0.out]
        clear HW0 c1 c2 n1 n3 n4 n5 n6 n7 n8
        have hs1 : (9223372036854775807 < s.size + 2) = False := by simp; omega
        have hs2 : (9223372036854775807 < s.size + 2 + 5) = False := by simp; omega
        go_region_held3 (fun W => W.cell? ⟨w.heap.size, 0, none⟩ = some (.int .i64 l) ∧ W.cell? ⟨w.heap.size, 1, none⟩ = some (.int .i64 2) ∧ W.cell? ⟨w.heap.size + 1, 2, none⟩ = some (.string ⟨#[99, 111, 117, 110, 116]⟩))
          (first
            | (go_keep; done)
            | (go_split_ands; exact ⟨below_cell (by assumption) b7, below_cell (by assumption) b7, below_cell (by assumption) b7⟩))
          (first
            | (go_at_call 24; with_reducible refine (cD _).mono ?_; rintro r w7 ⟨rfl, b7⟩))
        all_goals have hb7 := hb0.trans ((Below.refl _ _).drew.trans (b7.mono hb0.size))
        all_goals clear b7 cD hs1 hs2
        all_goals (try go_wp2_with fail)
        all_goals go_ret
        all_goals rw [E.out]
        all_goals exact ⟨rfl, hb7⟩
      · go_enter Tryd.func7, Tryd.ntmps7
        go_wp2_with (go_at_call 23; first | (with_reducible refine (c1 _).mono ?_; rintro r w' ⟨rfl, rfl⟩) | (with_reducible refine (c2 _).mono ?_; rintro r w' ⟨rfl, rfl⟩))
        rw [← HW0.out]
        clear HW0 c1 c2 n1 n2 n4 n5 n6 n7 n8
        have hs1 : (9223372036854775807 < s.size + 2) = False := by simp; omega
        have hs2 : (9223372036854775807 < s.size + 2 + 4) = False := by simp; omega
        go_region_held3 (fun W => W.cell? ⟨w.heap.size, 0, none⟩ = some (.int .i64 l) ∧ W.cell? ⟨w.heap.size, 1, none⟩ = some (.int .i64 3) ∧ W.cell? ⟨w.heap.size + 1, 3, none⟩ = some (.string ⟨#[110, 97, 109, 101]⟩))
          (first
            | (go_keep; done)
            | (go_split_ands; exact ⟨below_cell (by assumption) b7, below_cell (by assumption) b7, below_cell (by assumption) b7⟩))
          (first
            | (go_at_call 24; with_reducible refine (cD _).mono ?_; rintro r w7 ⟨rfl, b7⟩))
        all_goals have hb7 := hb0.trans ((Below.refl _ _).drew.trans (b7.mono hb0.size))
        all_goals clear b7 cD hs1 hs2
        all_goals (try go_wp2_with fail)
        all_goals go_ret
        all_goals rw [E.out]
        all_goals exact ⟨rfl, hb7⟩
      · go_enter Tryd.func7, Tryd.ntmps7
        go_wp2_with (go_at_call 23; first | (with_reducible refine (c1 _).mono ?_; rintro r w' ⟨rfl, rfl⟩) | (with_reducible refine (c2 _).mono ?_; rintro r w' ⟨rfl, rfl⟩))
        rw [← HW0.out]
        clear HW0 c1 c2 n1 n2 n3 n5 n6 n7 n8
        have hs1 : (9223372036854775807 < s.size + 2) = False := by simp; omega
        have hs2 : (9223372036854775807 < s.size + 2 + 6) = False := by simp; omega
        go_region_held3 (fun W => W.cell? ⟨w.heap.size, 0, none⟩ = some (.int .i64 l) ∧ W.cell? ⟨w.heap.size, 1, none⟩ = some (.int .i64 4) ∧ W.cell? ⟨w.heap.size + 1, 4, none⟩ = some (.string ⟨#[110, 117, 109, 98, 101, 114]⟩))
          (first
            | (go_keep; done)
            | (go_split_ands; exact ⟨below_cell (by assumption) b7, below_cell (by assumption) b7, below_cell (by assumption) b7⟩))
          (first
            | (go_at_call 24; with_reducible refine (cD _).mono ?_; rintro r w7 ⟨rfl, b7⟩))
        all_goals have hb7 := hb0.trans ((Below.refl _ _).drew.trans (b7.mono hb0.size))
        all_goals clear b7 cD hs1 hs2
        all_goals (try go_wp2_with fail)
        all_goals go_ret
        all_goals rw [E.out]
        all_goals exact ⟨rfl, hb7⟩
      · go_enter Tryd.func7, Tryd.ntmps7
        go_wp2_with (go_at_call 23; first | (with_reducible refine (c1 _).mono ?_; rintro r w' ⟨rfl, rfl⟩) | (with_reducible refine (c2 _).mono ?_; rintro r w' ⟨rfl, rfl⟩))
        rw [← HW0.out]
        clear HW0 c1 c2 n1 n2 n3 n4 n6 n7 n8
        have hs1 : (9223372036854775807 < s.size + 2) = False := by simp; omega
        have hs2 : (9223372036854775807 < s.size + 2 + 5) = False := by simp; omega
        go_region_held3 (fun W => W.cell? ⟨w.heap.size, 0, none⟩ = some (.int .i64 l) ∧ W.cell? ⟨w.heap.size, 1, none⟩ = some (.int .i64 5) ∧ W.cell? ⟨w.heap.size + 1, 5, none⟩ = some (.string ⟨#[116, 119, 105, 99, 101]⟩))
          (first
            | (go_keep; done)
            | (go_split_ands; exact ⟨below_cell (by assumption) b7, below_cell (by assumption) b7, below_cell (by assumption) b7⟩))
          (first
            | (go_at_call 24; with_reducible refine (cD _).mono ?_; rintro r w7 ⟨rfl, b7⟩))
        all_goals have hb7 := hb0.trans ((Below.refl _ _).drew.trans (b7.mono hb0.size))
        all_goals clear b7 cD hs1 hs2
        all_goals (try go_wp2_with fail)
        all_goals go_ret
        all_goals rw [E.out]
        all_goals exact ⟨rfl, hb7⟩
      · go_enter Tryd.func7, Tryd.ntmps7
        go_wp2_with (go_at_call 23; first | (with_reducible refine (c1 _).mono ?_; rintro r w' ⟨rfl, rfl⟩) | (with_reducible refine (c2 _).mono ?_; rintro r w' ⟨rfl, rfl⟩))
        rw [← HW0.out]
        clear HW0 c1 c2 n1 n2 n3 n4 n5 n7 n8
        have hs1 : (9223372036854775807 < s.size + 2) = False := by simp; omega
        have hs2 : (9223372036854775807 < s.size + 2 + 4) = False := by simp; omega
        go_region_held3 (fun W => W.cell? ⟨w.heap.size, 0, none⟩ = some (.int .i64 l) ∧ W.cell? ⟨w.heap.size, 1, none⟩ = some (.int .i64 6) ∧ W.cell? ⟨w.heap.size + 1, 6, none⟩ = some (.string ⟨#[110, 111, 110, 101]⟩))
          (first
            | (go_keep; done)
            | (go_split_ands; exact ⟨below_cell (by assumption) b7, below_cell (by assumption) b7, below_cell (by assumption) b7⟩))
          (first
            | (go_at_call 24; with_reducible refine (cD _).mono ?_; rintro r w7 ⟨rfl, b7⟩))
        all_goals have hb7 := hb0.trans ((Below.refl _ _).drew.trans (b7.mono hb0.size))
        all_goals clear b7 cD hs1 hs2
        all_goals (try go_wp2_with fail)
        all_goals go_ret
        all_goals rw [E.out]
        all_goals exact ⟨rfl, hb7⟩
      · go_enter Tryd.func7, Tryd.ntmps7
        go_wp2_with (go_at_call 23; first | (with_reducible refine (c1 _).mono ?_; rintro r w' ⟨rfl, rfl⟩) | (with_reducible refine (c2 _).mono ?_; rintro r w' ⟨rfl, rfl⟩))
        rw [← HW0.out]
        clear HW0 c1 c2 n1 n2 n3 n4 n5 n6 n8
        have hs1 : (9223372036854775807 < s.size + 2) = False := by simp; omega
        have hs2 : (9223372036854775807 < s.size + 2 + 4) = False := by simp; omega
        go_region_held3 (fun W => W.cell? ⟨w.heap.size, 0, none⟩ = some (.int .i64 l) ∧ W.cell? ⟨w.heap.size, 1, none⟩ = some (.int .i64 7) ∧ W.cell? ⟨w.heap.size + 1, 7, none⟩ = some (.string ⟨#[115, 101, 108, 102]⟩))
          (first
            | (go_keep; done)
            | (go_split_ands; exact ⟨below_cell (by assumption) b7, below_cell (by assumption) b7, below_cell (by assumption) b7⟩))
          (first
            | (go_at_call 24; with_reducible refine (cD _).mono ?_; rintro r w7 ⟨rfl, b7⟩))
        all_goals have hb7 := hb0.trans ((Below.refl _ _).drew.trans (b7.mono hb0.size))
        all_goals clear b7 cD hs1 hs2
        all_goals (try go_wp2_with fail)
        all_goals go_ret
        all_goals rw [E.out]
        all_goals exact ⟨rfl, hb7⟩
      · go_enter Tryd.func7, Tryd.ntmps7
        go_wp2_with (go_at_call 23; first | (with_reducible refine (c1 _).mono ?_; rintro r w' ⟨rfl, rfl⟩) | (with_reducible refine (c2 _).mono ?_; rintro r w' ⟨rfl, rfl⟩))
        rw [← HW0.out]
        clear HW0 c1 c2 n1 n2 n3 n4 n5 n6 n7
        have hs1 : (9223372036854775807 < s.size + 2) = False := by simp; omega
        have hs2 : (9223372036854775807 < s.size + 2 + 4) = False := by simp; omega
        go_region_held3 (fun W => W.cell? ⟨w.heap.size, 0, none⟩ = some (.int .i64 l) ∧ W.cell? ⟨w.heap.size, 1, none⟩ = some (.int .i64 8) ∧ W.cell? ⟨w.heap.size + 1, 8, none⟩ = some (.string ⟨#[102, 117, 108, 108]⟩))
          (first
            | (go_keep; done)
            | (go_split_ands; exact ⟨below_cell (by assumption) b7, below_cell (by assumption) b7, below_cell (by assumption) b7⟩))
          (first
            | (go_at_call 24; with_reducible refine (cD _).mono ?_; rintro r w7 ⟨rfl, b7⟩))
        all_goals have hb7 := hb0.trans ((Below.refl _ _).drew.trans (b7.mono hb0.size))
        all_goals clear b7 cD hs1 hs2
        all_goals (try go_wp2_with fail)
        all_goals go_ret
        all_goals rw [E.out]
        all_goals exact ⟨rfl, hb7⟩
end Go.Proofs.YtjnapgkpcmfjbaaDoor
