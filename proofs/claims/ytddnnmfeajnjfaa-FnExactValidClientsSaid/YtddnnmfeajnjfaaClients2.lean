/-
  Valid clients: the program's side. No condition.
-/
import Derived.Test.YtddnnmfeajnjfaaClients
import Derived.Test.YtddnnmfeajnjfaaAfter
namespace Go.Proofs.Ytddnnmfeajnjfaa
open Go.RowKit
set_option maxHeartbeats 400000

set_option maxHeartbeats 4000000 in
theorem implValidClients_any (A : Option Addr) (n c : Nat) (xs : List Client) (w : World) (B : Nat) (hB : B ≤ w.heap.size) (hn : n ≤ 2000000) (hx : Sl w B 5 encClient A n xs) (hz : Hid (∀ x ∈ xs, x.name.size ≤ 9223372036854775807)) :
    Calls Try.prog 11 #[.slice A n c] w fun r w' => r = .returned (.bool (validCs xs)) ∧ Below w.heap.size w w' := by
  have hol := hid hx.len
  go_enter Try.func11, Try.ntmps11
  go_wp2
  go_loopw [3, 4, 7] (fun _ _ i w1 => ∃ k : Nat, k ≤ n ∧ i = .int .i64 k ∧ Hid (okCs none xs = okCs (prevS xs k) (xs.drop k)) ∧ Below w.heap.size w w1) (fun _ _ i _ => n - (intOf i).toNat)
  case atStart => exact ⟨0, Nat.zero_le _, rfl, hid rfl, Below.refl _ _⟩
  case round =>
    obtain ⟨k, hk, rfl, he, hb⟩ := hrel
    by_cases hlt : k < n
    · obtain ⟨x0, x1, x2, x3, x4, b, off, Hx, rfl, hbB, c0, c1, c2, c3, c4⟩ := (hx.below (hb.mono hB)).atClient hlt
      have he2 := he.out
      rw [drop_at Hx.out, okCs] at he2
      have hsz := hz.out _ (List.mem_of_getElem? Hx.out)
      have hl := fun (W : World) => validClient_any x0 x1 x2 x3 x4 W hsz
      have hbs := hb.size
      have hba : Below w.heap.size w (wr.alloc (.cells #[.string x0, .int .i64 x1, .int .i64 x2, .int .i64 x3, .int .i64 x4] 33)) := hb.alloc hb.size _
      have k0 : ∀ i : After (wr.alloc (.cells #[.string x0, .int .i64 x1, .int .i64 x2, .int .i64 x3, .int .i64 x4] 33)), i.w.cell? ⟨wr.heap.size, 0, none⟩ = some (.string x0) := After.cell (by go_simp)
      have k1 : ∀ i : After (wr.alloc (.cells #[.string x0, .int .i64 x1, .int .i64 x2, .int .i64 x3, .int .i64 x4] 33)), i.w.cell? ⟨wr.heap.size, 1, none⟩ = some (.int .i64 x1) := After.cell (by go_simp)
      have k2 : ∀ i : After (wr.alloc (.cells #[.string x0, .int .i64 x1, .int .i64 x2, .int .i64 x3, .int .i64 x4] 33)), i.w.cell? ⟨wr.heap.size, 2, none⟩ = some (.int .i64 x2) := After.cell (by go_simp)
      have k3 : ∀ i : After (wr.alloc (.cells #[.string x0, .int .i64 x1, .int .i64 x2, .int .i64 x3, .int .i64 x4] 33)), i.w.cell? ⟨wr.heap.size, 3, none⟩ = some (.int .i64 x3) := After.cell (by go_simp)
      have k4 : ∀ i : After (wr.alloc (.cells #[.string x0, .int .i64 x1, .int .i64 x2, .int .i64 x3, .int .i64 x4] 33)), i.w.cell? ⟨wr.heap.size, 4, none⟩ = some (.int .i64 x4) := After.cell (by go_simp)
      cases h1 : okClient ⟨x0, x1, x2, x3, x4⟩ with
      | false =>
        have E : Hid (validCs xs = false) := validCs_none (by rw [he2, h1]; rfl)
        rw [h1] at hl
        clear he he2 hx h1 hsz
        go_wp2_with fail
        refine wp_after (by kernel_rfl) (by kernel_rfl) ?_
        repeat (first | go_big_quiet_skip | (go_big_quiet_want; go_big_quiet_op; first | go_big_quiet_on | go_big_quiet_call ((go_at_call 17; exact Calls.after (hl _)))))
        refine wpQuiet_nil ?_
        rintro _ ⟨i, rfl⟩
        have b6 := hba.trans (i.below.mono hba.size)
        go_wp2_with fail
        go_ret
        exact ⟨retB E.out.symm, b6⟩
      | true =>
        rw [h1] at hl
        cases k with
        | zero =>
          have He2 : Hid (okCs none xs = okCs (prevS xs (0 + 1)) (xs.drop (0 + 1))) := by rw [prevS_succ Hx.out, he2, h1]; simp [Hid, prevS, linkS]
          simp only [Nat.zero_mul, Nat.add_zero] at c0 c1 c2 c3 c4
          clear he he2 hx h1 hsz
          go_wp2_with fail
          refine wp_after (by kernel_rfl) (by kernel_rfl) ?_
          repeat (first | go_big_quiet_skip | (go_big_quiet_want; go_big_quiet_op; first | go_big_quiet_on | go_big_quiet_call ((go_at_call 17; exact Calls.after (hl _)))))
          refine wpQuiet_nil ?_
          rintro _ ⟨i, rfl⟩
          have b6 := hba.trans (i.below.mono hba.size)
          have hb5 := b6
          go_wp2_with fail
          go_roundw
          all_goals first | exact ⟨0 + 1, by omega, by go_num, He2, hb5⟩ | exact ⟨⟨0 + 1, by omega, by go_num, He2, hb5⟩, by simp [intOf]; omega⟩ | (simp [intOf]; omega)
        | succ k =>
          obtain ⟨y0, y1, y2, y3, y4, b', off', Hy, e', _, d0, _⟩ := (hx.below (hb.mono hB)).atClient (i := k) (by omega)
          injection e' with e'
          injection e' with e1 e2
          subst e1 e2
          rw [prevS_succ Hy.out] at he2
          have hbz : b < wr.heap.size := by omega
          have k5 : ∀ i : After (wr.alloc (.cells #[.string x0, .int .i64 x1, .int .i64 x2, .int .i64 x3, .int .i64 x4] 33)), i.w.cell? ⟨b, off + k * 5, none⟩ = some (.string y0) := After.cell ((World.cell?_alloc_lt _ _ _ hbz).trans d0)
          have hW : IntKind.i64.wrap ((k : Int) + 1 - 1) = (k : Int) := by rw [show (k : Int) + 1 - 1 = k by omega]; exact IntWalk.i64_in _ (by omega)
          have i2 : (0 : Int) ≤ (k : Int) := by omega
          have i3 : (k : Int) < (n : Int) := by omega
          have i4 : (0 : Int) < (k : Int) + 1 := by omega
          cases q1 : ltS y0 x0 with
          | false =>
            have E : Hid (validCs xs = false) := validCs_none (by rw [he2]; simp [linkS, q1])
            have q2 : Op.bytesLess y0.toList x0.toList = false := q1
            clear he he2 hx h1 hsz q1
            go_wp2_with fail
            refine wp_after (by kernel_rfl) (by kernel_rfl) ?_
            repeat (first | go_big_quiet_skip | (go_big_quiet_want; go_big_quiet_op; first | go_big_quiet_on | go_big_quiet_call ((go_at_call 17; exact Calls.after (hl _)))))
            refine wpQuiet_nil ?_
            rintro _ ⟨i, rfl⟩
            have b6 := hba.trans (i.below.mono hba.size)
            go_wp2_with fail
            go_ret
            exact ⟨retB E.out.symm, b6⟩
          | true =>
            have He2 : Hid (okCs none xs = okCs (prevS xs (k + 1 + 1)) (xs.drop (k + 1 + 1))) := by rw [prevS_succ Hx.out, he2, h1]; simp [Hid, linkS, q1]
            have q2 : Op.bytesLess y0.toList x0.toList = true := q1
            clear he he2 hx h1 hsz q1
            go_wp2_with fail
            refine wp_after (by kernel_rfl) (by kernel_rfl) ?_
            repeat (first | go_big_quiet_skip | (go_big_quiet_want; go_big_quiet_op; first | go_big_quiet_on | go_big_quiet_call ((go_at_call 17; exact Calls.after (hl _)))))
            refine wpQuiet_nil ?_
            rintro _ ⟨i, rfl⟩
            have b6 := hba.trans (i.below.mono hba.size)
            have hb5 := b6
            go_wp2_with fail
            go_roundw
            all_goals first | exact ⟨k + 1 + 1, by omega, by go_num, He2, hb5⟩ | exact ⟨⟨k + 1 + 1, by omega, by go_num, He2, hb5⟩, by simp [intOf]; omega⟩ | (simp [intOf]; omega)
    · have : k = n := by omega
      subst this
      have he2 := he.out
      rw [List.drop_of_length_le (by rw [hol.out]; omega), okCs] at he2
      have E : Hid (validCs xs = decide (k ≤ 30)) := by rw [Hid, validCs, he2, hol.out]; rfl
      clear he he2 hx
      go_wp2
      go_ret
      exact ⟨retB (by rw [E.out]; simp; try omega), hb⟩
end Go.Proofs.Ytddnnmfeajnjfaa
