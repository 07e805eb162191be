/-
  The reference's order of a queue: its walks. No condition.
-/
import Derived.Test.YtfhlooegeklpaaaQPlain
import Derived.Test.YtfhlooegeklpaaaInt
import Derived.Deep.RegionHeld3
namespace Go.Proofs.Ytfhlooegeklpaaa
open Go.RowKit
set_option maxHeartbeats 400000

theorem cls_bounds {age t : Int} {x : Item} (h1 : 0 ≤ age) (h2 : x.a ≤ t) (h3 : 0 ≤ x.c) : 0 ≤ cls age t x ∧ cls age t x ≤ x.c := by
  unfold cls
  split
  · omega
  · have h : 0 ≤ (t - x.a) / age := Int.ediv_nonneg (by omega) h1
    omega

theorem l22Class_any (a tk c tick age : Int) (w : World) (h1 : 0 ≤ age) (h2 : age ≤ 10000) (h3 : 0 ≤ a) (h4 : a ≤ tick) (h5 : tick ≤ 100000) (h6 : 0 ≤ c) (h7 : c ≤ 9) :
    Calls Try.prog 54 #[.agg #[.int .i64 a, .int .i64 tk, .int .i64 c], .int .i64 tick, .int .i64 age] w fun e w' => e = .returned (.int .i64 (cls age tick ⟨a, tk, c⟩)) ∧ Below w.heap.size w w' := by
  by_cases h0 : age = 0
  · subst h0
    go_enter Try.func54, Try.ntmps54
    go_wp2
    go_ret
    refine ⟨retI (by simp [cls]), ?_⟩
    repeat (first | with_reducible assumption | with_reducible exact Below.refl _ _ | with_reducible refine bl_drew ?_ | with_reducible refine bl_drewN ?_ | ((with_reducible refine bl_set ?_ ?_); focus (first | (simp; done) | (simp; omega) | omega)) | ((with_reducible refine bl_alloc ?_ ?_); focus (first | (simp; done) | (simp; omega) | omega)))
  · have hd : 0 ≤ (tick - a) / age := Int.ediv_nonneg (by omega) h1
    have hd2 : (tick - a) / age ≤ 100000 := Int.le_trans (Int.ediv_le_self _ (by omega)) (by omega)
    have e : cls age tick ⟨a, tk, c⟩ = max 0 (c - (tick - a) / age) := by simp [cls, h0]
    have He := hid e
    clear e
    have h0' : (age == 0) = false := by simpa using h0
    have w1 : IntKind.i64.wrap (tick - a) = tick - a := IntWalk.i64_in _ (by omega)
    have w2 : (tick - a).tdiv age = (tick - a) / age := Int.tdiv_eq_ediv_of_nonneg (by omega)
    have w3 : IntKind.i64.wrap ((tick - a) / age) = (tick - a) / age := IntWalk.i64_in _ (by omega)
    have w4 : IntKind.i64.wrap (c - (tick - a) / age) = c - (tick - a) / age := IntWalk.i64_in _ (by omega)
    clear hd hd2
    go_enter Try.func54, Try.ntmps54
    go_wp2
    go_quiet ((go_at_call 55; exact Calls.quiet_of_same (l00Max_any _ _ _)))
    go_wp2
    go_ret
    refine ⟨retI He.out.symm, ?_⟩
    exact below_drewN ((Below.refl _ _).alloc (Nat.le_refl _) _) _
set_option maxHeartbeats 2000000 in
theorem l22Next_any (A : Option Addr) (n c : Nat) (xs : List Item) (A' : Option Addr) (m c' : Nat) (o : List Int) (tick age : Int) (w : World) (B : Nat) (hB : B ≤ w.heap.size) (hn : n ≤ 2000000) (hm : m ≤ 2000000)
    (hx : Sl w B 3 encItem A n xs) (ho : Sl w B 1 encI A' m o) (hv : validQ xs = true) (h1 : 0 ≤ age) (h2 : age ≤ 10000) (_h3 : 0 ≤ tick) (h4 : tick ≤ 100000) :
    Calls Try.prog 48 #[.slice A n c, .slice A' m c', .int .i64 tick, .int .i64 age] w fun e w' => e = .returned (.int .i64 (bestQ xs o age tick)) ∧ Below w.heap.size w w' := by
  have Hv := hid hv
  clear hv
  go_enter Try.func48, Try.ntmps48
  go_wp2
  go_loopw [9, 10] (fun s i w1 => ∃ k bv, k ≤ n ∧ i = .int .i64 (k : Nat) ∧ s = .int .i64 bv ∧ Found xs o tick bv ∧ Hid (bestQ xs o age tick = bestFrom xs o age tick bv k (xs.drop k)) ∧ Below w.heap.size w w1) (fun _ i _ => n - (intOf i).toNat)
  case atStart => exact ⟨0, -1, Nat.zero_le _, rfl, rfl, .inl (by omega), hid rfl, Below.refl _ _⟩
  case round =>
    obtain ⟨k, bv, hk, rfl, rfl, hf, he, hb⟩ := hrel
    have hx1 := hx.below (hb.mono hB)
    have ho1 := ho.below (hb.mono hB)
    by_cases hlt : k < n
    · obtain ⟨x, y, z, b, off, Hx, rfl, hbB, c0, c1, c2⟩ := hx1.item hlt
      have he2 := he.out
      rw [drop_at Hx.out, bestFrom] at he2
      have hs := hf.step (age := age) Hx.out
      have hv := validQ_item Hv.out Hx.out
      simp only at hv
      obtain ⟨v1, v2, v3, v4, v5, v6⟩ := hv
      have hhas := fun W hS => l00Has_any A' m c' o k W B hm hS
      have go_on : ∀ bv', Hid (stepBest xs o age tick bv k ⟨x, y, z⟩ = bv') → Found xs o tick bv' ∧ Hid (bestQ xs o age tick = bestFrom xs o age tick bv' (k + 1) (xs.drop (k + 1))) := fun bv' e => by rw [← e.out]; exact ⟨hs, he2⟩
      clear he he2 hs
      by_cases ha : tick < x
      · obtain ⟨hf2, he2⟩ := go_on bv (by unfold stepBest Hid; rw [if_pos (by simp [ha])])
        clear go_on hx ho hx1 ho1 hhas hf
        go_wp2
        go_roundw
        all_goals first | exact ⟨k + 1, bv, by omega, by go_num, rfl, hf2, he2, hb⟩ | exact ⟨⟨k + 1, bv, by omega, by go_num, rfl, hf2, he2, hb⟩, by simp [intOf]; omega⟩ | (simp [intOf]; omega)
      · cases hhas2 : hasI o k with
        | true =>
          rw [hhas2] at hhas
          obtain ⟨hf2, he2⟩ := go_on bv (by unfold stepBest Hid; rw [if_pos (by simp [hhas2])])
          clear go_on hx ho hx1 hf hhas2
          go_wp2_with (go_at_call 49; refine (hhas _ ho1).mono ?_; rintro e w' ⟨rfl, rfl⟩)
          go_roundw
          all_goals first | exact ⟨k + 1, bv, by omega, by go_num, rfl, hf2, he2, hb⟩ | exact ⟨⟨k + 1, bv, by omega, by go_num, rfl, hf2, he2, hb⟩, by simp [intOf]; omega⟩ | (simp [intOf]; omega)
        | false =>
          rw [hhas2] at hhas
          by_cases hneg : bv < 0
          · obtain ⟨hf2, he2⟩ := go_on k (by unfold stepBest Hid; rw [if_neg (by simp [hhas2, ha]), if_pos hneg])
            clear go_on hx ho hx1 hf hhas2
            go_wp2_with (go_at_call 49; refine (hhas _ ho1).mono ?_; rintro e w' ⟨rfl, rfl⟩)
            go_roundw
            all_goals first | exact ⟨k + 1, k, by omega, by go_num, rfl, hf2, he2, hb⟩ | exact ⟨⟨k + 1, k, by omega, by go_num, rfl, hf2, he2, hb⟩, by simp [intOf]; omega⟩ | (simp [intOf]; omega)
          · rcases hf with h | ⟨j, ⟨x', y', z'⟩, rfl, hj, hoj, haj⟩
            · omega
            · have hjn : j < n := by rw [← hx.len]; exact (List.getElem?_eq_some_iff.1 hj).1
              obtain ⟨c0', c1', c2'⟩ := hx1.itemAt hj
              have hv := validQ_item Hv.out hj
              simp only at hv haj
              obtain ⟨v1', v2', v3', v4', v5', v6'⟩ := hv
              have hca := fun W => l22Class_any x y z tick age W h1 h2 v1 (by omega) (by omega) v5 v6
              have hcb := fun W => l22Class_any x' y' z' tick age W h1 h2 v1' haj (by omega) v5' v6'
              have hst : Hid (stepBest xs o age tick j k ⟨x, y, z⟩ = if (decide (cls age tick ⟨x, y, z⟩ < cls age tick ⟨x', y', z'⟩) || (decide (cls age tick ⟨x, y, z⟩ = cls age tick ⟨x', y', z'⟩) && decide (x < x'))) then (k : Int) else j) := by
                unfold stepBest Hid; rw [if_neg (by simp [hhas2, ha]), if_neg hneg, Int.toNat_natCast, hj]; rfl
              generalize cls age tick ⟨x, y, z⟩ = ca at hca hst
              generalize cls age tick ⟨x', y', z'⟩ = cb at hcb hst
              have hst := hst.out
              have Hj := hid hj
              clear hhas2 hoj hj hx ho hx1
              have hbs : b < wr.heap.size := by have := hb.size; omega
              by_cases q1 : cb < ca
              · obtain ⟨hf2, he2⟩ := go_on j (by rw [hst]; unfold Hid; rw [if_neg]; simp; omega)
                clear go_on hst
                go_wp2_with (go_at_call 49; refine (hhas _ ho1).mono ?_; rintro e w' ⟨rfl, rfl⟩); refine (hca _).mono ?_; rintro e w1 ⟨rfl, b1⟩; replace c0' := (b1.cell (p := ⟨b, off + j * 3, none⟩) hbs).trans c0'; replace c1' := (b1.cell (p := ⟨b, off + j * 3 + 1, none⟩) hbs).trans c1'; replace c2' := (b1.cell (p := ⟨b, off + j * 3 + 2, none⟩) hbs).trans c2'; replace c0 := (b1.cell (p := ⟨b, off + k * 3, none⟩) hbs).trans c0; clear c1 c2; go_wp2_with fail; refine (hcb _).mono ?_; rintro e w2 ⟨rfl, b2⟩; have hbs2 : b < w1.heap.size := Nat.lt_of_lt_of_le hbs b1.size; replace c0' := (b2.cell (p := ⟨b, off + j * 3, none⟩) hbs2).trans c0'; replace c0 := (b2.cell (p := ⟨b, off + k * 3, none⟩) hbs2).trans c0; clear c1' c2'; have hb2 := (hb.trans (b1.mono hb.size)).trans (b2.mono (Nat.le_trans hb.size b1.size)); go_wp2_with fail
                go_quiet (fail)
                go_wp2
                have hb3 := below_drewN hb2 nq
                go_roundw
                all_goals first | exact ⟨k + 1, j, by omega, by go_num, rfl, hf2, he2, hb3⟩ | exact ⟨⟨k + 1, j, by omega, by go_num, rfl, hf2, he2, hb3⟩, by simp [intOf]; omega⟩ | (simp [intOf]; omega)
              · by_cases q2 : ca = cb
                · subst q2
                  have q3 : (ca == ca) = true := by simp
                  by_cases q4 : x < x'
                  · obtain ⟨hf2, he2⟩ := go_on k (by rw [hst]; unfold Hid; rw [if_pos]; simp [q4])
                    clear go_on hst
                    go_wp2_with (go_at_call 49; refine (hhas _ ho1).mono ?_; rintro e w' ⟨rfl, rfl⟩); refine (hca _).mono ?_; rintro e w1 ⟨rfl, b1⟩; replace c0' := (b1.cell (p := ⟨b, off + j * 3, none⟩) hbs).trans c0'; replace c1' := (b1.cell (p := ⟨b, off + j * 3 + 1, none⟩) hbs).trans c1'; replace c2' := (b1.cell (p := ⟨b, off + j * 3 + 2, none⟩) hbs).trans c2'; replace c0 := (b1.cell (p := ⟨b, off + k * 3, none⟩) hbs).trans c0; clear c1 c2; go_wp2_with fail; refine (hcb _).mono ?_; rintro e w2 ⟨rfl, b2⟩; have hbs2 : b < w1.heap.size := Nat.lt_of_lt_of_le hbs b1.size; replace c0' := (b2.cell (p := ⟨b, off + j * 3, none⟩) hbs2).trans c0'; replace c0 := (b2.cell (p := ⟨b, off + k * 3, none⟩) hbs2).trans c0; clear c1' c2'; have hb2 := (hb.trans (b1.mono hb.size)).trans (b2.mono (Nat.le_trans hb.size b1.size)); go_wp2_with fail
                    go_quiet (fail)
                    go_wp2
                    have hb3 := below_drewN hb2 nq
                    go_roundw
                    all_goals first | exact ⟨k + 1, k, by omega, by go_num, rfl, hf2, he2, hb3⟩ | exact ⟨⟨k + 1, k, by omega, by go_num, rfl, hf2, he2, hb3⟩, by simp [intOf]; omega⟩ | (simp [intOf]; omega)
                  · obtain ⟨hf2, he2⟩ := go_on j (by rw [hst]; unfold Hid; rw [if_neg]; simp [q4])
                    clear go_on hst
                    go_wp2_with (go_at_call 49; refine (hhas _ ho1).mono ?_; rintro e w' ⟨rfl, rfl⟩); refine (hca _).mono ?_; rintro e w1 ⟨rfl, b1⟩; replace c0' := (b1.cell (p := ⟨b, off + j * 3, none⟩) hbs).trans c0'; replace c1' := (b1.cell (p := ⟨b, off + j * 3 + 1, none⟩) hbs).trans c1'; replace c2' := (b1.cell (p := ⟨b, off + j * 3 + 2, none⟩) hbs).trans c2'; replace c0 := (b1.cell (p := ⟨b, off + k * 3, none⟩) hbs).trans c0; clear c1 c2; go_wp2_with fail; refine (hcb _).mono ?_; rintro e w2 ⟨rfl, b2⟩; have hbs2 : b < w1.heap.size := Nat.lt_of_lt_of_le hbs b1.size; replace c0' := (b2.cell (p := ⟨b, off + j * 3, none⟩) hbs2).trans c0'; replace c0 := (b2.cell (p := ⟨b, off + k * 3, none⟩) hbs2).trans c0; clear c1' c2'; have hb2 := (hb.trans (b1.mono hb.size)).trans (b2.mono (Nat.le_trans hb.size b1.size)); go_wp2_with fail
                    go_quiet (fail)
                    go_wp2
                    have hb3 := below_drewN hb2 nq
                    go_roundw
                    all_goals first | exact ⟨k + 1, j, by omega, by go_num, rfl, hf2, he2, hb3⟩ | exact ⟨⟨k + 1, j, by omega, by go_num, rfl, hf2, he2, hb3⟩, by simp [intOf]; omega⟩ | (simp [intOf]; omega)
                · have q3 : decide (ca = cb) = false := by simpa using q2
                  have q4 : ca < cb := by omega
                  obtain ⟨hf2, he2⟩ := go_on k (by rw [hst]; unfold Hid; rw [if_pos]; simp [q4])
                  clear go_on hst
                  go_wp2_with (go_at_call 49; refine (hhas _ ho1).mono ?_; rintro e w' ⟨rfl, rfl⟩); refine (hca _).mono ?_; rintro e w1 ⟨rfl, b1⟩; replace c0' := (b1.cell (p := ⟨b, off + j * 3, none⟩) hbs).trans c0'; replace c1' := (b1.cell (p := ⟨b, off + j * 3 + 1, none⟩) hbs).trans c1'; replace c2' := (b1.cell (p := ⟨b, off + j * 3 + 2, none⟩) hbs).trans c2'; replace c0 := (b1.cell (p := ⟨b, off + k * 3, none⟩) hbs).trans c0; clear c1 c2; go_wp2_with fail; refine (hcb _).mono ?_; rintro e w2 ⟨rfl, b2⟩; have hbs2 : b < w1.heap.size := Nat.lt_of_lt_of_le hbs b1.size; replace c0' := (b2.cell (p := ⟨b, off + j * 3, none⟩) hbs2).trans c0'; replace c0 := (b2.cell (p := ⟨b, off + k * 3, none⟩) hbs2).trans c0; clear c1' c2'; have hb2 := (hb.trans (b1.mono hb.size)).trans (b2.mono (Nat.le_trans hb.size b1.size)); go_wp2_with fail
                  go_quiet (fail)
                  go_wp2
                  have hb3 := below_drewN hb2 nq
                  go_roundw
                  all_goals first | exact ⟨k + 1, k, by omega, by go_num, rfl, hf2, he2, hb3⟩ | exact ⟨⟨k + 1, k, by omega, by go_num, rfl, hf2, he2, hb3⟩, by simp [intOf]; omega⟩ | (simp [intOf]; omega)
    · have : k = n := by omega
      subst this
      have he2 := he.out
      rw [List.drop_of_length_le (by rw [hx.len]; omega), bestFrom] at he2
      have He := hid he2
      clear he he2 hx ho hx1 ho1 hf
      go_wp2
      go_ret
      exact ⟨retI He.out.symm, hb⟩
end Go.Proofs.Ytfhlooegeklpaaa
