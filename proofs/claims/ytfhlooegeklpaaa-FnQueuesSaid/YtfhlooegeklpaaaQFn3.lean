/-
  Idle ticks and the longest queue: the program's functions and the reference's. No condition.
-/
import Derived.Test.YtfhlooegeklpaaaQFn2
namespace Go.Proofs.Ytfhlooegeklpaaa
open Go.RowKit
set_option maxHeartbeats 400000

theorem implIdleTicks_any (A : Option Addr) (n c : Nat) (xs : List Item) (w : World) (B : Nat) (hB : B ≤ w.heap.size) (hn : n ≤ 2000000) (hx : Sl w B 3 encItem A n xs) :
    Calls Try.prog 17 #[.slice A n c] w fun e w' => e = .returned (.tuple #[.int .i64 (idleRes xs), .int .i64 (codeQ xs)]) ∧ Below w.heap.size w w' := by
  have hc := ValidQueue_any A n c xs w B hB hn hx
  cases hv : validQ xs with
  | false =>
    have e1 : idleRes xs = 0 := by simp [idleRes, hv]
    have e2 : codeQ xs = 1 := by simp [codeQ, hv]
    rw [e1, e2]
    rw [hv] at hc
    clear hv e1 e2 hx
    go_enter Try.func17, Try.ntmps17
    go_wp2_with (go_at_call 29; refine hc.mono ?_; rintro e w1 ⟨rfl, b1⟩)
    go_ret2
    exact ⟨rfl, b1⟩
  | true =>
    have hn12 : n ≤ 12 := by rw [← hx.len]; exact validQ_len hv
    have hol := hx.len
    have hr := fun W hB' hx' => served_any A n c xs 0 W B hB' hx' hv (by omega) (by omega)
    have e1 : idleRes xs = endQ 0 (pairsQ xs) - workQ 0 (pairsQ xs) := by simp [idleRes, hv]
    have e2 : codeQ xs = 0 := by simp [codeQ, hv]
    rw [e1, e2]
    rw [hv] at hc
    have Hv := hid hv
    clear hv e1 e2
    go_enter Try.func17, Try.ntmps17
    go_wp2_with (first
      | (go_at_call 29; refine hc.mono ?_; rintro e w1 ⟨rfl, b1⟩)
      | (go_at_call 36; refine (hr _ (Nat.le_trans hB b1.size) (hx.below (b1.mono hB))).mono ?_; rintro e w2 ⟨Ao, co, As, cs, rfl, o1, o2, b2⟩))
    have hS := own_sl encI_len (by omega) o2
    have b12 := b1.trans (b2.mono b1.size)
    have hx2 := hx.below (b12.mono hB)
    clear hr hc o1 o2 hx
    go_loopw [6, 7, 20] (fun s6 s7 i w1 => ∃ k ev wv, k ≤ n ∧ i = .int .i64 (k : Nat) ∧ s6 = .int .i64 ev ∧ s7 = .int .i64 wv ∧ 0 ≤ ev ∧ ev ≤ 23000 ∧ 0 ≤ wv ∧ wv ≤ 1000 * (k : Nat) ∧
        Hid (endQ 0 (pairsQ xs) = endQ ev ((pairsQ xs).drop k)) ∧ Hid (workQ 0 (pairsQ xs) = workQ wv ((pairsQ xs).drop k)) ∧ Below w2.heap.size w2 w1) (fun _ _ i _ => n - (intOf i).toNat)
    case atStart => exact ⟨0, 0, 0, Nat.zero_le _, rfl, rfl, rfl, by omega, by omega, by omega, by omega, hid rfl, hid rfl, Below.refl _ _⟩
    case round =>
      obtain ⟨k, ev, wv, hk, rfl, rfl, rfl, h1, h2, h3, h4, he, hw, hb⟩ := hrel
      by_cases hlt : k < n
      · obtain ⟨x, y, z, b, off, Hx, rfl, hbB, c0, c1, c2⟩ := (hx2.below (hb.mono (Nat.le_trans hB b12.size))).item hlt
        obtain ⟨s, bs, offs, Hs, rfl, hbs, cS⟩ := (hS.below hb).int hlt
        obtain ⟨s', hs', hs0, hs1⟩ := starts_at Hv.out (k := k) (by omega)
        obtain rfl : s = s' := by have := Hs.out.symm.trans hs'; simpa using this
        have hvx := validQ_item Hv.out Hx.out
        simp only at hvx
        obtain ⟨_, _, v3, v4, _, _⟩ := hvx
        have he2 := he.out
        have hw2 := hw.out
        rw [drop_at (pairsQ_at Hx.out Hs.out), endQ] at he2
        rw [drop_at (pairsQ_at Hx.out Hs.out), workQ] at hw2
        simp only at he2 hw2
        have lb : b < wr.heap.size := by have := hb.size; have := b12.size; omega
        have lbs : bs < wr.heap.size := by have := hb.size; omega
        have k0 : (0 : Int) ≤ (k : Int) := by omega
        have k1 : (k : Int) < (n : Int) := by omega
        have hba := (hb.alloc hb.size (.cells #[.int .i64 x, .int .i64 y, .int .i64 z] 43))
        have Hw2 := hid hw2
        clear he hw hx2 hS hs' hw2
        have w1 : IntKind.i64.wrap (s + y) = s + y := IntWalk.i64_in _ (by omega)
        have w2 : IntKind.i64.wrap (wv + y) = wv + y := IntWalk.i64_in _ (by omega)
        by_cases hm : s + y ≤ ev
        · rw [show max ev (s + y) = ev by omega] at he2
          have He2 := hid he2
          clear he2
          go_wp2
          go_quiet (fail)
          go_wp2
          have hb3 := below_drewN hba nq
          go_roundw
          all_goals first | exact ⟨k + 1, ev, wv + y, by omega, by go_num, rfl, rfl, by omega, by omega, by omega, by omega, He2, Hw2, hb3⟩ | exact ⟨⟨k + 1, ev, wv + y, by omega, by go_num, rfl, rfl, by omega, by omega, by omega, by omega, He2, Hw2, hb3⟩, by simp [intOf]; omega⟩ | (simp [intOf]; omega)
        · rw [show max ev (s + y) = s + y by omega] at he2
          have He2 := hid he2
          clear he2
          go_wp2
          go_quiet (fail)
          go_wp2
          have hb3 := below_drewN hba nq
          go_roundw
          all_goals first | exact ⟨k + 1, s + y, wv + y, by omega, by go_num, rfl, rfl, by omega, by omega, by omega, by omega, He2, Hw2, hb3⟩ | exact ⟨⟨k + 1, s + y, wv + y, by omega, by go_num, rfl, rfl, by omega, by omega, by omega, by omega, He2, Hw2, hb3⟩, by simp [intOf]; omega⟩ | (simp [intOf]; omega)
      · have : k = n := by omega
        subst this
        have he2 := he.out
        have hw2 := hw.out
        rw [List.drop_of_length_le (by rw [pairsQ_len Hv.out]; omega), endQ] at he2
        rw [List.drop_of_length_le (by rw [pairsQ_len Hv.out]; omega), workQ] at hw2
        have E := hid (show endQ 0 (pairsQ xs) - workQ 0 (pairsQ xs) = ev - wv by rw [he2, hw2])
        clear he hw he2 hw2 hx2 hS
        go_wp2
        go_ret2
        exact ⟨by rw [E.out]; rfl, b12.trans (hb.mono b12.size)⟩

set_option maxHeartbeats 1000000 in
theorem implLongestQueue_any (A : Option Addr) (n c : Nat) (xs : List Item) (w : World) (B : Nat) (hB : B ≤ w.heap.size) (hn : n ≤ 2000000) (hx : Sl w B 3 encItem A n xs) :
    Calls Try.prog 21 #[.slice A n c] w fun e w' => e = .returned (.tuple #[.int .i64 (longRes xs), .int .i64 (codeQ xs)]) ∧ Below w.heap.size w w' := by
  have hc := ValidQueue_any A n c xs w B hB hn hx
  cases hv : validQ xs with
  | false =>
    have e1 : longRes xs = 0 := by simp [longRes, hv]
    have e2 : codeQ xs = 1 := by simp [codeQ, hv]
    rw [e1, e2]
    rw [hv] at hc
    clear hv e1 e2 hx
    go_enter Try.func21, Try.ntmps21
    go_wp2_with (go_at_call 29; refine hc.mono ?_; rintro e w1 ⟨rfl, b1⟩)
    go_ret2
    exact ⟨rfl, b1⟩
  | true =>
    have hn12 : n ≤ 12 := by rw [← hx.len]; exact validQ_len hv
    have hol := hx.len
    have hr := fun W hB' hx' => served_any A n c xs 0 W B hB' hx' hv (by omega) (by omega)
    have e1 : longRes xs = longFrom (pairsQ xs) 0 xs := by simp [longRes, hv]
    have e2 : codeQ xs = 0 := by simp [codeQ, hv]
    rw [e1, e2]
    rw [hv] at hc
    have Hv := hid hv
    clear hv e1 e2
    go_enter Try.func21, Try.ntmps21
    go_wp2_with (first
      | (go_at_call 29; refine hc.mono ?_; rintro e w1 ⟨rfl, b1⟩)
      | (go_at_call 36; refine (hr _ (Nat.le_trans hB b1.size) (hx.below (b1.mono hB))).mono ?_; rintro e w2 ⟨Ao, co, As, cs, rfl, o1, o2, b2⟩))
    have hS := own_sl encI_len (by omega) o2
    have b12 := b1.trans (b2.mono b1.size)
    have hx2 := hx.below (b12.mono hB)
    clear hr hc o1 o2 hx
    go_loopw [6, 22] (fun s6 i w1 => ∃ k mv, k ≤ n ∧ i = .int .i64 (k : Nat) ∧ s6 = .int .i64 mv ∧ Hid (longFrom (pairsQ xs) 0 xs = longFrom (pairsQ xs) mv (xs.drop k)) ∧ Below w2.heap.size w2 w1) (fun _ i _ => n - (intOf i).toNat)
    case atStart => exact ⟨0, 0, Nat.zero_le _, rfl, rfl, hid rfl, Below.refl _ _⟩
    case round =>
      obtain ⟨k, mv, hk, rfl, rfl, he, hb⟩ := hrel
      by_cases hlt : k < n
      · obtain ⟨x, y, z, b, off, Hx, rfl, hbB, c0, c1, c2⟩ := (hx2.below (hb.mono (Nat.le_trans hB b12.size))).item hlt
        have he2 := he.out
        rw [drop_at Hx.out, longFrom] at he2
        simp only at he2
        have hba := hb.alloc hb.size (.cells #[.int .i64 x, .int .i64 y, .int .i64 z] 43)
        have He2 := hid he2
        clear he he2
        obtain ⟨wo, rfl⟩ : ∃ wo : World, wo = wr := ⟨_, rfl⟩
        go_wp2_with fail
        go_loopw [9, 28] (fun s9 i w1 => ∃ k2 cv, k2 ≤ n ∧ i = .int .i64 (k2 : Nat) ∧ s9 = .int .i64 cv ∧ 0 ≤ cv ∧ cv ≤ (k2 : Nat) ∧ Hid (cntQ x 0 (pairsQ xs) = cntQ x cv ((pairsQ xs).drop k2)) ∧ Below (wo.heap.size + 1) (wo.alloc (.cells #[.int .i64 x, .int .i64 y, .int .i64 z] 43)) w1) (fun _ i _ => n - (intOf i).toNat)
        case atStart => exact ⟨0, 0, Nat.zero_le _, rfl, rfl, by omega, by omega, hid rfl, Below.refl _ _⟩
        case round =>
          obtain ⟨k2, cv, hk2, rfl, rfl, h1, h2, hc2, hb2⟩ := hrel
          have hws := hb2.size
          rw [World.size_alloc] at hws
          have hb3 : Below w2.heap.size w2 wr := hba.trans (hb2.mono (by have := hb.size; omega))
          have cx : wr.cell? ⟨wo.heap.size, 0, none⟩ = some (.int .i64 x) := by
            rw [hb2.cell (p := ⟨wo.heap.size, 0, none⟩) (by simp)]
            exact (World.cell?_alloc_at _ _ _ _ rfl).trans rfl
          by_cases hlt2 : k2 < n
          · obtain ⟨x', y', z', b', off', Hx', e', hbB', c0', c1', c2'⟩ := (hx2.below (hb3.mono (Nat.le_trans hB b12.size))).item hlt2
            injection e' with e'
            injection e' with e1 e2
            subst e1 e2
            obtain ⟨s, bs, offs, Hs, rfl, hbs, cS⟩ := (hS.below hb3).int hlt2
            have he2 := hc2.out
            rw [drop_at (pairsQ_at Hx'.out Hs.out), cntQ] at he2
            simp only at he2
            have lb : b < wr.heap.size := by have := hb3.size; have := b12.size; omega
            have lbs : bs < wr.heap.size := by have := hb3.size; omega
            have lbo : wo.heap.size < wr.heap.size := by omega
            have k0 : (0 : Int) ≤ (k2 : Int) := by omega
            have k1 : (k2 : Int) < (n : Int) := by omega
            have hb4 := hb2.alloc (by rw [← World.size_alloc]; exact hb2.size) (.cells #[.int .i64 x', .int .i64 y', .int .i64 z'] 43)
            clear hc2 hx2 hS hb hba hb2 hb3
            by_cases q1 : x' ≤ x
            · by_cases q2 : x < s
              · rw [if_pos ⟨q1, q2⟩] at he2
                have He3 := hid he2
                have d1 : decide (x' ≤ x) = true := by simpa using q1
                clear he2
                go_wp2
                go_quiet (fail)
                go_wp2
                have hb5 := below_drewN hb4 nq
                go_roundw
                all_goals first | exact ⟨k2 + 1, cv + 1, by omega, by go_num, rfl, by omega, by omega, He3, hb5⟩ | exact ⟨⟨k2 + 1, cv + 1, by omega, by go_num, rfl, by omega, by omega, He3, hb5⟩, by simp [intOf]; omega⟩ | (simp [intOf]; omega)
              · rw [if_neg (by omega)] at he2
                have He3 := hid he2
                have d1 : decide (x' ≤ x) = true := by simpa using q1
                clear he2
                go_wp2
                go_quiet (fail)
                go_wp2
                have hb5 := below_drewN hb4 nq
                go_roundw
                all_goals first | exact ⟨k2 + 1, cv, by omega, by go_num, rfl, by omega, by omega, He3, hb5⟩ | exact ⟨⟨k2 + 1, cv, by omega, by go_num, rfl, by omega, by omega, He3, hb5⟩, by simp [intOf]; omega⟩ | (simp [intOf]; omega)
            · rw [if_neg (by omega)] at he2
              have He3 := hid he2
              have d1 : decide (x' ≤ x) = false := by simpa using q1
              clear he2
              go_wp2
              go_quiet (fail)
              go_wp2
              have hb5 := below_drewN hb4 nq
              go_roundw
              all_goals first | exact ⟨k2 + 1, cv, by omega, by go_num, rfl, by omega, by omega, He3, hb5⟩ | exact ⟨⟨k2 + 1, cv, by omega, by go_num, rfl, by omega, by omega, He3, hb5⟩, by simp [intOf]; omega⟩ | (simp [intOf]; omega)
          · have : k2 = n := by omega
            subst this
            have he2 := hc2.out
            rw [List.drop_of_length_le (by rw [pairsQ_len Hv.out]; omega), cntQ] at he2
            have He3 := He2.out
            rw [he2] at He3
            have He4 := hid He3
            clear hc2 he2 He3 He2 hx2 hS hb2 hba hb
            by_cases hm : cv ≤ mv
            · have He5 : Hid (longFrom (pairsQ xs) 0 xs = longFrom (pairsQ xs) mv (xs.drop (k + 1))) := by rw [He4.out, show max mv cv = mv by omega]; exact rfl
              clear He4
              go_wp2
              go_roundw
              all_goals first | exact ⟨k + 1, mv, by omega, by go_num, rfl, He5, hb3⟩ | exact ⟨⟨k + 1, mv, by omega, by go_num, rfl, He5, hb3⟩, by simp [intOf]; omega⟩ | (simp [intOf]; omega)
            · have He5 : Hid (longFrom (pairsQ xs) 0 xs = longFrom (pairsQ xs) cv (xs.drop (k + 1))) := by rw [He4.out, show max mv cv = cv by omega]; exact rfl
              clear He4
              go_wp2
              go_roundw
              all_goals first | exact ⟨k + 1, cv, by omega, by go_num, rfl, He5, hb3⟩ | exact ⟨⟨k + 1, cv, by omega, by go_num, rfl, He5, hb3⟩, by simp [intOf]; omega⟩ | (simp [intOf]; omega)
      · have : k = n := by omega
        subst this
        have he2 := he.out
        rw [List.drop_of_length_le (by omega), longFrom] at he2
        have He2 := hid he2
        clear he he2 hx2 hS
        go_wp2
        go_ret2
        exact ⟨by rw [He2.out]; rfl, b12.trans (hb.mono b12.size)⟩
end Go.Proofs.Ytfhlooegeklpaaa
