/-
  VisitsBetween: both sides. No condition.
-/
import Derived.Test.YtehjfajmnciiaaaDoorPFn
namespace Go.Proofs.YtehjfajmnciiaaaDoor
open Go.RowKit
set_option maxHeartbeats 400000

/-- how often a point is visited -/
def visV (fr to : Int) (x : Point) : Int := max 0 (to - x.l) / x.i - max 0 (fr - 1 - x.l) / x.i
def visF (xs : List Point) (fr to : Int) : List Int × Int := if codeP xs fr = 0 then if inR to fr 100000 then (xs.map (visV fr to), 0) else ([], 2) else ([], codeP xs fr)
theorem visF_len (xs : List Point) (fr to : Int) (h : xs.length ≤ 2000000) : (visF xs fr to).1.length ≤ 2000000 := by
  unfold visF
  split
  · split
    · simpa using h
    · simp
  · simp
theorem max_quo {a b : Int} (h1 : a ≤ 100000) (hb : 1 ≤ b) : 0 ≤ max 0 a / b ∧ max 0 a / b ≤ 100000 ∧ (max 0 a).tdiv b = max 0 a / b ∧ IntKind.i64.wrap (max 0 a / b) = max 0 a / b := by
  have h0 : 0 ≤ max 0 a := by omega
  have h2 : max 0 a ≤ 100000 := by omega
  have := IntWalk.tdiv_le (max 0 a) b h0 hb
  exact ⟨this.1, by omega, Int.tdiv_eq_ediv_of_nonneg h0, IntWalk.i64_in _ (by omega)⟩
theorem vis_take {xs : List Point} {fr to : Int} {k : Nat} {x : Point} (h : xs[k]? = some x) : ((xs.take k).map (visV fr to)).flatMap encI ++ [.int .i64 (visV fr to x)] = ((xs.take (k + 1)).map (visV fr to)).flatMap encI := by
  rw [take_at h]; simp [encI]
set_option maxHeartbeats 2000000 in
set_option maxRecDepth 100000 in
theorem specVisitsBetween_any (A : Option Addr) (n c : Nat) (xs : List Point) (fr to : Int) (w : World) (B : Nat) (hB : B ≤ w.heap.size) (hn : n ≤ 2000000) (hx : Sl w B 2 encPoint A n xs) :
    Calls Tryd.prog 17 #[.slice A n c, .int .i64 fr, .int .i64 to] w (ListPost w (visF xs fr to)) := by
  have hc := l19Code_any A n c xs fr w B hB hn hx
  have hl := hid hx.len
  have hi := l00In_any to fr 100000
  by_cases h0 : codeP xs fr = 0
  · cases hz : inR to fr 100000 with
    | false =>
      have EF : Hid (visF xs fr to = ([], 2)) := by simp [Hid, visF, h0, hz]
      rw [h0] at hc
      rw [hz] at hi
      clear hx h0 hz
      go_enter Tryd.func17, Tryd.ntmps17
      go_wp2_with (first
        | (go_at_call 34; refine hc.mono ?_; rintro r w1 ⟨rfl, hw1⟩; replace hw1 := hw1.symm; subst hw1)
        | (go_at_call 50; refine (hi _).mono ?_; rintro r w1 ⟨rfl, hw1⟩; replace hw1 := hw1.symm; subst hw1))
      go_ret2
      exact ListPost.bad EF.out (Below.refl _ _)
    | true =>
      have EF : Hid (visF xs fr to = (xs.map (visV fr to), 0)) := by simp [Hid, visF, h0, hz]
      have hv := hid (codeP_zero h0).1
      have hd0 := (codeP_zero h0).2
      have hd1 : fr ≤ to ∧ to ≤ 100000 := by simpa [inR] using hz
      obtain ⟨i0, hi0, hz0, hz1, hz2⟩ := info_parts int_info
      have o0 := World.ownsRow_lit (base := w.heap.size) (e := 2) (size := 1) w #[] 0 (Nat.le_refl _) (by simp [maxLen]) (by simp)
      rw [h0] at hc
      rw [hz] at hi
      clear h0 hz
      go_enter Tryd.func17, Tryd.ntmps17
      go_wp2_with (first
        | (go_at_call 34; refine hc.mono ?_; rintro r w1 ⟨rfl, hw1⟩; replace hw1 := hw1.symm; subst hw1)
        | (go_at_call 50; refine (hi _).mono ?_; rintro r w1 ⟨rfl, hw1⟩; replace hw1 := hw1.symm; subst hw1))
      go_loopw [9, 10, 11] (fun s i _ w1 => ∃ (k : Nat) (Ao : Option Addr) (co : Nat), k ≤ n ∧ i = .int .i64 k ∧ s = .slice Ao k co ∧ w1.ownsRow w.heap.size 2 1 (.slice Ao k co) k (((xs.take k).map (visV fr to)).flatMap encI) ∧ Below w.heap.size w w1) (fun _ i _ _ => n - (intOf i).toNat)
      case atStart => exact ⟨0, some ⟨w.heap.size, 0, none⟩, 0, Nat.zero_le _, rfl, rfl, o0, (Below.refl _ _).alloc (Nat.le_refl _) _⟩
      case round =>
        obtain ⟨k, Ao, co, hk, rfl, rfl, ho, hb⟩ := hrel
        clear o0 hc hi
        by_cases hlt : k < n
        · obtain ⟨x0, x1, b, off, Hx, rfl, hbB, c0, c1⟩ := (hx.below (hb.mono hB)).atPoint hlt
          have hpt := okPoint_at hv.out Hx.out
          simp only at hpt
          have HS := hid (vis_take (fr := fr) (to := to) Hx.out)
          have EV := hid (show visV fr to ⟨x0, x1⟩ = max 0 (to - x1) / x0 - max 0 (fr - 1 - x1) / x0 from rfl)
          generalize visV fr to ⟨x0, x1⟩ = v at HS EV
          obtain ⟨p0, p1, hW3, hW3'⟩ := max_quo (a := to - x1) (b := x0) (by omega) hpt.1
          obtain ⟨p2, p3, hW5, hW5'⟩ := max_quo (a := fr - 1 - x1) (b := x0) (by omega) hpt.1
          have hW1 : IntKind.i64.wrap (to - x1) = to - x1 := IntWalk.i64_in _ (by omega)
          have hW2 : IntKind.i64.wrap (fr - 1) = fr - 1 := IntWalk.i64_in _ (by omega)
          have hW4 : IntKind.i64.wrap (fr - 1 - x1) = fr - 1 - x1 := IntWalk.i64_in _ (by omega)
          have hz0' : ¬ x0 = 0 := by omega
          have k0 : (0 : Int) ≤ (k : Int) := by omega
          have k1 : (k : Int) < (n : Int) := by omega
          have m1 := fun W => l00Max_any 0 (to - x1) W
          have m2 := fun W => l00Max_any 0 (fr - 1 - x1) W
          generalize max 0 (to - x1) = u1 at *
          generalize max 0 (fr - 1 - x1) = u2 at *
          generalize u1 / x0 = q1 at *
          generalize u2 / x0 = q2 at *
          have hW6 : IntKind.i64.wrap (q1 - q2) = q1 - q2 := IntWalk.i64_in _ (by omega)
          have hlo := ho.lt
          clear hx hpt hd1
          go_wp2_with fail
          go_quiet ((go_at_call 36; exact Calls.quiet_of_same (m1 _)))
          have hb2 := below_drewN hb nq
          have ho2 := ow_drewN (m := nq) ho
          clear hb ho
          have d0 : (wr.drewN nq).cell? ⟨b, off + k * 2, none⟩ = some (.int .i64 x0) := c0
          have d1 : (wr.drewN nq).cell? ⟨b, off + k * 2 + 1, none⟩ = some (.int .i64 x1) := c1
          generalize wr.drewN nq = wd at hb2 ho2 d0 d1 ⊢
          clear c0 c1
          go_wp2_with fail
          go_quiet ((go_at_call 36; exact Calls.quiet_of_same (m2 _)))
          have hb3 := below_drewN hb2 nq
          have ho3 := ow_drewN (m := nq) ho2
          clear hb2 ho2 d0 d1
          generalize wd.drewN nq = we at hb3 ho3 ⊢
          obtain rfl : v = q1 - q2 := EV.out
          have hlo := ho3.lt
          go_wp2_with (at_builtin; refine wpList_append_lies _ rfl _ _ 27 rfl w.heap.size 2 i0 (.int .i64 0) 1 8 Tryd.underlying27 hi0 hz0 hz1 hz2 rfl (by omega) (.slice Ao k co) k (((xs.take k).map (visV fr to)).flatMap encI) rfl (ho3.alloc _) ⟨we.heap.size, 0, none⟩ 1 1 [.int .i64 (q1 - q2)] rfl rfl (World.news_of_block (cs := #[.int .i64 (q1 - q2)]) (t := 2) (fr := (0, 0)) (heap_alloc_new _ _)) (by simp [Value.oneCell']) (by omega) (by simp only [maxLen]; omega) (by omega) (by have := hb3.size; simp; omega) (we.heap.size + 1) (by simp) ?_; intro gg cap w3 ho4 hg4 hat4 hlt4)
          rw [HS.out] at ho4
          have hb4 : Below w.heap.size w w3 := (hb3.alloc hb3.size _).grown hg4 (by have := hb3.size; simp; omega) (fun q hq => (hlo q hq).1)
          go_roundw
          all_goals first | exact ⟨k + 1, _, _, by omega, by go_num, rfl, ho4, hb4⟩ | exact ⟨⟨k + 1, _, _, by omega, by go_num, rfl, ho4, hb4⟩, by simp [intOf]; omega⟩ | (simp [intOf]; omega)
        · have : k = n := by omega
          subst this
          have E : Hid (visF xs fr to = ((xs.take k).map (visV fr to), 0)) := by rw [Hid, EF.out, List.take_of_length_le (by rw [hl.out]; omega)]
          clear hx EF
          go_wp2
          go_ret2
          rw [E.out]
          exact ⟨_, _, _, rfl, ho, hb⟩
  · have EF : Hid (visF xs fr to = ([], codeP xs fr)) := by simp [Hid, visF, h0]
    generalize codeP xs fr = z at hc h0 EF
    clear hx
    go_enter Tryd.func17, Tryd.ntmps17
    go_wp2_with (go_at_call 34; refine hc.mono ?_; rintro r w1 ⟨rfl, hw1⟩; replace hw1 := hw1.symm; subst hw1)
    go_ret2
    exact ListPost.bad EF.out (Below.refl _ _)
theorem visits1_any (b : Nat) (x0 x1 day : Int) (w : World) (c0 : w.cell? ⟨b, 0, none⟩ = some (.int .i64 x0)) (c1 : w.cell? ⟨b, 1, none⟩ = some (.int .i64 x1)) (h0 : 1 ≤ x0 ∧ x0 ≤ 1000) (h1 : 0 ≤ x1 ∧ x1 ≤ 100000) (h2 : -1 ≤ day ∧ day ≤ 100000) :
    Calls Tryd.prog 49 #[.int .i64 day, .pointer (some ⟨b, 0, none⟩)] w fun r w' => r = .returned (.int .i64 (max 0 (day - x1) / x0)) ∧ w' = w := by
  obtain ⟨p0, p1, hW3, hW3'⟩ := max_quo (a := day - x1) (b := x0) (by omega) h0.1
  have hW1 : IntKind.i64.wrap (day - x1) = day - x1 := IntWalk.i64_in _ (by omega)
  have hz0' : ¬ x0 = 0 := by omega
  have E1 : Hid (0 ≤ day - x1 → max 0 (day - x1) / x0 = (day - x1) / x0) := fun h => by rw [Int.max_eq_right h]
  have E2 : Hid (day - x1 < 0 → max 0 (day - x1) / x0 = 0) := fun h => by rw [Int.max_eq_left (by omega)]; simp
  obtain ⟨q, hq⟩ : ∃ q, max 0 (day - x1) / x0 = q := ⟨_, rfl⟩
  rw [hq] at E1 E2
  rw [hq]
  clear p0 p1 hW3 hW3' hq
  by_cases hs : 0 ≤ day - x1
  · have E := hid (E1.out hs).symm
    clear E1 E2
    go_enter Tryd.func49, Tryd.ntmps49
    go_wp2
    go_ret
    exact ⟨retI E.out, rfl⟩
  · have E := hid (E2.out (by omega)).symm
    clear E1 E2
    go_enter Tryd.func49, Tryd.ntmps49
    go_wp2
    go_ret
    exact ⟨retI E.out, rfl⟩
set_option maxHeartbeats 2000000 in
set_option maxRecDepth 100000 in
theorem implVisitsBetween_any (A : Option Addr) (n c : Nat) (xs : List Point) (fr to : Int) (w : World) (B : Nat) (hB : B ≤ w.heap.size) (hn : n ≤ 2000000) (hx : Sl w B 2 encPoint A n xs) :
    Calls Tryd.prog 16 #[.slice A n c, .int .i64 fr, .int .i64 to] w (ListPost w (visF xs fr to)) := by
  have hc := pointsCode_any A n c xs fr w B hB hn hx
  have hl := hid hx.len
  have hi := within_any to fr 100000
  by_cases h0 : codeP xs fr = 0
  · cases hz : inR to fr 100000 with
    | false =>
      have EF : Hid (visF xs fr to = ([], 2)) := by simp [Hid, visF, h0, hz]
      rw [h0] at hc
      rw [hz] at hi
      clear hx h0 hz
      go_enter Tryd.func16, Tryd.ntmps16
      go_wp2_with (first
        | (go_at_call 32; refine hc.mono ?_; rintro r w1 ⟨rfl, b1⟩)
        | (go_at_call 48; refine (hi _).mono ?_; rintro r w1 ⟨rfl, rfl⟩))
      go_ret2
      exact ListPost.bad EF.out b1
    | true =>
      have EF : Hid (visF xs fr to = (xs.map (visV fr to), 0)) := by simp [Hid, visF, h0, hz]
      have hv := hid (codeP_zero h0).1
      have hd0 := (codeP_zero h0).2
      have hd1 : fr ≤ to ∧ to ≤ 100000 := by simpa [inR] using hz
      obtain ⟨i0, hi0, hz0, hz1, hz2⟩ := info_parts int_info
      have o0 := fun (W : World) (h : w.heap.size ≤ W.heap.size) => World.ownsRow_lit (base := w.heap.size) (e := 2) (size := 1) W #[] 0 h (by simp [maxLen]) (by simp)
      rw [h0] at hc
      rw [hz] at hi
      clear h0 hz
      go_enter Tryd.func16, Tryd.ntmps16
      go_wp2_with (first
        | (go_at_call 32; refine hc.mono ?_; rintro r w1 ⟨rfl, bc⟩)
        | (go_at_call 48; refine (hi _).mono ?_; rintro r w2 ⟨rfl, hw2⟩; replace hw2 := hw2.symm; subst hw2))
      have hbc : Below w.heap.size w (w1.alloc (.cells #[] 2)) := bc.alloc bc.size _
      go_loopw [9, 11, 12, 30] (fun s _ _ i w1 => ∃ (k : Nat) (Ao : Option Addr) (co : Nat), k ≤ n ∧ i = .int .i64 k ∧ s = .slice Ao k co ∧ w1.ownsRow w.heap.size 2 1 (.slice Ao k co) k (((xs.take k).map (visV fr to)).flatMap encI) ∧ Below w.heap.size w w1) (fun _ _ _ i _ => n - (intOf i).toNat)
      case atStart => exact ⟨0, some ⟨w1.heap.size, 0, none⟩, 0, Nat.zero_le _, rfl, rfl, o0 _ bc.size, hbc⟩
      case round =>
        clear bc hbc
        obtain ⟨k, Ao, co, hk, rfl, rfl, ho, hb⟩ := hrel
        clear o0 hc hi
        by_cases hlt : k < n
        · obtain ⟨x0, x1, b, off, Hx, rfl, hbB, c0, c1⟩ := (hx.below (hb.mono hB)).atPoint hlt
          have hpt := okPoint_at hv.out Hx.out
          simp only at hpt
          have HS := hid (vis_take (fr := fr) (to := to) Hx.out)
          have EV := hid (show visV fr to ⟨x0, x1⟩ = max 0 (to - x1) / x0 - max 0 (fr - 1 - x1) / x0 from rfl)
          generalize visV fr to ⟨x0, x1⟩ = v at HS EV
          obtain ⟨p0, p1, hW3, hW3'⟩ := max_quo (a := to - x1) (b := x0) (by omega) hpt.1
          obtain ⟨p2, p3, hW5, hW5'⟩ := max_quo (a := fr - 1 - x1) (b := x0) (by omega) hpt.1
          have hW2 : IntKind.i64.wrap (fr - 1) = fr - 1 := IntWalk.i64_in _ (by omega)
          have m1 := fun W b c0 c1 => visits1_any b x0 x1 to W c0 c1 (by omega) (by omega) (by omega)
          have m2 := fun W b c0 c1 => visits1_any b x0 x1 (fr - 1) W c0 c1 (by omega) (by omega) (by omega)
          generalize max 0 (to - x1) / x0 = q1 at *
          generalize max 0 (fr - 1 - x1) / x0 = q2 at *
          have hW6 : IntKind.i64.wrap (q1 - q2) = q1 - q2 := IntWalk.i64_in _ (by omega)
          obtain rfl : v = q1 - q2 := EV.out
          have ho3 := ho.alloc (.cells #[.int .i64 x0, .int .i64 x1] 42)
          have hb3 := hb.alloc hb.size (.cells #[.int .i64 x0, .int .i64 x1] 42)
          have d0 : (wr.alloc (.cells #[.int .i64 x0, .int .i64 x1] 42)).cell? ⟨wr.heap.size, 0, none⟩ = some (.int .i64 x0) := (World.cell?_alloc_at _ _ _ _ rfl).trans rfl
          have d1 : (wr.alloc (.cells #[.int .i64 x0, .int .i64 x1] 42)).cell? ⟨wr.heap.size, 1, none⟩ = some (.int .i64 x1) := (World.cell?_alloc_at _ _ _ _ rfl).trans rfl
          have hlo := ho3.lt
          have hsz := hb.size
          have n1 := m1 _ _ d0 d1
          have n2 := m2 _ _ d0 d1
          clear hx hpt hd1 hW3 hW5 ho hb m1 m2
          go_wp2_with (first
            | (go_at_call_of 49 (Value.int IntKind.i64 to); with_reducible refine n1.mono ?_; rintro r w5 ⟨rfl, rfl⟩)
            | (go_at_call 49; with_reducible refine n2.mono ?_; rintro r w5 ⟨rfl, rfl⟩)
            | (at_builtin; refine wpList_append_lies _ rfl _ _ 27 rfl w.heap.size 2 i0 (.int .i64 0) 1 8 Tryd.underlying27 hi0 hz0 hz1 hz2 rfl (by omega) (.slice Ao k co) k (((xs.take k).map (visV fr to)).flatMap encI) rfl (ho3.alloc _) ⟨wr.heap.size + 1, 0, none⟩ 1 1 [.int .i64 (q1 - q2)] rfl rfl (World.news_of_block (cs := #[.int .i64 (q1 - q2)]) (t := 2) (fr := (0, 0)) (by simpa using heap_alloc_new (wr.alloc (.cells #[.int .i64 x0, .int .i64 x1] 42)) _)) (by simp [Value.oneCell']) (by omega) (by simp only [maxLen]; omega) (by omega) (by simp; omega) (wr.heap.size + 1 + 1) (by simp) ?_; intro gg cap w3 ho4 hg4 hat4 hlt4))
          rw [HS.out] at ho4
          have hb4 : Below w.heap.size w w3 := (hb3.alloc hb3.size _).grown hg4 (by simp; omega) (fun q hq => (hlo q hq).1)
          go_roundw
          all_goals first | exact ⟨k + 1, _, _, by omega, by go_num, rfl, ho4, hb4⟩ | exact ⟨⟨k + 1, _, _, by omega, by go_num, rfl, ho4, hb4⟩, by simp [intOf]; omega⟩ | (simp [intOf]; omega)
        · have : k = n := by omega
          subst this
          have E : Hid (visF xs fr to = ((xs.take k).map (visV fr to), 0)) := by rw [Hid, EF.out, List.take_of_length_le (by rw [hl.out]; omega)]
          clear hx EF
          go_wp2
          go_ret2
          rw [E.out]
          exact ⟨_, _, _, rfl, ho, hb⟩
  · have EF : Hid (visF xs fr to = ([], codeP xs fr)) := by simp [Hid, visF, h0]
    generalize codeP xs fr = z at hc h0 EF
    clear hx
    go_enter Tryd.func16, Tryd.ntmps16
    go_wp2_with (go_at_call 32; refine hc.mono ?_; rintro r w1 ⟨rfl, b1⟩)
    go_ret2
    exact ListPost.bad EF.out b1
end Go.Proofs.YtehjfajmnciiaaaDoor
