/-
  Copies, comparisons and marks of lists and tables of numbers. No condition.
-/
import Derived.Test.YteckfjnglmkenaaGPlain
import Derived.Test.YteckfjnglmkenaaOpen
import Derived.Deep.RegionHeld3
namespace Go.Proofs.Yteckfjnglmkenaa
open Go.RowKit
set_option maxHeartbeats 400000

def szv (left : Int) (n : Nat) : Int := if left < n then -1 else left - n
theorem szInt64S_any (A : Option Addr) (n c : Nat) (left : Int) (w : World) (hn : n ≤ 9223372036854775807) (h0 : 0 ≤ left) (h1 : left ≤ 1048576) :
    Calls Try.prog 24 #[.slice A n c, .int .i64 left] w fun e w' => e = .returned (.int .i64 (szv left n)) ∧ w' = w := by
  go_enter Try.func24, Try.ntmps24
  go_wp2
  all_goals go_ret
  all_goals exact ⟨retI (by unfold szv; split <;> omega), rfl⟩
theorem szInt64SS_any (A : Option Addr) (n c : Nat) (rs : List Row) (left : Int) (w : World) (B : Nat) (hB : B ≤ w.heap.size) (hn : n ≤ 9223372036854775807) (h0 : 0 ≤ left) (h1 : left ≤ 1048576) (hx : SlS w B A n rs) (hr : ∀ r ∈ rs, r.n ≤ 9223372036854775807) :
    Calls Try.prog 5 #[.slice A n c, .int .i64 left] w fun e w' => e = .returned (.int .i64 (szv left (n + tot rs))) ∧ w' = w := by
  have hl := hx.len
  go_enter Try.func5, Try.ntmps5
  by_cases hb : left < n
  · have E : szv left (n + tot rs) = -1 := by unfold szv; rw [if_pos (by omega)]
    rw [E]
    clear hx hr E
    go_wp2
    go_ret
    exact ⟨rfl, rfl⟩
  · go_wp2
    go_loopw [1, 5] (fun s i w1 => ∃ (k : Nat) (z : Int), k ≤ n ∧ i = .int .i64 k ∧ s = .int .i64 z ∧ Hid (z = left - n - tot (rs.take k)) ∧ 0 ≤ z ∧ z ≤ left ∧ w1 = w) (fun _ i _ => n - (intOf i).toNat)
    case atStart => exact ⟨0, left - n, Nat.zero_le _, rfl, by go_num, by simp [Hid, tot], by omega, by omega, rfl⟩
    case round =>
      obtain ⟨k, z, hk, rfl, rfl, hz, hz0, hz1, rfl⟩ := hrel
      by_cases hlt : k < n
      · obtain ⟨Ai, ni, ci, xi, b, off, Hx, rfl, hbB, c0, hxi⟩ := hx.row hlt
        have hni := hr _ (List.mem_of_getElem? Hx.out)
        simp only at hni
        have ht := tot_take Hx.out
        have hle := tot_le (rs := rs) (k := k + 1)
        simp only at ht
        have Ht := hid ht
        have Hle := hid hle
        clear ht hle hx hr
        by_cases hq : z < ni
        · have E : Hid (szv left (n + tot rs) = -1) := by unfold Hid szv; rw [if_pos]; have := Ht.out; have := Hle.out; have := hz.out; omega
          have E2 : szv z ni = -1 := by unfold szv; rw [if_pos hq]
          have hs := szInt64S_any Ai ni ci z wr hni hz0 (by omega)
          rw [E2] at hs
          clear E2
          go_wp2_with (go_at_call 24; refine hs.mono ?_; rintro e w' ⟨rfl, rfl⟩)
          go_ret
          exact ⟨retI E.out.symm, rfl⟩
        · have E2 : szv z ni = z - ni := by unfold szv; rw [if_neg hq]
          have hs := szInt64S_any Ai ni ci z wr hni hz0 (by omega)
          rw [E2] at hs
          clear E2
          have E3 : Hid (z - ni = left - n - tot (rs.take (k + 1))) := by have := Ht.out; have := hz.out; unfold Hid; omega
          go_wp2_with (go_at_call 24; refine hs.mono ?_; rintro e w' ⟨rfl, rfl⟩)
          go_roundw
          all_goals first | exact ⟨k + 1, z - ni, by omega, by go_num, rfl, E3, by omega, by omega, by trivial⟩ | exact ⟨⟨k + 1, z - ni, by omega, by go_num, rfl, E3, by omega, by omega, by trivial⟩, by simp [intOf]; omega⟩ | (simp [intOf]; omega)
      · have : k = n := by omega
        subst this
        rw [List.take_of_length_le (by omega)] at hz
        have E : Hid (szv left (k + tot rs) = z) := by unfold Hid szv; have := hz.out; rw [if_neg (by omega)]; omega
        clear hx hr hz
        go_wp2
        go_ret
        exact ⟨retI E.out.symm, rfl⟩
theorem toInt64S_any (A : Option Addr) (n c : Nat) (xs : List Int) (w : World) (B : Nat) (hB : B ≤ w.heap.size) (hn : n ≤ 2000000) (hx : Sl w B 1 encI A n xs) :
    Calls Try.prog 8 #[.slice A n c] w fun e w' => ∃ g, e = .returned (.slice (some ⟨g, 0, none⟩) n n) ∧ w'.ownsRow w.heap.size 2 1 (.slice (some ⟨g, 0, none⟩) n n) n (xs.flatMap encI) ∧ Below w.heap.size w w' := by
  obtain ⟨i0, hi, hz0, hz1, hz2⟩ := info_parts int_info
  have hmk : ∀ u : World, (Instr.makeSlice 23 (.int .i64 (n : Int)) (.int .i64 (n : Int))).run Try.prog u =
      .ok (.slice (some ⟨u.heap.size, 0, none⟩) n n) (u.alloc (.cells (madeCells #[.int .i64 0] n) 2)) := fun u => by
    have h := run_make (P := Try.prog) u 23 2 i0 _ Try.underlying23 hi hz0 .i64 .i64 (n : Int) (n : Int) (by omega) (Int.le_refl _) (by rw [hz2]; omega) (by omega)
    simpa [hz1, Value.cells] using h
  clear hi hz0 hz1 hz2
  have hown0 : ((w.alloc (.cells (madeCells #[.int .i64 0] n) 2))).ownsRow w.heap.size 2 1 (.slice (some ⟨w.heap.size, 0, none⟩) n n) n (madeCells #[.int .i64 0] n).toList :=
    World.ownsRow_lit w _ n (Nat.le_refl _) (by simp only [maxLen]; omega) (by simp [size_madeCells])
  go_enter Try.func8, Try.ntmps8
  go_wp2
  go_loopw [4] (fun i w1 => ∃ k l, k ≤ n ∧ i = .int .i64 (k : Nat) ∧ w1.ownsRow w.heap.size 2 1 (.slice (some ⟨w.heap.size, 0, none⟩) n n) n l ∧ Pre l ((xs.take k).flatMap encI) ∧ Below w.heap.size w w1) (fun i _ => n - (intOf i).toNat)
  case atStart => exact ⟨0, _, Nat.zero_le _, rfl, hown0, Pre.nil _, (Below.refl _ _).alloc (Nat.le_refl _) _⟩
  case round =>
    obtain ⟨k, l, hk, rfl, hown, hpre, hb⟩ := hrel
    clear hown0 hmk
    by_cases hlt : k < n
    · obtain ⟨x0, b, off, Hx, rfl, hbB, c0⟩ := (hx.below (hb.mono hB)).int hlt
      obtain ⟨⟨u0, e0⟩, f0⟩ := own_at hown (Below.refl _ _) k (by omega)
      go_wp2
      go_roundw
      case measure => simp [intOf]; omega
      case rel =>
        have hP : ((xs.take k).flatMap encI).length = k := by rw [flatMap_len encI_len, List.length_take_of_le (by rw [hx.len]; omega), Nat.mul_one]
        have s1 := own_set hown hpre (j := k) hP.symm (by omega) (.int .i64 x0)
        refine ⟨k + 1, _, by omega, by go_num, s1.1, ?_, ?_⟩
        · rw [take_at Hx.out, List.flatMap_append]
          have := s1.2
          simpa [encI] using this
        · repeat (first | with_reducible assumption | with_reducible exact Below.refl _ _ | with_reducible refine bl_drew ?_ | with_reducible refine bl_drewN ?_ | ((with_reducible refine bl_set ?_ ?_); focus (first | (simp; done) | (simp; omega) | omega)) | ((with_reducible refine bl_alloc ?_ ?_); focus (first | (simp; done) | (simp; omega) | omega)))
    · have : k = n := by omega
      subst this
      have hP : (xs.flatMap encI).length = k := by rw [flatMap_len encI_len, hx.len, Nat.mul_one]
      rw [List.take_of_length_le (by rw [hx.len]; omega)] at hpre
      have e := hpre.all (by rw [hown.1, hP, Nat.mul_one])
      subst e
      clear hpre hP
      go_wp2
      go_ret
      exact ⟨_, rfl, hown, hb⟩
theorem rows_info : (Try.prog.info? 23).map (fun i => (i.zero, i.size, i.bytes)) = some (some (.slice none 0 0), 1, 24) := by kernel_rfl
set_option maxHeartbeats 1000000 in
theorem toInt64SS_any (A : Option Addr) (n c : Nat) (rs : List Row) (w : World) (B : Nat) (hB : B ≤ w.heap.size) (hn : n + tot rs ≤ 2000000) (hx : SlS w B A n rs) :
    Calls Try.prog 7 #[.slice A n c] w fun e w' => ∃ g rs', e = .returned (.slice (some ⟨g, 0, none⟩) n n) ∧ OwnS w' w.heap.size 23 2 (some ⟨g, 0, none⟩) n n rs' ∧ cont rs' = cont rs ∧ tot rs' = tot rs ∧ Below w.heap.size w w' := by
  obtain ⟨i0, hi, hz0, hz1, hz2⟩ := info_parts rows_info
  have hmk : ∀ u : World, (Instr.makeSlice 22 (.int .i64 (n : Int)) (.int .i64 (n : Int))).run Try.prog u =
      .ok (.slice (some ⟨u.heap.size, 0, none⟩) n n) (u.alloc (.cells (madeCells #[.slice none 0 0] n) 23)) := fun u => by
    have h := run_make (P := Try.prog) u 22 23 i0 _ Try.underlying22 hi hz0 .i64 .i64 (n : Int) (n : Int) (by omega) (Int.le_refl _) (by rw [hz2]; omega) (by omega)
    simpa [hz1, Value.cells] using h
  clear hi hz0 hz1 hz2
  have hown0 : ((w.alloc (.cells (madeCells #[.slice none 0 0] n) 23))).ownsRow w.heap.size 23 1 (.slice (some ⟨w.heap.size, 0, none⟩) n n) n (madeCells #[.slice none 0 0] n).toList :=
    World.ownsRow_lit w _ n (Nat.le_refl _) (by simp only [maxLen]; omega) (by simp [size_madeCells])
  have hlr := hx.len
  go_enter Try.func7, Try.ntmps7
  go_wp2
  go_loopw [4] (fun i w1 => ∃ (k : Nat) (l : List Value) (rs' : List Row), k ≤ n ∧ i = .int .i64 (k : Nat) ∧ rs'.length = k ∧ w1.ownsRow w.heap.size 23 1 (.slice (some ⟨w.heap.size, 0, none⟩) n n) n l ∧ Pre l (rs'.flatMap encR) ∧
      Hid (∀ (i : Nat) (r : Row), rs'[i]? = some r → (∃ r0 : Row, rs[i]? = some r0 ∧ r.xs = r0.xs ∧ r.n = r0.n) ∧ w1.ownsRow (w.heap.size + 1) 2 1 (.slice r.A r.n r.c) r.n (r.xs.flatMap encI)) ∧
      Hid (∀ (i j : Nat) (r s : Row), i ≠ j → rs'[i]? = some r → rs'[j]? = some s → ∀ b, (Value.slice r.A r.n r.c).ownBlock = some b → (Value.slice s.A s.n s.c).ownBlock ≠ some b) ∧
      Below w.heap.size w w1 ∧ w.heap.size + 1 ≤ w1.heap.size) (fun i _ => n - (intOf i).toNat)
  case atStart => exact ⟨0, _, [], Nat.zero_le _, rfl, rfl, hown0, Pre.nil _, fun i r h => by simp at h, fun i j r s _ h => by simp at h, (Below.refl _ _).alloc (Nat.le_refl _) _, by simp⟩
  case round =>
    obtain ⟨k, l, rs', hk, rfl, hl', hown, hpre, hin, hap, hb, hsz⟩ := hrel
    clear hown0 hmk
    by_cases hlt : k < n
    · obtain ⟨Ai, ni, ci, xi, b, off, Hx, rfl, hbB, c0, hxi⟩ := (hx.below (hb.mono hB)).row hlt
      have hni := tot_mem (List.mem_of_getElem? Hx.out)
      simp only at hni
      have f0 := fun W hB => (own_at (w' := W) hown hB k (by omega)).2
      have e0 := fun W hB => (own_at (w' := W) hown hB k (by omega)).1
      go_wp2_with (go_at_call 8; refine (toInt64S_any Ai ni ci xi _ B (Nat.le_trans hB hb.size) (by omega) hxi).mono ?_; rintro e w1 ⟨gi, rfl, oi, bi⟩; replace f0 := f0 _ bi; obtain ⟨v0, e0⟩ := e0 _ bi)
      go_roundw
      case measure => simp [intOf]; omega
      case rel =>
        have hP : (rs'.flatMap encR).length = k := by rw [flatMap_len encR_len, hl', Nat.mul_one]
        have s1 := own_set (own_below hown bi) hpre (j := k) hP.symm (by omega) (.slice (some ⟨gi, 0, none⟩) ni ni)
        have hgi := own_lt oi
        refine ⟨k + 1, _, rs' ++ [⟨some ⟨gi, 0, none⟩, ni, ni, xi⟩], by omega, by go_num, by simp [hl'], s1.1, ?_, ?_, ?_, ?_, ?_⟩
        · rw [List.flatMap_append]
          have := s1.2
          simpa [encR] using this
        · intro i r hr
          rw [List.getElem?_append] at hr
          by_cases hik : i < rs'.length
          · rw [if_pos hik] at hr
            obtain ⟨h1, h2⟩ := hin.out i r hr
            exact ⟨h1, ow_set (fun e => by have := (h2.lt _ e).1; simp only at this; omega) (own_below h2 bi)⟩
          · rw [if_neg hik] at hr
            have hi0 : i - rs'.length = 0 := by have := (List.getElem?_eq_some_iff.1 hr).1; simpa using this
            rw [hi0] at hr
            simp only [List.getElem?_cons_zero, Option.some.injEq] at hr
            subst hr
            obtain rfl : i = k := by omega
            exact ⟨⟨_, Hx.out, rfl, rfl⟩, ow_set (by simp [Value.ownBlock]; omega) (oi.mono (by omega))⟩
        · intro i j r s hij hr hs q hq
          rw [List.getElem?_append] at hr hs
          by_cases hik : i < rs'.length
          · rw [if_pos hik] at hr
            have h2 := ((hin.out i r hr).2.lt q hq).2
            by_cases hjk : j < rs'.length
            · rw [if_pos hjk] at hs
              exact hap.out i j r s hij hr hs q hq
            · rw [if_neg hjk] at hs
              have hi0 : j - rs'.length = 0 := by have := (List.getElem?_eq_some_iff.1 hs).1; simpa using this
              rw [hi0] at hs
              simp only [List.getElem?_cons_zero, Option.some.injEq] at hs
              subst hs
              simp [Value.ownBlock]; omega
          · rw [if_neg hik] at hr
            have hi0 : i - rs'.length = 0 := by have := (List.getElem?_eq_some_iff.1 hr).1; simpa using this
            rw [hi0] at hr
            simp only [List.getElem?_cons_zero, Option.some.injEq] at hr
            subst hr
            have hjk : j < rs'.length := by
              by_cases hjk : j < rs'.length
              · exact hjk
              · rw [if_neg hjk] at hs
                have := (List.getElem?_eq_some_iff.1 hs).1
                simp at this
                omega
            rw [if_pos hjk] at hs
            intro e
            have h2 := ((hin.out j s hs).2.lt q e).2
            simp [Value.ownBlock] at hq
            omega
        · have hb2 := hb.trans (bi.mono hb.size)
          repeat (first | with_reducible assumption | with_reducible exact Below.refl _ _ | with_reducible refine bl_drew ?_ | with_reducible refine bl_drewN ?_ | ((with_reducible refine bl_set ?_ ?_); focus (first | (simp; done) | (simp; omega) | omega)) | ((with_reducible refine bl_alloc ?_ ?_); focus (first | (simp; done) | (simp; omega) | omega)))
        · have := bi.size
          simp; omega
    · have : k = n := by omega
      subst this
      have hP : (rs'.flatMap encR).length = k := by rw [flatMap_len encR_len, hl', Nat.mul_one]
      have e := hpre.all (by rw [hown.1, hP, Nat.mul_one])
      subst e
      clear hpre hP
      go_wp2
      go_ret
      refine ⟨_, rs', rfl, ⟨hown, fun i r hr => ((hin.out i r hr).2).mono (by omega), fun i r hr q hq e => ?_, hap.out⟩, cont_eq (by omega) (fun i r r' h1 h2 => ?_), ?_, hb⟩
      · have := ((hin.out i r hr).2.lt q hq).1
        simp [Value.ownBlock] at e
        omega
      · obtain ⟨⟨r0, h3, h4, _⟩, _⟩ := hin.out i r' h2
        rw [h1] at h3
        injection h3 with h3
        rw [h4, h3]
      · unfold tot
        congr 1
        apply List.ext_getElem
        · simp; omega
        · intro i h1 h2
          simp only [List.length_map] at h1 h2
          simp only [List.getElem_map]
          obtain ⟨⟨r0, h3, _, h4⟩, _⟩ := hin.out i _ (List.getElem?_eq_getElem h1)
          rw [List.getElem?_eq_getElem h2] at h3
          injection h3 with h3
          rw [h4, h3]
set_option maxHeartbeats 1000000 in
/-- two copies of one table are found equal -/
theorem eqInt64SS_yes (A : Option Addr) (n c : Nat) (A' : Option Addr) (n' c' : Nat) (w : World) (B : Nat) (hB : B ≤ w.heap.size) (rs rs' : List Row) (hn : n + tot rs ≤ 2000000) (hx : SlS w B A n rs) (hy : SlS w B A' n' rs') (he : cont rs' = cont rs) :
    Calls Try.prog 11 #[.slice A n c, .slice A' n' c'] w fun e w' => e = .returned (.bool true) ∧ Below w.heap.size w w' := by
  have hl := hx.len
  have hl' := hy.len
  obtain rfl : n = n' := by have := congrArg List.length he; simp only [cont, List.length_map] at this; omega
  have He := hid he
  clear he
  go_enter Try.func11, Try.ntmps11
  go_wp2
  go_loopw [5] (fun i w1 => ∃ k : Nat, k ≤ n ∧ i = .int .i64 k ∧ Below w.heap.size w w1) (fun i _ => n - (intOf i).toNat)
  case atStart => exact ⟨0, Nat.zero_le _, rfl, Below.refl _ _⟩
  case round =>
    obtain ⟨k, hk, rfl, hb⟩ := hrel
    by_cases hlt : k < n
    · obtain ⟨Ai, ni, ci, xi, b, off, Hx, rfl, hbB, c0, hxi⟩ := (hx.below (hb.mono hB)).row hlt
      obtain ⟨Ai', ni', ci', xi', b', off', Hy, rfl, hbB', c0', hyi⟩ := (hy.below (hb.mono hB)).row hlt
      obtain rfl : xi' = xi := by
        have h1 := cont_at Hx.out
        have h2 := cont_at Hy.out
        rw [He.out, h1] at h2
        injection h2 with h2
        exact h2.symm
      have hni := tot_mem (List.mem_of_getElem? Hx.out)
      simp only at hni
      have hBr := Nat.le_trans hB hb.size
      have i0 : (0 : Int) ≤ (k : Int) := by omega
      have i1 : (k : Int) < (n : Int) := by omega
      have hxd : Sl wr.drew B 1 encI Ai ni xi' := hxi.keep fun _ _ => rfl
      have hyd : Sl wr.drew B 1 encI Ai' ni' xi' := hyi.keep fun _ _ => rfl
      have hBd : B ≤ wr.drew.heap.size := hBr
      clear hx hy hxi hyi
      go_wp2_with fail
      go_region_held3 (fun W => W.cell? ⟨b, off + k, none⟩ = some (.slice Ai ni ci) ∧ W.cell? ⟨b', off' + k, none⟩ = some (.slice Ai' ni' ci'))
        (first
          | go_keep
          | (go_split_ands; exact ⟨below_cell (by assumption) b5, below_cell (by assumption) b5⟩))
        (first
          | (go_at_call 10; with_reducible refine (eqInt64S_yes Ai ni ci Ai' ni' ci' _ B hBd xi' (by omega) hxd hyd).mono ?_; rintro r w5 ⟨rfl, b5⟩))
      have hb2 := hb.trans (((Below.refl _ _).drew.trans b5).mono hb.size)
      go_wp2_with fail
      go_roundw
      all_goals first | exact ⟨k + 1, by omega, by go_num, hb2⟩ | exact ⟨⟨k + 1, by omega, by go_num, hb2⟩, by simp [intOf]; omega⟩ | (simp [intOf]; omega)
    · go_wp2
      go_ret
      exact ⟨rfl, hb⟩
theorem markInt64SS_any (lo lo2 hi : Nat) (A : Option Addr) (n c : Nat) (rs : List Row) (m : Int) (w : World) (hn : n + tot rs ≤ 2000000) (h0 : 0 ≤ m) (h1 : m + tot rs ≤ 2000000) (hown : OwnS w lo 23 2 A n c rs)
    (hin : ∀ (i : Nat) (r : Row), rs[i]? = some r → ∀ b, (Value.slice r.A r.n r.c).ownBlock = some b → lo2 ≤ b ∧ b < hi) :
    Calls Try.prog 12 #[.slice A n c, .int .i64 m] w fun e w' => e = .returned (.int .i64 (m + tot rs)) ∧ Span lo2 hi w w' := by
  have hl := hown.slS.len
  have HA := hid hown.apart
  have HE := hid hown.each
  have HT := hown.top
  have HR := hid hown.row
  clear hown
  go_enter Try.func12, Try.ntmps12
  go_wp2
  go_loopw [1, 5] (fun s i w1 => ∃ (k : Nat) (z : Int), k ≤ n ∧ i = .int .i64 k ∧ s = .int .i64 z ∧ Hid (z = m + tot (rs.take k)) ∧ w1.ownsRow lo 23 1 (.slice A n c) n (rs.flatMap encR) ∧
      Hid (∀ (i : Nat) (r : Row), k ≤ i → rs[i]? = some r → w1.ownsRow lo 2 1 (.slice r.A r.n r.c) r.n (r.xs.flatMap encI)) ∧ Span lo2 hi w w1) (fun _ i _ => n - (intOf i).toNat)
  case atStart => exact ⟨0, m, Nat.zero_le _, rfl, rfl, by simp [Hid, tot], HT, fun i r _ hr => HR.out i r hr, Span.refl _ _ _⟩
  case round =>
    obtain ⟨k, z, hk, rfl, rfl, hz, ht, hr, hs⟩ := hrel
    clear HT
    by_cases hlt : k < n
    · have hsl : SlS wr wr.heap.size A n rs → True := fun _ => trivial
      obtain ⟨⟨Ai, ni, ci, xi⟩, b, off, Hx, hA, hbB, hc⟩ := (own_sl encR_len (by omega) ht).at_ hlt
      have c0 := hc 0 _ rfl
      simp only [Nat.mul_one, Nat.add_zero] at c0
      subst hA
      have hri := hr.out k _ (Nat.le_refl _) Hx
      simp only at hri
      have ht2 := tot_take Hx
      have hle := tot_le (rs := rs) (k := k + 1)
      simp only at ht2
      have hzz : 0 ≤ z ∧ z + ni ≤ 2000000 := by have := hz.out; omega
      have E3 : Hid (z + ni = m + tot (rs.take (k + 1))) := by have := hz.out; unfold Hid; omega
      have hni : ni ≤ 2000000 := by have := tot_mem (List.mem_of_getElem? Hx); simp only at this; omega
      have Hx' := hid Hx
      clear hc ht2 hle Hx hsl
      go_wp2_with (go_at_call 13; refine (markInt64S_any lo Ai ni ci _ z _ hni hzz.1 (by omega) hri).mono ?_; rintro e w1 ⟨rfl, o1, g1⟩)
      have ht' := own_keep ht (v2 := .slice Ai ni ci) (fun q hq => HA.out k _ Hx'.out q hq) g1
      have hr' : Hid (∀ (i : Nat) (r : Row), k + 1 ≤ i → rs[i]? = some r → w1.ownsRow lo 2 1 (.slice r.A r.n r.c) r.n (r.xs.flatMap encI)) := fun i r hi hir =>
        own_keep (hr.out i r (by omega) hir) (v2 := .slice Ai ni ci) (fun q hq => HE.out k i _ _ (by omega) Hx'.out hir q hq) g1
      have hs' := hs.trans (Span.ofGrown g1 (fun q hq => hin k _ Hx'.out q hq))
      go_roundw
      all_goals first | exact ⟨k + 1, z + ni, by omega, by go_num, by go_num, E3, ht', hr', hs'⟩ | exact ⟨⟨k + 1, z + ni, by omega, by go_num, by go_num, E3, ht', hr', hs'⟩, by simp [intOf]; omega⟩ | (simp [intOf]; omega)
    · have : k = n := by omega
      subst this
      rw [List.take_of_length_le (by omega)] at hz
      clear ht hr
      go_wp2
      go_ret
      exact ⟨retI hz.out, hs⟩
end Go.Proofs.Yteckfjnglmkenaa
