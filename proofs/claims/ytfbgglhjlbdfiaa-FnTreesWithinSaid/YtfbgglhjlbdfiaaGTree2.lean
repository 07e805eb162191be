/-
  Codes of tables and parents, depths, costs: both sides. No condition.
-/
import Derived.Test.YtfbgglhjlbdfiaaGTree
namespace Go.Proofs.Ytfbgglhjlbdfiaa
open Go.RowKit
set_option maxHeartbeats 400000

theorem validC_len {css : List (List Int)} (h : validC css = true) : 2 ≤ css.length ∧ css.length ≤ 6 := (validC_iff.1 h).1
/-- parents that passed: all within bounds, one for each place -/
theorem parC_zero {css : List (List Int)} {ps : List Int} (h : parC css ps = 0) : validC css = true ∧ ps.length + 1 = css.length ∧ inP ps := by
  unfold parC at h
  split at h
  · rename_i hv
    split at h
    · rename_i h2
      simp only [Bool.and_eq_true, List.all_eq_true, beq_iff_eq] at h2
      refine ⟨hv, h2.2, fun x hx => ?_⟩
      have := h2.1 x hx
      simp [inR] at this
      omega
    · omega
  · omega

/-- the depths of all places -/
def depL (ps : List Int) : List Int := (List.range ps.length).map fun i : Nat => upV ps ((i : Int) + 1)
def depK (ps : List Int) (k : Nat) : List Int := (List.range k).map fun i : Nat => upV ps ((i : Int) + 1)
theorem depK_succ (ps : List Int) (k : Nat) : depK ps (k + 1) = depK ps k ++ [upV ps ((k : Int) + 1)] := by simp [depK, List.range_succ]
theorem depK_len (ps : List Int) (k : Nat) : (depK ps k).length = k := by simp [depK]
def depsOut (ps : List Int) : List Int := if isTree ps then depL ps else []
theorem depsOut_good {ps : List Int} (h : isTree ps = true) : depsOut ps = depL ps := by unfold depsOut; rw [h]; rfl
theorem depsOut_bad {ps : List Int} (h : isTree ps = false) : depsOut ps = [] := by unfold depsOut; rw [h]; rfl
theorem snoc1 (l : List Int) (z : Int) : l.flatMap encI ++ [.int .i64 z] = (l ++ [z]).flatMap encI := by rw [List.flatMap_append]; rfl
set_option maxHeartbeats 2000000 in
theorem depthsOf_any (A : Option Addr) (n c : Nat) (ps : List Int) (w : World) (B : Nat) (hB : B ≤ w.heap.size) (hn : n ≤ 6) (hx : Sl w B 1 encI A n ps) (hp : inP ps) :
    Calls Try.prog 31 #[.slice A n c] w fun e w' => ∃ A1 n1 c1, e = .returned (.tuple #[.slice A1 n1 c1, .bool (isTree ps)]) ∧ w'.ownsRow w.heap.size 2 1 (.slice A1 n1 c1) n1 ((depsOut ps).flatMap encI) ∧ Below w.heap.size w w' := by
  have hl := hx.len
  have o0 := World.ownsRow_lit (base := w.heap.size) (e := 2) (size := 1) w #[] 0 (Nat.le_refl _) (by simp [maxLen]) (by simp)
  go_enter Try.func31, Try.ntmps31
  go_wp2
  go_loopw [4, 11] (fun s i w1 => ∃ (k : Nat) (Ao : Option Addr) (co : Nat), k ≤ n ∧ i = .int .i64 k ∧ s = .slice Ao k co ∧ Hid (∀ i, i < k → upF ps n ((i : Int) + 1) ≠ none) ∧ w1.ownsRow w.heap.size 2 1 (.slice Ao k co) k ((depK ps k).flatMap encI) ∧ Below w.heap.size w w1) (fun _ i _ => n - (intOf i).toNat)
  case atStart => exact ⟨0, some ⟨w.heap.size, 0, none⟩, 0, Nat.zero_le _, rfl, rfl, fun i h => by omega, o0, (Below.refl _ _).alloc (Nat.le_refl _) _⟩
  case round =>
    obtain ⟨k, Ao, co, hk, rfl, rfl, hall, ho, hb⟩ := hrel
    clear o0
    by_cases hlt : k < n
    · have hxr := hx.below (hb.mono hB)
      have up2 := up_enough hp (p := (k : Int) + 1) (by omega) (by omega)
      rw [hl] at up2
      have Up := hid up2
      clear up2
      go_wp2
      go_loopw [6, 7] (fun s i w1 => ∃ (d : Nat) (q : Int), d ≤ n + 1 ∧ i = .int .i64 d ∧ s = .int .i64 q ∧ 0 ≤ q ∧ q ≤ n ∧ Hid (upF ps (n + 1) ((k : Int) + 1) = (upF ps (n + 1 - d) q).map (· + d)) ∧ w1 = wr) (fun _ i _ => n + 2 - (intOf i).toNat)
      case atStart => exact ⟨0, (k : Int) + 1, Nat.zero_le _, rfl, rfl, by omega, by omega, by simp [Hid], rfl⟩
      case round =>
        obtain ⟨d, q, hd, rfl, rfl, q0, q1, he, rfl⟩ := hrel
        by_cases hq : q = 0
        · subst hq
          have E0 : upF ps n ((k : Int) + 1) = some d := by
            rw [← Up.out, he.out, upF_zero]; simp
          have EV : upV ps ((k : Int) + 1) = d := by rw [upV, hl, E0]
          have hdn : d ≤ n := (up_mono E0).1
          have hall2 : Hid (∀ i, i < k + 1 → upF ps n ((i : Int) + 1) ≠ none) := fun i hi => by
            by_cases hik : i = k
            · subst hik; rw [E0]; simp
            · exact hall.out i (by omega)
          have EK : (depK ps k).flatMap encI ++ [.int .i64 (d : Int)] = (depK ps (k + 1)).flatMap encI := by rw [snoc1, depK_succ, EV]
          have HEK := hid EK
          have hlo := ho.lt
          obtain ⟨i0, hi, hz0, hz1, hz2⟩ := info_parts int_info
          clear he Up hall E0 EV EK hx hp hxr
          go_wp2_with (at_builtin; refine wpList_append_lies _ rfl _ _ 26 rfl w.heap.size 2 i0 (.int .i64 0) 1 8 Try.underlying26 hi hz0 hz1 hz2 rfl (by omega) (.slice Ao k co) k ((depK ps k).flatMap encI) rfl (ho.alloc _) ⟨wr.heap.size, 0, none⟩ 1 1 [.int .i64 (d : Int)] rfl rfl (World.news_of_block (cs := #[.int .i64 (d : Int)]) (t := 2) (fr := (0, 0)) (heap_alloc_new _ _)) (by simp [Value.oneCell']) (by omega) (by simp only [maxLen]; omega) (by omega) (by have := hb.size; simp; omega) (wr.heap.size + 1) (by simp) ?_; intro gg cap w3 ho3 hg3 hat3 hlt3)
          rw [HEK.out] at ho3
          have hb3 : Below w.heap.size w w3 := (hb.alloc hb.size _).grown hg3 (by have := hb.size; simp; omega) (fun q hq => (hlo q hq).1)
          go_roundw
          all_goals first | exact ⟨k + 1, _, _, by omega, by go_num, rfl, hall2, ho3, hb3⟩ | exact ⟨⟨k + 1, _, _, by omega, by go_num, rfl, hall2, ho3, hb3⟩, by simp [intOf]; omega⟩ | (simp [intOf]; omega)
        · by_cases hdn : d ≤ n
          · obtain ⟨j, hj⟩ : ∃ j : Nat, q = (j : Int) + 1 := ⟨(q - 1).toNat, by omega⟩
            have hjn : j < n := by omega
            obtain ⟨z, b, off, Hz, rfl, hbB, c0⟩ := hxr.int hjn
            have hz := hp z (List.mem_of_getElem? Hz.out)
            rw [hl] at hz
            have hgz : ps.getD (q - 1).toNat 0 = z := by rw [show (q - 1).toNat = j by omega, List.getD, Hz.out]; rfl
            have he2 := he.out
            rw [show n + 1 - d = (n + 1 - (d + 1)) + 1 by omega, upF_step _ _ hq, hgz] at he2
            have E : Hid (upF ps (n + 1) ((k : Int) + 1) = (upF ps (n + 1 - (d + 1)) z).map (· + ((d + 1 : Nat)))) := by
              rw [Hid, he2, Option.map_map]
              congr 1
              funext t
              simp only [Function.comp]
              omega
            subst hj
            have hz0 := hz.1
            have hz1 := hz.2
            clear he he2 hx hp hgz hz hq hxr ho hall Up
            go_wp2
            go_roundw
            all_goals first | exact ⟨d + 1, z, by omega, by go_num, rfl, hz0, hz1, E, by trivial⟩ | exact ⟨⟨d + 1, z, by omega, by go_num, rfl, hz0, hz1, E, by trivial⟩, by simp [intOf]; omega⟩ | (simp [intOf]; omega)
          · have hdn1 : d = n + 1 := by omega
            have he2 := he.out
            rw [hdn1, Nat.sub_self] at he2
            have E0 : upF ps n ((k : Int) + 1) = none := by rw [← Up.out, he2]; simp [upF, hq]
            have E : Hid (isTree ps = false) := isTree_bad (i := k) (by omega) (by rw [hl]; exact E0)
            clear he he2 hx hp hxr ho hall Up E0 hdn1
            go_wp2
            go_ret2
            rw [E.out, depsOut_bad E.out]
            exact ⟨none, 0, 0, rfl, World.ownsRow_nil _ _ _ _, hb⟩
    · have : k = n := by omega
      subst this
      have E : Hid (isTree ps = true) := isTree_good (fun i hi => by rw [hl]; exact hall.out i (by omega))
      have EK : Hid (depL ps = depK ps k) := by unfold Hid depL depK; rw [hl]
      clear hall hx hp
      go_wp2
      go_ret2
      rw [E.out, depsOut_good E.out, EK.out]
      exact ⟨_, _, _, rfl, ho, hb⟩
set_option maxHeartbeats 1000000 in
theorem treeCode_any (A : Option Addr) (n c : Nat) (rs : List Row) (A' : Option Addr) (m c' : Nat) (ps : List Int) (w : World) (B : Nat) (hB : B ≤ w.heap.size) (hn : n + tot rs ≤ 2000000) (hm : m ≤ 2000000) (hx : SlS w B A n rs) (hy : Sl w B 1 encI A' m ps) :
    Calls Try.prog 24 #[.slice A n c, .slice A' m c'] w fun e w' => e = .returned (.int .i64 (codeG (cont rs) ps)) ∧ Below w.heap.size w w' := by
  have hl := hx.len
  have hlp := hy.len
  have hlc : (cont rs).length = n := by rw [cont_len, hl]
  have hok := implValidCosts_any A n c rs w B hB hn hx
  clear hx
  cases hv : validC (cont rs) with
  | false =>
    have E : Hid (codeG (cont rs) ps = 1) := by
      have h1 : parC (cont rs) ps = 1 := by unfold parC; rw [hv]; rfl
      unfold Hid codeG; rw [h1]; rfl
    rw [hv] at hok
    clear hy hv
    go_enter Try.func24, Try.ntmps24
    go_wp2_with (go_at_call 26; refine hok.mono ?_; rintro r w1 ⟨rfl, b1⟩)
    go_ret
    exact ⟨retI E.out.symm, b1⟩
  | true =>
    have EP : parC (cont rs) ps = if (ps.all fun p => inR p 0 ((n : Int) - 1)) && ps.length + 1 == n then 0 else 2 := by unfold parC; rw [hv, hlc]; rfl
    have hn6 := validC_len hv
    rw [hlc] at hn6
    obtain ⟨hn0, hn6⟩ := hn6
    rw [hv] at hok
    by_cases hq : m + 1 = n
    · have ho := fun W h1 h2 => outside_any A' m c' ps 0 ((n : Int) - 1) W B h1 hm h2
      cases hr : ps.any fun x => !inR x 0 ((n : Int) - 1) with
      | true =>
        have h2 : parC (cont rs) ps = 2 := by
          rw [EP]
          have : (ps.all fun p => inR p 0 ((n : Int) - 1)) = false := by
            rw [List.any_eq_true] at hr
            obtain ⟨x, h1, h2⟩ := hr
            rw [List.all_eq_false]
            exact ⟨x, h1, by simpa using h2⟩
          rw [this]; rfl
        have E : Hid (codeG (cont rs) ps = 2) := by unfold Hid codeG; rw [h2]; rfl
        rw [hr] at ho
        clear EP h2 hv hr hlc
        subst hq
        simp only [show ((m + 1 : Nat) : Int) - 1 = (m : Int) by omega] at ho
        go_enter Try.func24, Try.ntmps24
        go_wp2_with (first
          | (go_at_call 26; refine hok.mono ?_; rintro r w1 ⟨rfl, b1⟩)
          | (go_at_call 42; refine (ho _ (Nat.le_trans hB b1.size) (hy.below (b1.mono hB))).mono ?_; rintro r w2 ⟨rfl, b2⟩))
        go_ret
        exact ⟨retI E.out.symm, b1.trans (b2.mono b1.size)⟩
      | false =>
        have h0 : parC (cont rs) ps = 0 := by
          rw [EP, hlp]
          have : (ps.all fun p => inR p 0 ((n : Int) - 1)) = true := by
            rw [List.all_eq_true]
            intro x hx
            rw [List.any_eq_false] at hr
            simpa using hr x hx
          rw [this]; simp [hq]
        have hp := (parC_zero h0).2.2
        have hd := fun W h1 h2 => depthsOf_any A' m c' ps W B h1 (by omega) h2 hp
        have EC : codeG (cont rs) ps = if isTree ps then 0 else 6 := by unfold codeG; rw [if_pos h0]
        rw [hr] at ho
        clear EP h0 hv hr hlc hp
        subst hq
        simp only [show ((m + 1 : Nat) : Int) - 1 = (m : Int) by omega] at ho
        cases ht : isTree ps with
        | false =>
          have E : Hid (codeG (cont rs) ps = 6) := by rw [Hid, EC, ht]; rfl
          rw [ht] at hd
          clear EC ht
          go_enter Try.func24, Try.ntmps24
          go_wp2_with (first
            | (go_at_call 26; refine hok.mono ?_; rintro r w1 ⟨rfl, b1⟩)
            | (go_at_call 42; refine (ho _ (Nat.le_trans hB b1.size) (hy.below (b1.mono hB))).mono ?_; rintro r w2 ⟨rfl, b2⟩; replace b2 := b1.trans (b2.mono b1.size))
            | (go_at_call 31; refine (hd _ (Nat.le_trans hB b2.size) (hy.below (b2.mono hB))).mono ?_; rintro r w3 ⟨A1, n1, c1, rfl, _, b3⟩))
          go_ret
          exact ⟨retI E.out.symm, b2.trans (b3.mono b2.size)⟩
        | true =>
          have E : Hid (codeG (cont rs) ps = 0) := by rw [Hid, EC, ht]; rfl
          rw [ht] at hd
          clear EC ht
          go_enter Try.func24, Try.ntmps24
          go_wp2_with (first
            | (go_at_call 26; refine hok.mono ?_; rintro r w1 ⟨rfl, b1⟩)
            | (go_at_call 42; refine (ho _ (Nat.le_trans hB b1.size) (hy.below (b1.mono hB))).mono ?_; rintro r w2 ⟨rfl, b2⟩; replace b2 := b1.trans (b2.mono b1.size))
            | (go_at_call 31; refine (hd _ (Nat.le_trans hB b2.size) (hy.below (b2.mono hB))).mono ?_; rintro r w3 ⟨A1, n1, c1, rfl, _, b3⟩))
          go_ret
          exact ⟨retI E.out.symm, b2.trans (b3.mono b2.size)⟩
    · have h2 : parC (cont rs) ps = 2 := by
        rw [EP, hlp]
        have : (m + 1 == n) = false := by simpa using hq
        rw [this, Bool.and_false]; rfl
      have E : Hid (codeG (cont rs) ps = 2) := by unfold Hid codeG; rw [h2]; rfl
      have hq2 : ¬ ((m : Int) = (n : Int) - 1) := by omega
      clear EP h2 hv hy hlc
      go_enter Try.func24, Try.ntmps24
      go_wp2_with (go_at_call 26; refine hok.mono ?_; rintro r w1 ⟨rfl, b1⟩)
      go_ret
      exact ⟨retI E.out.symm, b1⟩
end Go.Proofs.Ytfbgglhjlbdfiaa
