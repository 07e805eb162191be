/-
  The reference's cheapest tree: whether parents fit. No condition.
-/
import Derived.Test.YtfbgglhjlbdfiaaGBest
namespace Go.Proofs.Ytfbgglhjlbdfiaa
open Go.RowKit
set_option maxHeartbeats 400000

def fitsF (ds : List Int) (most depth : Int) (ps : List Int) : Bool :=
  isTree ps && (depL ps).all (fun d => decide (d ≤ depth)) && (ds.isEmpty || (loadK ps ds ps.length).all fun x => decide (x ≤ most))
theorem fitsF_tree {ds : List Int} {most depth : Int} (ps : List Int) (h : fitsF ds most depth ps = true) : isTree ps = true := by
  simp only [fitsF, Bool.and_eq_true] at h
  exact h.1.1
theorem depL_at {ps : List Int} {k : Nat} (hk : k < ps.length) : (depL ps)[k]? = some (upV ps ((k : Int) + 1)) := by
  simp [depL, hk]
set_option maxHeartbeats 4000000 in
theorem fits_any (gw : Nat) (A2 : Option Addr) (m2 c2 : Nat) (ds : List Int) (most depth : Int) (A : Option Addr) (n c : Nat) (ps : List Int) (w : World) (B : Nat) (hB : B ≤ w.heap.size) (hn : n ≤ 6) (hx : Sl w B 1 encI A n ps) (hy : Sl w B 1 encI A2 m2 ds) (hm2 : m2 = 0 ∨ m2 = n) (hd : bnd ds 1000) (hp : inP ps)
    (k1 : w.cell? ⟨gw, 1, none⟩ = some (.slice A2 m2 c2)) (k2 : w.cell? ⟨gw, 2, none⟩ = some (.int .i64 most)) (k3 : w.cell? ⟨gw, 3, none⟩ = some (.int .i64 depth)) :
    Calls Try.prog 48 #[.pointer (some ⟨gw, 0, none⟩), .slice A n c] w fun r w' => r = .returned (.bool (fitsF ds most depth ps)) ∧ Below w.heap.size w w' := by
  have hl := hx.len
  have hld := hy.len
  have ht := l20Tree_any A n c ps w B (by omega) hx hp
  cases hT : isTree ps with
  | false =>
    have E : Hid (fitsF ds most depth ps = false) := by simp [Hid, fitsF, hT]
    rw [hT] at ht
    clear hx hy
    go_enter Try.func48, Try.ntmps48
    go_wp2_with (go_at_call 51; refine ht.mono ?_; rintro r w1 ⟨rfl, rfl⟩)
    go_ret
    exact ⟨retB E.out.symm, Below.refl _ _⟩
  | true =>
    have EF : Hid (fitsF ds most depth ps = ((depL ps).all (fun d => decide (d ≤ depth)) && (ds.isEmpty || (loadK ps ds n).all fun x => decide (x ≤ most)))) := by simp [Hid, fitsF, hT, hl]
    have HT := hid hT
    rw [hT] at ht
    clear hT
    go_enter Try.func48, Try.ntmps48
    go_wp2_with (go_at_call 51; refine ht.mono ?_; rintro r w1 ⟨rfl, rfl⟩)
    go_loopw [5] (fun i wl => ∃ (k : Nat) (z : Int), k ≤ n ∧ Hid (z = (k : Int) + 1) ∧ 1 ≤ z ∧ z ≤ n + 1 ∧ i = .int .i64 z ∧ Hid ((depL ps).all (fun d => decide (d ≤ depth)) = ((depL ps).drop k).all (fun d => decide (d ≤ depth))) ∧ Below w1.heap.size w1 wl) (fun i _ => (n + 1 - intOf i).toNat)
    case atStart => exact ⟨0, 1, Nat.zero_le _, rfl, by omega, by omega, rfl, rfl, Below.refl _ _⟩
    case round =>
      obtain ⟨k, z, hk, hz, z0, z1, rfl, he, hb⟩ := hrel
      have r1 := below_cell k1 hb
      have r2 := below_cell k2 hb
      have r3 := below_cell k3 hb
      by_cases hlt : z ≤ n
      · have hkn : k < n := by have := hz.out; omega
        have hu := fun W h => l20Up_any A n c ps z W B (by omega) h hp (by omega) hlt
        have hdk := depL_at (ps := ps) (k := k) (by omega)
        rw [← hz.out] at hdk
        have he2 := he.out
        rw [drop_at hdk, List.all_cons] at he2
        have Hz2 : Hid (z + 1 = ((k + 1 : Nat) : Int) + 1) := by have := hz.out; unfold Hid; omega
        have hxr := hx.below (hb.mono hB)
        generalize upV ps z = v at hu hdk he2
        by_cases hv : v ≤ depth
        · have G : Hid ((depL ps).all (fun d => decide (d ≤ depth)) = ((depL ps).drop (k + 1)).all (fun d => decide (d ≤ depth))) := by rw [Hid, he2]; simp [hv]
          have dv : ¬ depth < v := by omega
          clear he he2 hdk hz hx hy hv
          go_wp2_with fail
          go_quiet ((go_at_call 52; exact Calls.quiet_of_same (hu _ (hxr.keep fun _ _ => rfl))))
          have hb2 := below_drewN hb nq
          go_wp2_with fail
          go_roundw
          case measure => simp [intOf]; omega
          case rel => exact ⟨k + 1, z + 1, by omega, Hz2, by omega, by omega, by go_num, G, hb2⟩
        · have E : Hid (fitsF ds most depth ps = false) := by rw [Hid, EF.out, he2]; simp [hv]
          have dv : depth < v := by omega
          clear he he2 hdk hz hx hy hv
          go_wp2_with fail
          go_quiet ((go_at_call 52; exact Calls.quiet_of_same (hu _ (hxr.keep fun _ _ => rfl))))
          go_wp2_with fail
          go_ret
          exact ⟨retB E.out.symm, below_drewN hb nq⟩
      · have : k = n := by have := hz.out; omega
        subst this
        have hD : (depL ps).all (fun d => decide (d ≤ depth)) = true := by
          rw [he.out, List.drop_of_length_le (by simp [depL, hl])]; rfl
        have EF2 : Hid (fitsF ds most depth ps = (ds.isEmpty || (loadK ps ds k).all fun x => decide (x ≤ most))) := by rw [Hid, EF.out, hD, Bool.true_and]
        clear he EF hD hz
        by_cases hz2 : m2 = 0
        · have hde : ds = [] := List.eq_nil_of_length_eq_zero (by omega)
          have E : Hid (fitsF ds most depth ps = true) := by rw [Hid, EF2.out, hde]; rfl
          subst hz2
          clear hx hy EF2 hde
          go_wp2
          go_ret
          exact ⟨retB E.out.symm, hb⟩
        · obtain rfl : m2 = k := by omega
          have hde : ds.isEmpty = false := by
            cases ds with
            | nil => simp at hld; omega
            | cons x r => rfl
          have EF3 : Hid (fitsF ds most depth ps = ((loadK ps ds m2).all fun x => decide (x ≤ most))) := by rw [Hid, EF2.out, hde, Bool.false_or]
          have hxr := hx.below (hb.mono hB)
          have hyr := hy.below (hb.mono hB)
          have hlo := l20Loads_any A m2 c ps A2 c2 ds wr B (Nat.le_trans hB hb.size) hn hxr hyr hp HT.out hd
          have hzz : ¬ ((m2 : Int) = 0) := by omega
          clear EF2 hx hy hxr hyr
          go_wp2_with (go_at_call 53; refine hlo.mono ?_; rintro r w3 ⟨A3, c3, rfl, o3, b3⟩)
          have hb3 := hb.trans (b3.mono hb.size)
          have q2 := below_cell r2 b3
          have hL := own_sl encI_len (by omega) o3
          have hll := hL.len
          clear hlo o3
          go_loopw [7] (fun i wl => ∃ (j : Nat), j ≤ m2 ∧ i = .int .i64 j ∧ Hid (((loadK ps ds m2).all fun x => decide (x ≤ most)) = (((loadK ps ds m2).drop j).all fun x => decide (x ≤ most))) ∧ Below w3.heap.size w3 wl) (fun i _ => m2 - (intOf i).toNat)
          case atStart => exact ⟨0, Nat.zero_le _, rfl, rfl, Below.refl _ _⟩
          case round =>
            clear b3
            obtain ⟨j, hj, rfl, he, hbj⟩ := hrel
            have hbz := hb3.trans (hbj.mono hb3.size)
            have p2 := below_cell q2 hbj
            by_cases hjm : j < m2
            · obtain ⟨x, b, off, Hx, rfl, hbB, d0⟩ := (hL.below hbj).int hjm
              have he2 := he.out
              rw [drop_at Hx.out, List.all_cons] at he2
              have i0 : (0 : Int) ≤ (j : Int) := by omega
              have i1 : (j : Int) < (m2 : Int) := by omega
              by_cases hv : x ≤ most
              · have G : Hid (((loadK ps ds m2).all fun x => decide (x ≤ most)) = (((loadK ps ds m2).drop (j + 1)).all fun x => decide (x ≤ most))) := by rw [Hid, he2]; simp [hv]
                have dv : ¬ most < x := by omega
                clear he he2 hv hL hbz
                go_wp2_with fail
                go_quiet (fail)
                have hb2 := below_drewN hbj nq
                go_wp2_with fail
                go_roundw
                all_goals first | exact ⟨j + 1, by omega, by go_num, G, hb2⟩ | exact ⟨⟨j + 1, by omega, by go_num, G, hb2⟩, by simp [intOf]; omega⟩ | (simp [intOf]; omega)
              · have E : Hid (fitsF ds most depth ps = false) := by rw [Hid, EF3.out, he2]; simp [hv]
                have dv : most < x := by omega
                clear he he2 hv hL
                go_wp2_with fail
                go_quiet (fail)
                go_wp2_with fail
                go_ret
                exact ⟨retB E.out.symm, below_drewN hbz nq⟩
            · have : j = m2 := by omega
              subst this
              have E : Hid (fitsF ds most depth ps = true) := by rw [Hid, EF3.out, he.out, List.drop_of_length_le (by omega)]; rfl
              clear he hL
              go_wp2
              go_ret
              exact ⟨retB E.out.symm, hbz⟩
end Go.Proofs.Ytfbgglhjlbdfiaa
