/-
  BestMove: the program's side. No condition.
-/
import Derived.Test.YtfbgglhjlbdfiaaGMove
namespace Go.Proofs.Ytfbgglhjlbdfiaa
open Go.RowKit
set_option maxHeartbeats 400000

set_option maxHeartbeats 4000000 in
set_option maxRecDepth 100000 in
theorem implBestMove_any (A : Option Addr) (n c : Nat) (rs : List Row) (A' : Option Addr) (m c' : Nat) (ps : List Int) (w : World) (B : Nat) (hB : B ≤ w.heap.size) (hn : n + tot rs ≤ 2000000) (hm : m ≤ 2000000) (hx : SlS w B A n rs) (hy : Sl w B 1 encI A' m ps) :
    Calls Try.prog 15 #[.slice A n c, .slice A' m c'] w fun r w' => r = .returned (tripI (moveF (cont rs) ps)) ∧ Below w.heap.size w w' := by
  have hp := treeCode_any A n c rs A' m c' ps w B hB hn hm hx hy
  have hlp := hy.len
  have hlc : (cont rs).length = n := by rw [cont_len, hx.len]
  by_cases h0 : codeG (cont rs) ps = 0
  · have hpc := (codeG_zero h0).1
    obtain ⟨hv, hpl, hin⟩ := parC_zero hpc
    have hn6 := validC_len hv
    rw [hlc] at hn6 hpl
    rw [hlp] at hpl
    have E : Hid (moveF (cont rs) ps = if (moveAll (cont rs) ps m).1 = 0 then (0, 0, 3) else ((moveAll (cont rs) ps m).1, (moveAll (cont rs) ps m).2.1, 0)) := by unfold Hid moveF; rw [if_pos h0, hlp]
    have ht := fun W h1 h2 h3 => treeCost_any A n c rs A' m c' ps W B h1 h2 h3 hpc
    have Hpc := hid hpc
    rw [h0] at hp
    obtain ⟨G, HG⟩ : ∃ G, G = costG (cont rs) ps := ⟨_, rfl⟩
    rw [← HG] at ht
    have HG' := hid HG
    clear h0 hv hin hpc HG
    go_enter Try.func15, Try.ntmps15
    go_wp2_with (first
      | (go_at_call 24; refine hp.mono ?_; rintro r w1 ⟨rfl, b1⟩)
      | (go_at_call 25; refine (ht _ (Nat.le_trans hB b1.size) (hx.below (b1.mono hB)) (hy.below (b1.mono hB))).mono ?_; rintro r w2 ⟨rfl, rfl⟩; have b2 := b1))
    have hxq := hx.below (b2.mono hB)
    have hyq := hy.below (b2.mono hB)
    have hBq := Nat.le_trans hB b2.size
    clear hp ht hx hy
    go_loopw [8, 9, 10, 27] (fun va vb vl i wl => ∃ (k : Nat) (a b l : Int), k ≤ m ∧ i = .int .i64 k ∧ va = .int .i64 a ∧ vb = .int .i64 b ∧ vl = .int .i64 l ∧ Hid (moveAll (cont rs) ps k = (a, b, l)) ∧ Below w2.heap.size w2 wl) (fun _ _ _ i _ => m - (intOf i).toNat)
    case atStart => exact ⟨0, 0, 0, G, Nat.zero_le _, rfl, rfl, rfl, rfl, by rw [Hid, moveAll, HG'.out], Below.refl _ _⟩
    case round =>
      obtain ⟨k, a, b, l, hk, rfl, rfl, rfl, rfl, hst, hb⟩ := hrel
      by_cases hlt : k < m
      · have hkm : k < m := hlt
        go_wp2
        go_loopw [8, 9, 10, 32] (fun va vb vl i wl => ∃ (p : Nat) (a' b' l' : Int), p ≤ n ∧ i = .int .i64 p ∧ va = .int .i64 a' ∧ vb = .int .i64 b' ∧ vl = .int .i64 l' ∧ Hid (moveRow (cont rs) ps k (a, b, l) p = (a', b', l')) ∧ Below w2.heap.size w2 wl) (fun _ _ _ i _ => n - (intOf i).toNat)
        case atStart => exact ⟨0, a, b, l, Nat.zero_le _, rfl, rfl, rfl, rfl, rfl, hb⟩
        case round =>
          clear hb
          obtain ⟨p, a', b', l', hpn, rfl, rfl, rfl, rfl, hrow, hb⟩ := hrel
          by_cases hpl2 : p < n
          · have hpc2 := parC_set Hpc.out k (p := p) (by omega)
            have hin2 := (parC_zero hpc2).2.2
            have hxr := hxq.below (hb.mono hBq)
            have hyr := hyq.below (hb.mono hBq)
            have hBr := Nat.le_trans hBq hb.size
            have ES : Hid (moveRow (cont rs) ps k (a, b, l) (p + 1) = if isTree (ps.set k p) = true ∧ costG (cont rs) (ps.set k p) < l' then ((k : Int) + 1, (p : Int), costG (cont rs) (ps.set k p)) else (a', b', l')) := by
              rw [Hid, moveRow, hrow.out]; rfl
            have hl2 : (ps.set k (p : Int)).length = m := by rw [List.length_set, hlp]
            have htr := fun A1 c1 W B' h1 h => depthsOf_any A1 m c1 (ps.set k (p : Int)) W B' h1 (by omega) h hin2
            have hco := fun A1 c1 W B' h1 h2 h3 => treeCost_any A n c rs A1 m c1 (ps.set k (p : Int)) W B' h1 h2 h3 hpc2
            clear hrow hin2 hpc2
            have key : ∀ g cg W, Below wr.heap.size wr W → W.ownsRow wr.heap.size 2 1 (.slice (some ⟨g, 0, none⟩) m cg) m (ps.flatMap encI) →
                Below w2.heap.size w2 (W.setCell ⟨g, k, none⟩ (.int .i64 p)) ∧ SlS (W.setCell ⟨g, k, none⟩ (.int .i64 p)) (W.setCell ⟨g, k, none⟩ (.int .i64 p)).heap.size A n rs ∧ Sl (W.setCell ⟨g, k, none⟩ (.int .i64 p)) (W.setCell ⟨g, k, none⟩ (.int .i64 p)).heap.size 1 encI (some ⟨g, 0, none⟩) m (ps.set k (p : Int)) := by
              intro g cg W bW oW
              have hg := own_lt oW
              have h1 : Below wr.heap.size wr (W.setCell ⟨g, k, none⟩ (.int .i64 p)) := bW.setCell (by simp; omega) _
              have hs := (oW.stored k (.int .i64 p)).1
              rw [set_encI] at hs
              exact ⟨hb.trans (h1.mono hb.size), (hxr.below (h1.mono hBr)).more (Nat.le_trans hBr h1.size), own_sl encI_len (by omega) hs⟩
            cases hT : isTree (ps.set k (p : Int)) with
            | false =>
              rw [hT] at ES htr
              have ES2 : Hid (moveRow (cont rs) ps k (a, b, l) (p + 1) = (a', b', l')) := by rw [Hid, ES.out]; simp
              clear ES hT hco
              go_wp2_with (first
                | (go_at_call 32; refine (clone_any A' m c' ps _ B hBr (by omega) hm hyr).mono ?_; rintro r w3 ⟨g, cg, rfl, o3, b3⟩; obtain ⟨⟨u, e0⟩, f0⟩ := own_at o3 (Below.refl _ _) k (by omega); obtain ⟨q1, q2, q3⟩ := key g cg w3 b3 o3)
                | (go_at_call 31; refine (htr _ _ _ _ (Nat.le_refl _) q3).mono ?_; rintro r w4 ⟨A4, n4, c4, rfl, _, b4⟩; replace q1 := q1.trans (b4.mono q1.size); replace q2 := (q2.below b4).more b4.size; replace q3 := (q3.below b4).more b4.size))
              go_roundw
              all_goals first | exact ⟨p + 1, a', b', l', by omega, by go_num, rfl, rfl, rfl, ES2, q1⟩ | exact ⟨⟨p + 1, a', b', l', by omega, by go_num, rfl, rfl, rfl, ES2, q1⟩, by simp [intOf]; omega⟩ | (simp [intOf]; omega)
            | true =>
              rw [hT] at ES htr
              by_cases hcl : costG (cont rs) (ps.set k (p : Int)) < l'
              · have ES2 : Hid (moveRow (cont rs) ps k (a, b, l) (p + 1) = ((k : Int) + 1, (p : Int), costG (cont rs) (ps.set k (p : Int)))) := by rw [Hid, ES.out]; simp [hcl]
                generalize costG (cont rs) (ps.set k (p : Int)) = v at hco hcl ES2
                clear ES hT
                go_wp2_with (first
                  | (go_at_call 32; refine (clone_any A' m c' ps _ B hBr (by omega) hm hyr).mono ?_; rintro r w3 ⟨g, cg, rfl, o3, b3⟩; obtain ⟨⟨u, e0⟩, f0⟩ := own_at o3 (Below.refl _ _) k (by omega); obtain ⟨q1, q2, q3⟩ := key g cg w3 b3 o3)
                  | (go_at_call 31; refine (htr _ _ _ _ (Nat.le_refl _) q3).mono ?_; rintro r w4 ⟨A4, n4, c4, rfl, _, b4⟩; replace q1 := q1.trans (b4.mono q1.size); replace q2 := (q2.below b4).more b4.size; replace q3 := (q3.below b4).more b4.size)
                  | (go_at_call 25; refine (hco _ _ _ _ (Nat.le_refl _) q2 q3).mono ?_; rintro r w4 ⟨rfl, rfl⟩))
                go_roundw
                all_goals first | exact ⟨p + 1, (k : Int) + 1, (p : Int), v, by omega, by go_num, by go_num, rfl, rfl, ES2, q1⟩ | exact ⟨⟨p + 1, (k : Int) + 1, (p : Int), v, by omega, by go_num, by go_num, rfl, rfl, ES2, q1⟩, by simp [intOf]; omega⟩ | (simp [intOf]; omega)
              · have ES2 : Hid (moveRow (cont rs) ps k (a, b, l) (p + 1) = (a', b', l')) := by rw [Hid, ES.out]; simp [hcl]
                generalize costG (cont rs) (ps.set k (p : Int)) = v at hco hcl
                clear ES hT
                go_wp2_with (first
                  | (go_at_call 32; refine (clone_any A' m c' ps _ B hBr (by omega) hm hyr).mono ?_; rintro r w3 ⟨g, cg, rfl, o3, b3⟩; obtain ⟨⟨u, e0⟩, f0⟩ := own_at o3 (Below.refl _ _) k (by omega); obtain ⟨q1, q2, q3⟩ := key g cg w3 b3 o3)
                  | (go_at_call 31; refine (htr _ _ _ _ (Nat.le_refl _) q3).mono ?_; rintro r w4 ⟨A4, n4, c4, rfl, _, b4⟩; replace q1 := q1.trans (b4.mono q1.size); replace q2 := (q2.below b4).more b4.size; replace q3 := (q3.below b4).more b4.size)
                  | (go_at_call 25; refine (hco _ _ _ _ (Nat.le_refl _) q2 q3).mono ?_; rintro r w4 ⟨rfl, rfl⟩))
                go_roundw
                all_goals first | exact ⟨p + 1, a', b', l', by omega, by go_num, rfl, rfl, rfl, ES2, q1⟩ | exact ⟨⟨p + 1, a', b', l', by omega, by go_num, rfl, rfl, rfl, ES2, q1⟩, by simp [intOf]; omega⟩ | (simp [intOf]; omega)
          · have : p = n := by omega
            subst this
            have E2 : Hid (moveAll (cont rs) ps (k + 1) = (a', b', l')) := by rw [Hid, moveAll, hst.out, hlc]; exact hrow.out
            clear hrow hxq hyq
            go_wp2
            go_roundw
            case measure => simp [intOf]; omega
            case rel => exact ⟨k + 1, a', b', l', by omega, by go_num, rfl, rfl, rfl, E2, hb⟩
      · have : k = m := by omega
        subst this
        have E2 : Hid (moveF (cont rs) ps = if a = 0 then (0, 0, 3) else (a, b, 0)) := by rw [Hid, E.out, hst.out]
        clear hxq hyq hst E
        by_cases ha : a = 0
        · have E3 : Hid (moveF (cont rs) ps = (0, 0, 3)) := by rw [Hid, E2.out, if_pos ha]
          subst ha
          clear E2
          go_wp2
          go_ret3
          rw [E3.out]
          exact ⟨rfl, b2.trans (hb.mono b2.size)⟩
        · have E3 : Hid (moveF (cont rs) ps = (a, b, 0)) := by rw [Hid, E2.out, if_neg ha]
          clear E2
          go_wp2
          go_ret3
          rw [E3.out]
          exact ⟨rfl, b2.trans (hb.mono b2.size)⟩
  · have E : Hid (moveF (cont rs) ps = (0, 0, codeG (cont rs) ps)) := by unfold Hid moveF; rw [if_neg h0]
    generalize codeG (cont rs) ps = z at hp h0 E
    clear hx hy
    go_enter Try.func15, Try.ntmps15
    go_wp2_with (go_at_call 24; refine hp.mono ?_; rintro r w1 ⟨rfl, b1⟩)
    go_ret3
    rw [E.out]
    exact ⟨rfl, b1⟩
end Go.Proofs.Ytfbgglhjlbdfiaa
