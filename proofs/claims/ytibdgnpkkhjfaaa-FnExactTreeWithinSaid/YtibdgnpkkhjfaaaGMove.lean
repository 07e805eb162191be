/-
  BestMove: the program's function and the reference's. No condition.
-/
import Derived.Test.YtibdgnpkkhjfaaaGLoads2
import Derived.OwnWalk
namespace Go.Proofs.Ytibdgnpkkhjfaaa
open Go.RowKit
set_option maxHeartbeats 400000

theorem news_of_sl {w : World} {B b off n : Nat} {xs : List Int} (hx : Sl w B 1 encI (some ⟨b, off, none⟩) n xs) : ∀ (j : Nat) (u : Value), (xs.flatMap encI)[j]? = some u → w.cell? ((⟨b, off, none⟩ : Addr).add j) = some u := by
  intro j u hj
  rw [flatMap_encI, List.getElem?_map] at hj
  obtain ⟨z, hz, rfl⟩ := Option.map_eq_some_iff.1 hj
  obtain ⟨b', off', e, _, hc⟩ := hx.2 j z hz
  injection e with e
  injection e with e1 e2
  subst e1 e2
  rw [Addr.add_lit]
  simpa using hc 0 _ rfl
theorem one_encI (xs : List Int) : ∀ u ∈ xs.flatMap encI, u.oneCell' = true := by
  intro u hu
  rw [flatMap_encI] at hu
  obtain ⟨z, _, rfl⟩ := List.mem_map.1 hu
  rfl
theorem l00Own_any (A : Option Addr) (n c : Nat) (xs : List Int) (w : World) (B : Nat) (hB : B ≤ w.heap.size) (hn0 : 0 < n) (hn : n ≤ 2000000) (hx : Sl w B 1 encI A n xs) :
    Calls Try.prog 57 #[.slice A n c] w fun r w' => ∃ g c1, r = .returned (.slice (some ⟨g, 0, none⟩) n c1) ∧ w'.ownsRow w.heap.size 2 1 (.slice (some ⟨g, 0, none⟩) n c1) n (xs.flatMap encI) ∧ Below w.heap.size w w' := by
  have hl := hx.len
  obtain ⟨z, b, off, _, rfl, hb, _⟩ := hx.int hn0
  have o0 := World.ownsRow_lit (base := w.heap.size) (e := 2) (size := 1) w #[] 0 (Nat.le_refl _) (by simp [maxLen]) (by simp)
  obtain ⟨i0, hi, hz0, hz1, hz2⟩ := info_parts int_info
  have hnew := news_of_sl (hx.alloc hB (.cells #[] 2))
  have hlen : (xs.flatMap encI).length = n * 1 := by rw [flatMap_len encI_len, hl]
  clear hx
  go_enter Try.func57, Try.ntmps57
  go_wp2_with (at_builtin; refine wpList_append_lies _ rfl _ _ 27 rfl w.heap.size 2 i0 (.int .i64 0) 1 8 Try.underlying27 hi hz0 hz1 hz2 rfl (by omega) (.slice (some ⟨w.heap.size, 0, none⟩) 0 0) 0 [] rfl o0 ⟨b, off, none⟩ n c (xs.flatMap encI) rfl hlen hnew (one_encI xs) (by omega) (by simp only [maxLen]; omega) (by omega) (by simp) (w.heap.size + 1) (by simp) ?_; intro gg cap w3 ho3 hg3 hat3 hlt3)
  have hb3 : Below w.heap.size w w3 := ((Below.refl _ _).alloc (Nat.le_refl _) _).grown hg3 (by simp) (fun q hq => by simp [Value.ownBlock] at hq; omega)
  rw [List.nil_append] at ho3
  simp only [Nat.zero_add] at ho3
  clear hnew hlen o0
  go_ret
  exact ⟨_, _, rfl, ho3, hb3⟩
theorem clone_any (A : Option Addr) (n c : Nat) (xs : List Int) (w : World) (B : Nat) (hB : B ≤ w.heap.size) (hn0 : 0 < n) (hn : n ≤ 2000000) (hx : Sl w B 1 encI A n xs) :
    Calls Try.prog 58 #[.slice A n c] w fun r w' => ∃ g c1, r = .returned (.slice (some ⟨g, 0, none⟩) n c1) ∧ w'.ownsRow w.heap.size 2 1 (.slice (some ⟨g, 0, none⟩) n c1) n (xs.flatMap encI) ∧ Below w.heap.size w w' := by
  have hl := hx.len
  obtain ⟨z, b, off, _, rfl, hb, _⟩ := hx.int hn0
  have o0 := World.ownsRow_lit (base := w.heap.size) (e := 2) (size := 1) w #[] 0 (Nat.le_refl _) (by simp [maxLen]) (by simp)
  obtain ⟨i0, hi, hz0, hz1, hz2⟩ := info_parts int_info
  have hnew := news_of_sl (hx.alloc hB (.cells #[] 2))
  have hlen : (xs.flatMap encI).length = n * 1 := by rw [flatMap_len encI_len, hl]
  clear hx
  have hU := fun w' : World => Lib.run_eql_slice_nil (P := Try.prog) w' 27 2 (some ⟨b, off, none⟩) n c 0 0 Try.underlying27
  go_enter Try.func58, Try.ntmps58
  go_wp2_with (at_builtin; refine wpList_append_lies _ rfl _ _ 27 rfl w.heap.size 2 i0 (.int .i64 0) 1 8 Try.underlying27 hi hz0 hz1 hz2 rfl (by omega) (.slice (some ⟨w.heap.size, 0, none⟩) 0 0) 0 [] rfl o0 ⟨b, off, none⟩ n c (xs.flatMap encI) rfl hlen hnew (one_encI xs) (by omega) (by simp only [maxLen]; omega) (by omega) (by simp) (w.heap.size + 1) (by simp) ?_; intro gg cap w3 ho3 hg3 hat3 hlt3)
  have hb3 : Below w.heap.size w w3 := ((Below.refl _ _).alloc (Nat.le_refl _) _).grown hg3 (by simp) (fun q hq => by simp [Value.ownBlock] at hq; omega)
  rw [List.nil_append] at ho3
  simp only [Nat.zero_add] at ho3
  clear hnew hlen o0
  go_ret
  exact ⟨_, _, rfl, ho3, hb3⟩

abbrev MSt := Int × Int × Int
def stepM (css : List (List Int)) (ps : List Int) (i p : Nat) (st : MSt) : MSt :=
  if isTree (ps.set i p) = true ∧ costG css (ps.set i p) < st.2.2 then ((i : Int) + 1, (p : Int), costG css (ps.set i p)) else st
def moveRow (css : List (List Int)) (ps : List Int) (i : Nat) (st : MSt) : Nat → MSt
  | 0 => st
  | p + 1 => stepM css ps i p (moveRow css ps i st p)
def moveAll (css : List (List Int)) (ps : List Int) : Nat → MSt
  | 0 => (0, 0, costG css ps)
  | k + 1 => moveRow css ps k (moveAll css ps k) css.length
def moveF (css : List (List Int)) (ps : List Int) : Int × Int × Int :=
  if codeG css ps = 0 then if (moveAll css ps ps.length).1 = 0 then (0, 0, 3) else ((moveAll css ps ps.length).1, (moveAll css ps ps.length).2.1, 0) else (0, 0, codeG css ps)
theorem parC_set {css : List (List Int)} {ps : List Int} (h : parC css ps = 0) (i : Nat) {p : Nat} (hp : p < css.length) : parC css (ps.set i p) = 0 := by
  obtain ⟨hv, hl, _⟩ := parC_zero h
  unfold parC at h ⊢
  rw [hv] at h ⊢
  simp only [if_true] at h ⊢
  split at h
  · rename_i h2
    simp only [Bool.and_eq_true, List.all_eq_true, beq_iff_eq, List.length_set] at h2 ⊢
    rw [if_pos]
    refine ⟨fun x hx => ?_, h2.2⟩
    rcases List.mem_or_eq_of_mem_set hx with h' | h'
    · exact h2.1 x h'
    · subst h'; simp [inR]; omega
  · omega
set_option maxHeartbeats 4000000 in
set_option maxRecDepth 100000 in
theorem specBestMove_any (A : Option Addr) (n c : Nat) (rs : List Row) (A' : Option Addr) (m c' : Nat) (ps : List Int) (w : World) (B : Nat) (hB : B ≤ w.heap.size) (hn : n + tot rs ≤ 2000000) (hm : m ≤ 2000000) (hx : SlS w B A n rs) (hy : Sl w B 1 encI A' m ps) :
    Calls Try.prog 30 #[.slice A n c, .slice A' m c'] w fun r w' => r = .returned (tripI (moveF (cont rs) ps)) ∧ Below w.heap.size w w' := by
  have hp := l20Code_any A n c rs A' m c' ps w B hB hn hm hx hy
  have hlp := hy.len
  have hlc : (cont rs).length = n := by rw [cont_len, hx.len]
  by_cases h0 : codeG (cont rs) ps = 0
  · have hpc := (codeG_zero h0).1
    obtain ⟨hv, hpl, hin⟩ := parC_zero hpc
    have hn6 := validC_len hv
    rw [hlc] at hn6 hpl
    rw [hlp] at hpl
    have E : Hid (moveF (cont rs) ps = if (moveAll (cont rs) ps m).1 = 0 then (0, 0, 3) else ((moveAll (cont rs) ps m).1, (moveAll (cont rs) ps m).2.1, 0)) := by unfold Hid moveF; rw [if_pos h0, hlp]
    have ht := fun W h1 h2 h3 => l20Cost_any A n c rs A' m c' ps W B h1 h2 h3 hpc
    have Hpc := hid hpc
    rw [h0] at hp
    obtain ⟨G, HG⟩ : ∃ G, G = costG (cont rs) ps := ⟨_, rfl⟩
    rw [← HG] at ht
    have HG' := hid HG
    clear h0 hv hin hpc HG
    go_enter Try.func30, Try.ntmps30
    go_wp2_with (first
      | (go_at_call 52; refine hp.mono ?_; rintro r w1 ⟨rfl, b1⟩)
      | (go_at_call 53; refine (ht _ (Nat.le_trans hB b1.size) (hx.below (b1.mono hB)) (hy.below (b1.mono hB))).mono ?_; rintro r w2 ⟨rfl, b2⟩; replace b2 := b1.trans (b2.mono b1.size)))
    have hxq := hx.below (b2.mono hB)
    have hyq := hy.below (b2.mono hB)
    have hBq := Nat.le_trans hB b2.size
    clear hp ht hx hy b1
    go_loopw [8, 9, 10, 11] (fun va vb vl i wl => ∃ (k : Nat) (z a b l : Int), k ≤ m ∧ Hid (z = (k : Int) + 1) ∧ 1 ≤ z ∧ z ≤ n ∧ i = .int .i64 z ∧ va = .int .i64 a ∧ vb = .int .i64 b ∧ vl = .int .i64 l ∧ Hid (moveAll (cont rs) ps k = (a, b, l)) ∧ Below w2.heap.size w2 wl) (fun _ _ _ i _ => (n - intOf i).toNat)
    case atStart => exact ⟨0, 1, 0, 0, G, Nat.zero_le _, rfl, by omega, by omega, rfl, rfl, rfl, rfl, by rw [Hid, moveAll, HG'.out], Below.refl _ _⟩
    case round =>
      obtain ⟨k, z, a, b, l, hk, hz, z0, z1, rfl, rfl, rfl, rfl, hst, hb⟩ := hrel
      by_cases hlt : z < n
      · have hkm : k < m := by have := hz.out; omega
        obtain rfl : z = (k : Int) + 1 := hz.out
        go_wp2
        go_loopw [8, 9, 10, 12] (fun va vb vl i wl => ∃ (p : Nat) (a' b' l' : Int), p ≤ n ∧ i = .int .i64 p ∧ va = .int .i64 a' ∧ vb = .int .i64 b' ∧ vl = .int .i64 l' ∧ Hid (moveRow (cont rs) ps k (a, b, l) p = (a', b', l')) ∧ Below w2.heap.size w2 wl) (fun _ _ _ i _ => n - (intOf i).toNat)
        case atStart => exact ⟨0, a, b, l, Nat.zero_le _, rfl, rfl, rfl, rfl, rfl, hb⟩
        case round =>
          clear hb
          obtain ⟨p, a', b', l', hpn, rfl, rfl, rfl, rfl, hrow, hb⟩ := hrel
          by_cases hpl2 : p < n
          · have hpc2 := parC_set Hpc.out k (p := p) (by omega)
            have hin2 := (parC_zero hpc2).2.2
            have hxr := hxq.below (hb.mono hBq)
            have hyr := hyq.below (hb.mono hBq)
            have hBr := Nat.le_trans hBq hb.size
            have ES : Hid (moveRow (cont rs) ps k (a, b, l) (p + 1) = if isTree (ps.set k p) = true ∧ costG (cont rs) (ps.set k p) < l' then ((k : Int) + 1, (p : Int), costG (cont rs) (ps.set k p)) else (a', b', l')) := by
              rw [Hid, moveRow, hrow.out]; rfl
            have hl2 : (ps.set k (p : Int)).length = m := by rw [List.length_set, hlp]
            have htr := fun A1 c1 W B' h => l20Tree_any A1 m c1 (ps.set k (p : Int)) W B' hm h hin2
            have hco := fun A1 c1 W B' h1 h2 h3 => l20Cost_any A n c rs A1 m c1 (ps.set k (p : Int)) W B' h1 h2 h3 hpc2
            clear hrow hin2 hpc2
            have key : ∀ g cg W, Below wr.heap.size wr W → W.ownsRow wr.heap.size 2 1 (.slice (some ⟨g, 0, none⟩) m cg) m (ps.flatMap encI) →
                Below w2.heap.size w2 (W.setCell ⟨g, k, none⟩ (.int .i64 p)) ∧ SlS (W.setCell ⟨g, k, none⟩ (.int .i64 p)) (W.setCell ⟨g, k, none⟩ (.int .i64 p)).heap.size A n rs ∧ Sl (W.setCell ⟨g, k, none⟩ (.int .i64 p)) (W.setCell ⟨g, k, none⟩ (.int .i64 p)).heap.size 1 encI (some ⟨g, 0, none⟩) m (ps.set k (p : Int)) := by
              intro g cg W bW oW
              have hg := own_lt oW
              have h1 : Below wr.heap.size wr (W.setCell ⟨g, k, none⟩ (.int .i64 p)) := bW.setCell (by simp; omega) _
              have hs := (oW.stored k (.int .i64 p)).1
              rw [set_encI] at hs
              exact ⟨hb.trans (h1.mono hb.size), (hxr.below (h1.mono hBr)).more (Nat.le_trans hBr h1.size), own_sl encI_len (by omega) hs⟩
            cases hT : isTree (ps.set k (p : Int)) with
            | false =>
              rw [hT] at ES htr
              have ES2 : Hid (moveRow (cont rs) ps k (a, b, l) (p + 1) = (a', b', l')) := by rw [Hid, ES.out]; simp
              clear ES hT hco
              go_wp2_with (first
                | (go_at_call 57; refine (l00Own_any A' m c' ps _ B hBr (by omega) hm hyr).mono ?_; rintro r w3 ⟨g, cg, rfl, o3, b3⟩; obtain ⟨⟨u, e0⟩, f0⟩ := own_at o3 (Below.refl _ _) k (by omega); obtain ⟨q1, q2, q3⟩ := key g cg w3 b3 o3)
                | (go_at_call 50; refine (htr _ _ _ _ q3).mono ?_; rintro r w4 ⟨rfl, rfl⟩))
              go_roundw
              all_goals first | exact ⟨p + 1, a', b', l', by omega, by go_num, rfl, rfl, rfl, ES2, q1⟩ | exact ⟨⟨p + 1, a', b', l', by omega, by go_num, rfl, rfl, rfl, ES2, q1⟩, by simp [intOf]; omega⟩ | (simp [intOf]; omega)
            | true =>
              rw [hT] at ES htr
              by_cases hcl : costG (cont rs) (ps.set k (p : Int)) < l'
              · have ES2 : Hid (moveRow (cont rs) ps k (a, b, l) (p + 1) = ((k : Int) + 1, (p : Int), costG (cont rs) (ps.set k (p : Int)))) := by rw [Hid, ES.out]; simp [hcl]
                generalize costG (cont rs) (ps.set k (p : Int)) = v at hco hcl ES2
                clear ES hT
                go_wp2_with (first
                  | (go_at_call 57; refine (l00Own_any A' m c' ps _ B hBr (by omega) hm hyr).mono ?_; rintro r w3 ⟨g, cg, rfl, o3, b3⟩; obtain ⟨⟨u, e0⟩, f0⟩ := own_at o3 (Below.refl _ _) k (by omega); obtain ⟨q1, q2, q3⟩ := key g cg w3 b3 o3)
                  | (go_at_call 50; refine (htr _ _ _ _ q3).mono ?_; rintro r w4 ⟨rfl, rfl⟩)
                  | (go_at_call 53; refine (hco _ _ _ _ (Nat.le_refl _) q2 q3).mono ?_; rintro r w5 ⟨rfl, b5⟩; replace q1 := q1.trans (b5.mono q1.size); replace q2 := (q2.below b5).more b5.size; replace q3 := (q3.below b5).more b5.size))
                go_roundw
                all_goals first | exact ⟨p + 1, (k : Int) + 1, (p : Int), v, by omega, by go_num, by go_num, rfl, rfl, ES2, q1⟩ | exact ⟨⟨p + 1, (k : Int) + 1, (p : Int), v, by omega, by go_num, by go_num, rfl, rfl, ES2, q1⟩, by simp [intOf]; omega⟩ | (simp [intOf]; omega)
              · have ES2 : Hid (moveRow (cont rs) ps k (a, b, l) (p + 1) = (a', b', l')) := by rw [Hid, ES.out]; simp [hcl]
                generalize costG (cont rs) (ps.set k (p : Int)) = v at hco hcl
                clear ES hT
                go_wp2_with (first
                  | (go_at_call 57; refine (l00Own_any A' m c' ps _ B hBr (by omega) hm hyr).mono ?_; rintro r w3 ⟨g, cg, rfl, o3, b3⟩; obtain ⟨⟨u, e0⟩, f0⟩ := own_at o3 (Below.refl _ _) k (by omega); obtain ⟨q1, q2, q3⟩ := key g cg w3 b3 o3)
                  | (go_at_call 50; refine (htr _ _ _ _ q3).mono ?_; rintro r w4 ⟨rfl, rfl⟩)
                  | (go_at_call 53; refine (hco _ _ _ _ (Nat.le_refl _) q2 q3).mono ?_; rintro r w5 ⟨rfl, b5⟩; replace q1 := q1.trans (b5.mono q1.size); replace q2 := (q2.below b5).more b5.size; replace q3 := (q3.below b5).more b5.size))
                go_roundw
                all_goals first | exact ⟨p + 1, a', b', l', by omega, by go_num, rfl, rfl, rfl, ES2, q1⟩ | exact ⟨⟨p + 1, a', b', l', by omega, by go_num, rfl, rfl, rfl, ES2, q1⟩, by simp [intOf]; omega⟩ | (simp [intOf]; omega)
          · have : p = n := by omega
            subst this
            have E2 : Hid (moveAll (cont rs) ps (k + 1) = (a', b', l')) := by rw [Hid, moveAll, hst.out, hlc]; exact hrow.out
            have Hz2 : Hid ((k : Int) + 1 + 1 = ((k + 1 : Nat) : Int) + 1) := by unfold Hid; omega
            clear hrow hxq hyq
            go_wp2
            go_roundw
            case measure => simp [intOf]; omega
            case rel => exact ⟨k + 1, (k : Int) + 1 + 1, a', b', l', by omega, Hz2, by omega, by omega, by go_num, rfl, rfl, rfl, E2, hb⟩
      · have : k = m := by have := hz.out; omega
        subst this
        have E2 : Hid (moveF (cont rs) ps = if a = 0 then (0, 0, 3) else (a, b, 0)) := by rw [Hid, E.out, hst.out]
        clear hxq hyq hst hz E
        by_cases ha : a = 0
        · have E3 : Hid (moveF (cont rs) ps = (0, 0, 3)) := by rw [Hid, E2.out, if_pos ha]
          subst ha
          clear E2
          go_wp2
          go_ret3
          rw [E3.out]
          exact ⟨rfl, b2.trans (hb.mono b2.size)⟩
        · have E3 : Hid (moveF (cont rs) ps = (a, b, 0)) := by rw [Hid, E2.out, if_neg ha]
          clear E2
          go_wp2
          go_ret3
          rw [E3.out]
          exact ⟨rfl, b2.trans (hb.mono b2.size)⟩
  · have E : Hid (moveF (cont rs) ps = (0, 0, codeG (cont rs) ps)) := by unfold Hid moveF; rw [if_neg h0]
    generalize codeG (cont rs) ps = z at hp h0 E
    clear hx hy
    go_enter Try.func30, Try.ntmps30
    go_wp2_with (go_at_call 52; refine hp.mono ?_; rintro r w1 ⟨rfl, b1⟩)
    go_ret3
    rw [E.out]
    exact ⟨rfl, b1⟩
end Go.Proofs.Ytibdgnpkkhjfaaa
