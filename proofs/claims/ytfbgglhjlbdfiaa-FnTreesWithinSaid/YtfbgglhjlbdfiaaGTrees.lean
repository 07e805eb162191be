/-
  The program's cheapest tree: the recursion over all trees. No condition.
-/
import Derived.Test.YtfbgglhjlbdfiaaGYield
namespace Go.Proofs.Ytfbgglhjlbdfiaa
open Go.RowKit
set_option maxHeartbeats 400000

theorem clone_nil (w : World) :
    Calls Try.prog 32 #[.slice none 0 0] w fun r w' => r = .returned (.slice none 0 0) ∧ w' = w := by
  have hU := fun w' : World => Lib.run_eql_slice_nil (P := Try.prog) w' 26 2 none 0 0 0 0 Try.underlying26
  go_enter Try.func32, Try.ntmps32
  go_wp2
  go_ret
  exact ⟨rfl, rfl⟩
theorem clone_all (A : Option Addr) (n c : Nat) (xs : List Int) (w : World) (hn : n ≤ 2000000) (hx : Sl w w.heap.size 1 encI A n xs) (h0 : n = 0 → A = none ∧ c = 0) :
    Calls Try.prog 32 #[.slice A n c] w fun r w' => ∃ A1 c1, r = .returned (.slice A1 n c1) ∧ w'.ownsRow w.heap.size 2 1 (.slice A1 n c1) n (xs.flatMap encI) ∧ Below w.heap.size w w' := by
  rcases Nat.eq_zero_or_pos n with hz | hz
  · obtain ⟨rfl, rfl⟩ := h0 hz
    subst hz
    have : xs = [] := List.eq_nil_of_length_eq_zero hx.len
    subst this
    exact (clone_nil w).mono fun r w' ⟨h1, h2⟩ => by subst h2; exact ⟨none, 0, h1, World.ownsRow_nil _ _ _ _, Below.refl _ _⟩
  · exact (clone_any A n c xs w w.heap.size (Nat.le_refl _) hz hn hx).mono fun r w' ⟨g, c1, h1, h2, h3⟩ => ⟨_, _, h1, h2, h3⟩
theorem parC_of {css : List (List Int)} {ps : List Int} (hv : validC css = true) (hl : ps.length + 1 = css.length) (hp : inN ps css.length) : parC css ps = 0 := by
  unfold parC
  rw [hv, if_pos rfl, if_pos]
  simp only [Bool.and_eq_true, List.all_eq_true, beq_iff_eq]
  exact ⟨fun x hx => by have := hp x hx; simp [inR]; omega, hl⟩
set_option maxHeartbeats 8000000 in
set_option maxRecDepth 100000 in
theorem trees_any (fa : Nat) (caps : Array Value) (KA : World → Prop) (al : List Int → Bool) (gc ga gb lo : Nat) (A : Option Addr) (n c : Nat) (rs : List Row) (B : Nat) (hBg : B ≤ gb) (hgl : gb + 1 < lo) (hgc : gc < gb) (hga : ga < gb) (hv : validC (cont rs) = true) (hnl : rs.length = n)
    (hcf : ∀ (args : Array Value) (W : World), (callFunc fa args).run Try.prog W = .ok (.enter fa args) W)
    (HA : ∀ (W : World) (A' : Option Addr) (m' c' : Nat) (ps : List Int), KA W → Sl W W.heap.size 1 encI A' m' ps → parC (cont rs) ps = 0 → isTree ps = true → Calls Try.prog fa (#[.slice A' m' c'] ++ caps) W fun r w' => r = .returned (.bool (al ps)) ∧ Below W.heap.size W w')
    (hKs : ∀ W W', KA W → Span gb (gb + 2) W W' → KA W') :
    ∀ (m : Nat) (ps : List Int) (Ap : Option Addr) (cp : Nat) (st : BSt) (w : World), ps.length + m + 1 = n → inN ps n → (ps.length = 0 → Ap = none ∧ cp = 0) → (∀ a : Addr, Ap = some a → ¬ (gb ≤ a.block ∧ a.block < gb + 2)) → lo ≤ w.heap.size → SlS w B A n rs → Sl w w.heap.size 1 encI Ap ps.length ps → KA w →
      w.cell? ⟨gc, 0, none⟩ = some (.slice A n c) → w.cell? ⟨ga, 0, none⟩ = some (.func (.func fa) #[] caps) → Two w gb lo st →
      Calls Try.prog 43 #[.int .i64 n, .slice Ap ps.length cp, .func (.func 44) #[] #[.pointer (some ⟨gc, 0, none⟩), .pointer (some ⟨gb + 1, 0, none⟩), .pointer (some ⟨ga, 0, none⟩), .pointer (some ⟨gb, 0, none⟩)]] w
        fun r w' => r = .returned (.tuple #[]) ∧ Two w' gb lo (allB (cont rs) (fun qs => isTree qs && al qs) m ps st) ∧ Span gb (gb + 2) w w' := by
  have hlc : (cont rs).length = n := by rw [cont_len, hnl]
  have hn6 := validC_len hv
  rw [hlc] at hn6
  intro m
  induction m with
  | zero =>
    intro ps Ap cp st w hlen hin hnil _ hlo hx hy hK k1 k3 hT
    have hp := parC_of hv (ps := ps) (by omega) (by rw [hlc]; exact hin)
    have hd := depthsOf_any Ap ps.length cp ps w w.heap.size (Nat.le_refl _) (by omega) hy (parC_zero hp).2.2
    have hp5 : ps.length + 1 = n := by omega
    cases ht : isTree ps with
    | false =>
      have E : Hid (allB (cont rs) (fun qs => isTree qs && al qs) 0 ps st = st) := by simp [Hid, allB, leafB, ht]
      rw [ht] at hd
      generalize ps.length = pl at hp5 hd
      clear hy hx HA hp
      subst hp5
      go_enter Try.func43, Try.ntmps43
      go_wp2_with (go_at_call 31; refine hd.mono ?_; rintro r w1 ⟨A1, n1, c1, rfl, _, b1⟩)
      refine bodyPost_ret (results_none rfl _ _ _) rfl ?_
      rw [E.out]
      exact ⟨rfl, hT.below b1, Span.ofBelow b1⟩
    | true =>
      have hyl := fun W (b : Below w.heap.size w W) => yield_any fa caps KA al gc ga gb lo A n c rs B hgl hv hcf HA Ap ps.length cp ps st W (by have := b.size; omega) (Nat.le_trans hlo b.size) (by omega) (hx.below (b.mono (by omega))) ((hy.below b).more b.size) hp ht (hKs _ _ hK (Span.ofBelow b)) (below_cell k1 b) (below_cell k3 b) (hT.below b)
      have E : Hid (allB (cont rs) (fun qs => isTree qs && al qs) 0 ps st = leafB (cont rs) (fun qs => isTree qs && al qs) ps st) := rfl
      rw [ht] at hd
      generalize leafB (cont rs) (fun qs => isTree qs && al qs) ps st = st' at hyl E
      generalize ps.length = pl at hp5 hd hyl
      clear hy hx HA hp hcf
      subst hp5
      go_enter Try.func43, Try.ntmps43
      go_wp2_with (first
        | (go_at_call 31; refine hd.mono ?_; rintro r w1 ⟨A1, n1, c1, rfl, _, b1⟩)
        | (go_at_call 44; refine (hyl _ b1).mono ?_; rintro r w2 ⟨rfl, T2, S2⟩))
      refine bodyPost_ret (results_none rfl _ _ _) rfl ?_
      rw [E.out]
      exact ⟨rfl, T2, (Span.ofBelow b1).trans S2⟩
  | succ m ih =>
    intro ps Ap cp st w hlen hin hnil hap hlo hx hy hK k1 k3 hT
    have E : Hid (allB (cont rs) (fun qs => isTree qs && al qs) (m + 1) ps st = rowB (cont rs) (fun qs => isTree qs && al qs) m ps st n) := by rw [Hid, allB_succ, hlc]
    have hne : ((ps.length : Int) == (n : Int) - 1) = false := by simp; omega
    have Hnil := hid hnil
    have l1 := World.block_lt_of_cell? _ _ k1
    have l3 := World.block_lt_of_cell? _ _ k3
    simp only at l1 l3
    have hcl := fun W (h : Sl W W.heap.size 1 encI Ap ps.length ps) => clone_all Ap ps.length cp ps W (by omega) h Hnil.out
    clear hnil
    go_enter Try.func43, Try.ntmps43
    go_wp2
    go_loopw [24] (fun i wl => ∃ p : Nat, p ≤ n ∧ i = .int .i64 p ∧ Two wl gb lo (rowB (cont rs) (fun qs => isTree qs && al qs) m ps st p) ∧ Span gb (gb + 2) w wl) (fun i _ => n - (intOf i).toNat)
    case atStart => exact ⟨0, Nat.zero_le _, rfl, hT, Span.refl _ _ _⟩
    case round =>
      obtain ⟨p, hp, rfl, hTr, hs⟩ := hrel
      by_cases hpn : p < n
      · have E2 : Hid (rowB (cont rs) (fun qs => isTree qs && al qs) m ps st (p + 1) = allB (cont rs) (fun qs => isTree qs && al qs) m (ps ++ [(p : Int)]) (rowB (cont rs) (fun qs => isTree qs && al qs) m ps st p)) := by rw [Hid, rowB_succ]
        have hz := hs.size
        have hbB : Below B w wr := hs.toBelow (Below.refl _ _) hBg (by omega)
        have hyr : Sl wr wr.heap.size 1 encI Ap ps.length ps := ⟨hy.1, fun i x hxx => by
          obtain ⟨b, off, e, hb, hc⟩ := hy.2 i x hxx
          exact ⟨b, off, e, by omega, fun j u hu => hs.cell (fun hh => hap ⟨b, off, none⟩ e hh) (hc j u hu)⟩⟩
        generalize rowB (cont rs) (fun qs => isTree qs && al qs) m ps st p = stp at hTr E2
        have ih2 : ∀ (g c1 : Nat) (W : World), Below wr.heap.size wr W → W.ownsRow lo 2 1 (.slice (some ⟨g, 0, none⟩) (ps.length + 1) c1) (ps.length + 1) (ps.flatMap encI ++ [.int .i64 (p : Int)]) →
            Calls Try.prog 43 #[.int .i64 n, .slice (some ⟨g, 0, none⟩) (ps.length + 1) c1, .func (.func 44) #[] #[.pointer (some ⟨gc, 0, none⟩), .pointer (some ⟨gb + 1, 0, none⟩), .pointer (some ⟨ga, 0, none⟩), .pointer (some ⟨gb, 0, none⟩)]] W fun r w' => r = .returned (.tuple #[]) ∧ Two w' gb lo (allB (cont rs) (fun qs => isTree qs && al qs) m (ps ++ [(p : Int)]) stp) ∧ Span gb (gb + 2) W w' := by
          intro g c1 W hW hoW
          have hbW : Below B w W := hbB.trans (hW.mono (by omega))
          have sW := hs.trans (Span.ofBelow hW)
          rw [snoc1] at hoW
          have h5 := own_sl encI_len (by omega) hoW
          have := ih (ps ++ [(p : Int)]) (some ⟨g, 0, none⟩) c1 stp W (by simp; omega) (fun x hxx => by
            rcases List.mem_append.1 hxx with h | h
            · exact hin x h
            · simp at h; omega) (fun h => by simp at h) (fun a ha => by
            injection ha with ha
            subst ha
            have := (own_lt hoW).1
            simp only
            omega) (by have := hW.size; omega) (hx.below hbW) (by simpa using h5) (hKs _ _ hK sW) (sW.cell (by simp only; omega) k1) (sW.cell (by simp only; omega) k3) (hTr.below hW)
          simpa using this
        obtain ⟨ii, hi, hz0, hz1, hz2⟩ := info_parts int_info
        have hlor : lo ≤ wr.heap.size := by omega
        have hl5 : ps.length ≤ 5 := by omega
        clear hx hy ih hin hlen HA hcf hK
        go_wp2_with (first
          | (go_at_call 32; refine (hcl _ hyr).mono ?_; rintro r w5 ⟨A5, c5, rfl, o5, b5⟩
             have lo5 : ∀ q, (Value.slice A5 ps.length c5).ownBlock = some q → wr.heap.size ≤ q := fun q hq => (o5.lt q hq).1
             replace o5 := o5.mono hlor)
          | (at_builtin; refine wpList_append_lies _ rfl _ _ 26 rfl lo 2 ii (.int .i64 0) 1 8 Try.underlying26 hi hz0 hz1 hz2 rfl (by omega) (.slice A5 ps.length c5) ps.length (ps.flatMap encI) rfl (o5.alloc _) ⟨w5.heap.size, 0, none⟩ 1 1 [.int .i64 (p : Int)] rfl rfl (World.news_of_block (cs := #[.int .i64 (p : Int)]) (t := 2) (fr := (0, 0)) (heap_alloc_new w5 _)) (by simp [Value.oneCell']) (by omega) (by simp only [maxLen]; omega) (by omega) (by simp; have := b5.size; omega) (w5.heap.size + 1) (by simp) ?_
             intro gg cap w3 ho3 hg3 hat3 hlt3
             have bw3 : Below wr.heap.size wr w3 := (b5.alloc b5.size _).grown hg3 (by simp; have := b5.size; omega) (fun q hq => lo5 q hq))
          | (go_at_call 43; refine (ih2 gg cap w3 bw3 ho3).mono ?_; rintro r w4 ⟨rfl, T4, S4⟩
             have hs4 := (hs.trans (Span.ofBelow bw3)).trans S4
             rw [← E2.out] at T4))
        go_roundw
        all_goals first | exact ⟨p + 1, by omega, by go_num, T4, hs4⟩ | exact ⟨⟨p + 1, by omega, by go_num, T4, hs4⟩, by simp [intOf]; omega⟩ | (simp [intOf]; omega)
      · have : p = n := by omega
        subst this
        clear hx hy ih HA hcf
        go_wp2
        refine bodyPost_end (results_none rfl _ _ _) rfl ?_
        rw [E.out]
        exact ⟨rfl, hTr, hs⟩
end Go.Proofs.Ytfbgglhjlbdfiaa
