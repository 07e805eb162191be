/-
  The reference's cheapest tree: the walk over all parents. No condition.
-/
import Derived.Test.YtfbgglhjlbdfiaaGFits
import Derived.Deep.RegionHeld3
import Derived.Deep.AppendLies
namespace Go.Proofs.Ytfbgglhjlbdfiaa
open Go.RowKit
set_option maxHeartbeats 400000

theorem l00Own_nil (a : Addr) (c : Nat) (w : World) :
    Calls Try.prog 49 #[.slice (some a) 0 c] w fun r w' => ∃ A1 c1, r = .returned (.slice A1 0 c1) ∧ w'.ownsRow w.heap.size 2 1 (.slice A1 0 c1) 0 [] ∧ Below w.heap.size w w' := by
  have o0 := World.ownsRow_lit (base := w.heap.size) (e := 2) (size := 1) w #[] 0 (Nat.le_refl _) (by simp [maxLen]) (by simp)
  have h1 : ∀ u : World, (pure #[] : Sem (Array Value)).run Try.prog u = .ok #[] u := fun _ => rfl
  have h2 : ∀ (p : Addr) (u : World), (storeCells p []).run Try.prog u = .ok () u := fun _ _ => rfl
  go_enter Try.func49, Try.ntmps49
  go_wp2
  go_ret
  exact ⟨_, _, rfl, o0, (Below.refl _ _).alloc (Nat.le_refl _) _⟩
/-- the walk's record: what it is asked, and the best so far -/
structure Rec (w : World) (gw lo : Nat) (A : Option Addr) (n c : Nat) (A2 : Option Addr) (m2 c2 : Nat) (most depth : Int) (st : BSt) : Prop where
  k0 : w.cell? ⟨gw, 0, none⟩ = some (.slice A n c)
  k1 : w.cell? ⟨gw, 1, none⟩ = some (.slice A2 m2 c2)
  k2 : w.cell? ⟨gw, 2, none⟩ = some (.int .i64 most)
  k3 : w.cell? ⟨gw, 3, none⟩ = some (.int .i64 depth)
  f4 : w.frozen? ⟨gw, 4, none⟩ = false
  f5 : w.frozen? ⟨gw, 5, none⟩ = false
  best : ∃ A1 n1 c1 l, w.cell? ⟨gw, 4, none⟩ = some (.slice A1 n1 c1) ∧ w.cell? ⟨gw, 5, none⟩ = some (.int .i64 l) ∧
    (match st with | none => A1 = none ∧ n1 = 0 ∧ c1 = 0 ∧ l = -1 | some (b, x) => w.ownsRow lo 2 1 (.slice A1 n1 c1) n1 (b.flatMap encI) ∧ l = x ∧ 0 ≤ x)
theorem Rec.below {w w' : World} {gw lo : Nat} {A : Option Addr} {n c : Nat} {A2 : Option Addr} {m2 c2 : Nat} {most depth : Int} {st : BSt} (h : Rec w gw lo A n c A2 m2 c2 most depth st) (hb : Below w.heap.size w w') :
    Rec w' gw lo A n c A2 m2 c2 most depth st := by
  obtain ⟨k0, k1, k2, k3, f4, f5, A1, n1, c1, l, e4, e5, hs⟩ := h
  have lt := World.block_lt_of_cell? _ _ k0
  simp only at lt
  refine ⟨below_cell k0 hb, below_cell k1 hb, below_cell k2 hb, below_cell k3 hb, (hb.frozen (p := ⟨gw, 4, none⟩) lt).trans f4, (hb.frozen (p := ⟨gw, 5, none⟩) lt).trans f5, A1, n1, c1, l, below_cell e4 hb, below_cell e5 hb, ?_⟩
  cases st with
  | none => exact hs
  | some p => exact ⟨own_below hs.1 hb, hs.2⟩
/-- a record is kept where new blocks come and a row that is not its own grows -/
theorem Rec.grown {w w' : World} {gw lo : Nat} {A : Option Addr} {n c : Nat} {A2 : Option Addr} {m2 c2 : Nat} {most depth : Int} {st : BSt} (h : Rec w gw lo A n c A2 m2 c2 most depth st) {row : Option Nat} (hg : w.grownBy w' row) (hr : ∀ b, row = some b → w.heap.size ≤ b) :
    Rec w' gw lo A n c A2 m2 c2 most depth st :=
  h.below ⟨hg.os, hg.tape, hg.output, hg.size, fun i hi => hg.block i hi (fun e => by have := hr i e.symm; omega)⟩
theorem Span.cell {lo hi : Nat} {w w' : World} {p : Addr} {v : Value} (h : Span lo hi w w') (hp : ¬ (lo ≤ p.block ∧ p.block < hi)) (hc : w.cell? p = some v) : w'.cell? p = some v := by
  have lt := World.block_lt_of_cell? _ _ hc
  have := h.block p.block lt hp
  obtain ⟨b, o, s⟩ := p
  rw [← hc]
  unfold World.cell?
  simp only at this ⊢
  rw [this]
theorem Span.set {lo hi : Nat} {a w : World} {p : Addr} {u : Value} (h : Span lo hi a w) (hp : lo ≤ p.block ∧ p.block < hi) : Span lo hi a (w.setCell p u) :=
  ⟨h.os, h.tape, h.output, by simpa [World.setCell] using h.size, fun i hi' hn => (Below.heap_setCell w p u i (fun e => hn (by rw [e]; exact hp))).trans (h.block i hi' hn)⟩
/-- a new best is written -/
theorem Rec.put {w : World} {gw lo : Nat} {A : Option Addr} {n c : Nat} {A2 : Option Addr} {m2 c2 : Nat} {most depth : Int} {st : BSt} (h : Rec w gw lo A n c A2 m2 c2 most depth st) (hgl : gw < lo) {ps : List Int} {g k c1 : Nat} {x : Int} (hx : 0 ≤ x)
    (ho : w.ownsRow lo 2 1 (.slice (some ⟨g, 0, none⟩) k c1) k (ps.flatMap encI)) :
    Rec ((w.setCell ⟨gw, 4, none⟩ (.slice (some ⟨g, 0, none⟩) k c1)).setCell ⟨gw, 5, none⟩ (.int .i64 x)) gw lo A n c A2 m2 c2 most depth (some (ps, x)) := by
  obtain ⟨k0, k1, k2, k3, f4, f5, A1, n1, c3, l, e4, e5, hs⟩ := h
  have hne : (Value.slice (some ⟨g, 0, none⟩) k c1).ownBlock ≠ some gw := fun e => by have := (ho.lt _ e).1; omega
  refine ⟨?_, ?_, ?_, ?_, ?_, ?_, _, _, _, _, ?_, World.cell?_setCell_same _ _ _ ((World.cell?_setCell_other _ _ _ _ (by simp)).trans e5), ow_set hne (ow_set hne ho), rfl, hx⟩
  · exact (World.cell?_setCell_other _ _ _ _ (by simp)).trans ((World.cell?_setCell_other _ _ _ _ (by simp)).trans k0)
  · exact (World.cell?_setCell_other _ _ _ _ (by simp)).trans ((World.cell?_setCell_other _ _ _ _ (by simp)).trans k1)
  · exact (World.cell?_setCell_other _ _ _ _ (by simp)).trans ((World.cell?_setCell_other _ _ _ _ (by simp)).trans k2)
  · exact (World.cell?_setCell_other _ _ _ _ (by simp)).trans ((World.cell?_setCell_other _ _ _ _ (by simp)).trans k3)
  · simpa using f4
  · simpa using f5
  · exact (World.cell?_setCell_other _ _ _ _ (by simp)).trans (World.cell?_setCell_same _ _ _ e4)
/-- what the record's numbers say of the test ahead -/
theorem Rec.test {w : World} {gw lo : Nat} {A : Option Addr} {n c : Nat} {A2 : Option Addr} {m2 c2 : Nat} {most depth : Int} {st : BSt} (h : Rec w gw lo A n c A2 m2 c2 most depth st) (sum : Int) :
    ∃ A1 n1 c1 l, w.cell? ⟨gw, 4, none⟩ = some (.slice A1 n1 c1) ∧ w.cell? ⟨gw, 5, none⟩ = some (.int .i64 l) ∧ ((cutB sum st = true ∧ 0 ≤ l ∧ l ≤ sum) ∨ (cutB sum st = false ∧ l < 0) ∨ (cutB sum st = false ∧ 0 ≤ l ∧ sum < l)) := by
  obtain ⟨k0, k1, k2, k3, f4, f5, A1, n1, c3, l, e4, e5, hs⟩ := h
  refine ⟨A1, n1, c3, l, e4, e5, ?_⟩
  cases st with
  | none => exact .inr (.inl ⟨rfl, by have := hs.2.2.2; omega⟩)
  | some p =>
    obtain ⟨b, x⟩ := p
    obtain ⟨_, rfl, h0⟩ := hs
    by_cases hx : l ≤ sum
    · exact .inl ⟨by simp [cutB, hx], h0, hx⟩
    · exact .inr (.inr ⟨by simp [cutB]; omega, h0, by omega⟩)
/-- places are numbers below n -/
def inN (ps : List Int) (n : Nat) : Prop := ∀ x ∈ ps, 0 ≤ x ∧ x < (n : Int)
theorem costG_in {css : List (List Int)} (hv : validC css = true) {ps : List Int} (hp : inN ps css.length) (hl : ps.length < css.length) : 0 ≤ costG css ps ∧ costG css ps ≤ 60000 := by
  have h6 := (validC_len hv).2
  suffices h : ∀ k, k ≤ ps.length → 0 ≤ costK css ps k ∧ costK css ps k ≤ 10000 * k by
    have := h ps.length (Nat.le_refl _)
    rw [costG_K]; omega
  intro k
  induction k with
  | zero => intro _; simp [costK]
  | succ k ih =>
    intro hk
    have h1 := ih (by omega)
    have h2 := hp ps[k] (List.getElem_mem _)
    have h3 := cAt_in hv (i := k + 1) (k := (ps.getD k 0).toNat) (by omega) (by rw [List.getD, List.getElem?_eq_getElem (by omega)]; simp only [Option.getD_some]; omega)
    rw [costK_succ]
    omega
theorem l00Own_own (g c n : Nat) (xs : List Int) (w : World) (lo : Nat) (hn : n ≤ 2000000) (ho : w.ownsRow lo 2 1 (.slice (some ⟨g, 0, none⟩) n c) n (xs.flatMap encI)) :
    Calls Try.prog 49 #[.slice (some ⟨g, 0, none⟩) n c] w fun r w' => ∃ A1 c1, r = .returned (.slice A1 n c1) ∧ w'.ownsRow w.heap.size 2 1 (.slice A1 n c1) n (xs.flatMap encI) ∧ Below w.heap.size w w' := by
  rcases Nat.eq_zero_or_pos n with h0 | h0
  · subst h0
    have hl := own_len encI_len (by omega) ho
    have : xs = [] := List.eq_nil_of_length_eq_zero hl.symm
    subst this
    exact (l00Own_nil ⟨g, 0, none⟩ c w).mono fun r w' h => h
  · exact (l00Own_any (some ⟨g, 0, none⟩) n c xs w w.heap.size (Nat.le_refl _) h0 hn (own_sl encI_len (by omega) ho)).mono fun r w' ⟨g1, c1, h1, h2, h3⟩ => ⟨some ⟨g1, 0, none⟩, c1, h1, h2, h3⟩
set_option maxHeartbeats 8000000 in
set_option maxRecDepth 100000 in
theorem walk_any (gw lo : Nat) (A : Option Addr) (n c : Nat) (rs : List Row) (A2 : Option Addr) (m2 c2 : Nat) (ds : List Int) (most depth : Int) (B : Nat) (hBg : B ≤ gw) (hgl : gw < lo) (hv : validC (cont rs) = true) (hnl : rs.length = n) (hm2 : m2 = 0 ∨ m2 + 1 = n) (hd : bnd ds 1000) :
    ∀ (m : Nat) (ps : List Int) (g c1 : Nat) (sum : Int) (st : BSt) (w : World), ps.length + m + 1 = n → inN ps n → Hid (sum = costG (cont rs) ps) → lo ≤ w.heap.size → SlS w B A n rs → Sl w B 1 encI A2 m2 ds →
      Rec w gw lo A n c A2 m2 c2 most depth st → w.ownsRow lo 2 1 (.slice (some ⟨g, 0, none⟩) ps.length c1) ps.length (ps.flatMap encI) →
      Calls Try.prog 45 #[.pointer (some ⟨gw, 0, none⟩), .slice (some ⟨g, 0, none⟩) ps.length c1, .int .i64 sum] w fun r w' => r = .returned (.tuple #[]) ∧ Rec w' gw lo A n c A2 m2 c2 most depth (walkB (cont rs) (fitsF ds most depth) m ps sum st) ∧ Span gw (gw + 1) w w' := by
  have hlc : (cont rs).length = n := by rw [cont_len, hnl]
  have hn6 := validC_len hv
  rw [hlc] at hn6
  intro m
  induction m with
  | zero =>
    intro ps g c1 sum st w hlen hin hsum hlo hx hy hR ho
    have hsb := costG_in hv (ps := ps) (by rw [hlc]; exact hin) (by omega)
    rw [← hsum.out] at hsb
    obtain ⟨sb0, sb1⟩ := hsb
    have hpin : inP ps := fun x hx => by have := hin x hx; omega
    have hfit := fits_any gw A2 m2 c2 ds most depth (some ⟨g, 0, none⟩) ps.length c1 ps w w.heap.size (Nat.le_refl _) (by omega) (own_sl encI_len (by omega) ho) (hy.more (by omega)) (by omega) hd hpin hR.k1 hR.k2 hR.k3
    obtain ⟨A1, n1, c3, l, e4, e5, ht⟩ := hR.test sum
    have k0 := hR.k0
    have f4 := hR.f4
    have f5 := hR.f5
    have lt := World.block_lt_of_cell? _ _ k0
    simp only at lt
    rcases ht with ⟨hc, l0, l1⟩ | hc
    · have E : Hid (walkB (cont rs) (fitsF ds most depth) 0 ps sum st = st) := by simp [Hid, walkB, hc]
      have hp5 : ps.length ≤ 5 := by omega
      generalize ps.length = pl at hp5
      clear hfit hx hy ho hin hpin hlen hc
      go_enter Try.func45, Try.ntmps45
      go_wp2
      refine bodyPost_ret (results_none rfl _ _ _) rfl ?_
      rw [E.out]
      exact ⟨rfl, hR, Span.refl _ _ _⟩
    · have hc2 : cutB sum st = false := by rcases hc with h | h <;> exact h.1
      have hc3 : l < 0 ∨ (0 ≤ l ∧ sum < l) := by rcases hc with h | h; exact .inl h.2; exact .inr h.2
      cases hF : fitsF ds most depth ps with
      | false =>
        have E : Hid (walkB (cont rs) (fitsF ds most depth) 0 ps sum st = st) := by simp [Hid, walkB, hc2, hF]
        rw [hF] at hfit
        have hp5 : ps.length + 1 = n := by omega
        generalize ps.length = pl at hp5 hfit
        clear hx hy ho hin hpin hlen hc hc2
        subst hp5
        rcases hc3 with hl | ⟨hl, hl2⟩
        all_goals go_enter Try.func45, Try.ntmps45
        all_goals go_wp2_with (go_at_call 48; refine hfit.mono ?_; rintro r w3 ⟨rfl, b3⟩)
        all_goals refine bodyPost_ret (results_none rfl _ _ _) rfl ?_
        all_goals rw [E.out]
        all_goals exact ⟨rfl, hR.below b3, Span.ofBelow b3⟩
      | true =>
        have E : Hid (walkB (cont rs) (fitsF ds most depth) 0 ps sum st = some (ps, sum)) := by simp [Hid, walkB, hc2, hF]
        rw [hF] at hfit
        have hp5 : ps.length + 1 = n := by omega
        have hfin : ∀ w3, Below w.heap.size w w3 → Rec ((w3.setCell ⟨gw, 4, none⟩ (.slice (some ⟨g, 0, none⟩) ps.length c1)).setCell ⟨gw, 5, none⟩ (.int .i64 sum)) gw lo A n c A2 m2 c2 most depth (some (ps, sum)) := fun w3 b3 => (hR.below b3).put hgl sb0 (own_below ho b3)
        generalize ps.length = pl at hp5 hfit hfin
        clear hx hy ho hin hpin hlen hc hc2
        subst hp5
        rcases hc3 with hl | ⟨hl, hl2⟩
        all_goals go_enter Try.func45, Try.ntmps45
        all_goals go_wp2_with (go_at_call 48; refine hfit.mono ?_; rintro r w3 ⟨rfl, b3⟩; replace e4 := below_cell e4 b3; replace e5 := below_cell e5 b3; replace f4 := (b3.frozen (p := ⟨gw, 4, none⟩) lt).trans f4; replace f5 := (b3.frozen (p := ⟨gw, 5, none⟩) lt).trans f5)
        all_goals refine bodyPost_ret (results_none rfl _ _ _) rfl ?_
        all_goals rw [E.out]
        all_goals exact ⟨rfl, hfin w3 b3, ((Span.ofBelow b3).set (by simp)).set (by simp)⟩
  | succ m ih =>
    intro ps g c1 sum st w hlen hin hsum hlo hx hy hR ho
    have hsb := costG_in hv (ps := ps) (by rw [hlc]; exact hin) (by omega)
    rw [← hsum.out] at hsb
    obtain ⟨sb0, sb1⟩ := hsb
    obtain ⟨A1, n1, c3, l, e4, e5, ht⟩ := hR.test sum
    have k0 := hR.k0
    have lt := World.block_lt_of_cell? _ _ k0
    simp only at lt
    rcases ht with ⟨hc, l0, l1⟩ | hc
    · have E : Hid (walkB (cont rs) (fitsF ds most depth) (m + 1) ps sum st = st) := by simp [Hid, walkB, hc]
      have hp5 : ps.length ≤ 5 := by omega
      generalize ps.length = pl at hp5
      clear hx hy ho hin hlen hc ih
      go_enter Try.func45, Try.ntmps45
      go_wp2
      refine bodyPost_ret (results_none rfl _ _ _) rfl ?_
      rw [E.out]
      exact ⟨rfl, hR, Span.refl _ _ _⟩
    · have hc2 : cutB sum st = false := by rcases hc with h | h <;> exact h.1
      have hc3 : l < 0 ∨ (0 ≤ l ∧ sum < l) := by rcases hc with h | h; exact .inl h.2; exact .inr h.2
      have E : Hid (walkB (cont rs) (fitsF ds most depth) (m + 1) ps sum st = wrowB (cont rs) (fitsF ds most depth) m ps sum st n) := by rw [Hid, walkB, hc2, hlc]; rfl
      have hne : ((ps.length : Int) + 1 == (n : Int)) = false := by simp; omega
      clear hc hc2
      rcases hc3 with hl | ⟨hl, hl2⟩
      all_goals go_enter Try.func45, Try.ntmps45
      all_goals go_wp2
      all_goals
        go_loopw [7] (fun i wl => ∃ p : Nat, p ≤ n ∧ i = .int .i64 p ∧ Rec wl gw lo A n c A2 m2 c2 most depth (wrowB (cont rs) (fitsF ds most depth) m ps sum st p) ∧ Span gw (gw + 1) w wl) (fun i _ => n - (intOf i).toNat)
        case atStart => exact ⟨0, Nat.zero_le _, rfl, hR, Span.refl _ _ _⟩
        case round =>
          obtain ⟨p, hp, rfl, hRr, hs⟩ := hrel
          have t0 := hRr.k0
          by_cases hpn : p < n
          · by_cases hps : p = ps.length + 1
            · have E2 : wrowB (cont rs) (fitsF ds most depth) m ps sum st (p + 1) = wrowB (cont rs) (fitsF ds most depth) m ps sum st p := by rw [wrowB_succ, if_pos hps]
              rw [← E2] at hRr
              clear hx hy ho ih E2
              subst hps
              go_wp2
              go_roundw
              all_goals first | exact ⟨ps.length + 1 + 1, by omega, by go_num, hRr, hs⟩ | exact ⟨⟨ps.length + 1 + 1, by omega, by go_num, hRr, hs⟩, by simp [intOf]; omega⟩ | (simp [intOf]; omega)
            · have hbB : Below B w wr := hs.toBelow (Below.refl _ _) hBg (by omega)
              obtain ⟨b, off, ci, bi, oi, rfl, hbb, c0, hbi, d0⟩ := (hx.below hbB).cell hv (show ps.length + 1 < n by omega) hpn
              have hvb := cAt_in hv (i := ps.length + 1) (k := p) (by omega) (by omega)
              have E2 : Hid (wrowB (cont rs) (fitsF ds most depth) m ps sum st (p + 1) = walkB (cont rs) (fitsF ds most depth) m (ps ++ [(p : Int)]) (sum + cAt (cont rs) (ps.length + 1) p) (wrowB (cont rs) (fitsF ds most depth) m ps sum st p)) := by rw [Hid, wrowB_succ, if_neg hps]
              have hsum2 : Hid (sum + cAt (cont rs) (ps.length + 1) p = costG (cont rs) (ps ++ [(p : Int)])) := by rw [Hid, costG_snoc, hsum.out]
              generalize cAt (cont rs) (ps.length + 1) p = v at d0 hvb E2 hsum2
              generalize wrowB (cont rs) (fitsF ds most depth) m ps sum st p = stp at hRr E2
              have ih2 : ∀ (g c1 : Nat) (W : World), Below wr.heap.size wr W → W.ownsRow lo 2 1 (.slice (some ⟨g, 0, none⟩) (ps.length + 1) c1) (ps.length + 1) (ps.flatMap encI ++ [.int .i64 (p : Int)]) →
                  Calls Try.prog 45 #[.pointer (some ⟨gw, 0, none⟩), .slice (some ⟨g, 0, none⟩) (ps.length + 1) c1, .int .i64 (sum + v)] W fun r w' => r = .returned (.tuple #[]) ∧ Rec w' gw lo (some ⟨b, off, none⟩) n c A2 m2 c2 most depth (walkB (cont rs) (fitsF ds most depth) m (ps ++ [(p : Int)]) (sum + v) stp) ∧ Span gw (gw + 1) W w' := by
                intro g c1 W hW hoW
                have hz := hs.size
                have hbW : Below B w W := hbB.trans (hW.mono (by omega))
                have h5 : W.ownsRow lo 2 1 (.slice (some ⟨g, 0, none⟩) (ps ++ [(p : Int)]).length c1) (ps ++ [(p : Int)]).length ((ps ++ [(p : Int)]).flatMap encI) := by
                  rw [snoc1] at hoW
                  simpa using hoW
                have := ih (ps ++ [(p : Int)]) g c1 (sum + v) stp W (by simp; omega) (fun x hxx => by
                  rcases List.mem_append.1 hxx with h | h
                  · exact hin x h
                  · simp at h; omega) hsum2 (by have := hW.size; omega) (hx.below hbW) (hy.below hbW) (hRr.below hW) h5
                simpa using this
              have hor : wr.ownsRow lo 2 1 (.slice (some ⟨g, 0, none⟩) ps.length c1) ps.length (ps.flatMap encI) := hs.own ho (fun q hq => by have := (ho.lt q hq).1; omega)
              have hord : wr.drew.ownsRow lo 2 1 (.slice (some ⟨g, 0, none⟩) ps.length c1) ps.length (ps.flatMap encI) := hor
              have hlor : lo ≤ wr.heap.size := by have := hs.size; omega
              have ltr := World.block_lt_of_cell? _ _ t0
              simp only at ltr
              have i0 : (0 : Int) ≤ (p : Int) := by omega
              have i1 : (p : Int) < (n : Int) := by omega
              have i2 : (ps.length : Int) + 1 < (n : Int) := by omega
              have i3 : (0 : Int) ≤ (ps.length : Int) + 1 := by omega
              have hpsI : ¬ ((p : Int) = (ps.length : Int) + 1) := by omega
              have hw : IntKind.i64.wrap (sum + v) = sum + v := IntWalk.i64_in _ (by omega)
              have hl5 : ps.length ≤ 5 := by omega
              obtain ⟨ii, hi, hz0, hz1, hz2⟩ := info_parts int_info
              clear hx hy ih ho hin hsum hsum2 hvb hbB hlen e4 e5
              go_wp2_with fail
              go_region_held3 (fun W => W.cell? ⟨gw, 0, none⟩ = some (.slice (some ⟨b, off, none⟩) n c) ∧ W.cell? ⟨b, off + (ps.length + 1), none⟩ = some (.slice (some ⟨bi, oi, none⟩) n ci) ∧ W.cell? ⟨bi, oi + p, none⟩ = some (.int .i64 v))
                (first
                  | go_keep
                  | (go_split_ands; exact ⟨R4.k0, S4.cell (by simp only; omega) (by assumption), S4.cell (by simp only; omega) (by assumption)⟩)
                  | (go_split_ands; exact ⟨hg3.cell (by assumption) (fun e => by have := lo5 _ e.symm; simp only at this; omega), hg3.cell (by assumption) (fun e => by have := lo5 _ e.symm; simp only at this; omega), hg3.cell (by assumption) (fun e => by have := lo5 _ e.symm; simp only at this; omega)⟩)
                  | (go_split_ands; exact ⟨below_cell (by assumption) b5, below_cell (by assumption) b5, below_cell (by assumption) b5⟩))
                (first
                  | (go_at_call 49; refine (l00Own_own g c1 ps.length ps wr.drew lo (by omega) hord).mono ?_; rintro r w5 ⟨A5, c5, rfl, o5, b5⟩; have lo5 : ∀ q, (Value.slice A5 ps.length c5).ownBlock = some q → wr.heap.size ≤ q := fun q hq => (o5.lt q hq).1; have bw5 : Below wr.heap.size wr w5 := (Below.refl _ _).drew.trans b5; replace o5 := o5.mono hlor)
                  | (go_at_call 49; refine (l00Own_own g c1 ps.length ps (wr.alloc (.cells #[.int .i64 (p : Int)] 2)).drew lo (by omega) (hor.alloc _)).mono ?_; rintro r w5 ⟨A5, c5, rfl, o5, b5⟩; have lo5 : ∀ q, (Value.slice A5 ps.length c5).ownBlock = some q → wr.heap.size ≤ q := fun q hq => by have := (o5.lt q hq).1; simp at this; omega
                     have bw5 : Below wr.heap.size wr w5 := (((Below.refl _ _).alloc (Nat.le_refl _) _).drew).trans (b5.mono (by simp))
                     have q5 : w5.cell? ⟨wr.heap.size, 0, none⟩ = some (.int .i64 (p : Int)) := below_cell (by go_simp) b5
                     replace o5 := o5.mono (show lo ≤ _ by simp; omega))
                  | (refine step_append_lies _ (by rfl) _ _ _ (by rfl) lo 2 ii _ 1 8 Try.underlying26 hi hz0 hz1 hz2 rfl (by omega) (.slice A5 ps.length c5) ps.length (ps.flatMap encI) (by rfl) (o5.alloc _) ⟨w5.heap.size, 0, none⟩ 1 1 [.int .i64 (p : Int)] (by rfl) (by rfl) (World.news_of_block (cs := #[.int .i64 (p : Int)]) (t := 2) (fr := (0, 0)) (heap_alloc_new w5 _)) (by simp [Value.oneCell']) (by omega) (by simp only [maxLen]; omega) (by omega) (by simp; have := bw5.size; omega) (w5.heap.size + 1) (by simp) ?_
                     intro gg cap w3 ho3 hg3 hat3 hlt3
                     have bw3 : Below wr.heap.size wr w3 := (bw5.alloc bw5.size _).grown hg3 (by simp; have := bw5.size; omega) (fun q hq => lo5 q hq))
                  | (refine step_append_lies _ (by rfl) _ _ _ (by rfl) lo 2 ii _ 1 8 Try.underlying26 hi hz0 hz1 hz2 rfl (by omega) (.slice A5 ps.length c5) ps.length (ps.flatMap encI) (by rfl) o5 ⟨wr.heap.size, 0, none⟩ 1 1 [.int .i64 (p : Int)] (by rfl) (by rfl) (fun j u hj => by
                       match j, hj with
                       | 0, hj => simp at hj; subst hj; exact q5) (by simp [Value.oneCell']) (by omega) (by simp only [maxLen]; omega) (by omega) (by have := bw5.size; omega) w5.heap.size rfl ?_
                     intro gg cap w3 ho3 hg3 hat3 hlt3
                     have bw3 : Below wr.heap.size wr w3 := bw5.grown hg3 bw5.size (fun q hq => lo5 q hq))
                  | (go_at_call 45; refine (ih2 gg cap w3 bw3 ho3).mono ?_; rintro r w4 ⟨rfl, R4, S4⟩
                     have hs4 := (hs.trans (Span.ofBelow bw3)).trans S4
                     rw [← E2.out] at R4))
              all_goals go_wp2_with fail
              all_goals exact ⟨⟨p + 1, by omega, by go_num, R4, hs4⟩, by simp [intOf]; omega⟩
          · have : p = n := by omega
            subst this
            clear hx hy ho ih
            go_wp2
            refine bodyPost_end (results_none rfl _ _ _) rfl ?_
            rw [E.out]
            exact ⟨rfl, hRr, hs⟩
end Go.Proofs.Ytfbgglhjlbdfiaa
