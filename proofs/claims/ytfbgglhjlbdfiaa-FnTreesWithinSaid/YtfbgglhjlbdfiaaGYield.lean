/-
  The program's cheapest tree: what is done with each tree. No condition.
-/
import Derived.Test.YtfbgglhjlbdfiaaGBest2
namespace Go.Proofs.Ytfbgglhjlbdfiaa
open Go.RowKit
set_option maxHeartbeats 400000

/-- the program's two variables: the best tree so far in block gb, its cost in the next -/
structure Two (w : World) (gb lo : Nat) (st : BSt) : Prop where
  f4 : w.frozen? ⟨gb, 0, none⟩ = false
  f5 : w.frozen? ⟨gb + 1, 0, none⟩ = false
  best : ∃ A1 n1 c1 l, w.cell? ⟨gb, 0, none⟩ = some (.slice A1 n1 c1) ∧ w.cell? ⟨gb + 1, 0, none⟩ = some (.int .i64 l) ∧
    (match st with | none => l = -1 | some (b, x) => w.ownsRow lo 2 1 (.slice A1 n1 c1) n1 (b.flatMap encI) ∧ l = x ∧ 0 ≤ x)
theorem Two.below {w w' : World} {gb lo : Nat} {st : BSt} (h : Two w gb lo st) (hb : Below w.heap.size w w') : Two w' gb lo st := by
  obtain ⟨f4, f5, A1, n1, c1, l, e4, e5, hs⟩ := h
  have l4 := World.block_lt_of_cell? _ _ e4
  have l5 := World.block_lt_of_cell? _ _ e5
  simp only at l4 l5
  refine ⟨(hb.frozen (p := ⟨gb, 0, none⟩) l4).trans f4, (hb.frozen (p := ⟨gb + 1, 0, none⟩) l5).trans f5, A1, n1, c1, l, below_cell e4 hb, below_cell e5 hb, ?_⟩
  cases st with
  | none => exact hs
  | some p => exact ⟨own_below hs.1 hb, hs.2⟩
theorem Two.put {w : World} {gb lo : Nat} {st : BSt} (h : Two w gb lo st) (hgl : gb + 1 < lo) {ps : List Int} {g k c1 : Nat} {x : Int} (hx : 0 ≤ x) (ho : w.ownsRow lo 2 1 (.slice (some ⟨g, 0, none⟩) k c1) k (ps.flatMap encI)) :
    Two ((w.setCell ⟨gb, 0, none⟩ (.slice (some ⟨g, 0, none⟩) k c1)).setCell ⟨gb + 1, 0, none⟩ (.int .i64 x)) gb lo (some (ps, x)) := by
  obtain ⟨f4, f5, A1, n1, c3, l, e4, e5, hs⟩ := h
  have hne : ∀ q, q < lo → (Value.slice (some ⟨g, 0, none⟩) k c1).ownBlock ≠ some q := fun q hq e => by have := (ho.lt _ e).1; omega
  refine ⟨by simpa using f4, by simpa using f5, _, _, _, _, ?_, World.cell?_setCell_same _ _ _ ((World.cell?_setCell_other _ _ _ _ (by simp)).trans e5), ow_set (hne _ (by simp only; omega)) (ow_set (hne _ (by simp only; omega)) ho), rfl, hx⟩
  exact (World.cell?_setCell_other _ _ _ _ (by simp)).trans (World.cell?_setCell_same _ _ _ e4)
theorem Two.test {w : World} {gb lo : Nat} {st : BSt} (h : Two w gb lo st) (x : Int) :
    ∃ A1 n1 c1 l, w.cell? ⟨gb, 0, none⟩ = some (.slice A1 n1 c1) ∧ w.cell? ⟨gb + 1, 0, none⟩ = some (.int .i64 l) ∧ ((betterB x st = false ∧ 0 ≤ l ∧ l ≤ x) ∨ (betterB x st = true ∧ l < 0) ∨ (betterB x st = true ∧ 0 ≤ l ∧ x < l)) := by
  obtain ⟨f4, f5, A1, n1, c3, l, e4, e5, hs⟩ := h
  refine ⟨A1, n1, c3, l, e4, e5, ?_⟩
  cases st with
  | none => exact .inr (.inl ⟨rfl, by simp only at hs; omega⟩)
  | some p =>
    obtain ⟨b, y⟩ := p
    obtain ⟨_, rfl, h0⟩ := hs
    by_cases hx : x < l
    · exact .inr (.inr ⟨by simp [betterB, hx], h0, hx⟩)
    · exact .inl ⟨by simp [betterB]; omega, h0, by omega⟩
set_option maxHeartbeats 4000000 in
theorem yield_any (fa : Nat) (caps : Array Value) (KA : World → Prop) (al : List Int → Bool) (gc ga gb lo : Nat) (A : Option Addr) (n c : Nat) (rs : List Row) (B : Nat) (hgl : gb + 1 < lo) (hv : validC (cont rs) = true)
    (hcf : ∀ (args : Array Value) (W : World), (callFunc fa args).run Try.prog W = .ok (.enter fa args) W)
    (HA : ∀ (W : World) (A' : Option Addr) (m' c' : Nat) (ps : List Int), KA W → Sl W W.heap.size 1 encI A' m' ps → parC (cont rs) ps = 0 → isTree ps = true → Calls Try.prog fa (#[.slice A' m' c'] ++ caps) W fun r w' => r = .returned (.bool (al ps)) ∧ Below W.heap.size W w')
    (A' : Option Addr) (m' c' : Nat) (ps : List Int) (st : BSt) (w : World) (hB : B ≤ w.heap.size) (hlo : lo ≤ w.heap.size) (hm0 : 0 < m') (hx : SlS w B A n rs) (hy : Sl w w.heap.size 1 encI A' m' ps) (hp : parC (cont rs) ps = 0) (ht : isTree ps = true) (hK : KA w)
    (k1 : w.cell? ⟨gc, 0, none⟩ = some (.slice A n c)) (k3 : w.cell? ⟨ga, 0, none⟩ = some (.func (.func fa) #[] caps)) (hT : Two w gb lo st) :
    Calls Try.prog 44 #[.slice A' m' c', .pointer (some ⟨gc, 0, none⟩), .pointer (some ⟨gb + 1, 0, none⟩), .pointer (some ⟨ga, 0, none⟩), .pointer (some ⟨gb, 0, none⟩)] w
      fun r w' => r = .returned (.tuple #[]) ∧ Two w' gb lo (leafB (cont rs) (fun qs => isTree qs && al qs) ps st) ∧ Span gb (gb + 2) w w' := by
  have hc := treeCost_any A n c rs A' m' c' ps w w.heap.size (Nat.le_refl _) (hx.more hB) hy hp
  have hps := hy.len
  have hpz := parC_zero hp
  have hm5 : m' ≤ 5 := by have := validC_len hv; omega
  have hcb := costG_in hv (ps := ps) (fun x hxx => by have := hpz.2.2 x hxx; omega) (by omega)
  have EL : Hid (leafB (cont rs) (fun qs => isTree qs && al qs) ps st = if al ps && betterB (costG (cont rs) ps) st then some (ps, costG (cont rs) ps) else st) := by simp [Hid, leafB, ht]
  obtain ⟨A1, n1, c1, l, e4, e5, hts⟩ := hT.test (costG (cont rs) ps)
  have ha := HA w A' m' c' ps hK hy hp ht
  have hcl := fun W (h : Sl W w.heap.size 1 encI A' m' ps) hW => clone_any A' m' c' ps W w.heap.size hW hm0 (by omega) h
  have f4 := hT.f4
  have f5 := hT.f5
  have l4 := World.block_lt_of_cell? _ _ e4
  have l5 := World.block_lt_of_cell? _ _ e5
  simp only at l4 l5
  generalize costG (cont rs) ps = v at hc hcb EL hts
  obtain ⟨v0, v1⟩ := hcb
  rcases hts with ⟨hb, hl⟩ | hts
  · have E : Hid (leafB (cont rs) (fun qs => isTree qs && al qs) ps st = st) := by rw [Hid, EL.out, hb, Bool.and_false]; rfl
    obtain ⟨hl0, hl1⟩ := hl
    clear EL hb ha HA hcl hx hy
    go_enter Try.func44, Try.ntmps44
    go_wp2_with (go_at_call 25; refine hc.mono ?_; rintro r w1 ⟨rfl, rfl⟩)
    refine bodyPost_end (results_none rfl _ _ _) rfl ?_
    rw [E.out]
    exact ⟨rfl, hT, Span.refl _ _ _⟩
  · have hb : betterB v st = true := by rcases hts with h | h <;> exact h.1
    have hl : l < 0 ∨ (0 ≤ l ∧ v < l) := by rcases hts with h | h; exact .inl h.2; exact .inr h.2
    clear hts
    cases hal : al ps with
    | false =>
      have E : Hid (leafB (cont rs) (fun qs => isTree qs && al qs) ps st = st) := by rw [Hid, EL.out, hal]; rfl
      rw [hal] at ha
      clear EL hb HA hcl hx hy hal
      rcases hl with hl0 | ⟨hl0, hl1⟩
      all_goals go_enter Try.func44, Try.ntmps44
      all_goals go_wp2_with (first
        | (go_at_call 25; refine hc.mono ?_; rintro r w1 ⟨rfl, rfl⟩)
        | (refine ha.mono ?_; rintro r w2 ⟨rfl, b2⟩))
      all_goals refine bodyPost_end (results_none rfl _ _ _) rfl ?_
      all_goals rw [E.out]
      all_goals exact ⟨rfl, hT.below b2, Span.ofBelow b2⟩
    | true =>
      have E : Hid (leafB (cont rs) (fun qs => isTree qs && al qs) ps st = some (ps, v)) := by rw [Hid, EL.out, hal, hb]; rfl
      rw [hal] at ha
      clear EL hb HA hx hal
      rcases hl with hl0 | ⟨hl0, hl1⟩
      all_goals go_enter Try.func44, Try.ntmps44
      all_goals go_wp2_with (first
        | (go_at_call 25; refine hc.mono ?_; rintro r w1 ⟨rfl, rfl⟩)
        | (go_at_call 32; refine (hcl _ (hy.below b2) b2.size).mono ?_; rintro r w3 ⟨g3, c3, rfl, o3, b3⟩
           have b13 := b2.trans (b3.mono b2.size)
           have hfin := (hT.below b13).put hgl v0 (o3.mono (Nat.le_trans hlo b2.size))
           replace e4 := below_cell e4 b13
           replace e5 := below_cell e5 b13
           replace f4 := (b13.frozen (p := ⟨gb, 0, none⟩) l4).trans f4
           replace f5 := (b13.frozen (p := ⟨gb + 1, 0, none⟩) l5).trans f5)
        | (refine ha.mono ?_; rintro r w2 ⟨rfl, b2⟩))
      all_goals refine bodyPost_end (results_none rfl _ _ _) rfl ?_
      all_goals rw [E.out]
      all_goals exact ⟨rfl, hfin, ((Span.ofBelow b13).set (by simp)).set (by simp)⟩
end Go.Proofs.Ytfbgglhjlbdfiaa
