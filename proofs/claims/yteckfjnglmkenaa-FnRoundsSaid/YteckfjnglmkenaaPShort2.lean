/-
  ShortestRound: the reference's walk over all rounds. No condition.
-/
import Derived.Test.YteckfjnglmkenaaPShort
import Derived.StillTailTactics
namespace Go.Proofs.Yteckfjnglmkenaa
open Go.RowKit
set_option maxHeartbeats 400000

/-- all blocks but one and one row's are left as they were -/
structure Two2 (gs : Nat) (row : Option Nat) (w w' : World) : Prop where
  os : w'.os = w.os
  tape : w'.tape = w.tape
  output : w'.output = w.output
  size : w.heap.size ≤ w'.heap.size
  block : ∀ i, i < w.heap.size → i ≠ gs → some i ≠ row → w'.heap[i]? = w.heap[i]?
namespace Two2
variable {gs : Nat} {row row' : Option Nat} {a w w' : World}
theorem refl (gs : Nat) (row : Option Nat) (w : World) : Two2 gs row w w := ⟨rfl, rfl, rfl, Nat.le_refl _, fun _ _ _ _ => rfl⟩
theorem trans (h : Two2 gs row a w) (g : Two2 gs row' w w') (hr : row' = row ∨ ∀ b, row' = some b → a.heap.size ≤ b) : Two2 gs row a w' :=
  ⟨g.os.trans h.os, g.tape.trans h.tape, g.output.trans h.output, Nat.le_trans h.size g.size, fun i hi h1 h2 => (g.block i (Nat.lt_of_lt_of_le hi h.size) h1 (fun e => by
    rcases hr with hr | hr
    · exact h2 (by rw [e, hr])
    · have := hr i e.symm; omega)).trans (h.block i hi h1 h2)⟩
theorem ofBelow (h : Below a.heap.size a w) (gs : Nat) (row : Option Nat) : Two2 gs row a w := ⟨h.os, h.tape, h.output, h.size, fun i hi _ _ => h.block i hi⟩
theorem ofGrown (h : a.grownBy w row) (gs : Nat) : Two2 gs row a w := ⟨h.os, h.tape, h.output, h.size, fun i hi _ hn => h.block i hi hn⟩
theorem set (h : Two2 gs row a w) (j : Nat) (u : Value) : Two2 gs row a (w.setCell ⟨gs, j, none⟩ u) :=
  ⟨h.os, h.tape, h.output, by simpa [World.setCell] using h.size, fun i hi h1 h2 => (Below.heap_setCell w ⟨gs, j, none⟩ u i (fun e => h1 e)).trans (h.block i hi h1 h2)⟩
theorem cell {p : Addr} {v : Value} (h : Two2 gs row a w) (h1 : p.block ≠ gs) (h2 : some p.block ≠ row) (hc : a.cell? p = some v) : w.cell? p = some v := by
  have lt := World.block_lt_of_cell? _ _ hc
  have := h.block p.block lt h1 h2
  obtain ⟨b, o, s⟩ := p
  rw [← hc]
  unfold World.cell?
  simp only at this ⊢
  rw [this]
theorem own {l T k : Nat} {v : Value} {n : Nat} {xs : List Value} (h : Two2 gs row a w) (o : a.ownsRow l T k v n xs) (hv : ∀ b, v.ownBlock = some b → b ≠ gs ∧ some b ≠ row) : w.ownsRow l T k v n xs :=
  ⟨o.1, o.2.imp id fun ⟨g, cap, cur, e, hg, hh, r⟩ => ⟨g, cap, cur, e, hg, (h.block g (by
    rcases Nat.lt_or_ge g a.heap.size with hlt | hge
    · exact hlt
    · rw [Array.getElem?_eq_none hge] at hh; cases hh) (hv g (by rw [e]; rfl)).1 (hv g (by rw [e]; rfl)).2).trans hh, r⟩⟩
theorem toBelow {B : Nat} {a0 : World} (h0 : Below B a0 a) (h : Two2 gs row a w) (hB : B ≤ gs) (hr : ∀ b, row = some b → B ≤ b) (hz : B ≤ a.heap.size) : Below B a0 w :=
  ⟨h.os.trans h0.os, h.tape.trans h0.tape, h.output.trans h0.output, Nat.le_trans h0.size h.size, fun i hi => (h.block i (Nat.lt_of_lt_of_le hi hz) (by omega) (fun e => by have := hr i e.symm; omega)).trans (h0.block i hi)⟩
end Two2
/-- the walk's record: paths, the round so far, the best round, its length -/
structure RecS (w : World) (gs lo : Nat) (A : Option Addr) (n c : Nat) (Ar : Option Addr) (L cr : Nat) (rd : List Int) (st : RSt) : Prop where
  k0 : w.cell? ⟨gs, 0, none⟩ = some (.slice A n c)
  k1 : w.cell? ⟨gs, 1, none⟩ = some (.slice Ar L cr)
  row : w.ownsRow lo 2 1 (.slice Ar L cr) L (rd.flatMap encI)
  nr : (Value.slice Ar L cr).ownBlock ≠ some gs
  f1 : w.frozen? ⟨gs, 1, none⟩ = false
  f2 : w.frozen? ⟨gs, 2, none⟩ = false
  f3 : w.frozen? ⟨gs, 3, none⟩ = false
  best : ∃ A1 n1 c1 l, w.cell? ⟨gs, 2, none⟩ = some (.slice A1 n1 c1) ∧ w.cell? ⟨gs, 3, none⟩ = some (.int .i64 l) ∧
    (match st with | none => l = -1 | some (b, x) => ((w.ownsRow lo 2 1 (.slice A1 n1 c1) n1 (b.flatMap encI) ∧ ∀ b, (Value.slice A1 n1 c1).ownBlock = some b → (Value.slice Ar L cr).ownBlock ≠ some b) ∧ (Value.slice A1 n1 c1).ownBlock ≠ some gs) ∧ l = x ∧ 0 ≤ x)
theorem RecS.below {w w' : World} {gs lo : Nat} {A : Option Addr} {n c : Nat} {Ar : Option Addr} {L cr : Nat} {rd : List Int} {st : RSt} (h : RecS w gs lo A n c Ar L cr rd st) (hb : Below w.heap.size w w') : RecS w' gs lo A n c Ar L cr rd st := by
  obtain ⟨k0, k1, row, nr, f1, f2, f3, A1, n1, c1, l, e2, e3, hs⟩ := h
  have lt := World.block_lt_of_cell? _ _ k0
  simp only at lt
  refine ⟨below_cell k0 hb, below_cell k1 hb, own_below row hb, nr, (hb.frozen (p := ⟨gs, 1, none⟩) lt).trans f1, (hb.frozen (p := ⟨gs, 2, none⟩) lt).trans f2, (hb.frozen (p := ⟨gs, 3, none⟩) lt).trans f3, A1, n1, c1, l, below_cell e2 hb, below_cell e3 hb, ?_⟩
  cases st with
  | none => exact hs
  | some p => exact ⟨⟨⟨own_below hs.1.1.1 hb, hs.1.1.2⟩, hs.1.2⟩, hs.2⟩
/-- what the record's numbers say of the test ahead -/
theorem RecS.cut {w : World} {gs lo : Nat} {A : Option Addr} {n c : Nat} {Ar : Option Addr} {L cr : Nat} {rd : List Int} {st : RSt} (h : RecS w gs lo A n c Ar L cr rd st) (sum : Int) :
    ∃ l, w.cell? ⟨gs, 3, none⟩ = some (.int .i64 l) ∧ ((cutR sum st = true ∧ 0 ≤ l ∧ l ≤ sum) ∨ (cutR sum st = false ∧ (l < 0 ∨ (0 ≤ l ∧ sum < l)))) ∧ ∀ x, (lessR x st = true ∧ (l < 0 ∨ (0 ≤ l ∧ x < l))) ∨ (lessR x st = false ∧ 0 ≤ l ∧ l ≤ x) := by
  obtain ⟨k0, k1, row, nr, f1, f2, f3, A1, n1, c1, l, e2, e3, hs⟩ := h
  refine ⟨l, e3, ?_⟩
  cases st with
  | none =>
    simp only at hs
    exact ⟨.inr ⟨rfl, .inl (by omega)⟩, fun x => .inl ⟨rfl, .inl (by omega)⟩⟩
  | some p =>
    obtain ⟨b, y⟩ := p
    obtain ⟨_, rfl, h0⟩ := hs
    refine ⟨?_, fun x => ?_⟩
    · by_cases hc : l ≤ sum
      · exact .inl ⟨by simp [cutR, hc], h0, hc⟩
      · exact .inr ⟨by simp [cutR]; omega, .inr ⟨h0, by omega⟩⟩
    · by_cases hc : x < l
      · exact .inl ⟨by simp [lessR, hc], .inr ⟨h0, hc⟩⟩
      · exact .inr ⟨by simp [lessR]; omega, h0, by omega⟩
/-- a new best is written: first its length, then a copy of the round -/
theorem RecS.put {w w2 : World} {gs lo : Nat} {A : Option Addr} {n c : Nat} {Ar : Option Addr} {L cr : Nat} {rd : List Int} {st : RSt} (h : RecS w gs lo A n c Ar L cr rd st) {ps : List Int} {A2 : Option Addr} {k c2 : Nat} {x : Int} (hx : 0 ≤ x)
    (hb : Below (w.setCell ⟨gs, 3, none⟩ (.int .i64 x)).heap.size (w.setCell ⟨gs, 3, none⟩ (.int .i64 x)) w2) (ho : w2.ownsRow lo 2 1 (.slice A2 k c2) k (ps.flatMap encI)) (hap : ∀ b, (Value.slice A2 k c2).ownBlock = some b → (Value.slice Ar L cr).ownBlock ≠ some b) (hn2 : (Value.slice A2 k c2).ownBlock ≠ some gs) :
    RecS (w2.setCell ⟨gs, 2, none⟩ (.slice A2 k c2)) gs lo A n c Ar L cr rd (some (ps, x)) := by
  obtain ⟨k0, k1, row, nr, f1, f2, f3, A1, n1, c1, l, e2, e3, hs⟩ := h
  have lt : gs < (w.setCell ⟨gs, 3, none⟩ (.int .i64 x)).heap.size := by have := World.block_lt_of_cell? _ _ k0; simpa using this
  have q0 : w2.cell? ⟨gs, 0, none⟩ = some (.slice A n c) := below_cell ((World.cell?_setCell_other _ _ _ _ (by simp)).trans k0) hb
  have q1 : w2.cell? ⟨gs, 1, none⟩ = some (.slice Ar L cr) := below_cell ((World.cell?_setCell_other _ _ _ _ (by simp)).trans k1) hb
  have q2 : w2.cell? ⟨gs, 2, none⟩ = some (.slice A1 n1 c1) := below_cell ((World.cell?_setCell_other _ _ _ _ (by simp)).trans e2) hb
  have q3 : w2.cell? ⟨gs, 3, none⟩ = some (.int .i64 x) := below_cell (World.cell?_setCell_same _ _ _ e3) hb
  have g1 : w2.frozen? ⟨gs, 1, none⟩ = false := (hb.frozen (p := ⟨gs, 1, none⟩) lt).trans (by simpa using f1)
  have g2 : w2.frozen? ⟨gs, 2, none⟩ = false := (hb.frozen (p := ⟨gs, 2, none⟩) lt).trans (by simpa using f2)
  have g3 : w2.frozen? ⟨gs, 3, none⟩ = false := (hb.frozen (p := ⟨gs, 3, none⟩) lt).trans (by simpa using f3)
  have row2 := own_below (ow_set (p := ⟨gs, 3, none⟩) (u := .int .i64 x) nr row) hb
  refine ⟨?_, ?_, ow_set nr row2, nr, by simpa using g1, by simpa using g2, by simpa using g3, _, _, _, _, World.cell?_setCell_same _ _ _ q2, ?_, ⟨⟨ow_set hn2 ho, hap⟩, hn2⟩, rfl, hx⟩
  · exact (World.cell?_setCell_other _ _ _ _ (by simp)).trans q0
  · exact (World.cell?_setCell_other _ _ _ _ (by simp)).trans q1
  · exact (World.cell?_setCell_other _ _ _ _ (by simp)).trans q3
theorem below_frz2 {w w' : World} {p : Addr} {v : Value} (hc : w.cell? p = some v) (h : w.frozen? p = false) (hb : Below w.heap.size w w') : w'.frozen? p = false := (hb.frozen (World.block_lt_of_cell? _ _ hc)).trans h
set_option maxHeartbeats 4000000 in
set_option maxRecDepth 100000 in
/-- the walk's end: a round is whole -/
theorem walkS_leaf (gs lo : Nat) (A : Option Addr) (n c : Nat) (rs : List Row) (B : Nat) (hBg : B ≤ gs) (hBl : B ≤ lo) (hv : validP (cont rs) = true) (hnl : rs.length = n)
    (rd left : List Int) (Al : Option Addr) (cl : Nat) (Ar : Option Addr) (L cr : Nat) (sum : Int) (j : Nat) (st : RSt) (w : World) (hL : L ≤ 30) (s0 : 0 ≤ sum) (s1 : sum ≤ 30000) (hj : j < n) (hlo : lo ≤ w.heap.size) (hx : SlS w B A n rs)
    (hR : RecS w gs lo A n c Ar L cr rd st) :
    Calls Try.prog 26 #[.pointer (some ⟨gs, 0, none⟩), .slice Al 0 cl, .int .i64 sum, .int .i64 j] w fun r w' => r = .returned (.tuple #[]) ∧ RecS w' gs lo A n c Ar L cr rd (walkR (cont rs) 0 left rd sum j st) ∧ Two2 gs (Value.slice Ar L cr).ownBlock w w' := by
  have hlc : (cont rs).length = n := by rw [cont_len, hnl]
  have hn30 := validP_len hv
  rw [hlc] at hn30
  obtain ⟨bi, oi, ci, bk, ok, y, rfl, hbi, d0, hbk, d1, hc, y0, y1⟩ := hx.path hv hj (show 0 < n by omega)
  simp only [Nat.add_zero] at d1
  obtain ⟨l, e3, hcut, hless⟩ := hR.cut sum
  have k0 := hR.k0
  have k1 := hR.k1
  have f2 := hR.f2
  have f3 := hR.f3
  have lt := World.block_lt_of_cell? _ _ k0
  simp only at lt
  have EW : walkR (cont rs) 0 left rd sum j st = if cutR sum st then st else if lessR (sum + y) st then some (rd, sum + y) else st := by simp only [walkR, Int.toNat_natCast, hc]
  have i0 : (0 : Int) ≤ (j : Int) := by omega
  have i1 : (j : Int) < (n : Int) := by omega
  rcases hcut with ⟨q, l0, l1⟩ | ⟨q, hl⟩
  · have E : Hid (walkR (cont rs) 0 left rd sum j st = st) := by rw [Hid, EW, q]; rfl
    clear EW hx hless q
    go_enter Try.func26, Try.ntmps26
    go_wp2
    refine bodyPost_ret (results_none rfl _ _ _) rfl ?_
    rw [E.out]
    exact ⟨rfl, hR, Two2.refl _ _ _⟩
  · rw [q] at EW
    rcases hless (sum + y) with ⟨p, hp⟩ | ⟨p, p0, p1⟩
    · have E : Hid (walkR (cont rs) 0 left rd sum j st = some (rd, sum + y)) := by rw [Hid, EW, p]; rfl
      have hown := fun W B h1 h2 => l00Own_all Ar L cr rd W B h1 (by omega) h2
      obtain ⟨A1, n1, c1, l', e2, e3', _⟩ := hR.best
      have hsl := (ow_set (p := ⟨gs, 3, none⟩) (u := .int .i64 (sum + y)) hR.nr hR.row)
      clear EW hx q p hless
      rcases hl with hl | ⟨hl, hl2⟩ <;> rcases hp with hp | ⟨hp, hp2⟩
      all_goals first
        | (exfalso; omega)
        | (go_enter Try.func26, Try.ntmps26
           go_wp2_with fail
           refine (hown _ _ (Nat.le_refl _) (own_sl encI_len (by omega) hsl)).mono ?_
           rintro r w3 ⟨A5, c5, rfl, o5, b5⟩
           replace f2 : w3.frozen? ⟨gs, 2, none⟩ = false := below_frz2 (p := ⟨gs, 2, none⟩) (v := .slice A1 n1 c1) (by go_simp) (by go_simp) b5
           replace e2 : w3.cell? ⟨gs, 2, none⟩ = some (.slice A1 n1 c1) := below_cell (by go_simp) b5
           go_wp2_with fail
           refine bodyPost_ret (results_none rfl _ _ _) rfl ?_
           rw [E.out]
           exact ⟨rfl, hR.put (by omega) b5 (o5.mono (by simpa using hlo)) (fun b h1 h2 => by have h3 := (o5.lt b h1).1; have h4 := (hR.row.lt b h2).2; simp only [World.size_setCell] at h3; omega) (fun e => by have h3 := (o5.lt _ e).1; simp only [World.size_setCell] at h3; omega),
             (((Two2.refl gs (Value.slice Ar L cr).ownBlock w).set 3 _).trans (Two2.ofBelow b5 gs (Value.slice Ar L cr).ownBlock) (.inl rfl)).set 2 _⟩)
    · have E : Hid (walkR (cont rs) 0 left rd sum j st = st) := by rw [Hid, EW, p]; rfl
      clear EW hx q p hless
      rcases hl with hl | ⟨hl, hl2⟩
      all_goals first
        | (exfalso; omega)
        | (go_enter Try.func26, Try.ntmps26
           go_wp2
           refine bodyPost_ret (results_none rfl _ _ _) rfl ?_
           rw [E.out]
           exact ⟨rfl, hR, Two2.refl _ _ _⟩)
end Go.Proofs.Yteckfjnglmkenaa
