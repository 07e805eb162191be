/-
  LonelyStations, DeadEnds: both sides. No condition.
-/
import Derived.Test.YtmanbpobdaamfaaSDel
import Derived.Test.YtmanbpobdaamfaaSList
namespace Go.Proofs.Ytmanbpobdaamfaa
open Go.RowKit
set_option maxHeartbeats 400000

/-- a list of names and a code -/
def SPost (w : World) (R : List ByteArray × Int) (r : Ending) (w' : World) : Prop :=
  ∃ A n c, r = .returned (.tuple #[.slice A n c, .int .i64 R.2]) ∧ w'.ownsRow w.heap.size 9 1 (.slice A n c) n (R.1.flatMap encS) ∧ Below w.heap.size w w'
theorem SPost.bad {w w' : World} {R : List ByteArray × Int} {z : Int} (hR : R = ([], z)) (hb : Below w.heap.size w w') : SPost w R (.returned (.tuple #[.slice none 0 0, .int .i64 z])) w' := by
  subst hR
  exact ⟨none, 0, 0, rfl, World.ownsRow_nil _ _ _ _, hb⟩
def leadsB (ws : List Way) (z : ByteArray) : Bool := ws.any fun y => decide (y.fr = z)
def comesB (ws : List Way) (z : ByteArray) : Bool := ws.any fun y => decide (y.to = z)
/-- is struck: leads or comes otherwise than asked -/
def strB (ws : List Way) (f t : Bool) (z : ByteArray) : Bool := (leadsB ws z != f) || (comesB ws z != t)
def byF (x : Sch) (f t : Bool) : List ByteArray × Int := if validX x then (stay (strB x.wy f t) x.st, 0) else ([], 1)
def lonelyF (x : Sch) : List ByteArray × Int := byF x false false
def deadF (x : Sch) : List ByteArray × Int := byF x false true
theorem byF_len (x : Sch) (f t : Bool) (HT : Hid (totX x ≤ 1048576)) : (byF x f t).1.length ≤ 2000000 := by
  unfold byF
  split
  · have := stay_len (strB x.wy f t) x.st
    have := HT.out
    simp only [totX] at this
    simp only
    omega
  · simp
theorem lonelyF_len (x : Sch) (HT : Hid (totX x ≤ 1048576)) : (lonelyF x).1.length ≤ 2000000 := byF_len x _ _ HT
theorem deadF_len (x : Sch) (HT : Hid (totX x ≤ 1048576)) : (deadF x).1.length ≤ 2000000 := byF_len x _ _ HT
theorem byFr_any (b1 : Nat) (z f t : ByteArray) (m : Int) (w : World) (k1 : w.cell? ⟨b1, 0, none⟩ = some (.string z)) :
    Calls Try.prog 84 #[.agg #[.string f, .string t, .int .i64 m], .pointer (some ⟨b1, 0, none⟩)] w fun r w' => r = .returned (.bool (decide (f = z))) ∧ Below w.heap.size w w' := by
  have l1 := World.block_lt_of_cell? _ _ k1
  simp only at l1
  have q1 := bs_eq (x := f) (y := z)
  generalize decide (f = z) = p1 at q1
  go_enter Try.func84, Try.ntmps84
  go_wp2
  go_ret
  exact ⟨rfl, (Below.refl _ _).alloc (Nat.le_refl _) _⟩
theorem byTo_any (b1 : Nat) (z f t : ByteArray) (m : Int) (w : World) (k1 : w.cell? ⟨b1, 0, none⟩ = some (.string z)) :
    Calls Try.prog 85 #[.agg #[.string f, .string t, .int .i64 m], .pointer (some ⟨b1, 0, none⟩)] w fun r w' => r = .returned (.bool (decide (t = z))) ∧ Below w.heap.size w w' := by
  have l1 := World.block_lt_of_cell? _ _ k1
  simp only at l1
  have q1 := bs_eq (x := t) (y := z)
  generalize decide (t = z) = p1 at q1
  go_enter Try.func85, Try.ntmps85
  go_wp2
  go_ret
  exact ⟨rfl, (Below.refl _ _).alloc (Nat.le_refl _) _⟩
set_option maxHeartbeats 2000000 in
theorem by1_any (gx gf gt : Nat) (A : Option Addr) (n c : Nat) (ws : List Way) (f t : Bool) (z : ByteArray) (w : World) (B : Nat) (hB : B ≤ w.heap.size) (hn : n ≤ 2000000) (hx : Sl w B 3 encWay A n ws) (k2 : w.cell? ⟨gx, 2, none⟩ = some (.slice A n c)) (kf : w.cell? ⟨gf, 0, none⟩ = some (.bool f)) (kt : w.cell? ⟨gt, 0, none⟩ = some (.bool t)) :
    Calls Try.prog 82 #[.string z, .pointer (some ⟨gx, 0, none⟩), .pointer (some ⟨gf, 0, none⟩), .pointer (some ⟨gt, 0, none⟩)] w fun r w' => r = .returned (.bool (strB ws f t z)) ∧ Below w.heap.size w w' := by
  have e1 := enters_of Try.func84 (by kernel_rfl) rfl
  have e2 := enters_of Try.func85 (by kernel_rfl) rfl
  obtain ⟨W0, hW0⟩ : ∃ W0, W0 = w.alloc (.cells #[.string z] 9) := ⟨_, rfl⟩
  have b0 : Below w.heap.size w W0 := by rw [hW0]; exact (Below.refl _ _).alloc (Nat.le_refl _) _
  have k1 : W0.cell? ⟨w.heap.size, 0, none⟩ = some (.string z) := by rw [hW0]; go_simp
  have c1 := fun (W : World) (h : Below W0.heap.size W0 W) => ContainsFunc_Way 84 #[.pointer (some ⟨w.heap.size, 0, none⟩)] (fun y => decide (y.fr = z)) e1 A n c ws W B (Nat.le_trans (Nat.le_trans hB b0.size) h.size) (by omega) ((hx.below (b0.mono hB)).below (h.mono (Nat.le_trans hB b0.size)))
    (fun W2 x y m _ hW => byFr_any _ z x y m W2 (below_cell k1 (h.trans (hW.mono h.size))))
  have c2 := fun (W : World) (h : Below W0.heap.size W0 W) => ContainsFunc_Way 85 #[.pointer (some ⟨w.heap.size, 0, none⟩)] (fun y => decide (y.to = z)) e2 A n c ws W B (Nat.le_trans (Nat.le_trans hB b0.size) h.size) (by omega) ((hx.below (b0.mono hB)).below (h.mono (Nat.le_trans hB b0.size)))
    (fun W2 x y m _ hW => byTo_any _ z x y m W2 (below_cell k1 (h.trans (hW.mono h.size))))
  have E := hid (show strB ws f t z = ((ws.any fun y => decide (y.fr = z)) != f || (ws.any fun y => decide (y.to = z)) != t) from rfl)
  generalize (ws.any fun y => decide (y.fr = z)) = p1 at c1 E
  generalize (ws.any fun y => decide (y.to = z)) = p2 at c2 E
  have lx := World.block_lt_of_cell? _ _ k2
  simp only at lx
  have HW := hid hW0
  have C1 := c1 W0 (Below.refl _ _)
  clear hW0 hx c1
  cases p1 <;> cases p2 <;> cases f <;> cases t
  all_goals
    go_enter Try.func82, Try.ntmps82
    go_wp2_with fail
    rw [← HW.out]
    refine C1.mono ?_
    rintro r w1 ⟨rfl, b1⟩
    replace k2 := below_cell (below_cell k2 b0) b1
    replace kf := below_cell (below_cell kf b0) b1
    replace kt := below_cell (below_cell kt b0) b1
    go_wp2_with fail
    refine (c2 _ b1).mono ?_
    rintro r w2 ⟨rfl, b2⟩
    replace kf := below_cell kf b2
    replace kt := below_cell kt b2
    go_wp2_with fail
    go_ret
    exact ⟨retB E.out.symm, b0.trans ((b1.trans (b2.mono b1.size)).mono b0.size)⟩
set_option maxHeartbeats 2000000 in
theorem stationsBy_any (f t : Bool) (s : SV) (x : Sch) (w : World) (B : Nat) (hB : B ≤ w.heap.size) (hn : s.n1 ≤ 2000000 ∧ s.n2 ≤ 2000000 ∧ s.n3 ≤ 2000000) (hx : SlX w B s x) (hz : Hid (BigX x)) :
    Calls Try.prog 61 #[s.v, .bool f, .bool t] w (SPost w (byF x f t)) := by
  have eg := enters_of Try.func82 (by kernel_rfl) rfl
  obtain ⟨A1, n1, c1, A2, n2, c2, A3, n3, c3⟩ := s
  simp only [SV.v] at hn ⊢
  obtain ⟨W0, hW0⟩ : ∃ W0, W0 = ((w.alloc (.cells #[.slice A1 n1 c1, .slice A2 n2 c2, .slice A3 n3 c3] 29)).alloc (.cells #[.bool f] 4)).alloc (.cells #[.bool t] 4) := ⟨_, rfl⟩
  have b0 : Below w.heap.size w W0 := by rw [hW0]; exact (((Below.refl _ _).alloc (Nat.le_refl _) _).alloc (by simp) _).alloc (by simp; omega) _
  have z0 : W0.heap.size = w.heap.size + 3 := by rw [hW0]; simp
  have k0 : W0.cell? ⟨w.heap.size, 0, none⟩ = some (.slice A1 n1 c1) := by rw [hW0]; go_simp
  have k2 : W0.cell? ⟨w.heap.size, 2, none⟩ = some (.slice A3 n3 c3) := by rw [hW0]; go_simp
  have kf : W0.cell? ⟨w.heap.size + 1, 0, none⟩ = some (.bool f) := by rw [hW0]; go_simp
  have kt : W0.cell? ⟨w.heap.size + 1 + 1, 0, none⟩ = some (.bool t) := by rw [hW0]; go_simp
  have hx0 := hx.below (b0.mono hB)
  have hc := implValid_any ⟨A1, n1, c1, A2, n2, c2, A3, n3, c3⟩ x W0 B (Nat.le_trans hB b0.size) hn hx0 hz
  simp only [SV.v] at hc
  have HW := hid hW0
  clear hW0
  by_cases hv : validX x = true
  · have EF : Hid (byF x f t = (stay (strB x.wy f t) x.st, 0)) := by rw [Hid, byF, if_pos hv]
    rw [hv] at hc
    have hcl := fun (W : World) (h : Below W0.heap.size W0 W) => cloneS_any A1 n1 c1 x.st W B (Nat.le_trans (Nat.le_trans hB b0.size) h.size) hn.1 (hx0.st.below (h.mono (Nat.le_trans hB b0.size)))
    have hdl := fun (W1 : World) (h1 : Below W0.heap.size W0 W1) (A5 : Option Addr) (c5 : Nat) (W : World) (h : Below W1.heap.size W1 W) (o5 : W.ownsRow W1.heap.size 9 1 (.slice A5 n1 c5) n1 (x.st.flatMap encS)) =>
      deleteS_any 82 #[.pointer (some ⟨w.heap.size, 0, none⟩), .pointer (some ⟨w.heap.size + 1, 0, none⟩), .pointer (some ⟨w.heap.size + 1 + 1, 0, none⟩)] (strB x.wy f t) eg W1.heap.size A5 n1 c5 x.st W hn.1 o5
        (fun W2 z _ hg => by
          have hz1 := h1.size
          have hz2 := h.size
          have hbb : Below W1.heap.size W1 W2 := h.grown hg (by omega) (fun q hq => (o5.lt q hq).1)
          have hb2 : Below W0.heap.size W0 W2 := h1.trans (hbb.mono hz1)
          exact by1_any w.heap.size (w.heap.size + 1) (w.heap.size + 1 + 1) A3 n3 c3 x.wy f t z W2 B (by have := hb2.size; omega) hn.2.2 (hx0.wy.below (hb2.mono (by omega))) (below_cell k2 hb2) (below_cell kf hb2) (below_cell kt hb2))
    have HCL := hid hcl
    have HDL := hid hdl
    clear hx hx0 hz hv hcl hdl eg k2 kf kt hn
    go_enter Try.func61, Try.ntmps61
    go_wp2_with fail
    rw [← HW.out]
    refine hc.mono ?_
    rintro r w1 ⟨rfl, b1⟩
    replace k0 := below_cell k0 b1
    go_wp2_with fail
    refine (HCL.out w1 b1).mono ?_
    rintro r w2 ⟨A5, c5, rfl, o5, b2⟩
    go_wp2_with fail
    refine (HDL.out w1 b1 A5 c5 w2 b2 o5).mono ?_
    rintro r w3 ⟨m, rfl, o6, g6⟩
    have hb3 : Below w.heap.size w w3 := ((b0.trans (b1.mono b0.size)).trans (b2.mono (by have := b1.size; omega))).grown g6 (by have := b1.size; have := b2.size; omega) (fun q hq => by have := (o5.lt q hq).1; have := b1.size; omega)
    have o7 := hid (o6.mono (show w.heap.size ≤ w1.heap.size by have := b1.size; omega))
    go_wp2_with fail
    go_ret2
    rw [EF.out]
    exact ⟨A5, m, c5, rfl, o7.out, hb3⟩
  · have EF : Hid (byF x f t = ([], 1)) := by rw [Hid, byF, if_neg hv]
    have hv2 : validX x = false := by simpa using hv
    rw [hv2] at hc
    clear hx hx0 hz hv hv2 eg k2 kf kt k0
    go_enter Try.func61, Try.ntmps61
    go_wp2_with fail
    rw [← HW.out]
    refine hc.mono ?_
    rintro r w1 ⟨rfl, b1⟩
    go_wp2_with fail
    go_ret2
    exact SPost.bad EF.out (b0.trans (b1.mono b0.size))
theorem implLonelyStations_any (s : SV) (x : Sch) (w : World) (B : Nat) (hB : B ≤ w.heap.size) (hn : s.n1 ≤ 2000000 ∧ s.n2 ≤ 2000000 ∧ s.n3 ≤ 2000000) (hx : SlX w B s x) (hz : Hid (BigX x)) :
    Calls Try.prog 20 #[s.v] w (SPost w (lonelyF x)) := by
  obtain ⟨A1, n1, c1, A2, n2, c2, A3, n3, c3⟩ := s
  simp only [SV.v] at hn ⊢
  obtain ⟨W0, hW0⟩ : ∃ W0, W0 = w.alloc (.cells #[.slice A1 n1 c1, .slice A2 n2 c2, .slice A3 n3 c3] 29) := ⟨_, rfl⟩
  have b0 : Below w.heap.size w W0 := by rw [hW0]; exact (Below.refl _ _).alloc (Nat.le_refl _) _
  have hc := stationsBy_any false false ⟨A1, n1, c1, A2, n2, c2, A3, n3, c3⟩ x W0 B (Nat.le_trans hB b0.size) hn (hx.below (b0.mono hB)) hz
  simp only [SV.v] at hc
  have EF := hid (show lonelyF x = byF x false false from rfl)
  generalize byF x false false = R at hc EF
  have HW := hid hW0
  clear hW0 hx hz
  go_enter Try.func20, Try.ntmps20
  go_wp2_with fail
  rw [← HW.out]
  refine hc.mono ?_
  rintro r w1 ⟨A5, n5, c5, rfl, o5, b1⟩
  go_wp2_with fail
  go_ret2
  rw [EF.out]
  exact ⟨A5, n5, c5, rfl, o5.mono b0.size, b0.trans (b1.mono b0.size)⟩
theorem implDeadEnds_any (s : SV) (x : Sch) (w : World) (B : Nat) (hB : B ≤ w.heap.size) (hn : s.n1 ≤ 2000000 ∧ s.n2 ≤ 2000000 ∧ s.n3 ≤ 2000000) (hx : SlX w B s x) (hz : Hid (BigX x)) :
    Calls Try.prog 22 #[s.v] w (SPost w (deadF x)) := by
  obtain ⟨A1, n1, c1, A2, n2, c2, A3, n3, c3⟩ := s
  simp only [SV.v] at hn ⊢
  obtain ⟨W0, hW0⟩ : ∃ W0, W0 = w.alloc (.cells #[.slice A1 n1 c1, .slice A2 n2 c2, .slice A3 n3 c3] 29) := ⟨_, rfl⟩
  have b0 : Below w.heap.size w W0 := by rw [hW0]; exact (Below.refl _ _).alloc (Nat.le_refl _) _
  have hc := stationsBy_any false true ⟨A1, n1, c1, A2, n2, c2, A3, n3, c3⟩ x W0 B (Nat.le_trans hB b0.size) hn (hx.below (b0.mono hB)) hz
  simp only [SV.v] at hc
  have EF := hid (show deadF x = byF x false true from rfl)
  generalize byF x false true = R at hc EF
  have HW := hid hW0
  clear hW0 hx hz
  go_enter Try.func22, Try.ntmps22
  go_wp2_with fail
  rw [← HW.out]
  refine hc.mono ?_
  rintro r w1 ⟨A5, n5, c5, rfl, o5, b1⟩
  go_wp2_with fail
  go_ret2
  rw [EF.out]
  exact ⟨A5, n5, c5, rfl, o5.mono b0.size, b0.trans (b1.mono b0.size)⟩
end Go.Proofs.Ytmanbpobdaamfaa
