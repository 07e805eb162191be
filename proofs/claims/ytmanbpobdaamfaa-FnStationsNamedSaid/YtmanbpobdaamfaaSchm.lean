/-
  Schemes: three lists by value; sizes, copies, comparisons, marks; how one that comes in reads. No condition.
-/
import Derived.Test.YtmanbpobdaamfaaStrS
import Derived.Test.YtmanbpobdaamfaaEqWay
namespace Go.Proofs.Ytmanbpobdaamfaa
open Go.RowKit Go.ChangeShapes Go.WideShapes Go.ChangeAt Go.Deep
set_option maxHeartbeats 400000

structure Sch where
  st : List ByteArray
  rm : List ByteArray
  wy : List Way
  deriving DecidableEq
/-- the three slices of a scheme -/
structure SV where
  A1 : Option Addr
  n1 : Nat
  c1 : Nat
  A2 : Option Addr
  n2 : Nat
  c2 : Nat
  A3 : Option Addr
  n3 : Nat
  c3 : Nat
def SV.v (s : SV) : Value := .agg #[.slice s.A1 s.n1 s.c1, .slice s.A2 s.n2 s.c2, .slice s.A3 s.n3 s.c3]
structure SlX (w : World) (B : Nat) (s : SV) (x : Sch) : Prop where
  st : Sl w B 1 encS s.A1 s.n1 x.st
  rm : Sl w B 1 encS s.A2 s.n2 x.rm
  wy : Sl w B 3 encWay s.A3 s.n3 x.wy
theorem SlX.below {w w' : World} {B : Nat} {s : SV} {x : Sch} (h : SlX w B s x) (hb : Below B w w') : SlX w' B s x := ⟨h.st.below hb, h.rm.below hb, h.wy.below hb⟩
theorem SlX.more {w : World} {B B' : Nat} {s : SV} {x : Sch} (h : SlX w B s x) (hB : B ≤ B') : SlX w B' s x := ⟨h.st.more hB, h.rm.more hB, h.wy.more hB⟩
/-- all strings of a scheme are of some length -/
def BigX (x : Sch) : Prop := (∀ z ∈ x.st, z.size ≤ 9223372036854775807) ∧ (∀ z ∈ x.rm, z.size ≤ 9223372036854775807) ∧ ∀ z ∈ x.wy, z.fr.size ≤ 9223372036854775807 ∧ z.to.size ≤ 9223372036854775807
def totX (x : Sch) : Nat := (x.st.length + totS x.st) + (x.rm.length + totS x.rm) + (x.wy.length + totWay x.wy)
/-- rows of a scheme of one's own -/
structure OwnX (w : World) (lo : Nat) (s : SV) (x : Sch) : Prop where
  st : w.ownsRow lo 9 1 (.slice s.A1 s.n1 s.c1) s.n1 (x.st.flatMap encS)
  rm : w.ownsRow lo 9 1 (.slice s.A2 s.n2 s.c2) s.n2 (x.rm.flatMap encS)
  wy : w.ownsRow lo 54 3 (.slice s.A3 s.n3 s.c3) s.n3 (x.wy.flatMap encWay)
  ap12 : ∀ b, (Value.slice s.A1 s.n1 s.c1).ownBlock = some b → (Value.slice s.A2 s.n2 s.c2).ownBlock ≠ some b
  ap13 : ∀ b, (Value.slice s.A1 s.n1 s.c1).ownBlock = some b → (Value.slice s.A3 s.n3 s.c3).ownBlock ≠ some b
  ap23 : ∀ b, (Value.slice s.A2 s.n2 s.c2).ownBlock = some b → (Value.slice s.A3 s.n3 s.c3).ownBlock ≠ some b
theorem OwnX.below {w w' : World} {lo : Nat} {s : SV} {x : Sch} (h : OwnX w lo s x) (hb : Below w.heap.size w w') : OwnX w' lo s x := ⟨own_below h.st hb, own_below h.rm hb, own_below h.wy hb, h.ap12, h.ap13, h.ap23⟩
theorem OwnX.sl {w : World} {lo : Nat} {s : SV} {x : Sch} (h : OwnX w lo s x) : SlX w w.heap.size s x := ⟨own_sl encS_len (by omega) h.st, own_sl encS_len (by omega) h.rm, own_sl encWay_len (by omega) h.wy⟩
theorem OwnX.mono {w : World} {lo lo' : Nat} {s : SV} {x : Sch} (h : OwnX w lo s x) (hl : lo' ≤ lo) : OwnX w lo' s x := ⟨h.st.mono hl, h.rm.mono hl, h.wy.mono hl, h.ap12, h.ap13, h.ap23⟩
/-- a scheme's rows are kept where blocks outside them are written -/
theorem OwnX.span {w w' : World} {lo : Nat} {s : SV} {x : Sch} (h : OwnX w lo s x) {a b : Nat} (hs : Span a b w w') (hv : w.heap.size ≤ a ∨ b ≤ lo) : OwnX w' lo s x := by
  refine ⟨hs.own h.st fun q hq hh => ?_, hs.own h.rm fun q hq hh => ?_, hs.own h.wy fun q hq hh => ?_, h.ap12, h.ap13, h.ap23⟩
  · have := h.st.lt q hq; omega
  · have := h.rm.lt q hq; omega
  · have := h.wy.lt q hq; omega
theorem Span.wide {lo hi lo' hi' : Nat} {a w : World} (h : Span lo hi a w) (h1 : lo' ≤ lo) (h2 : hi ≤ hi') : Span lo' hi' a w := ⟨h.os, h.tape, h.output, h.size, fun i hi hn => h.block i hi (fun hh => hn ⟨by omega, by omega⟩)⟩
def marksX (m : Int) (x : Sch) : Sch := ⟨marksS m x.st.length, marksS (m + x.st.length) x.rm.length, marksWay (m + x.st.length + x.rm.length) x.wy.length⟩
def lenX (x : Sch) : Int := x.st.length + x.rm.length + 3 * x.wy.length
set_option maxHeartbeats 1000000 in
theorem szScheme_any (s : SV) (x : Sch) (left : Int) (w : World) (B : Nat) (hB : B ≤ w.heap.size) (hn1 : s.n1 ≤ 9223372036854775807) (hn2 : s.n2 ≤ 9223372036854775807) (hn3 : s.n3 ≤ 9223372036854775807) (h0 : 0 ≤ left) (h1 : left ≤ 1048576) (hx : SlX w B s x) (hz : Hid (BigX x)) :
    Calls Try.prog 5 #[s.v, .int .i64 left] w fun e w' => e = .returned (.int .i64 (szF left (totX x))) ∧ Below w.heap.size w w' := by
  obtain ⟨A1, n1, c1, A2, n2, c2, A3, n3, c3⟩ := s
  simp only [SV.v] at hn1 hn2 hn3 ⊢
  have b0 : Below w.heap.size w (w.alloc (.cells #[.slice A1 n1 c1, .slice A2 n2 c2, .slice A3 n3 c3] 25)) := (Below.refl _ _).alloc (Nat.le_refl _) _
  have z1 := szStringS_any A1 n1 c1 x.st left (w.alloc (.cells #[.slice A1 n1 c1, .slice A2 n2 c2, .slice A3 n3 c3] 25)) B (by simp; omega) hn1 h0 h1 (hx.st.below (b0.mono hB)) hz.out.1
  have l1 := hx.st.len
  have l2 := hx.rm.len
  have l3 := hx.wy.len
  simp only at l1 l2 l3
  have ht : totX x = (n1 + totS x.st) + (n2 + totS x.rm) + (n3 + totWay x.wy) := by simp only [totX, l1, l2, l3]
  rw [ht]
  clear ht
  by_cases g1 : left < ((n1 + totS x.st : Nat) : Int)
  · have E : Hid (szF left ((n1 + totS x.st) + (n2 + totS x.rm) + (n3 + totWay x.wy)) = -1) := szF_no (by omega)
    rw [szF_no g1] at z1
    clear hx l1 l2 l3
    go_enter Try.func5, Try.ntmps5
    go_wp2_with fail
    refine z1.mono ?_
    rintro r w1 ⟨rfl, b1⟩
    go_wp2_with fail
    go_ret
    exact ⟨retI E.out.symm, b0.trans (b1.mono b0.size)⟩
  have e1 := szF_yes (n := n1 + totS x.st) (by omega : ((n1 + totS x.st : Nat) : Int) ≤ left)
  obtain ⟨v, hv, v0, v1⟩ : ∃ v, szF left (n1 + totS x.st) = v ∧ 0 ≤ v ∧ v ≤ 1048576 := ⟨_, rfl, by omega, by omega⟩
  have Hv : Hid (v = left - ((n1 + totS x.st : Nat) : Int)) := by rw [Hid, ← hv, e1]
  rw [hv] at z1
  clear e1 hv
  have z2 := fun W h1 h2 => szStringS_any A2 n2 c2 x.rm v W B h1 hn2 v0 v1 h2 hz.out.2.1
  by_cases g2 : v < ((n2 + totS x.rm : Nat) : Int)
  · have E : Hid (szF left ((n1 + totS x.st) + (n2 + totS x.rm) + (n3 + totWay x.wy)) = -1) := szF_no (by have := Hv.out; omega)
    rw [szF_no g2] at z2
    have hxr := hx.rm
    clear hx l1 l2 l3
    go_enter Try.func5, Try.ntmps5
    go_wp2_with fail
    refine z1.mono ?_
    rintro r w1 ⟨rfl, b1⟩
    have k1 : w1.cell? ⟨w.heap.size, 1, none⟩ = some (.slice A2 n2 c2) := below_cell (by go_simp) b1
    replace b1 := b0.trans (b1.mono b0.size)
    go_wp2_with fail
    refine (z2 _ (Nat.le_trans hB b1.size) (hxr.below (b1.mono hB))).mono ?_
    rintro r w2 ⟨rfl, b2⟩
    go_wp2_with fail
    go_ret
    exact ⟨retI E.out.symm, b1.trans (b2.mono b1.size)⟩
  have e1 := szF_yes (n := n2 + totS x.rm) (by omega : ((n2 + totS x.rm : Nat) : Int) ≤ v)
  obtain ⟨u, hu, u0, u1⟩ : ∃ u, szF v (n2 + totS x.rm) = u ∧ 0 ≤ u ∧ u ≤ 1048576 := ⟨_, rfl, by omega, by omega⟩
  have Hu : Hid (u = v - ((n2 + totS x.rm : Nat) : Int)) := by rw [Hid, ← hu, e1]
  rw [hu] at z2
  clear e1 hu
  have z3 := fun W h1 h2 => szWayS_any A3 n3 c3 x.wy u W B h1 hn3 u0 u1 h2 hz.out.2.2
  have hxr := hx.rm
  have hxw := hx.wy
  have E : Hid (szF left ((n1 + totS x.st) + (n2 + totS x.rm) + (n3 + totWay x.wy)) = szF u (n3 + totWay x.wy)) := by
    have h1 := Hv.out
    have h2 := Hu.out
    by_cases g3 : u < ((n3 + totWay x.wy : Nat) : Int)
    · rw [Hid, szF_no g3, szF_no (by omega)]
    · rw [Hid, szF_yes (by omega), szF_yes (by omega)]; omega
  have hcase : szF u (n3 + totWay x.wy) = -1 ∨ 0 ≤ szF u (n3 + totWay x.wy) := by
    by_cases g3 : u < ((n3 + totWay x.wy : Nat) : Int)
    · exact .inl (szF_no g3)
    · right; rw [szF_yes (by omega)]; omega
  generalize szF u (n3 + totWay x.wy) = q at z3 E hcase
  clear hx l1 l2 l3
  rcases hcase with rfl | hq
  all_goals
    go_enter Try.func5, Try.ntmps5
    go_wp2_with fail
    refine z1.mono ?_
    rintro r w1 ⟨rfl, b1⟩
    have k1 : w1.cell? ⟨w.heap.size, 1, none⟩ = some (.slice A2 n2 c2) := below_cell (by go_simp) b1
    have k2 : w1.cell? ⟨w.heap.size, 2, none⟩ = some (.slice A3 n3 c3) := below_cell (by go_simp) b1
    replace b1 := b0.trans (b1.mono b0.size)
    go_wp2_with fail
    refine (z2 _ (Nat.le_trans hB b1.size) (hxr.below (b1.mono hB))).mono ?_
    rintro r w2 ⟨rfl, b2⟩
    replace k2 := below_cell k2 b2
    replace b2 := b1.trans (b2.mono b1.size)
    go_wp2_with fail
    refine (z3 _ (Nat.le_trans hB b2.size) (hxw.below (b2.mono hB))).mono ?_
    rintro r w3 ⟨rfl, b3⟩
    go_wp2_with fail
    go_ret
    exact ⟨retI E.out.symm, b2.trans (b3.mono b2.size)⟩
theorem below_frz {w w' : World} {p : Addr} {v : Value} (hc : w.cell? p = some v) (h : w.frozen? p = false) (hb : Below w.heap.size w w') : w'.frozen? p = false := (hb.frozen (World.block_lt_of_cell? _ _ hc)).trans h
set_option maxHeartbeats 1000000 in
theorem toScheme_any (s : SV) (x : Sch) (w : World) (B : Nat) (hB : B ≤ w.heap.size) (hn1 : s.n1 ≤ 2000000) (hn2 : s.n2 ≤ 2000000) (hn3 : s.n3 ≤ 2000000) (hx : SlX w B s x) :
    Calls Try.prog 7 #[s.v] w fun e w' => ∃ ga gb gc : Nat, e = .returned (.agg #[.slice (some ⟨ga, 0, none⟩) s.n1 s.n1, .slice (some ⟨gb, 0, none⟩) s.n2 s.n2, .slice (some ⟨gc, 0, none⟩) s.n3 s.n3]) ∧ OwnX w' w.heap.size ⟨some ⟨ga, 0, none⟩, s.n1, s.n1, some ⟨gb, 0, none⟩, s.n2, s.n2, some ⟨gc, 0, none⟩, s.n3, s.n3⟩ x ∧ Below w.heap.size w w' := by
  obtain ⟨A1, n1, c1, A2, n2, c2, A3, n3, c3⟩ := s
  simp only [SV.v] at hn1 hn2 hn3 ⊢
  obtain ⟨h1, h2, h3⟩ := hx
  simp only at h1 h2 h3
  obtain ⟨W0, hW0⟩ : ∃ W0, W0 = ((w.alloc (.cells #[.slice A1 n1 c1, .slice A2 n2 c2, .slice A3 n3 c3] 25)).alloc (.cells #[.slice none 0 0, .slice none 0 0, .slice none 0 0] 29)).alloc (.cells #[.slice none 0 0, .slice none 0 0, .slice none 0 0] 29) := ⟨_, rfl⟩
  have b0 : Below w.heap.size w W0 := by rw [hW0]; exact (((Below.refl _ _).alloc (Nat.le_refl _) _).alloc (by simp) _).alloc (by simp; omega) _
  have hz : W0.heap.size = w.heap.size + 3 := by rw [hW0]; simp
  have k1 : W0.cell? ⟨w.heap.size, 1, none⟩ = some (.slice A2 n2 c2) := by rw [hW0]; go_simp
  have k2 : W0.cell? ⟨w.heap.size, 2, none⟩ = some (.slice A3 n3 c3) := by rw [hW0]; go_simp
  have e0 : W0.cell? ⟨w.heap.size + 1 + 1, 0, none⟩ = some (.slice none 0 0) := by rw [hW0]; go_simp
  have e1 : W0.cell? ⟨w.heap.size + 1 + 1, 1, none⟩ = some (.slice none 0 0) := by rw [hW0]; go_simp
  have e2 : W0.cell? ⟨w.heap.size + 1 + 1, 2, none⟩ = some (.slice none 0 0) := by rw [hW0]; go_simp
  have f0 : W0.frozen? ⟨w.heap.size + 1 + 1, 0, none⟩ = false := by rw [hW0]; go_simp
  have f1 : W0.frozen? ⟨w.heap.size + 1 + 1, 1, none⟩ = false := by rw [hW0]; go_simp
  have f2 : W0.frozen? ⟨w.heap.size + 1 + 1, 2, none⟩ = false := by rw [hW0]; go_simp
  have d0 : W0.cell? ⟨w.heap.size + 1, 0, none⟩ = some (.slice none 0 0) := by rw [hW0]; go_simp
  have d1 : W0.cell? ⟨w.heap.size + 1, 1, none⟩ = some (.slice none 0 0) := by rw [hW0]; go_simp
  have d2 : W0.cell? ⟨w.heap.size + 1, 2, none⟩ = some (.slice none 0 0) := by rw [hW0]; go_simp
  have g0 : W0.frozen? ⟨w.heap.size + 1, 0, none⟩ = false := by rw [hW0]; go_simp
  have g1 : W0.frozen? ⟨w.heap.size + 1, 1, none⟩ = false := by rw [hW0]; go_simp
  have g2 : W0.frozen? ⟨w.heap.size + 1, 2, none⟩ = false := by rw [hW0]; go_simp
  have HW := hid hW0
  have t1 := toStringS_any A1 n1 c1 x.st W0 B (Nat.le_trans hB b0.size) hn1 (h1.below (b0.mono hB))
  have t2 := fun W h h' => toStringS_any A2 n2 c2 x.rm W B h hn2 h'
  have t3 := fun W h h' => toWayS_any A3 n3 c3 x.wy W B h hn3 h'
  clear hW0 h1
  go_enter Try.func7, Try.ntmps7
  go_wp2_with fail
  rw [← HW.out]
  refine t1.mono ?_
  rintro r w1 ⟨ga, rfl, o1, b1⟩
  have z1 := b1.size
  have la := own_lt o1
  replace f0 := below_frz e0 f0 b1
  replace f1 := below_frz e1 f1 b1
  replace f2 := below_frz e2 f2 b1
  replace g0 := below_frz d0 g0 b1
  replace g1 := below_frz d1 g1 b1
  replace g2 := below_frz d2 g2 b1
  replace e0 := below_cell e0 b1
  replace e1 := below_cell e1 b1
  replace e2 := below_cell e2 b1
  replace d0 := below_cell d0 b1
  replace d1 := below_cell d1 b1
  replace d2 := below_cell d2 b1
  replace k1 := below_cell k1 b1
  replace k2 := below_cell k2 b1
  replace b1 := b0.trans (b1.mono b0.size)
  replace b1 := b1.setCell (p := ⟨w.heap.size + 1 + 1, 0, none⟩) (by simp only; omega) (.slice (some ⟨ga, 0, none⟩) n1 n1)
  replace o1 := ow_set (p := ⟨w.heap.size + 1 + 1, 0, none⟩) (u := .slice (some ⟨ga, 0, none⟩) n1 n1) (by simp [Value.ownBlock]; omega) o1
  go_wp2_with fail
  refine (t2 _ (Nat.le_trans hB b1.size) (h2.below (b1.mono hB))).mono ?_
  rintro r w2 ⟨gb, rfl, o2, b2⟩
  have z2 := b2.size
  simp only [World.size_setCell] at z2
  have lb := own_lt o2
  simp only [World.size_setCell] at lb
  replace o1 := own_below o1 b2
  have j0 : w2.cell? ⟨w.heap.size + 1 + 1, 0, none⟩ = some (.slice (some ⟨ga, 0, none⟩) n1 n1) := below_cell (by go_simp) b2
  replace f1 : w2.frozen? ⟨w.heap.size + 1 + 1, 1, none⟩ = false := below_frz (v := .slice none 0 0) (by go_simp) (by go_simp) b2
  replace f2 : w2.frozen? ⟨w.heap.size + 1 + 1, 2, none⟩ = false := below_frz (v := .slice none 0 0) (by go_simp) (by go_simp) b2
  replace g0 : w2.frozen? ⟨w.heap.size + 1, 0, none⟩ = false := below_frz (v := .slice none 0 0) (by go_simp) (by go_simp) b2
  replace g1 : w2.frozen? ⟨w.heap.size + 1, 1, none⟩ = false := below_frz (v := .slice none 0 0) (by go_simp) (by go_simp) b2
  replace g2 : w2.frozen? ⟨w.heap.size + 1, 2, none⟩ = false := below_frz (v := .slice none 0 0) (by go_simp) (by go_simp) b2
  replace e1 : w2.cell? ⟨w.heap.size + 1 + 1, 1, none⟩ = some (.slice none 0 0) := below_cell (by go_simp) b2
  replace e2 : w2.cell? ⟨w.heap.size + 1 + 1, 2, none⟩ = some (.slice none 0 0) := below_cell (by go_simp) b2
  replace d0 : w2.cell? ⟨w.heap.size + 1, 0, none⟩ = some (.slice none 0 0) := below_cell (by go_simp) b2
  replace d1 : w2.cell? ⟨w.heap.size + 1, 1, none⟩ = some (.slice none 0 0) := below_cell (by go_simp) b2
  replace d2 : w2.cell? ⟨w.heap.size + 1, 2, none⟩ = some (.slice none 0 0) := below_cell (by go_simp) b2
  replace k2 : w2.cell? ⟨w.heap.size, 2, none⟩ = some (.slice A3 n3 c3) := below_cell (by go_simp) b2
  clear e0 f0 k1
  replace b2 := b1.trans (b2.mono b1.size)
  replace b2 := b2.setCell (p := ⟨w.heap.size + 1 + 1, 1, none⟩) (by simp only; omega) (.slice (some ⟨gb, 0, none⟩) n2 n2)
  replace o1 := ow_set (p := ⟨w.heap.size + 1 + 1, 1, none⟩) (u := .slice (some ⟨gb, 0, none⟩) n2 n2) (by simp [Value.ownBlock]; omega) o1
  replace o2 := ow_set (p := ⟨w.heap.size + 1 + 1, 1, none⟩) (u := .slice (some ⟨gb, 0, none⟩) n2 n2) (by simp [Value.ownBlock]; omega) o2
  go_wp2_with fail
  refine (t3 _ (Nat.le_trans hB b2.size) (h3.below (b2.mono hB))).mono ?_
  rintro r w3 ⟨gc, rfl, o3, b3⟩
  have z3 := b3.size
  simp only [World.size_setCell] at z3
  have lc := own_lt o3
  simp only [World.size_setCell] at lc
  replace o1 := own_below o1 b3
  replace o2 := own_below o2 b3
  replace j0 : w3.cell? ⟨w.heap.size + 1 + 1, 0, none⟩ = some (.slice (some ⟨ga, 0, none⟩) n1 n1) := below_cell (by go_simp) b3
  have j1 : w3.cell? ⟨w.heap.size + 1 + 1, 1, none⟩ = some (.slice (some ⟨gb, 0, none⟩) n2 n2) := below_cell (by go_simp) b3
  replace f2 : w3.frozen? ⟨w.heap.size + 1 + 1, 2, none⟩ = false := below_frz (v := .slice none 0 0) (by go_simp) (by go_simp) b3
  replace g0 : w3.frozen? ⟨w.heap.size + 1, 0, none⟩ = false := below_frz (v := .slice none 0 0) (by go_simp) (by go_simp) b3
  replace g1 : w3.frozen? ⟨w.heap.size + 1, 1, none⟩ = false := below_frz (v := .slice none 0 0) (by go_simp) (by go_simp) b3
  replace g2 : w3.frozen? ⟨w.heap.size + 1, 2, none⟩ = false := below_frz (v := .slice none 0 0) (by go_simp) (by go_simp) b3
  replace e2 : w3.cell? ⟨w.heap.size + 1 + 1, 2, none⟩ = some (.slice none 0 0) := below_cell (by go_simp) b3
  replace d0 : w3.cell? ⟨w.heap.size + 1, 0, none⟩ = some (.slice none 0 0) := below_cell (by go_simp) b3
  replace d1 : w3.cell? ⟨w.heap.size + 1, 1, none⟩ = some (.slice none 0 0) := below_cell (by go_simp) b3
  replace d2 : w3.cell? ⟨w.heap.size + 1, 2, none⟩ = some (.slice none 0 0) := below_cell (by go_simp) b3
  clear e1 f1 k2 h2 h3 t1 t2 t3
  replace b3 := b2.trans (b3.mono b2.size)
  have q0 : ((((w3.setCell ⟨w.heap.size + 1 + 1, 2, none⟩ (.slice (some ⟨gc, 0, none⟩) n3 n3)).setCell ⟨w.heap.size + 1, 0, none⟩ (.slice (some ⟨ga, 0, none⟩) n1 n1)).setCell ⟨w.heap.size + 1, 1, none⟩ (.slice (some ⟨gb, 0, none⟩) n2 n2)).setCell ⟨w.heap.size + 1, 2, none⟩ (.slice (some ⟨gc, 0, none⟩) n3 n3)).cell? ⟨w.heap.size + 1, 0, none⟩ = some (.slice (some ⟨ga, 0, none⟩) n1 n1) := by go_simp
  have q1 : ((((w3.setCell ⟨w.heap.size + 1 + 1, 2, none⟩ (.slice (some ⟨gc, 0, none⟩) n3 n3)).setCell ⟨w.heap.size + 1, 0, none⟩ (.slice (some ⟨ga, 0, none⟩) n1 n1)).setCell ⟨w.heap.size + 1, 1, none⟩ (.slice (some ⟨gb, 0, none⟩) n2 n2)).setCell ⟨w.heap.size + 1, 2, none⟩ (.slice (some ⟨gc, 0, none⟩) n3 n3)).cell? ⟨w.heap.size + 1, 1, none⟩ = some (.slice (some ⟨gb, 0, none⟩) n2 n2) := by go_simp
  have q2 : ((((w3.setCell ⟨w.heap.size + 1 + 1, 2, none⟩ (.slice (some ⟨gc, 0, none⟩) n3 n3)).setCell ⟨w.heap.size + 1, 0, none⟩ (.slice (some ⟨ga, 0, none⟩) n1 n1)).setCell ⟨w.heap.size + 1, 1, none⟩ (.slice (some ⟨gb, 0, none⟩) n2 n2)).setCell ⟨w.heap.size + 1, 2, none⟩ (.slice (some ⟨gc, 0, none⟩) n3 n3)).cell? ⟨w.heap.size + 1, 2, none⟩ = some (.slice (some ⟨gc, 0, none⟩) n3 n3) := by go_simp
  go_wp2_with fail
  generalize hWF : ((((w3.setCell ⟨w.heap.size + 1 + 1, 2, none⟩ (.slice (some ⟨gc, 0, none⟩) n3 n3)).setCell ⟨w.heap.size + 1, 0, none⟩ (.slice (some ⟨ga, 0, none⟩) n1 n1)).setCell ⟨w.heap.size + 1, 1, none⟩ (.slice (some ⟨gb, 0, none⟩) n2 n2)).setCell ⟨w.heap.size + 1, 2, none⟩ (.slice (some ⟨gc, 0, none⟩) n3 n3)) = WF at q0 q1 q2 ⊢
  refine bodyPost_ret (v := .agg #[.slice (some ⟨ga, 0, none⟩) n1 n1, .slice (some ⟨gb, 0, none⟩) n2 n2, .slice (some ⟨gc, 0, none⟩) n3 n3]) (by simp [results, Try.results7, go_sem, q0, q1, q2]) rfl ⟨ga, gb, gc, rfl, ?_, ?_⟩
  all_goals subst hWF
  · have u1 : ∀ (q : Nat), q < W0.heap.size → (Value.slice (some ⟨ga, 0, none⟩) n1 n1).ownBlock ≠ some q := fun q hq e => by simp [Value.ownBlock] at e; omega
    have u2 : ∀ (q : Nat), q < W0.heap.size → (Value.slice (some ⟨gb, 0, none⟩) n2 n2).ownBlock ≠ some q := fun q hq e => by simp [Value.ownBlock] at e; omega
    have u3 : ∀ (q : Nat), q < W0.heap.size → (Value.slice (some ⟨gc, 0, none⟩) n3 n3).ownBlock ≠ some q := fun q hq e => by simp [Value.ownBlock] at e; omega
    refine ⟨?_, ?_, ?_, fun q h e => ?_, fun q h e => ?_, fun q h e => ?_⟩
    · exact ow_set (u1 _ (by simp only; omega)) (ow_set (u1 _ (by simp only; omega)) (ow_set (u1 _ (by simp only; omega)) (ow_set (u1 _ (by simp only; omega)) (o1.mono (by omega)))))
    · exact ow_set (u2 _ (by simp only; omega)) (ow_set (u2 _ (by simp only; omega)) (ow_set (u2 _ (by simp only; omega)) (ow_set (u2 _ (by simp only; omega)) (o2.mono (by simp only [World.size_setCell]; omega)))))
    · exact ow_set (u3 _ (by simp only; omega)) (ow_set (u3 _ (by simp only; omega)) (ow_set (u3 _ (by simp only; omega)) (ow_set (u3 _ (by simp only; omega)) (o3.mono (by simp only [World.size_setCell]; omega)))))
    all_goals (simp [Value.ownBlock] at h e; omega)
  · exact (((b3.setCell (by simp only; omega) _).setCell (by simp only; omega) _).setCell (by simp only; omega) _).setCell (by simp only; omega) _
end Go.Proofs.Ytmanbpobdaamfaa
