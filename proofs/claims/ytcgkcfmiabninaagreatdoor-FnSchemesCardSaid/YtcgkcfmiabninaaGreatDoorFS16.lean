/-
  FS: texts RSch0, SDrS, one behind the other. No condition but what each says.
-/
import Derived.Test.YtcgkcfmiabninaaGreatDoorFS15
/-
  A scheme that is read: the state of the loop over its rows, and what reading leaves. No condition.
-/
namespace Go.Proofs.YtcgkcfmiabninaaGreatDoor
open Go.RowKit
set_option maxHeartbeats 400000

def fL (fs : List (Int × Int)) : List Fault := fs.map fun p => ⟨p.1, p.2⟩
theorem fL_len (fs : List (Int × Int)) : (fL fs).length = fs.length := by simp [fL]
theorem fL_snoc (fs : List (Int × Int)) (a b : Int) : fL (fs ++ [(a, b)]) = fL fs ++ [⟨a, b⟩] := by simp [fL]
theorem own_blk {w w' : World} {lo T k n : Nat} {v : Value} {l : List Value} (h : w.ownsRow lo T k v n l) (hb : ∀ b, v.ownBlock = some b → w'.heap[b]? = w.heap[b]?) : w'.ownsRow lo T k v n l := by
  refine ⟨h.1, ?_⟩
  rcases h.2 with h0 | ⟨g, cap, cur, e, hg, hw, rest⟩
  · exact .inl h0
  · refine .inr ⟨g, cap, cur, e, hg, ?_, rest⟩
    rw [hb g (by rw [e]; rfl)]
    exact hw
theorem XAt.grow {w w' : World} {gx lo : Nat} {s : SV} {x : Sch} {v2 : Value} (h : XAt w gx lo s x) (hg : w.grownBy w' v2.ownBlock) (h1 : ∀ b, v2.ownBlock = some b → b ≠ gx ∧ ¬ s.has b) : XAt w' gx lo s x :=
  have hl := h.lt
  have hn : some gx ≠ v2.ownBlock := fun e => (h1 gx e.symm).1 rfl
  ⟨hg.cell h.k0 hn, hg.cell h.k1 hn, hg.cell h.k2 hn, (hg.frozen_far ⟨gx, 0, none⟩ hl hn).trans h.f0, (hg.frozen_far ⟨gx, 1, none⟩ hl hn).trans h.f1, (hg.frozen_far ⟨gx, 2, none⟩ hl hn).trans h.f2,
    ⟨own_keep h.own.st (v2 := v2) (fun b hb e => (h1 b hb).2 (.inl e)) hg, own_keep h.own.rm (v2 := v2) (fun b hb e => (h1 b hb).2 (.inr (.inl e))) hg, own_keep h.own.wy (v2 := v2) (fun b hb e => (h1 b hb).2 (.inr (.inr e))) hg, h.own.ap12, h.own.ap13, h.own.ap23⟩, h.o1, h.o2, h.o3⟩
/-- a scheme under way in block gx, faults in a row, the rows' texts in block gb, the result's block gr; a: the world of the call -/
structure RdAt (a w : World) (gr gx gb : Nat) (rows : List ByteArray) (s : SV) (x : Sch) (A : Option Addr) (n c : Nat) (fs : List Fault) : Prop where
  xa : XAt w gx a.heap.size s x
  own : w.ownsRow a.heap.size 42 2 (.slice A n c) n (fs.flatMap encFault)
  ap : ∀ b, (Value.slice A n c).ownBlock = some b → ¬ s.has b ∧ b ≠ gx ∧ b ≠ gb ∧ b ≠ gr
  res : Blk3 w gr (.slice none 0 0) (.slice none 0 0) (.slice none 0 0)
  rws : ∀ (i : Nat) (z : ByteArray), rows[i]? = some z → w.cell? ⟨gb, i, none⟩ = some (.string z)
  bl : Below a.heap.size a w
  lb : gb < w.heap.size
  hr : a.heap.size ≤ gr
  hx : a.heap.size ≤ gx
  rx : gr ≠ gx
  bx : gb ≠ gx
  br : gb ≠ gr
  nb : ¬ s.has gb
  nr : ¬ s.has gr
namespace RdAt
variable {a w w' : World} {gr gx gb : Nat} {rows : List ByteArray} {s s2 : SV} {x x2 : Sch} {A : Option Addr} {n c : Nat} {fs : List Fault}
theorem row (t : RdAt a w gr gx gb rows s x A n c fs) (h : XAt w' gx a.heap.size s2 x2) (hk : Kin s s2 w.heap.size) (hf : FarB gx s w w') (hb : Below a.heap.size w w') : RdAt a w' gr gx gb rows s2 x2 A n c fs :=
  have hlr := t.res.lt
  have far : ∀ b, b < w.heap.size → ¬ s.has b → ¬ s2.has b := fun b hl hs h2 => by
    rcases hk b h2 with h3 | h3
    · exact hs h3
    · omega
  have hres : w'.heap[gr]? = w.heap[gr]? := hf gr hlr t.rx t.nr
  have fc : ∀ (j : Nat), w'.cell? ⟨gr, j, none⟩ = w.cell? ⟨gr, j, none⟩ := fun j => World.cell?_of_block (a := ⟨gr, j, none⟩) hres
  have ff : ∀ (j : Nat), w'.frozen? ⟨gr, j, none⟩ = w.frozen? ⟨gr, j, none⟩ := fun j => World.frozen?_of_block (a := ⟨gr, j, none⟩) hres
  ⟨h, own_blk t.own (fun b hb2 => hf b (t.own.lt b hb2).2 (t.ap b hb2).2.1 (t.ap b hb2).1), fun b hb2 => ⟨far b (t.own.lt b hb2).2 (t.ap b hb2).1, (t.ap b hb2).2⟩,
    ⟨(fc 0).trans t.res.c0, (fc 1).trans t.res.c1, (fc 2).trans t.res.c2, (ff 0).trans t.res.f0, (ff 1).trans t.res.f1, (ff 2).trans t.res.f2⟩,
    fun i z hz => (World.cell?_of_block (a := ⟨gb, i, none⟩) (hf gb t.lb t.bx t.nb)).trans (t.rws i z hz), t.bl.trans hb, Nat.lt_of_lt_of_le t.lb hb.size, t.hr, t.hx, t.rx, t.bx, t.br, far gb t.lb t.nb, far gr hlr t.nr⟩
theorem put {gg cap H : Nat} {f : Fault} (t : RdAt a w gr gx gb rows s x A n c fs) (hg : w.grownBy w' (Value.slice A n c).ownBlock) (hat : (Value.slice A n c).ownBlock = some gg ∨ gg = H) (hH : w.heap.size ≤ H)
    (ho : w'.ownsRow a.heap.size 42 2 (.slice (some ⟨gg, 0, none⟩) (n + 1) cap) (n + 1) ((fs ++ [f]).flatMap encFault)) : RdAt a w' gr gx gb rows s x (some ⟨gg, 0, none⟩) (n + 1) cap (fs ++ [f]) :=
  have hlr := t.res.lt
  have hlx := t.xa.lt
  have hlb := t.lb
  ⟨t.xa.grow hg (fun b hb => ⟨(t.ap b hb).2.1, (t.ap b hb).1⟩), ho, fun b hb => by
      have := own_is hb
      subst this
      rcases hat with h | h
      · exact t.ap gg h
      · exact ⟨fun e => by have := (t.xa.has_lt e).2; omega, by omega, by omega, by omega⟩,
    t.res.grow hg (fun e => (t.ap gr e).2.2.2 rfl), fun i z hz => hg.cell (t.rws i z hz) (fun e => (t.ap gb e.symm).2.2.1 rfl), t.bl.grown hg t.bl.size (fun b hb => (t.own.lt b hb).1), Nat.lt_of_lt_of_le hlb hg.size, t.hr, t.hx, t.rx, t.bx, t.br, t.nb, t.nr⟩
theorem below (t : RdAt a w gr gx gb rows s x A n c fs) (hb : Below w.heap.size w w') : RdAt a w' gr gx gb rows s x A n c fs :=
  t.row (t.xa.below hb) (Kin.refl _ _) (FarB.of hb) (hb.mono t.bl.size)
end RdAt
/-- what reading a scheme leaves: the scheme, its faults, a code -/
def SchP (w : World) (X : Sch × List (Int × Int) × Int) (r : Ending) (w' : World) : Prop :=
  ∃ (s : SV) (A : Option Addr) (n c : Nat), r = .returned (.tuple #[s.v, .slice A n c, .int .i64 X.2.2]) ∧ OwnX w' w.heap.size s X.1 ∧ w'.ownsRow w.heap.size 42 2 (.slice A n c) n ((fL X.2.1).flatMap encFault) ∧ (∀ b, (Value.slice A n c).ownBlock = some b → ¬ s.has b) ∧ Below w.heap.size w w'
theorem RdAt.fin {a w : World} {gr gx gb : Nat} {rows : List ByteArray} {s : SV} {x : Sch} {A : Option Addr} {n c : Nat} {fs : List (Int × Int)} {X : Sch × List (Int × Int) × Int} {r : Ending} (t : RdAt a w gr gx gb rows s x A n c (fL fs)) (hX : X = (x, fs, 0)) (hr : r = .returned (.tuple #[s.v, .slice A n c, .int .i64 0])) :
    SchP a X r (((w.setCell ⟨gr, 0, none⟩ (.slice s.A1 s.n1 s.c1)).setCell ⟨gr, 1, none⟩ (.slice s.A2 s.n2 s.c2)).setCell ⟨gr, 2, none⟩ (.slice s.A3 s.n3 s.c3)) := by
  subst hX
  have o1 := t.xa.own
  exact ⟨s, A, n, c, hr, ⟨ow_set3 (fun e => t.nr (.inl e)) o1.st, ow_set3 (fun e => t.nr (.inr (.inl e))) o1.rm, ow_set3 (fun e => t.nr (.inr (.inr e))) o1.wy, o1.ap12, o1.ap13, o1.ap23⟩, ow_set3 (fun e => (t.ap gr e).2.2.2 rfl) t.own, fun b hb => (t.ap b hb).1,
    ((t.bl.setCell (p := ⟨gr, 0, none⟩) t.hr _).setCell (p := ⟨gr, 1, none⟩) t.hr _).setCell (p := ⟨gr, 2, none⟩) t.hr _⟩
theorem SchP.long {w w' : World} {X : Sch × List (Int × Int) × Int} {r : Ending} (hX : X = (⟨[], [], []⟩, [], 2)) (hr : r = .returned (.tuple #[.agg #[.slice none 0 0, .slice none 0 0, .slice none 0 0], .slice none 0 0, .int .i64 2])) (hb : Below w.heap.size w w') : SchP w X r w' := by
  subst hX
  exact ⟨⟨none, 0, 0, none, 0, 0, none, 0, 0⟩, none, 0, 0, hr, ⟨World.ownsRow_nil _ _ _ _, World.ownsRow_nil _ _ _ _, World.ownsRow_nil _ _ _ _, fun b h => by simp [Value.ownBlock] at h, fun b h => by simp [Value.ownBlock] at h, fun b h => by simp [Value.ownBlock] at h⟩, World.ownsRow_nil _ _ _ _, fun b h => by simp [Value.ownBlock] at h, hb⟩
theorem rowF_rm (x : Sch) (ws : List ByteArray) : (rowF x ws).1.rm.length ≤ x.rm.length + 1 := by
  have hp : ∀ y, (pairF x y).1.rm = x.rm := fun y => by unfold pairF; (repeat' split) <;> rfl
  unfold rowF
  repeat' split
  all_goals first | (simp; done) | (simp [hp]; done) | skip
/-- what holds of a scheme under way and its faults -/
def RInv (x : Sch) (fs : List (Int × Int)) (k : Nat) : Prop := validX x = true ∧ fs.length ≤ 20 ∧ x.rm.length ≤ k
theorem RInv.start (k : Nat) : RInv ⟨[], [], []⟩ [] k := ⟨rfl, by simp, by simp⟩
theorem RInv.next {x : Sch} {fs fs2 : List (Int × Int)} {k : Nat} {ws : List ByteArray} (h : RInv x fs k) (h2 : fs2.length ≤ 20) : RInv (rowF x ws).1 fs2 (k + 1) := ⟨row_valid h.1, h2, Nat.le_trans (rowF_rm x ws) (by have := h.2.2; omega)⟩
theorem RInv.le {x : Sch} {fs : List (Int × Int)} {k : Nat} (h : RInv x fs k) : x.st.length ≤ 20 ∧ x.wy.length ≤ 60 := ⟨validX_stl h.1, validX_wyl h.1⟩
theorem rowsF_at {x : Sch} {fs : List (Int × Int)} {rows : List ByteArray} {k : Nat} {z : ByteArray} (h : rows[k]? = some z) : rowsF x fs k (rows.drop k) = rowsF (rowF x (wordsR z)).1 (addF fs k (rowF x (wordsR z)).2) (k + 1) (rows.drop (k + 1)) := by
  rw [drop_at h, rowsF]
end Go.Proofs.YtcgkcfmiabninaaGreatDoor
/-
  Two drawn schemes. No condition.
-/
namespace Go.Proofs.YtcgkcfmiabninaaGreatDoor
open Go.RowKit
set_option maxHeartbeats 400000

theorem Blk3.drew {w : World} {gr : Nat} {v0 v1 v2 : Value} (t : Blk3 w gr v0 v1 v2) : Blk3 w.drew gr v0 v1 v2 := ⟨t.c0, t.c1, t.c2, t.f0, t.f1, t.f2⟩
theorem Blk3.set3 {w : World} {gr b : Nat} {v0 v1 v2 x y z : Value} (t : Blk3 w gr v0 v1 v2) (h : b ≠ gr) : Blk3 (((w.setCell ⟨b, 0, none⟩ x).setCell ⟨b, 1, none⟩ y).setCell ⟨b, 2, none⟩ z) gr v0 v1 v2 := ((t.set h).set h).set h
theorem blw_set3 {B : Nat} {a w : World} {b : Nat} {x y z : Value} (h : Below B a w) (hb : B ≤ b) : Below B a (((w.setCell ⟨b, 0, none⟩ x).setCell ⟨b, 1, none⟩ y).setCell ⟨b, 2, none⟩ z) := ((h.setCell (p := ⟨b, 0, none⟩) hb _).setCell (p := ⟨b, 1, none⟩) hb _).setCell (p := ⟨b, 2, none⟩) hb _
theorem OwnX.set3 {w : World} {lo b : Nat} {s : SV} {x : Sch} {u v z : Value} (h : OwnX w lo s x) (hb : b < lo) : OwnX (((w.setCell ⟨b, 0, none⟩ u).setCell ⟨b, 1, none⟩ v).setCell ⟨b, 2, none⟩ z) lo s x :=
  ⟨ow_set3 (fun e => by have := (h.st.lt _ e).1; omega) h.st, ow_set3 (fun e => by have := (h.rm.lt _ e).1; omega) h.rm, ow_set3 (fun e => by have := (h.wy.lt _ e).1; omega) h.wy, h.ap12, h.ap13, h.ap23⟩
theorem OwnX.drew {w : World} {lo : Nat} {s : SV} {x : Sch} (h : OwnX w lo s x) : OwnX w.drew lo s x := ⟨h.st, h.rm, h.wy, h.ap12, h.ap13, h.ap23⟩
/-- two schemes of one's own and two results' blocks -/
structure Two (a w : World) (r1 r2 gx gy lo lo2 : Nat) (s t : SV) (x y : Sch) : Prop where
  xa : XAt w gx lo s x
  ya : XAt w gy lo2 t y
  ra : Blk3 w r1 (.slice none 0 0) (.slice none 0 0) (.slice none 0 0)
  rb : Blk3 w r2 (.slice none 0 0) (.slice none 0 0) (.slice none 0 0)
  bl : Below a.heap.size a w
  h1 : a.heap.size ≤ r1
  h2 : r1 < r2
  h3 : r2 < lo
  h4 : lo ≤ gx
  h5 : gx < lo2
  h6 : lo2 ≤ gy
  h7 : ∀ q, s.has q → q < lo2
namespace Two
variable {a w w' : World} {r1 r2 gx gy lo lo2 : Nat} {s t t2 : SV} {x y y2 : Sch}
/-- an element appended to one of the second's lists -/
theorem put {k : Nat} {v u : Value} (h : Two a w r1 r2 gx gy lo lo2 s t x y) (hg : w.grownBy w' v.ownBlock) (hv : ∀ b, v.ownBlock = some b → lo2 ≤ b) (hy : XAt (w'.setCell ⟨gy, k, none⟩ u) gy lo2 t2 y2) : Two a (w'.setCell ⟨gy, k, none⟩ u) r1 r2 gx gy lo lo2 s t2 x y2 :=
  have h1 := h.h1; have h2 := h.h2; have h3 := h.h3; have h4 := h.h4; have h5 := h.h5; have h6 := h.h6
  ⟨(h.xa.grow hg (fun b hb => ⟨by have := hv b hb; omega, fun e => by have := hv b hb; have := h.h7 b e; omega⟩)).far (by omega) (fun q e => by have := h.h7 q e; omega), hy,
    (h.ra.grow hg (fun e => by have := hv _ e; omega)).set (by omega), (h.rb.grow hg (fun e => by have := hv _ e; omega)).set (by omega),
    (h.bl.grown hg h.bl.size (fun b hb => by have := hv b hb; omega)).setCell (p := ⟨gy, k, none⟩) (by simp only; omega) _, h1, h2, h3, h4, h5, h6, h.h7⟩
/-- a store into one of the second's own rows -/
theorem store {b k : Nat} {u : Value} (h : Two a w r1 r2 gx gy lo lo2 s t x y) (hb : lo2 ≤ b) (hy : XAt (w.setCell ⟨b, k, none⟩ u) gy lo2 t2 y2) : Two a (w.setCell ⟨b, k, none⟩ u) r1 r2 gx gy lo lo2 s t2 x y2 :=
  have h1 := h.h1; have h2 := h.h2; have h3 := h.h3; have h4 := h.h4; have h5 := h.h5; have h6 := h.h6
  ⟨h.xa.far (by omega) (fun q e => by have := h.h7 q e; omega), hy, h.ra.set (by omega), h.rb.set (by omega), h.bl.setCell (p := ⟨b, k, none⟩) (by simp only; omega) _, h1, h2, h3, h4, h5, h6, h.h7⟩
end Two
/-- a number of the first way of an own row overwritten -/
theorem set_way0 : ∀ (l : List Way) (m : Int), 0 < l.length → ∃ l2 : List Way, l2.length = l.length ∧ (l.flatMap encWay).set 2 (.int .i64 m) = l2.flatMap encWay := by
  intro l m h
  cases l with
  | nil => simp at h
  | cons y r =>
    obtain ⟨f, t, q⟩ := y
    exact ⟨⟨f, t, m⟩ :: r, by simp, by simp [encWay]⟩
theorem XAt.met0 {w : World} {gs lo g : Nat} {s : SV} {x : Sch} (h : XAt w gs lo s x) (hA : s.A3 = some ⟨g, 0, none⟩) (hl : 0 < x.wy.length) (m : Int) : ∃ ws : List Way, ws.length = x.wy.length ∧ XAt (w.setCell ⟨g, 2, none⟩ (.int .i64 m)) gs lo s ⟨x.st, x.rm, ws⟩ := by
  obtain ⟨A1, n1, c1, A2, n2, c2, A3, n3, c3⟩ := s
  simp only at hA
  subst hA
  obtain ⟨ws, h1, h2⟩ := set_way0 x.wy m hl
  have hst := (h.own.wy.stored 2 (.int .i64 m)).1
  simp only at hst
  rw [h2] at hst
  have hne : g ≠ gs := fun e => h.o3 (by simp only [Value.ownBlock, e])
  have hn1 : (Value.slice A1 n1 c1).ownBlock ≠ some g := fun e => h.own.ap13 g e (by simp [Value.ownBlock])
  have hn2 : (Value.slice A2 n2 c2).ownBlock ≠ some g := fun e => h.own.ap23 g e (by simp [Value.ownBlock])
  exact ⟨ws, h1, (cell_far hne).trans h.k0, (cell_far hne).trans h.k1, (cell_far hne).trans h.k2, by rw [World.frozen?_setCell]; exact h.f0, by rw [World.frozen?_setCell]; exact h.f1, by rw [World.frozen?_setCell]; exact h.f2,
    ⟨ow_set (p := ⟨g, 2, none⟩) hn1 h.own.st, ow_set (p := ⟨g, 2, none⟩) hn2 h.own.rm, hst, h.own.ap12, h.own.ap13, h.own.ap23⟩, h.o1, h.o2, h.o3⟩
set_option maxHeartbeats 8000000 in
set_option maxRecDepth 100000 in
theorem DrawSameScheme_any (v : Value) (w : World) (hv : Bytes w w.heap.size 5000 v) :
    Calls Tryz.prog 17 #[v] w fun r w' => ∃ A1 n1 c1 A2 n2 c2 A3 n3 c3 x B1 m1 d1 B2 m2 d2 B3 m3 d3 y, r = .returned (.tuple #[.agg #[.slice A1 n1 c1, .slice A2 n2 c2, .slice A3 n3 c3], .agg #[.slice B1 m1 d1, .slice B2 m2 d2, .slice B3 m3 d3]]) ∧ SlX w' w'.heap.size ⟨A1, n1, c1, A2, n2, c2, A3, n3, c3⟩ x ∧ SlX w' w'.heap.size ⟨B1, m1, d1, B2, m2, d2, B3, m3, d3⟩ y ∧ (n1 ≤ 2000000 ∧ n2 ≤ 2000000 ∧ n3 ≤ 2000000) ∧ (m1 ≤ 2000000 ∧ m2 ≤ 2000000 ∧ m3 ≤ 2000000) ∧ Below w.heap.size w w' := by
  obtain ⟨i0, hi, hz0, hz1, hz2⟩ := info_parts str_info
  obtain ⟨j0, hj, hy0, hy1, hy2⟩ := info_parts Way_info
  obtain ⟨W0, hW0⟩ : ∃ W0, W0 = (w.alloc (.cells #[.slice none 0 0, .slice none 0 0, .slice none 0 0] 25)).alloc (.cells #[.slice none 0 0, .slice none 0 0, .slice none 0 0] 25) := ⟨_, rfl⟩
  have ra0 : Blk3 W0 w.heap.size (.slice none 0 0) (.slice none 0 0) (.slice none 0 0) := by rw [hW0]; exact ⟨by go_simp, by go_simp, by go_simp, by go_simp, by go_simp, by go_simp⟩
  have rb0 : Blk3 W0 (w.heap.size + 1) (.slice none 0 0) (.slice none 0 0) (.slice none 0 0) := by rw [hW0]; exact ⟨by go_simp, by go_simp, by go_simp, by go_simp, by go_simp, by go_simp⟩
  have b0 : Below w.heap.size w W0 := by rw [hW0]; exact ((Below.refl _ _).alloc (Nat.le_refl _) _).alloc (by simp) _
  have z0 : w.heap.size + 1 < W0.heap.size := rb0.lt
  have hF := l00From_any v W0 ((hv.below b0).more (by omega))
  have HW0 := hid hW0
  clear hW0 hv
  go_enter Tryz.func17, Tryz.ntmps17
  go_wp2_with fail
  rw [← HW0.out]
  refine hF.mono ?_
  rintro r w1 ⟨rfl, hs1, b1, z1⟩
  clear hF
  obtain ⟨gs, hgs⟩ : ∃ gs, gs = W0.heap.size := ⟨_, rfl⟩
  rw [← hgs] at hs1 z1
  have ra1 := ra0.at_ b1 (by omega)
  have rb1 := rb0.at_ b1 (by omega)
  have hD : Calls Tryz.prog 42 #[.pointer (some ⟨gs, 0, none⟩)] w1 fun r w' => ∃ A1 n1 c1 A2 n2 c2 A3 n3 c3 x, r = .returned (.agg #[.slice A1 n1 c1, .slice A2 n2 c2, .slice A3 n3 c3]) ∧ OwnX w' w1.heap.size ⟨A1, n1, c1, A2, n2, c2, A3, n3, c3⟩ x ∧ TinyX x ∧ SrcAt w' gs (0 + 100) ∧ w1.grownBy w' (some gs) :=
    (l21Draw_any gs 0 w1 hs1 (by omega)).mono fun r w' ⟨⟨A1, n1, c1, A2, n2, c2, A3, n3, c3⟩, x, h⟩ => ⟨A1, n1, c1, A2, n2, c2, A3, n3, c3, x, h⟩
  have c1 := b0.trans (b1.mono b0.size)
  have hgw : w.heap.size + 1 < gs := by omega
  go_wp2_with fail
  rw [← hgs]
  refine hD.mono ?_
  rintro r w2 ⟨A1, n1, k1, A2, n2, k2, A3, n3, k3, x, rfl, o2, px, hs2, hg2⟩
  clear hD
  have z2 := hg2.size
  have c2 := below_src c1 hg2 (by omega) c1.size
  have ra2 := ra1.grow hg2 (by simp; omega)
  have rb2 := rb1.grow hg2 (by simp; omega)
  obtain ⟨W3, hW3⟩ : ∃ W3, W3 = w2.alloc (.cells #[.slice A1 n1 k1, .slice A2 n2 k2, .slice A3 n3 k3] 25) := ⟨_, rfl⟩
  have b3 : Below w2.heap.size w2 W3 := by rw [hW3]; exact (Below.refl _ _).alloc (Nat.le_refl _) _
  have X3 : XAt W3 w2.heap.size w1.heap.size ⟨A1, n1, k1, A2, n2, k2, A3, n3, k3⟩ x := by rw [hW3]; exact XAt.boxed o2
  have z3 := b3.size
  have zx := X3.lt
  have hln := X3.len
  simp only at hln
  have hf := px.1
  have nx : n1 ≤ 8 ∧ n2 ≤ 8 ∧ n3 ≤ 8 := by have := hf.1; have := hf.2.1; have := hf.2.2.1; omega
  have hmet := hid px.2
  have HLN := hid hln
  have cO := l21Own_any w2.heap.size A1 A2 A3 n1 k1 n2 k2 n3 k3 x W3 W3.heap.size (Nat.le_refl _) (by omega) (by omega) (by omega) X3.own.sl X3.k0 X3.k1 X3.k2
  have HW3 := hid hW3
  clear hW3 hln hf
  go_wp2_with fail
  rw [← HW3.out]
  refine cO.mono ?_
  rintro r w4 ⟨Y1, d1, Y2, d2, Y3, d3, rfl, o4, b4⟩
  clear cO
  obtain ⟨W5, hW5⟩ : ∃ W5, W5 = w4.alloc (.cells #[.slice Y1 n1 d1, .slice Y2 n2 d2, .slice Y3 n3 d3] 25) := ⟨_, rfl⟩
  have b5 : Below W3.heap.size W3 W5 := by rw [hW5]; exact b4.alloc b4.size _
  have Y5 : XAt W5 w4.heap.size W3.heap.size ⟨Y1, n1, d1, Y2, n2, d2, Y3, n3, d3⟩ x := by rw [hW5]; exact XAt.boxed o4
  have z4 := b4.size
  have z5 := b5.size
  have T5 : Two w W5 w.heap.size (w.heap.size + 1) w2.heap.size w4.heap.size w1.heap.size W3.heap.size ⟨A1, n1, k1, A2, n2, k2, A3, n3, k3⟩ ⟨Y1, n1, d1, Y2, n2, d2, Y3, n3, d3⟩ x x :=
    ⟨X3.below b5, Y5, (ra2.at_ b3 ra2.lt).at_ b5 (by omega), (rb2.at_ b3 rb2.lt).at_ b5 (by omega), (c2.trans (b3.mono c2.size)).trans (b5.mono (by omega)), Nat.le_refl _, by omega, by omega, by omega, zx, z4, fun q hq => (X3.has_lt hq).2⟩
  have s5 : SrcAt W5 gs 100 := (hs2.below (b3.mono (by have := hs2.lt; omega))).below (b5.mono (by have := hs2.lt; omega))
  have hp := pick_any gs 100 5 W5 s5 (by omega) (by omega)
  have gz : gs < w1.heap.size := z1
  have HW5 := hid hW5
  have HT5 := hid T5
  clear hW5 o4 b4 b5 Y5 T5 s5 hs1 hs2 hg2 o2 X3 b3 ra0 rb0 ra1 rb1 ra2 rb2 b0 b1 c1 c2 HW0 HW3 px
  go_wp2_with fail
  rw [← hgs, ← HW5.out]
  refine hp.mono ?_
  rintro r w6 ⟨q, rfl, q0, q1, hs6, hg6⟩
  have T6 : Two w w6 w.heap.size (w.heap.size + 1) w2.heap.size w4.heap.size w1.heap.size W3.heap.size ⟨A1, n1, k1, A2, n2, k2, A3, n3, k3⟩ ⟨Y1, n1, d1, Y2, n2, d2, Y3, n3, d3⟩ x x := by
    have t := HT5.out
    exact ⟨t.xa.src hg6 gz (by omega), t.ya.src hg6 (by omega) (by omega), t.ra.grow hg6 (by simp; omega), t.rb.grow hg6 (by simp; omega), below_src t.bl hg6 (by omega) t.bl.size, t.h1, t.h2, t.h3, t.h4, t.h5, t.h6, t.h7⟩
  have HT := hid T6
  obtain ⟨gx, hgx⟩ : ∃ g, g = w2.heap.size := ⟨_, rfl⟩
  obtain ⟨gy, hgy⟩ : ∃ g, g = w4.heap.size := ⟨_, rfl⟩
  obtain ⟨ra, hra⟩ : ∃ g, g = w.heap.size := ⟨_, rfl⟩
  obtain ⟨lo, hlo⟩ : ∃ g, g = w1.heap.size := ⟨_, rfl⟩
  obtain ⟨lo2, hlo2⟩ : ∃ g, g = W3.heap.size := ⟨_, rfl⟩
  rw [← hgx, ← hgy, ← hlo, ← hlo2] at HT
  rw [← hgx, ← hgy]
  clear hgx hgy hp HT5 HW5 hs6 hg6 T6 z0 z1 z2 z3 z4 z5 zx hgw gz hgs hra hlo hlo2 ra
  by_cases e0 : q = 0
  · subst e0
    clear q0 q1
    have YX := hid HT.out.ya
    have k0 := YX.out.k0
    have fz := YX.out.f0
    have hlt := YX.out.lt
    have hr := YX.out.own.st
    have q9 := YX.out.o1
    simp only at k0 hr q9
    have hlr := hid hr.lt
    have hbz := HT.out.bl.size
    have hzz := HT.out.ya.lt
    have hlo : lo2 ≤ w6.heap.size := by have := HT.out.h6; omega
    go_wp2_with (at_builtin; refine wpList_append_lies _ rfl _ _ 22 rfl lo2 9 i0 (.string ByteArray.empty) 1 16 Tryz.underlying22 hi hz0 hz1 hz2 rfl (by omega) (.slice Y1 n1 d1) n1 (x.st.flatMap encS) rfl (hr.alloc _) ⟨w6.heap.size, 0, none⟩ 1 1 [.string ⟨#[120]⟩] rfl rfl (World.news_of_block (cs := #[.string ⟨#[120]⟩]) (t := 9) (fr := (0, 0)) (heap_alloc_new w6 _)) (by simp [Value.oneCell']) (by omega) (by simp only [maxLen]; omega) (by omega) (by simp; omega) (w6.heap.size + 1) (by simp) ?_; intro gg cap w7 ho3 hg3 hat3 hlt3; have hgg := (gr_alloc (World.grownBy.refl w6 _)).trans hg3; have f3 := (hgg.frozen_far ⟨gy, 0, none⟩ hlt (fun e => q9 e.symm)).trans fz; have k3 : ∃ v, w7.cell? ⟨gy, 0, none⟩ = some v := ⟨_, hgg.cell k0 (fun e => q9 e.symm)⟩; obtain ⟨v3, k3⟩ := k3)
    obtain ⟨WF, hWF⟩ : ∃ WF, WF = w7.setCell ⟨gy, 0, none⟩ (.slice (some ⟨gg, 0, none⟩) (n1 + 1) cap) := ⟨_, rfl⟩
    rw [← hWF]
    have Y7 := YX.out.put1 (z := ⟨#[120]⟩) (H := w6.heap.size + 1) hgg (by omega) hat3 (by simpa [encS] using ho3)
    have T7 := HT.out.put (v := .slice Y1 n1 d1) hgg (fun b hb => (hlr.out b hb).1) Y7
    simp only at T7
    rw [← hWF] at T7
    replace HT := hid T7
    clear hWF Y7 T7 ho3 hg3 hat3 hlt3 hgg f3 k3 v3 YX k0 fz hlt hr q9 hlr hbz hzz hlo
    have x0 := HT.out.xa.k0
    have x1 := HT.out.xa.k1
    have x2 := HT.out.xa.k2
    have y0 := HT.out.ya.k0
    have y1 := HT.out.ya.k1
    have y2 := HT.out.ya.k2
    simp only at x0 x1 x2 y0 y1 y2
    have lx := HT.out.xa.lt
    have ly := HT.out.ya.lt
    have u0 := HT.out.ra.c0
    have u1 := HT.out.ra.c1
    have u2 := HT.out.ra.c2
    have uf0 := HT.out.ra.f0
    have uf1 := HT.out.ra.f1
    have uf2 := HT.out.ra.f2
    have ul := HT.out.ra.lt
    have v0 := HT.out.rb.c0
    have v1 := HT.out.rb.c1
    have v2 := HT.out.rb.c2
    have vf0 := HT.out.rb.f0
    have vf1 := HT.out.rb.f1
    have vf2 := HT.out.rb.f2
    have vl := HT.out.rb.lt
    have nxa : gx ≠ w.heap.size := by have := HT.out.h2; have := HT.out.h3; have := HT.out.h4; omega
    have nya : gy ≠ w.heap.size := by have := HT.out.h2; have := HT.out.h3; have := HT.out.h4; have := HT.out.h5; have := HT.out.h6; omega
    have nxb : gx ≠ w.heap.size + 1 := by have := HT.out.h3; have := HT.out.h4; omega
    have nyb : gy ≠ w.heap.size + 1 := by have := HT.out.h3; have := HT.out.h4; have := HT.out.h5; have := HT.out.h6; omega
    refine wp_region_last (n := 3) (S := (fun W => W.cell? ⟨gx, 0, none⟩ = some (.slice A1 n1 k1) ∧ W.cell? ⟨gx, 1, none⟩ = some (.slice A2 n2 k2) ∧ W.cell? ⟨gx, 2, none⟩ = some (.slice A3 n3 k3) ∧ W.cell? ⟨gy, 0, none⟩ = some (.slice (some ⟨gg, 0, none⟩) (n1 + 1) cap) ∧ W.cell? ⟨gy, 1, none⟩ = some (.slice Y2 n2 d2) ∧ W.cell? ⟨gy, 2, none⟩ = some (.slice Y3 n3 d3))) (by kernel_rfl) (by kernel_rfl) ?_ (fun hHeld => ?_)
    · (try dsimp only); exact ⟨x0, x1, x2, y0, y1, y2⟩
    refine wpAnyH_take (i := 0) (oi := ⟨some 50, Go.Op.load 25 (Go.Operand.tmp 5), 25, "l21_language.go:468", #[], none⟩) (v := ?_) rfl (by kernel_rfl) (by kernel_rfl) (by kernel_rfl) (fun _ _ _ h => h) (Or.inl ⟨by rfl, ?_⟩) (by assumption) ?_
    rotate_left
    · intro w hSw; (try dsimp only at hSw); go_split_ands; go_simp; first | done | with_reducible rfl
    (try simp only [Act.put, List.setIfInBounds_toArray, List.set_cons_zero, List.set_cons_succ])
    refine wpAnyH_take (i := 1) (oi := ⟨some 51, Go.Op.load 25 (Go.Operand.tmp 6), 25, "l21_language.go:468", #[⟨2, Go.Ground.gcOnly Go.Departure.lateStores⟩], none⟩) (v := ?_) rfl (by kernel_rfl) (by kernel_rfl) (by kernel_rfl) (fun _ _ _ h => h) (Or.inl ⟨by rfl, ?_⟩) (by assumption) ?_
    rotate_left
    · intro w hSw; (try dsimp only at hSw); go_split_ands; go_simp; first | done | with_reducible rfl
    (try simp only [Act.put, List.setIfInBounds_toArray, List.set_cons_zero, List.set_cons_succ])
    refine wpAnyH_ready (rs := [2]) (by kernel_rfl) (by simp) ?_
    refine AllReadyH.cons rfl (fun K hK => ?_) ?_
    · skip
      go_simp
      refine hK.out _ _ ?_ (fun hH2 => ?_)
      · (try dsimp only); (simp only [World.cell?_drew]; exact ⟨(far3 nxa).trans x0, (far3 nxa).trans x1, (far3 nxa).trans x2, (far3 nya).trans y0, (far3 nya).trans y1, (far3 nya).trans y2⟩)
      clear hK K hHeld; have hHeld := hH2; clear hH2
      refine wpAnyH_done (by kernel_rfl) ?_ _
      refine last_step rfl rfl (fun K hK => ?_)
      go_simp
      refine hK.out _ _ ?_
      clear hK K
      go_wp2_with fail
      have tw := HT.out
      have h1 := tw.h1; have h2 := tw.h2; have h3 := tw.h3; have h4 := tw.h4; have h5 := tw.h5; have h6 := tw.h6
      have TX := (((tw.xa.own.set3 (b := w.heap.size) (u := .slice A1 n1 k1) (v := .slice A2 n2 k2) (z := .slice A3 n3 k3) (by omega)).set3 (b := w.heap.size + 1) (u := .slice (some ⟨gg, 0, none⟩) (n1 + 1) cap) (v := .slice Y2 n2 d2) (z := .slice Y3 n3 d3) (by omega)).drew).sl
      have TY := (((tw.ya.own.set3 (b := w.heap.size) (u := .slice A1 n1 k1) (v := .slice A2 n2 k2) (z := .slice A3 n3 k3) (by omega)).set3 (b := w.heap.size + 1) (u := .slice (some ⟨gg, 0, none⟩) (n1 + 1) cap) (v := .slice Y2 n2 d2) (z := .slice Y3 n3 d3) (by omega)).drew).sl
      have PA := (tw.ra.put (.slice A1 n1 k1) (.slice A2 n2 k2) (.slice A3 n3 k3)).set3 (b := w.heap.size + 1) (x := .slice (some ⟨gg, 0, none⟩) (n1 + 1) cap) (y := .slice Y2 n2 d2) (z := .slice Y3 n3 d3) (by omega)
      have PB := (tw.rb.set3 (b := w.heap.size) (x := .slice A1 n1 k1) (y := .slice A2 n2 k2) (z := .slice A3 n3 k3) (by omega)).put (.slice (some ⟨gg, 0, none⟩) (n1 + 1) cap) (.slice Y2 n2 d2) (.slice Y3 n3 d3)
      have BL := (blw_set3 (x := .slice (some ⟨gg, 0, none⟩) (n1 + 1) cap) (y := .slice Y2 n2 d2) (z := .slice Y3 n3 d3) (blw_set3 (x := .slice A1 n1 k1) (y := .slice A2 n2 k2) (z := .slice A3 n3 k3) tw.bl (Nat.le_refl _)) (Nat.le_succ _)).drew
      have P0 := PA.c0
      have P1 := PA.c1
      have P2 := PA.c2
      have Q0 := PB.c0
      have Q1 := PB.c1
      have Q2 := PB.c2
      refine bodyPost_ret (v := .tuple #[.agg #[.slice A1 n1 k1, .slice A2 n2 k2, .slice A3 n3 k3], .agg #[.slice (some ⟨gg, 0, none⟩) (n1 + 1) cap, .slice Y2 n2 d2, .slice Y3 n3 d3]]) (by simp [results, Tryz.results17, go_sem, World.cell?_drew, P0, P1, P2, Q0, Q1, Q2]) rfl ⟨A1, n1, k1, A2, n2, k2, A3, n3, k3, x, (some ⟨gg, 0, none⟩), (n1 + 1), cap, Y2, n2, d2, Y3, n3, d3, ⟨x.st ++ [⟨#[120]⟩], x.rm, x.wy⟩, rfl, TX, TY, ⟨by omega, by omega, by omega⟩, ⟨by omega, by omega, by omega⟩, BL⟩
    exact AllReadyH.nil
  have n0 : (q == 0) = false := by simpa using e0
  by_cases e1 : q = 1
  · subst e1
    clear q0 q1 e0 n0
    have YX := hid HT.out.ya
    have k0 := YX.out.k1
    have fz := YX.out.f1
    have hlt := YX.out.lt
    have hr := YX.out.own.rm
    have q9 := YX.out.o2
    simp only at k0 hr q9
    have hlr := hid hr.lt
    have hbz := HT.out.bl.size
    have hzz := HT.out.ya.lt
    have hlo : lo2 ≤ w6.heap.size := by have := HT.out.h6; omega
    go_wp2_with (at_builtin; refine wpList_append_lies _ rfl _ _ 22 rfl lo2 9 i0 (.string ByteArray.empty) 1 16 Tryz.underlying22 hi hz0 hz1 hz2 rfl (by omega) (.slice Y2 n2 d2) n2 (x.rm.flatMap encS) rfl (hr.alloc _) ⟨w6.heap.size, 0, none⟩ 1 1 [.string ⟨#[120]⟩] rfl rfl (World.news_of_block (cs := #[.string ⟨#[120]⟩]) (t := 9) (fr := (0, 0)) (heap_alloc_new w6 _)) (by simp [Value.oneCell']) (by omega) (by simp only [maxLen]; omega) (by omega) (by simp; omega) (w6.heap.size + 1) (by simp) ?_; intro gg cap w7 ho3 hg3 hat3 hlt3; have hgg := (gr_alloc (World.grownBy.refl w6 _)).trans hg3; have f3 := (hgg.frozen_far ⟨gy, 1, none⟩ hlt (fun e => q9 e.symm)).trans fz; have k3 : ∃ v, w7.cell? ⟨gy, 1, none⟩ = some v := ⟨_, hgg.cell k0 (fun e => q9 e.symm)⟩; obtain ⟨v3, k3⟩ := k3)
    obtain ⟨WF, hWF⟩ : ∃ WF, WF = w7.setCell ⟨gy, 1, none⟩ (.slice (some ⟨gg, 0, none⟩) (n2 + 1) cap) := ⟨_, rfl⟩
    rw [← hWF]
    have Y7 := YX.out.put2 (z := ⟨#[120]⟩) (H := w6.heap.size + 1) hgg (by omega) hat3 (by simpa [encS] using ho3)
    have T7 := HT.out.put (v := .slice Y2 n2 d2) hgg (fun b hb => (hlr.out b hb).1) Y7
    simp only at T7
    rw [← hWF] at T7
    replace HT := hid T7
    clear hWF Y7 T7 ho3 hg3 hat3 hlt3 hgg f3 k3 v3 YX k0 fz hlt hr q9 hlr hbz hzz hlo
    have x0 := HT.out.xa.k0
    have x1 := HT.out.xa.k1
    have x2 := HT.out.xa.k2
    have y0 := HT.out.ya.k0
    have y1 := HT.out.ya.k1
    have y2 := HT.out.ya.k2
    simp only at x0 x1 x2 y0 y1 y2
    have lx := HT.out.xa.lt
    have ly := HT.out.ya.lt
    have u0 := HT.out.ra.c0
    have u1 := HT.out.ra.c1
    have u2 := HT.out.ra.c2
    have uf0 := HT.out.ra.f0
    have uf1 := HT.out.ra.f1
    have uf2 := HT.out.ra.f2
    have ul := HT.out.ra.lt
    have v0 := HT.out.rb.c0
    have v1 := HT.out.rb.c1
    have v2 := HT.out.rb.c2
    have vf0 := HT.out.rb.f0
    have vf1 := HT.out.rb.f1
    have vf2 := HT.out.rb.f2
    have vl := HT.out.rb.lt
    have nxa : gx ≠ w.heap.size := by have := HT.out.h2; have := HT.out.h3; have := HT.out.h4; omega
    have nya : gy ≠ w.heap.size := by have := HT.out.h2; have := HT.out.h3; have := HT.out.h4; have := HT.out.h5; have := HT.out.h6; omega
    have nxb : gx ≠ w.heap.size + 1 := by have := HT.out.h3; have := HT.out.h4; omega
    have nyb : gy ≠ w.heap.size + 1 := by have := HT.out.h3; have := HT.out.h4; have := HT.out.h5; have := HT.out.h6; omega
    refine wp_region_last (n := 3) (S := (fun W => W.cell? ⟨gx, 0, none⟩ = some (.slice A1 n1 k1) ∧ W.cell? ⟨gx, 1, none⟩ = some (.slice A2 n2 k2) ∧ W.cell? ⟨gx, 2, none⟩ = some (.slice A3 n3 k3) ∧ W.cell? ⟨gy, 0, none⟩ = some (.slice Y1 n1 d1) ∧ W.cell? ⟨gy, 1, none⟩ = some (.slice (some ⟨gg, 0, none⟩) (n2 + 1) cap) ∧ W.cell? ⟨gy, 2, none⟩ = some (.slice Y3 n3 d3))) (by kernel_rfl) (by kernel_rfl) ?_ (fun hHeld => ?_)
    · (try dsimp only); exact ⟨x0, x1, x2, y0, y1, y2⟩
    refine wpAnyH_take (i := 0) (oi := ⟨some 50, Go.Op.load 25 (Go.Operand.tmp 5), 25, "l21_language.go:468", #[], none⟩) (v := ?_) rfl (by kernel_rfl) (by kernel_rfl) (by kernel_rfl) (fun _ _ _ h => h) (Or.inl ⟨by rfl, ?_⟩) (by assumption) ?_
    rotate_left
    · intro w hSw; (try dsimp only at hSw); go_split_ands; go_simp; first | done | with_reducible rfl
    (try simp only [Act.put, List.setIfInBounds_toArray, List.set_cons_zero, List.set_cons_succ])
    refine wpAnyH_take (i := 1) (oi := ⟨some 51, Go.Op.load 25 (Go.Operand.tmp 6), 25, "l21_language.go:468", #[⟨2, Go.Ground.gcOnly Go.Departure.lateStores⟩], none⟩) (v := ?_) rfl (by kernel_rfl) (by kernel_rfl) (by kernel_rfl) (fun _ _ _ h => h) (Or.inl ⟨by rfl, ?_⟩) (by assumption) ?_
    rotate_left
    · intro w hSw; (try dsimp only at hSw); go_split_ands; go_simp; first | done | with_reducible rfl
    (try simp only [Act.put, List.setIfInBounds_toArray, List.set_cons_zero, List.set_cons_succ])
    refine wpAnyH_ready (rs := [2]) (by kernel_rfl) (by simp) ?_
    refine AllReadyH.cons rfl (fun K hK => ?_) ?_
    · skip
      go_simp
      refine hK.out _ _ ?_ (fun hH2 => ?_)
      · (try dsimp only); (simp only [World.cell?_drew]; exact ⟨(far3 nxa).trans x0, (far3 nxa).trans x1, (far3 nxa).trans x2, (far3 nya).trans y0, (far3 nya).trans y1, (far3 nya).trans y2⟩)
      clear hK K hHeld; have hHeld := hH2; clear hH2
      refine wpAnyH_done (by kernel_rfl) ?_ _
      refine last_step rfl rfl (fun K hK => ?_)
      go_simp
      refine hK.out _ _ ?_
      clear hK K
      go_wp2_with fail
      have tw := HT.out
      have h1 := tw.h1; have h2 := tw.h2; have h3 := tw.h3; have h4 := tw.h4; have h5 := tw.h5; have h6 := tw.h6
      have TX := (((tw.xa.own.set3 (b := w.heap.size) (u := .slice A1 n1 k1) (v := .slice A2 n2 k2) (z := .slice A3 n3 k3) (by omega)).set3 (b := w.heap.size + 1) (u := .slice Y1 n1 d1) (v := .slice (some ⟨gg, 0, none⟩) (n2 + 1) cap) (z := .slice Y3 n3 d3) (by omega)).drew).sl
      have TY := (((tw.ya.own.set3 (b := w.heap.size) (u := .slice A1 n1 k1) (v := .slice A2 n2 k2) (z := .slice A3 n3 k3) (by omega)).set3 (b := w.heap.size + 1) (u := .slice Y1 n1 d1) (v := .slice (some ⟨gg, 0, none⟩) (n2 + 1) cap) (z := .slice Y3 n3 d3) (by omega)).drew).sl
      have PA := (tw.ra.put (.slice A1 n1 k1) (.slice A2 n2 k2) (.slice A3 n3 k3)).set3 (b := w.heap.size + 1) (x := .slice Y1 n1 d1) (y := .slice (some ⟨gg, 0, none⟩) (n2 + 1) cap) (z := .slice Y3 n3 d3) (by omega)
      have PB := (tw.rb.set3 (b := w.heap.size) (x := .slice A1 n1 k1) (y := .slice A2 n2 k2) (z := .slice A3 n3 k3) (by omega)).put (.slice Y1 n1 d1) (.slice (some ⟨gg, 0, none⟩) (n2 + 1) cap) (.slice Y3 n3 d3)
      have BL := (blw_set3 (x := .slice Y1 n1 d1) (y := .slice (some ⟨gg, 0, none⟩) (n2 + 1) cap) (z := .slice Y3 n3 d3) (blw_set3 (x := .slice A1 n1 k1) (y := .slice A2 n2 k2) (z := .slice A3 n3 k3) tw.bl (Nat.le_refl _)) (Nat.le_succ _)).drew
      have P0 := PA.c0
      have P1 := PA.c1
      have P2 := PA.c2
      have Q0 := PB.c0
      have Q1 := PB.c1
      have Q2 := PB.c2
      refine bodyPost_ret (v := .tuple #[.agg #[.slice A1 n1 k1, .slice A2 n2 k2, .slice A3 n3 k3], .agg #[.slice Y1 n1 d1, .slice (some ⟨gg, 0, none⟩) (n2 + 1) cap, .slice Y3 n3 d3]]) (by simp [results, Tryz.results17, go_sem, World.cell?_drew, P0, P1, P2, Q0, Q1, Q2]) rfl ⟨A1, n1, k1, A2, n2, k2, A3, n3, k3, x, Y1, n1, d1, (some ⟨gg, 0, none⟩), (n2 + 1), cap, Y3, n3, d3, ⟨x.st, x.rm ++ [⟨#[120]⟩], x.wy⟩, rfl, TX, TY, ⟨by omega, by omega, by omega⟩, ⟨by omega, by omega, by omega⟩, BL⟩
    exact AllReadyH.nil
  have n1q : (q == 1) = false := by simpa using e1
  by_cases e2 : q = 2
  · subst e2
    clear q0 q1 e0 n0 e1 n1q
    have YX := hid HT.out.ya
    have k0 := YX.out.k2
    have fz := YX.out.f2
    have hlt := YX.out.lt
    have hr := YX.out.own.wy
    have q9 := YX.out.o3
    simp only at k0 hr q9
    have hlr := hid hr.lt
    have hbz := HT.out.bl.size
    have hzz := HT.out.ya.lt
    have hlo : lo2 ≤ w6.heap.size := by have := HT.out.h6; omega
    go_wp2_with (at_builtin; refine wpList_append_lies _ rfl _ _ 23 rfl lo2 62 j0 (.agg #[.string ByteArray.empty, .string ByteArray.empty, .int .i64 0]) 3 40 Tryz.underlying23 hj hy0 hy1 hy2 rfl (by omega) (.slice Y3 n3 d3) n3 (x.wy.flatMap encWay) rfl (hr.alloc _) ⟨w6.heap.size, 0, none⟩ 1 1 [.string ⟨#[]⟩, .string ⟨#[]⟩, .int .i64 0] rfl rfl (World.news_of_block (cs := #[.string ⟨#[]⟩, .string ⟨#[]⟩, .int .i64 0]) (t := 62) (fr := (0, 0)) (heap_alloc_new w6 _)) (by simp [Value.oneCell']) (by omega) (by simp only [maxLen]; omega) (by omega) (by simp; omega) (w6.heap.size + 1) (by simp) ?_; intro gg cap w7 ho3 hg3 hat3 hlt3; have hgg := (gr_alloc (World.grownBy.refl w6 _)).trans hg3; have f3 := (hgg.frozen_far ⟨gy, 2, none⟩ hlt (fun e => q9 e.symm)).trans fz; have k3 : ∃ v, w7.cell? ⟨gy, 2, none⟩ = some v := ⟨_, hgg.cell k0 (fun e => q9 e.symm)⟩; obtain ⟨v3, k3⟩ := k3)
    obtain ⟨WF, hWF⟩ : ∃ WF, WF = w7.setCell ⟨gy, 2, none⟩ (.slice (some ⟨gg, 0, none⟩) (n3 + 1) cap) := ⟨_, rfl⟩
    rw [← hWF]
    have Y7 := YX.out.put3 (z := ⟨⟨#[]⟩, ⟨#[]⟩, 0⟩) (H := w6.heap.size + 1) hgg (by omega) hat3 (by simpa [encWay] using ho3)
    have T7 := HT.out.put (v := .slice Y3 n3 d3) hgg (fun b hb => (hlr.out b hb).1) Y7
    simp only at T7
    rw [← hWF] at T7
    replace HT := hid T7
    clear hWF Y7 T7 ho3 hg3 hat3 hlt3 hgg f3 k3 v3 YX k0 fz hlt hr q9 hlr hbz hzz hlo
    have x0 := HT.out.xa.k0
    have x1 := HT.out.xa.k1
    have x2 := HT.out.xa.k2
    have y0 := HT.out.ya.k0
    have y1 := HT.out.ya.k1
    have y2 := HT.out.ya.k2
    simp only at x0 x1 x2 y0 y1 y2
    have lx := HT.out.xa.lt
    have ly := HT.out.ya.lt
    have u0 := HT.out.ra.c0
    have u1 := HT.out.ra.c1
    have u2 := HT.out.ra.c2
    have uf0 := HT.out.ra.f0
    have uf1 := HT.out.ra.f1
    have uf2 := HT.out.ra.f2
    have ul := HT.out.ra.lt
    have v0 := HT.out.rb.c0
    have v1 := HT.out.rb.c1
    have v2 := HT.out.rb.c2
    have vf0 := HT.out.rb.f0
    have vf1 := HT.out.rb.f1
    have vf2 := HT.out.rb.f2
    have vl := HT.out.rb.lt
    have nxa : gx ≠ w.heap.size := by have := HT.out.h2; have := HT.out.h3; have := HT.out.h4; omega
    have nya : gy ≠ w.heap.size := by have := HT.out.h2; have := HT.out.h3; have := HT.out.h4; have := HT.out.h5; have := HT.out.h6; omega
    have nxb : gx ≠ w.heap.size + 1 := by have := HT.out.h3; have := HT.out.h4; omega
    have nyb : gy ≠ w.heap.size + 1 := by have := HT.out.h3; have := HT.out.h4; have := HT.out.h5; have := HT.out.h6; omega
    refine wp_region_last (n := 3) (S := (fun W => W.cell? ⟨gx, 0, none⟩ = some (.slice A1 n1 k1) ∧ W.cell? ⟨gx, 1, none⟩ = some (.slice A2 n2 k2) ∧ W.cell? ⟨gx, 2, none⟩ = some (.slice A3 n3 k3) ∧ W.cell? ⟨gy, 0, none⟩ = some (.slice Y1 n1 d1) ∧ W.cell? ⟨gy, 1, none⟩ = some (.slice Y2 n2 d2) ∧ W.cell? ⟨gy, 2, none⟩ = some (.slice (some ⟨gg, 0, none⟩) (n3 + 1) cap))) (by kernel_rfl) (by kernel_rfl) ?_ (fun hHeld => ?_)
    · (try dsimp only); exact ⟨x0, x1, x2, y0, y1, y2⟩
    refine wpAnyH_take (i := 0) (oi := ⟨some 50, Go.Op.load 25 (Go.Operand.tmp 5), 25, "l21_language.go:468", #[], none⟩) (v := ?_) rfl (by kernel_rfl) (by kernel_rfl) (by kernel_rfl) (fun _ _ _ h => h) (Or.inl ⟨by rfl, ?_⟩) (by assumption) ?_
    rotate_left
    · intro w hSw; (try dsimp only at hSw); go_split_ands; go_simp; first | done | with_reducible rfl
    (try simp only [Act.put, List.setIfInBounds_toArray, List.set_cons_zero, List.set_cons_succ])
    refine wpAnyH_take (i := 1) (oi := ⟨some 51, Go.Op.load 25 (Go.Operand.tmp 6), 25, "l21_language.go:468", #[⟨2, Go.Ground.gcOnly Go.Departure.lateStores⟩], none⟩) (v := ?_) rfl (by kernel_rfl) (by kernel_rfl) (by kernel_rfl) (fun _ _ _ h => h) (Or.inl ⟨by rfl, ?_⟩) (by assumption) ?_
    rotate_left
    · intro w hSw; (try dsimp only at hSw); go_split_ands; go_simp; first | done | with_reducible rfl
    (try simp only [Act.put, List.setIfInBounds_toArray, List.set_cons_zero, List.set_cons_succ])
    refine wpAnyH_ready (rs := [2]) (by kernel_rfl) (by simp) ?_
    refine AllReadyH.cons rfl (fun K hK => ?_) ?_
    · skip
      go_simp
      refine hK.out _ _ ?_ (fun hH2 => ?_)
      · (try dsimp only); (simp only [World.cell?_drew]; exact ⟨(far3 nxa).trans x0, (far3 nxa).trans x1, (far3 nxa).trans x2, (far3 nya).trans y0, (far3 nya).trans y1, (far3 nya).trans y2⟩)
      clear hK K hHeld; have hHeld := hH2; clear hH2
      refine wpAnyH_done (by kernel_rfl) ?_ _
      refine last_step rfl rfl (fun K hK => ?_)
      go_simp
      refine hK.out _ _ ?_
      clear hK K
      go_wp2_with fail
      have tw := HT.out
      have h1 := tw.h1; have h2 := tw.h2; have h3 := tw.h3; have h4 := tw.h4; have h5 := tw.h5; have h6 := tw.h6
      have TX := (((tw.xa.own.set3 (b := w.heap.size) (u := .slice A1 n1 k1) (v := .slice A2 n2 k2) (z := .slice A3 n3 k3) (by omega)).set3 (b := w.heap.size + 1) (u := .slice Y1 n1 d1) (v := .slice Y2 n2 d2) (z := .slice (some ⟨gg, 0, none⟩) (n3 + 1) cap) (by omega)).drew).sl
      have TY := (((tw.ya.own.set3 (b := w.heap.size) (u := .slice A1 n1 k1) (v := .slice A2 n2 k2) (z := .slice A3 n3 k3) (by omega)).set3 (b := w.heap.size + 1) (u := .slice Y1 n1 d1) (v := .slice Y2 n2 d2) (z := .slice (some ⟨gg, 0, none⟩) (n3 + 1) cap) (by omega)).drew).sl
      have PA := (tw.ra.put (.slice A1 n1 k1) (.slice A2 n2 k2) (.slice A3 n3 k3)).set3 (b := w.heap.size + 1) (x := .slice Y1 n1 d1) (y := .slice Y2 n2 d2) (z := .slice (some ⟨gg, 0, none⟩) (n3 + 1) cap) (by omega)
      have PB := (tw.rb.set3 (b := w.heap.size) (x := .slice A1 n1 k1) (y := .slice A2 n2 k2) (z := .slice A3 n3 k3) (by omega)).put (.slice Y1 n1 d1) (.slice Y2 n2 d2) (.slice (some ⟨gg, 0, none⟩) (n3 + 1) cap)
      have BL := (blw_set3 (x := .slice Y1 n1 d1) (y := .slice Y2 n2 d2) (z := .slice (some ⟨gg, 0, none⟩) (n3 + 1) cap) (blw_set3 (x := .slice A1 n1 k1) (y := .slice A2 n2 k2) (z := .slice A3 n3 k3) tw.bl (Nat.le_refl _)) (Nat.le_succ _)).drew
      have P0 := PA.c0
      have P1 := PA.c1
      have P2 := PA.c2
      have Q0 := PB.c0
      have Q1 := PB.c1
      have Q2 := PB.c2
      refine bodyPost_ret (v := .tuple #[.agg #[.slice A1 n1 k1, .slice A2 n2 k2, .slice A3 n3 k3], .agg #[.slice Y1 n1 d1, .slice Y2 n2 d2, .slice (some ⟨gg, 0, none⟩) (n3 + 1) cap]]) (by simp [results, Tryz.results17, go_sem, World.cell?_drew, P0, P1, P2, Q0, Q1, Q2]) rfl ⟨A1, n1, k1, A2, n2, k2, A3, n3, k3, x, Y1, n1, d1, Y2, n2, d2, (some ⟨gg, 0, none⟩), (n3 + 1), cap, ⟨x.st, x.rm, x.wy ++ [⟨⟨#[]⟩, ⟨#[]⟩, 0⟩]⟩, rfl, TX, TY, ⟨by omega, by omega, by omega⟩, ⟨by omega, by omega, by omega⟩, BL⟩
    exact AllReadyH.nil
  have n2q : (q == 2) = false := by simpa using e2
  by_cases e3 : q = 3
  · subst e3
    clear q0 q1 e0 n0 e1 n1q e2 n2q
    have k2 := HT.out.ya.k2
    simp only at k2
    have ly0 := HT.out.ya.lt
    by_cases h0 : n3 = 0
    · have hp0 : ¬ (0 : Int) < (n3 : Int) := by omega
      clear h0
      go_wp2_with fail
      clear k2 ly0
      have x0 := HT.out.xa.k0
      have x1 := HT.out.xa.k1
      have x2 := HT.out.xa.k2
      have y0 := HT.out.ya.k0
      have y1 := HT.out.ya.k1
      have y2 := HT.out.ya.k2
      simp only at x0 x1 x2 y0 y1 y2
      have lx := HT.out.xa.lt
      have ly := HT.out.ya.lt
      have u0 := HT.out.ra.c0
      have u1 := HT.out.ra.c1
      have u2 := HT.out.ra.c2
      have uf0 := HT.out.ra.f0
      have uf1 := HT.out.ra.f1
      have uf2 := HT.out.ra.f2
      have ul := HT.out.ra.lt
      have v0 := HT.out.rb.c0
      have v1 := HT.out.rb.c1
      have v2 := HT.out.rb.c2
      have vf0 := HT.out.rb.f0
      have vf1 := HT.out.rb.f1
      have vf2 := HT.out.rb.f2
      have vl := HT.out.rb.lt
      have nxa : gx ≠ w.heap.size := by have := HT.out.h2; have := HT.out.h3; have := HT.out.h4; omega
      have nya : gy ≠ w.heap.size := by have := HT.out.h2; have := HT.out.h3; have := HT.out.h4; have := HT.out.h5; have := HT.out.h6; omega
      have nxb : gx ≠ w.heap.size + 1 := by have := HT.out.h3; have := HT.out.h4; omega
      have nyb : gy ≠ w.heap.size + 1 := by have := HT.out.h3; have := HT.out.h4; have := HT.out.h5; have := HT.out.h6; omega
      refine wp_region_last (n := 3) (S := (fun W => W.cell? ⟨gx, 0, none⟩ = some (.slice A1 n1 k1) ∧ W.cell? ⟨gx, 1, none⟩ = some (.slice A2 n2 k2) ∧ W.cell? ⟨gx, 2, none⟩ = some (.slice A3 n3 k3) ∧ W.cell? ⟨gy, 0, none⟩ = some (.slice Y1 n1 d1) ∧ W.cell? ⟨gy, 1, none⟩ = some (.slice Y2 n2 d2) ∧ W.cell? ⟨gy, 2, none⟩ = some (.slice Y3 n3 d3))) (by kernel_rfl) (by kernel_rfl) ?_ (fun hHeld => ?_)
      · (try dsimp only); exact ⟨x0, x1, x2, y0, y1, y2⟩
      refine wpAnyH_take (i := 0) (oi := ⟨some 50, Go.Op.load 25 (Go.Operand.tmp 5), 25, "l21_language.go:468", #[], none⟩) (v := ?_) rfl (by kernel_rfl) (by kernel_rfl) (by kernel_rfl) (fun _ _ _ h => h) (Or.inl ⟨by rfl, ?_⟩) (by assumption) ?_
      rotate_left
      · intro w hSw; (try dsimp only at hSw); go_split_ands; go_simp; first | done | with_reducible rfl
      (try simp only [Act.put, List.setIfInBounds_toArray, List.set_cons_zero, List.set_cons_succ])
      refine wpAnyH_take (i := 1) (oi := ⟨some 51, Go.Op.load 25 (Go.Operand.tmp 6), 25, "l21_language.go:468", #[⟨2, Go.Ground.gcOnly Go.Departure.lateStores⟩], none⟩) (v := ?_) rfl (by kernel_rfl) (by kernel_rfl) (by kernel_rfl) (fun _ _ _ h => h) (Or.inl ⟨by rfl, ?_⟩) (by assumption) ?_
      rotate_left
      · intro w hSw; (try dsimp only at hSw); go_split_ands; go_simp; first | done | with_reducible rfl
      (try simp only [Act.put, List.setIfInBounds_toArray, List.set_cons_zero, List.set_cons_succ])
      refine wpAnyH_ready (rs := [2]) (by kernel_rfl) (by simp) ?_
      refine AllReadyH.cons rfl (fun K hK => ?_) ?_
      · skip
        go_simp
        refine hK.out _ _ ?_ (fun hH2 => ?_)
        · (try dsimp only); (simp only [World.cell?_drew]; exact ⟨(far3 nxa).trans x0, (far3 nxa).trans x1, (far3 nxa).trans x2, (far3 nya).trans y0, (far3 nya).trans y1, (far3 nya).trans y2⟩)
        clear hK K hHeld; have hHeld := hH2; clear hH2
        refine wpAnyH_done (by kernel_rfl) ?_ _
        refine last_step rfl rfl (fun K hK => ?_)
        go_simp
        refine hK.out _ _ ?_
        clear hK K
        go_wp2_with fail
        have tw := HT.out
        have h1 := tw.h1; have h2 := tw.h2; have h3 := tw.h3; have h4 := tw.h4; have h5 := tw.h5; have h6 := tw.h6
        have TX := (((tw.xa.own.set3 (b := w.heap.size) (u := .slice A1 n1 k1) (v := .slice A2 n2 k2) (z := .slice A3 n3 k3) (by omega)).set3 (b := w.heap.size + 1) (u := .slice Y1 n1 d1) (v := .slice Y2 n2 d2) (z := .slice Y3 n3 d3) (by omega)).drew).sl
        have TY := (((tw.ya.own.set3 (b := w.heap.size) (u := .slice A1 n1 k1) (v := .slice A2 n2 k2) (z := .slice A3 n3 k3) (by omega)).set3 (b := w.heap.size + 1) (u := .slice Y1 n1 d1) (v := .slice Y2 n2 d2) (z := .slice Y3 n3 d3) (by omega)).drew).sl
        have PA := (tw.ra.put (.slice A1 n1 k1) (.slice A2 n2 k2) (.slice A3 n3 k3)).set3 (b := w.heap.size + 1) (x := .slice Y1 n1 d1) (y := .slice Y2 n2 d2) (z := .slice Y3 n3 d3) (by omega)
        have PB := (tw.rb.set3 (b := w.heap.size) (x := .slice A1 n1 k1) (y := .slice A2 n2 k2) (z := .slice A3 n3 k3) (by omega)).put (.slice Y1 n1 d1) (.slice Y2 n2 d2) (.slice Y3 n3 d3)
        have BL := (blw_set3 (x := .slice Y1 n1 d1) (y := .slice Y2 n2 d2) (z := .slice Y3 n3 d3) (blw_set3 (x := .slice A1 n1 k1) (y := .slice A2 n2 k2) (z := .slice A3 n3 k3) tw.bl (Nat.le_refl _)) (Nat.le_succ _)).drew
        have P0 := PA.c0
        have P1 := PA.c1
        have P2 := PA.c2
        have Q0 := PB.c0
        have Q1 := PB.c1
        have Q2 := PB.c2
        refine bodyPost_ret (v := .tuple #[.agg #[.slice A1 n1 k1, .slice A2 n2 k2, .slice A3 n3 k3], .agg #[.slice Y1 n1 d1, .slice Y2 n2 d2, .slice Y3 n3 d3]]) (by simp [results, Tryz.results17, go_sem, World.cell?_drew, P0, P1, P2, Q0, Q1, Q2]) rfl ⟨A1, n1, k1, A2, n2, k2, A3, n3, k3, x, Y1, n1, d1, Y2, n2, d2, Y3, n3, d3, x, rfl, TX, TY, ⟨by omega, by omega, by omega⟩, ⟨by omega, by omega, by omega⟩, BL⟩
      exact AllReadyH.nil
    obtain ⟨yg, hyg, _, _⟩ := own_some HT.out.ya.own.wy (by simp only; omega)
    simp only at hyg
    subst hyg
    have hp0 : (0 : Int) < (n3 : Int) := by omega
    have hwl : 0 < x.wy.length := by have := HLN.out; omega
    obtain ⟨f0, t0, mm, h00⟩ : ∃ f t m, x.wy[0]? = some (⟨f, t, m⟩ : Way) := ⟨_, _, _, List.getElem?_eq_getElem hwl⟩
    have hmm := hmet.out _ (List.mem_of_getElem? h00)
    simp only at hmm
    have hown := HT.out.ya.own.wy
    simp only at hown
    have hlg := hown.lt yg rfl
    have c2 : w6.cell? ⟨yg, 2, none⟩ = some (.int .i64 mm) := by
      rw [hown.cellAt 2 (by omega)]
      have := flatMap_get encWay_len (j := 2) (u := .int .i64 mm) x.wy 0 h00 rfl
      simpa using this
    have fz2 := (own_at hown (Below.refl _ _) 2 (by omega)).2
    obtain ⟨ws, hws, Y7⟩ := HT.out.ya.met0 (g := yg) rfl hwl (mm + 1)
    have wm : IntKind.i64.wrap (mm + 1) = mm + 1 := IntWalk.i64_in _ (by omega)
    have T7 := HT.out.store (b := yg) hlg.1 Y7
    have HT2 := hid T7
    have lyg := hlg.2
    clear h00 hmm hown Y7 T7 hwl hlg
    go_wp2_with fail
    obtain ⟨WF, hWF⟩ : ∃ WF, WF = w6.setCell ⟨yg, 2, none⟩ (.int .i64 (mm + 1)) := ⟨_, rfl⟩
    rw [← hWF]
    have T8 := HT2.out
    rw [← hWF] at T8
    replace HT := hid T8
    clear hWF HT2 T8 c2 fz2 k2 ly0 wm lyg
    have x0 := HT.out.xa.k0
    have x1 := HT.out.xa.k1
    have x2 := HT.out.xa.k2
    have y0 := HT.out.ya.k0
    have y1 := HT.out.ya.k1
    have y2 := HT.out.ya.k2
    simp only at x0 x1 x2 y0 y1 y2
    have lx := HT.out.xa.lt
    have ly := HT.out.ya.lt
    have u0 := HT.out.ra.c0
    have u1 := HT.out.ra.c1
    have u2 := HT.out.ra.c2
    have uf0 := HT.out.ra.f0
    have uf1 := HT.out.ra.f1
    have uf2 := HT.out.ra.f2
    have ul := HT.out.ra.lt
    have v0 := HT.out.rb.c0
    have v1 := HT.out.rb.c1
    have v2 := HT.out.rb.c2
    have vf0 := HT.out.rb.f0
    have vf1 := HT.out.rb.f1
    have vf2 := HT.out.rb.f2
    have vl := HT.out.rb.lt
    have nxa : gx ≠ w.heap.size := by have := HT.out.h2; have := HT.out.h3; have := HT.out.h4; omega
    have nya : gy ≠ w.heap.size := by have := HT.out.h2; have := HT.out.h3; have := HT.out.h4; have := HT.out.h5; have := HT.out.h6; omega
    have nxb : gx ≠ w.heap.size + 1 := by have := HT.out.h3; have := HT.out.h4; omega
    have nyb : gy ≠ w.heap.size + 1 := by have := HT.out.h3; have := HT.out.h4; have := HT.out.h5; have := HT.out.h6; omega
    refine wp_region_last (n := 3) (S := (fun W => W.cell? ⟨gx, 0, none⟩ = some (.slice A1 n1 k1) ∧ W.cell? ⟨gx, 1, none⟩ = some (.slice A2 n2 k2) ∧ W.cell? ⟨gx, 2, none⟩ = some (.slice A3 n3 k3) ∧ W.cell? ⟨gy, 0, none⟩ = some (.slice Y1 n1 d1) ∧ W.cell? ⟨gy, 1, none⟩ = some (.slice Y2 n2 d2) ∧ W.cell? ⟨gy, 2, none⟩ = some (.slice (some ⟨yg, 0, none⟩) n3 d3))) (by kernel_rfl) (by kernel_rfl) ?_ (fun hHeld => ?_)
    · (try dsimp only); exact ⟨x0, x1, x2, y0, y1, y2⟩
    refine wpAnyH_take (i := 0) (oi := ⟨some 50, Go.Op.load 25 (Go.Operand.tmp 5), 25, "l21_language.go:468", #[], none⟩) (v := ?_) rfl (by kernel_rfl) (by kernel_rfl) (by kernel_rfl) (fun _ _ _ h => h) (Or.inl ⟨by rfl, ?_⟩) (by assumption) ?_
    rotate_left
    · intro w hSw; (try dsimp only at hSw); go_split_ands; go_simp; first | done | with_reducible rfl
    (try simp only [Act.put, List.setIfInBounds_toArray, List.set_cons_zero, List.set_cons_succ])
    refine wpAnyH_take (i := 1) (oi := ⟨some 51, Go.Op.load 25 (Go.Operand.tmp 6), 25, "l21_language.go:468", #[⟨2, Go.Ground.gcOnly Go.Departure.lateStores⟩], none⟩) (v := ?_) rfl (by kernel_rfl) (by kernel_rfl) (by kernel_rfl) (fun _ _ _ h => h) (Or.inl ⟨by rfl, ?_⟩) (by assumption) ?_
    rotate_left
    · intro w hSw; (try dsimp only at hSw); go_split_ands; go_simp; first | done | with_reducible rfl
    (try simp only [Act.put, List.setIfInBounds_toArray, List.set_cons_zero, List.set_cons_succ])
    refine wpAnyH_ready (rs := [2]) (by kernel_rfl) (by simp) ?_
    refine AllReadyH.cons rfl (fun K hK => ?_) ?_
    · skip
      go_simp
      refine hK.out _ _ ?_ (fun hH2 => ?_)
      · (try dsimp only); (simp only [World.cell?_drew]; exact ⟨(far3 nxa).trans x0, (far3 nxa).trans x1, (far3 nxa).trans x2, (far3 nya).trans y0, (far3 nya).trans y1, (far3 nya).trans y2⟩)
      clear hK K hHeld; have hHeld := hH2; clear hH2
      refine wpAnyH_done (by kernel_rfl) ?_ _
      refine last_step rfl rfl (fun K hK => ?_)
      go_simp
      refine hK.out _ _ ?_
      clear hK K
      go_wp2_with fail
      have tw := HT.out
      have h1 := tw.h1; have h2 := tw.h2; have h3 := tw.h3; have h4 := tw.h4; have h5 := tw.h5; have h6 := tw.h6
      have TX := (((tw.xa.own.set3 (b := w.heap.size) (u := .slice A1 n1 k1) (v := .slice A2 n2 k2) (z := .slice A3 n3 k3) (by omega)).set3 (b := w.heap.size + 1) (u := .slice Y1 n1 d1) (v := .slice Y2 n2 d2) (z := .slice (some ⟨yg, 0, none⟩) n3 d3) (by omega)).drew).sl
      have TY := (((tw.ya.own.set3 (b := w.heap.size) (u := .slice A1 n1 k1) (v := .slice A2 n2 k2) (z := .slice A3 n3 k3) (by omega)).set3 (b := w.heap.size + 1) (u := .slice Y1 n1 d1) (v := .slice Y2 n2 d2) (z := .slice (some ⟨yg, 0, none⟩) n3 d3) (by omega)).drew).sl
      have PA := (tw.ra.put (.slice A1 n1 k1) (.slice A2 n2 k2) (.slice A3 n3 k3)).set3 (b := w.heap.size + 1) (x := .slice Y1 n1 d1) (y := .slice Y2 n2 d2) (z := .slice (some ⟨yg, 0, none⟩) n3 d3) (by omega)
      have PB := (tw.rb.set3 (b := w.heap.size) (x := .slice A1 n1 k1) (y := .slice A2 n2 k2) (z := .slice A3 n3 k3) (by omega)).put (.slice Y1 n1 d1) (.slice Y2 n2 d2) (.slice (some ⟨yg, 0, none⟩) n3 d3)
      have BL := (blw_set3 (x := .slice Y1 n1 d1) (y := .slice Y2 n2 d2) (z := .slice (some ⟨yg, 0, none⟩) n3 d3) (blw_set3 (x := .slice A1 n1 k1) (y := .slice A2 n2 k2) (z := .slice A3 n3 k3) tw.bl (Nat.le_refl _)) (Nat.le_succ _)).drew
      have P0 := PA.c0
      have P1 := PA.c1
      have P2 := PA.c2
      have Q0 := PB.c0
      have Q1 := PB.c1
      have Q2 := PB.c2
      refine bodyPost_ret (v := .tuple #[.agg #[.slice A1 n1 k1, .slice A2 n2 k2, .slice A3 n3 k3], .agg #[.slice Y1 n1 d1, .slice Y2 n2 d2, .slice (some ⟨yg, 0, none⟩) n3 d3]]) (by simp [results, Tryz.results17, go_sem, World.cell?_drew, P0, P1, P2, Q0, Q1, Q2]) rfl ⟨A1, n1, k1, A2, n2, k2, A3, n3, k3, x, Y1, n1, d1, Y2, n2, d2, (some ⟨yg, 0, none⟩), n3, d3, ⟨x.st, x.rm, ws⟩, rfl, TX, TY, ⟨by omega, by omega, by omega⟩, ⟨by omega, by omega, by omega⟩, BL⟩
    exact AllReadyH.nil
  have n3q : (q == 3) = false := by simpa using e3
  clear e0 e1 e2 e3 q0 q1
  go_wp2_with fail
  have x0 := HT.out.xa.k0
  have x1 := HT.out.xa.k1
  have x2 := HT.out.xa.k2
  have y0 := HT.out.ya.k0
  have y1 := HT.out.ya.k1
  have y2 := HT.out.ya.k2
  simp only at x0 x1 x2 y0 y1 y2
  have lx := HT.out.xa.lt
  have ly := HT.out.ya.lt
  have u0 := HT.out.ra.c0
  have u1 := HT.out.ra.c1
  have u2 := HT.out.ra.c2
  have uf0 := HT.out.ra.f0
  have uf1 := HT.out.ra.f1
  have uf2 := HT.out.ra.f2
  have ul := HT.out.ra.lt
  have v0 := HT.out.rb.c0
  have v1 := HT.out.rb.c1
  have v2 := HT.out.rb.c2
  have vf0 := HT.out.rb.f0
  have vf1 := HT.out.rb.f1
  have vf2 := HT.out.rb.f2
  have vl := HT.out.rb.lt
  have nxa : gx ≠ w.heap.size := by have := HT.out.h2; have := HT.out.h3; have := HT.out.h4; omega
  have nya : gy ≠ w.heap.size := by have := HT.out.h2; have := HT.out.h3; have := HT.out.h4; have := HT.out.h5; have := HT.out.h6; omega
  have nxb : gx ≠ w.heap.size + 1 := by have := HT.out.h3; have := HT.out.h4; omega
  have nyb : gy ≠ w.heap.size + 1 := by have := HT.out.h3; have := HT.out.h4; have := HT.out.h5; have := HT.out.h6; omega
  refine wp_region_last (n := 3) (S := (fun W => W.cell? ⟨gx, 0, none⟩ = some (.slice A1 n1 k1) ∧ W.cell? ⟨gx, 1, none⟩ = some (.slice A2 n2 k2) ∧ W.cell? ⟨gx, 2, none⟩ = some (.slice A3 n3 k3) ∧ W.cell? ⟨gy, 0, none⟩ = some (.slice Y1 n1 d1) ∧ W.cell? ⟨gy, 1, none⟩ = some (.slice Y2 n2 d2) ∧ W.cell? ⟨gy, 2, none⟩ = some (.slice Y3 n3 d3))) (by kernel_rfl) (by kernel_rfl) ?_ (fun hHeld => ?_)
  · (try dsimp only); exact ⟨x0, x1, x2, y0, y1, y2⟩
  refine wpAnyH_take (i := 0) (oi := ⟨some 50, Go.Op.load 25 (Go.Operand.tmp 5), 25, "l21_language.go:468", #[], none⟩) (v := ?_) rfl (by kernel_rfl) (by kernel_rfl) (by kernel_rfl) (fun _ _ _ h => h) (Or.inl ⟨by rfl, ?_⟩) (by assumption) ?_
  rotate_left
  · intro w hSw; (try dsimp only at hSw); go_split_ands; go_simp; first | done | with_reducible rfl
  (try simp only [Act.put, List.setIfInBounds_toArray, List.set_cons_zero, List.set_cons_succ])
  refine wpAnyH_take (i := 1) (oi := ⟨some 51, Go.Op.load 25 (Go.Operand.tmp 6), 25, "l21_language.go:468", #[⟨2, Go.Ground.gcOnly Go.Departure.lateStores⟩], none⟩) (v := ?_) rfl (by kernel_rfl) (by kernel_rfl) (by kernel_rfl) (fun _ _ _ h => h) (Or.inl ⟨by rfl, ?_⟩) (by assumption) ?_
  rotate_left
  · intro w hSw; (try dsimp only at hSw); go_split_ands; go_simp; first | done | with_reducible rfl
  (try simp only [Act.put, List.setIfInBounds_toArray, List.set_cons_zero, List.set_cons_succ])
  refine wpAnyH_ready (rs := [2]) (by kernel_rfl) (by simp) ?_
  refine AllReadyH.cons rfl (fun K hK => ?_) ?_
  · skip
    go_simp
    refine hK.out _ _ ?_ (fun hH2 => ?_)
    · (try dsimp only); (simp only [World.cell?_drew]; exact ⟨(far3 nxa).trans x0, (far3 nxa).trans x1, (far3 nxa).trans x2, (far3 nya).trans y0, (far3 nya).trans y1, (far3 nya).trans y2⟩)
    clear hK K hHeld; have hHeld := hH2; clear hH2
    refine wpAnyH_done (by kernel_rfl) ?_ _
    refine last_step rfl rfl (fun K hK => ?_)
    go_simp
    refine hK.out _ _ ?_
    clear hK K
    go_wp2_with fail
    have tw := HT.out
    have h1 := tw.h1; have h2 := tw.h2; have h3 := tw.h3; have h4 := tw.h4; have h5 := tw.h5; have h6 := tw.h6
    have TX := (((tw.xa.own.set3 (b := w.heap.size) (u := .slice A1 n1 k1) (v := .slice A2 n2 k2) (z := .slice A3 n3 k3) (by omega)).set3 (b := w.heap.size + 1) (u := .slice Y1 n1 d1) (v := .slice Y2 n2 d2) (z := .slice Y3 n3 d3) (by omega)).drew).sl
    have TY := (((tw.ya.own.set3 (b := w.heap.size) (u := .slice A1 n1 k1) (v := .slice A2 n2 k2) (z := .slice A3 n3 k3) (by omega)).set3 (b := w.heap.size + 1) (u := .slice Y1 n1 d1) (v := .slice Y2 n2 d2) (z := .slice Y3 n3 d3) (by omega)).drew).sl
    have PA := (tw.ra.put (.slice A1 n1 k1) (.slice A2 n2 k2) (.slice A3 n3 k3)).set3 (b := w.heap.size + 1) (x := .slice Y1 n1 d1) (y := .slice Y2 n2 d2) (z := .slice Y3 n3 d3) (by omega)
    have PB := (tw.rb.set3 (b := w.heap.size) (x := .slice A1 n1 k1) (y := .slice A2 n2 k2) (z := .slice A3 n3 k3) (by omega)).put (.slice Y1 n1 d1) (.slice Y2 n2 d2) (.slice Y3 n3 d3)
    have BL := (blw_set3 (x := .slice Y1 n1 d1) (y := .slice Y2 n2 d2) (z := .slice Y3 n3 d3) (blw_set3 (x := .slice A1 n1 k1) (y := .slice A2 n2 k2) (z := .slice A3 n3 k3) tw.bl (Nat.le_refl _)) (Nat.le_succ _)).drew
    have P0 := PA.c0
    have P1 := PA.c1
    have P2 := PA.c2
    have Q0 := PB.c0
    have Q1 := PB.c1
    have Q2 := PB.c2
    refine bodyPost_ret (v := .tuple #[.agg #[.slice A1 n1 k1, .slice A2 n2 k2, .slice A3 n3 k3], .agg #[.slice Y1 n1 d1, .slice Y2 n2 d2, .slice Y3 n3 d3]]) (by simp [results, Tryz.results17, go_sem, World.cell?_drew, P0, P1, P2, Q0, Q1, Q2]) rfl ⟨A1, n1, k1, A2, n2, k2, A3, n3, k3, x, Y1, n1, d1, Y2, n2, d2, Y3, n3, d3, x, rfl, TX, TY, ⟨by omega, by omega, by omega⟩, ⟨by omega, by omega, by omega⟩, BL⟩
  exact AllReadyH.nil
end Go.Proofs.YtcgkcfmiabninaaGreatDoor
