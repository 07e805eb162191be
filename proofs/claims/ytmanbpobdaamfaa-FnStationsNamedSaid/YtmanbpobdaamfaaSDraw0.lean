/-
  A source of choices: a text; a scheme under way beside a source and a result's block. No condition.
-/
import Derived.Test.YtmanbpobdaamfaaSrc
import Derived.Test.YtmanbpobdaamfaaSDrop
import Derived.Test.YtmanbpobdaamfaaRegL
namespace Go.Proofs.Ytmanbpobdaamfaa
open Go.RowKit
set_option maxHeartbeats 400000

/-- one of some texts -/
theorem text_any (gs k : Nat) (A : Option Addr) (n c : Nat) (xs : List ByteArray) (w : World) (h : SrcAt w gs k) (hk : k ≤ 900000) (hn : n ≤ 1000) (hn0 : 0 < n) (hx : Sl w w.heap.size 1 encS A n xs) (hA : ∀ b off s, A = some ⟨b, off, s⟩ → b ≠ gs) :
    Calls Try.prog 53 #[.pointer (some ⟨gs, 0, none⟩), .slice A n c] w fun e w' => ∃ r, e = .returned (.string r) ∧ r ∈ xs ∧ SrcAt w' gs (k + 2) ∧ w.grownBy w' (some gs) := by
  have hp := pick_any gs k n w h hk (by omega)
  have hpost : ∀ (r : Int) (w1 : World), 0 ≤ r → (r < n ∨ (r = 0 ∧ (n : Int) ≤ 1)) → w.grownBy w1 (some gs) → ∃ (i : Nat) (z : ByteArray) (b off : Nat), r = i ∧ (i : Int) < (n : Int) ∧ z ∈ xs ∧ A = some ⟨b, off, none⟩ ∧ w1.cell? ⟨b, off + i, none⟩ = some (.string z) := by
    intro r w1 r0 r1 hg
    have hi : r.toNat < n := by omega
    obtain ⟨z, b, off, Hx, e, hb, cb⟩ := hx.str hi
    refine ⟨r.toNat, z, b, off, by omega, by omega, List.mem_of_getElem? Hx.out, e, hg.cell cb (fun e2 => hA _ _ _ e (by simpa using e2))⟩
  have HP := hid hpost
  clear h hx hpost
  go_enter Try.func53, Try.ntmps53
  go_wp2_with (go_at_call 79; refine hp.mono ?_; rintro e w1 ⟨r, rfl, r0, r1, hs, hg⟩; obtain ⟨i, z, b, off, rfl, hin, hz, rfl, cz⟩ := HP.out _ _ r0 r1 hg; have hi0 : (0 : Int) ≤ (i : Int) := Int.natCast_nonneg i)
  go_ret
  exact ⟨z, rfl, hz, hs, hg⟩
theorem own_apartS {w w' : World} {lo T k n : Nat} {v : Value} {l : List Value} {row : Option Nat} (h : w.ownsRow lo T k v n l) (hg : w.grownBy w' row) (hn : ∀ b, row = some b → v.ownBlock ≠ some b) : w'.ownsRow lo T k v n l := by
  cases row with
  | none => exact own_keep (v2 := .slice none 0 0) h (fun b hb => by simp [Value.ownBlock] at hb) hg
  | some b => exact own_keep (v2 := .slice (some ⟨b, 0, none⟩) 0 0) h (fun q hq => by simp [Value.ownBlock] at hq; subst hq; exact hn _ rfl) hg
theorem src_grow {a w w' : World} {gs : Nat} {row : Option Nat} (h : a.grownBy w (some gs)) (g : w.grownBy w' row) (hr : ∀ b, row = some b → a.heap.size ≤ b ∨ b = gs) : a.grownBy w' (some gs) :=
  ⟨g.os.trans h.os, g.tape.trans h.tape, g.output.trans h.output, Nat.le_trans h.size g.size, fun i hi hn => (g.block i (Nat.lt_of_lt_of_le hi h.size) (fun e => by
    rcases hr i e.symm with h1 | h1
    · omega
    · exact hn (by rw [h1]))).trans (h.block i hi hn)⟩
theorem src_gset {a w : World} {gs b o : Nat} {u : Value} (h : a.grownBy w (some gs)) (hp : a.heap.size ≤ b) : a.grownBy (w.setCell ⟨b, o, none⟩ u) (some gs) :=
  src_grow h (gr_set (World.grownBy.refl _ _)) (fun q hq => .inl (by injection hq with hq; subst hq; exact hp))
theorem src_below {a w w' : World} {gs B : Nat} (h : a.grownBy w (some gs)) (hb : Below B w w') (hB : a.heap.size ≤ B) : a.grownBy w' (some gs) :=
  ⟨hb.os.trans h.os, hb.tape.trans h.tape, hb.output.trans h.output, Nat.le_trans h.size hb.size, fun i hi hn => (hb.block i (by omega)).trans (h.block i hi hn)⟩
/-- a block of three cells -/
structure Blk3 (w : World) (gr : Nat) (v0 v1 v2 : Value) : Prop where
  c0 : w.cell? ⟨gr, 0, none⟩ = some v0
  c1 : w.cell? ⟨gr, 1, none⟩ = some v1
  c2 : w.cell? ⟨gr, 2, none⟩ = some v2
  f0 : w.frozen? ⟨gr, 0, none⟩ = false
  f1 : w.frozen? ⟨gr, 1, none⟩ = false
  f2 : w.frozen? ⟨gr, 2, none⟩ = false
namespace Blk3
variable {w w' : World} {gr : Nat} {v0 v1 v2 : Value}
theorem lt (t : Blk3 w gr v0 v1 v2) : gr < w.heap.size := World.block_lt_of_cell? _ _ t.c0
theorem at_ {B : Nat} (t : Blk3 w gr v0 v1 v2) (hb : Below B w w') (hB : gr < B) : Blk3 w' gr v0 v1 v2 :=
  ⟨(hb.cell (p := ⟨gr, 0, none⟩) hB).trans t.c0, (hb.cell (p := ⟨gr, 1, none⟩) hB).trans t.c1, (hb.cell (p := ⟨gr, 2, none⟩) hB).trans t.c2, (hb.frozen (p := ⟨gr, 0, none⟩) hB).trans t.f0, (hb.frozen (p := ⟨gr, 1, none⟩) hB).trans t.f1, (hb.frozen (p := ⟨gr, 2, none⟩) hB).trans t.f2⟩
theorem grow {row : Option Nat} (t : Blk3 w gr v0 v1 v2) (hg : w.grownBy w' row) (hne : row ≠ some gr) : Blk3 w' gr v0 v1 v2 :=
  have hl := t.lt
  have hn : some gr ≠ row := fun q => hne q.symm
  ⟨hg.cell t.c0 hn, hg.cell t.c1 hn, hg.cell t.c2 hn, (hg.frozen_far ⟨gr, 0, none⟩ hl hn).trans t.f0, (hg.frozen_far ⟨gr, 1, none⟩ hl hn).trans t.f1, (hg.frozen_far ⟨gr, 2, none⟩ hl hn).trans t.f2⟩
theorem set {b o : Nat} {u : Value} (t : Blk3 w gr v0 v1 v2) (hp : b ≠ gr) : Blk3 (w.setCell ⟨b, o, none⟩ u) gr v0 v1 v2 :=
  ⟨(cell_far hp).trans t.c0, (cell_far hp).trans t.c1, (cell_far hp).trans t.c2, by rw [World.frozen?_setCell]; exact t.f0, by rw [World.frozen?_setCell]; exact t.f1, by rw [World.frozen?_setCell]; exact t.f2⟩
theorem put (t : Blk3 w gr v0 v1 v2) (a b c : Value) : Blk3 (((w.setCell ⟨gr, 0, none⟩ a).setCell ⟨gr, 1, none⟩ b).setCell ⟨gr, 2, none⟩ c) gr a b c :=
  ⟨set3_0 t.c0 a b c, set3_1 t.c1 a b c, set3_2 t.c2 a b c, by rw [World.frozen?_setCell, World.frozen?_setCell, World.frozen?_setCell]; exact t.f0, by rw [World.frozen?_setCell, World.frozen?_setCell, World.frozen?_setCell]; exact t.f1, by rw [World.frozen?_setCell, World.frozen?_setCell, World.frozen?_setCell]; exact t.f2⟩
end Blk3
theorem XAt.src {w w' : World} {gs gx lo : Nat} {s : SV} {x : Sch} (h : XAt w gx lo s x) (hg : w.grownBy w' (some gs)) (hlo : gs < lo) (hgx : gs ≠ gx) : XAt w' gx lo s x :=
  have hl := h.lt
  have hn : (some gx : Option Nat) ≠ some gs := fun e => hgx (by simpa using e.symm)
  ⟨hg.cell h.k0 hn, hg.cell h.k1 hn, hg.cell h.k2 hn, (hg.frozen_far ⟨gx, 0, none⟩ hl hn).trans h.f0, (hg.frozen_far ⟨gx, 1, none⟩ hl hn).trans h.f1, (hg.frozen_far ⟨gx, 2, none⟩ hl hn).trans h.f2,
    ⟨own_src h.own.st hg hlo, own_src h.own.rm hg hlo, own_src h.own.wy hg hlo, h.own.ap12, h.own.ap13, h.own.ap23⟩, h.o1, h.o2, h.o3⟩
theorem XAt.far {w : World} {gx lo b o : Nat} {s : SV} {x : Sch} {u : Value} (h : XAt w gx lo s x) (hb : b ≠ gx) (hs : ∀ q, ((Value.slice s.A1 s.n1 s.c1).ownBlock = some q ∨ (Value.slice s.A2 s.n2 s.c2).ownBlock = some q ∨ (Value.slice s.A3 s.n3 s.c3).ownBlock = some q) → q ≠ b) : XAt (w.setCell ⟨b, o, none⟩ u) gx lo s x :=
  ⟨(cell_far hb).trans h.k0, (cell_far hb).trans h.k1, (cell_far hb).trans h.k2, by rw [World.frozen?_setCell]; exact h.f0, by rw [World.frozen?_setCell]; exact h.f1, by rw [World.frozen?_setCell]; exact h.f2,
    ⟨ow_set (fun e => hs b (.inl e) rfl) h.own.st, ow_set (fun e => hs b (.inr (.inl e)) rfl) h.own.rm, ow_set (fun e => hs b (.inr (.inr e)) rfl) h.own.wy, h.own.ap12, h.own.ap13, h.own.ap23⟩, h.o1, h.o2, h.o3⟩

/-- a scheme under way in block gx, a source in block gs, an empty result's block gr; a: the world of the call -/
structure StX (a w : World) (gs gr gx lo K : Nat) (s : SV) (x : Sch) : Prop where
  xa : XAt w gx lo s x
  src : SrcAt w gs K
  res : Blk3 w gr (.slice none 0 0) (.slice none 0 0) (.slice none 0 0)
  grn : a.grownBy w (some gs)
  h1 : gs < a.heap.size
  h2 : a.heap.size ≤ gr
  h3 : gr < lo
  h4 : lo ≤ gx
namespace StX
variable {a w w' : World} {gs gr gx lo K K' : Nat} {s : SV} {x : Sch}
theorem lt (t : StX a w gs gr gx lo K s x) : gx < w.heap.size := t.xa.lt
theorem up (t : StX a w gs gr gx lo K s x) (h : K ≤ K') : StX a w gs gr gx lo K' s x := ⟨t.xa, t.src.mono h, t.res, t.grn, t.h1, t.h2, t.h3, t.h4⟩
theorem pick (t : StX a w gs gr gx lo K s x) (hs : SrcAt w' gs K') (hg : w.grownBy w' (some gs)) : StX a w' gs gr gx lo K' s x :=
  have h1 := t.h1; have h2 := t.h2; have h3 := t.h3; have h4 := t.h4
  ⟨t.xa.src hg (by omega) (by omega), hs, t.res.grow hg (by simp; omega), t.grn.trans hg, h1, h2, h3, h4⟩
theorem below (t : StX a w gs gr gx lo K s x) (hb : Below w.heap.size w w') : StX a w' gs gr gx lo K s x :=
  have h1 := t.h1; have h2 := t.h2; have h3 := t.h3; have h4 := t.h4; have hl := t.lt
  ⟨t.xa.below hb, t.src.below (hb.mono (by omega)), t.res.at_ hb t.res.lt, src_below t.grn hb t.grn.size, h1, h2, h3, h4⟩
theorem alloc (t : StX a w gs gr gx lo K s x) (o : Obj) : StX a (w.alloc o) gs gr gx lo K s x := t.below ((Below.refl _ _).alloc (Nat.le_refl _) o)
theorem drew (t : StX a w gs gr gx lo K s x) : StX a w.drew gs gr gx lo K s x := t.below (Below.refl _ _).drew
/-- a store into a block that is none of its own -/
theorem set {b o : Nat} {u : Value} (t : StX a w gs gr gx lo K s x) (hb : gx < b) (hq : ∀ q, ((Value.slice s.A1 s.n1 s.c1).ownBlock = some q ∨ (Value.slice s.A2 s.n2 s.c2).ownBlock = some q ∨ (Value.slice s.A3 s.n3 s.c3).ownBlock = some q) → q < b) : StX a (w.setCell ⟨b, o, none⟩ u) gs gr gx lo K s x :=
  have h1 := t.h1; have h2 := t.h2; have h3 := t.h3; have h4 := t.h4
  ⟨t.xa.far (by omega) (fun q h => Nat.ne_of_lt (hq q h)), t.src.set (by simp only; omega), t.res.set (by omega), src_gset t.grn (by omega), h1, h2, h3, h4⟩
theorem lts (t : StX a w gs gr gx lo K s x) : ∀ q, ((Value.slice s.A1 s.n1 s.c1).ownBlock = some q ∨ (Value.slice s.A2 s.n2 s.c2).ownBlock = some q ∨ (Value.slice s.A3 s.n3 s.c3).ownBlock = some q) → q < w.heap.size := fun q h => by
  rcases h with h | h | h
  · exact (t.xa.own.st.lt q h).2
  · exact (t.xa.own.rm.lt q h).2
  · exact (t.xa.own.wy.lt q h).2
/-- what adds to the scheme in place -/
theorem add {s' : SV} {x' : Sch} (t : StX a w gs gr gx lo K s x) (hx : XAt w' gx lo s' x') (hb : Below lo w w') : StX a w' gs gr gx lo K s' x' :=
  have h1 := t.h1; have h2 := t.h2; have h3 := t.h3; have h4 := t.h4
  ⟨hx, t.src.below (hb.mono (by omega)), t.res.at_ hb h3, src_below t.grn hb (by omega), h1, h2, h3, h4⟩
/-- an element appended to one of its lists -/
theorem put {s' : SV} {x' : Sch} {o : Nat} {v u : Value} (t : StX a w gs gr gx lo K s x) (hg : w.grownBy w' v.ownBlock) (hv : ∀ b, v.ownBlock = some b → lo ≤ b) (hx : XAt (w'.setCell ⟨gx, o, none⟩ u) gx lo s' x') : StX a (w'.setCell ⟨gx, o, none⟩ u) gs gr gx lo K s' x' :=
  have h1 := t.h1; have h2 := t.h2; have h3 := t.h3; have h4 := t.h4
  ⟨hx, (t.src.grown hg (fun b hb => by have := hv b hb; omega)).set (by simp only; omega), (t.res.grow hg (fun e => by have := hv gr e; omega)).set (by omega),
    src_gset (src_grow t.grn hg (fun b hb => .inl (by have := hv b hb; omega))) (by omega), h1, h2, h3, h4⟩
end StX
/-- the scheme is replaced by one of other rows -/
theorem StX.reset {a w w' : World} {gs gr gx lo K : Nat} {s s' : SV} {x x' : Sch} (t : StX a w gs gr gx lo K s x) (ho : OwnX w' w.heap.size s' x') (hb : Below w.heap.size w w') :
    StX a (((w'.setCell ⟨gx, 0, none⟩ (.slice s'.A1 s'.n1 s'.c1)).setCell ⟨gx, 1, none⟩ (.slice s'.A2 s'.n2 s'.c2)).setCell ⟨gx, 2, none⟩ (.slice s'.A3 s'.n3 s'.c3)) gs gr gx lo K s' x' := by
  have h1 := t.h1; have h2 := t.h2; have h3 := t.h3; have h4 := t.h4; have hl := t.lt
  have n1 : (Value.slice s'.A1 s'.n1 s'.c1).ownBlock ≠ some gx := fun e => by have := (ho.st.lt _ e).1; omega
  have n2 : (Value.slice s'.A2 s'.n2 s'.c2).ownBlock ≠ some gx := fun e => by have := (ho.rm.lt _ e).1; omega
  have n3 : (Value.slice s'.A3 s'.n3 s'.c3).ownBlock ≠ some gx := fun e => by have := (ho.wy.lt _ e).1; omega
  have tb := t.below hb
  refine ⟨⟨set3_0 tb.xa.k0 _ _ _, set3_1 tb.xa.k1 _ _ _, set3_2 tb.xa.k2 _ _ _, ?_, ?_, ?_, ⟨ow_set3 n1 (ho.st.mono (by omega)), ow_set3 n2 (ho.rm.mono (by omega)), ow_set3 n3 (ho.wy.mono (by omega)), ho.ap12, ho.ap13, ho.ap23⟩, n1, n2, n3⟩, ((tb.src.set (by simp only; omega)).set (by simp only; omega)).set (by simp only; omega), ((tb.res.set (by omega)).set (by omega)).set (by omega), src_gset (src_gset (src_gset tb.grn (by omega)) (by omega)) (by omega), h1, h2, h3, h4⟩
  · rw [World.frozen?_setCell, World.frozen?_setCell, World.frozen?_setCell]; exact tb.xa.f0
  · rw [World.frozen?_setCell, World.frozen?_setCell, World.frozen?_setCell]; exact tb.xa.f1
  · rw [World.frozen?_setCell, World.frozen?_setCell, World.frozen?_setCell]; exact tb.xa.f2
/-- the parts of a scheme are few and short -/
def FewX (m : Nat) (x : Sch) : Prop := x.st.length ≤ m ∧ x.rm.length ≤ m ∧ x.wy.length ≤ m ∧ (∀ z ∈ x.st, z.size ≤ 12) ∧ (∀ z ∈ x.rm, z.size ≤ 12) ∧ ∀ y ∈ x.wy, y.fr.size ≤ 12 ∧ y.to.size ≤ 12
def MetX (x : Sch) : Prop := ∀ y ∈ x.wy, 0 ≤ y.metres ∧ y.metres ≤ 2000
/-- what a draw of a scheme leaves -/
def DrawX (gs K : Nat) (p : Sch → Prop) (w : World) (r : Ending) (w' : World) : Prop :=
  ∃ (s : SV) (x : Sch), r = .returned s.v ∧ OwnX w' w.heap.size s x ∧ p x ∧ SrcAt w' gs K ∧ w.grownBy w' (some gs)
/-- the end of a draw: the scheme is written into the result's block -/
theorem StX.fin {a w : World} {gs gr gx lo K : Nat} {s : SV} {x : Sch} (t : StX a w gs gr gx lo K s x) :
    OwnX (((w.setCell ⟨gr, 0, none⟩ (.slice s.A1 s.n1 s.c1)).setCell ⟨gr, 1, none⟩ (.slice s.A2 s.n2 s.c2)).setCell ⟨gr, 2, none⟩ (.slice s.A3 s.n3 s.c3)) a.heap.size s x ∧
    SrcAt (((w.setCell ⟨gr, 0, none⟩ (.slice s.A1 s.n1 s.c1)).setCell ⟨gr, 1, none⟩ (.slice s.A2 s.n2 s.c2)).setCell ⟨gr, 2, none⟩ (.slice s.A3 s.n3 s.c3)) gs K ∧
    a.grownBy (((w.setCell ⟨gr, 0, none⟩ (.slice s.A1 s.n1 s.c1)).setCell ⟨gr, 1, none⟩ (.slice s.A2 s.n2 s.c2)).setCell ⟨gr, 2, none⟩ (.slice s.A3 s.n3 s.c3)) (some gs) := by
  have h1 := t.h1; have h2 := t.h2; have h3 := t.h3; have h4 := t.h4
  have ho := t.xa.own
  have f : ∀ {A : Option Addr} {n c T k : Nat} {l : List Value}, w.ownsRow lo T k (.slice A n c) n l → (((w.setCell ⟨gr, 0, none⟩ (.slice s.A1 s.n1 s.c1)).setCell ⟨gr, 1, none⟩ (.slice s.A2 s.n2 s.c2)).setCell ⟨gr, 2, none⟩ (.slice s.A3 s.n3 s.c3)).ownsRow a.heap.size T k (.slice A n c) n l := fun o =>
    (ow_set3 (fun e => by have := (o.lt _ e).1; omega) o).mono (by omega)
  exact ⟨⟨f ho.st, f ho.rm, f ho.wy, ho.ap12, ho.ap13, ho.ap23⟩, ((t.src.set (by simp only; omega)).set (by simp only; omega)).set (by simp only; omega), src_gset (src_gset (src_gset t.grn h2) h2) h2⟩
end Go.Proofs.Ytmanbpobdaamfaa
