/-
  ReadTariff: the reference's side. No condition.
-/
import Derived.Test.YtngfhpklakhehaaGreatDoorRTar
namespace Go.Proofs.YtngfhpklakhehaaGreatDoor
open Go.RowKit
set_option maxHeartbeats 400000

/-- a tariff under way: its three cells in block gt, its steps in a row of one's own -/
structure TrAt (w : World) (lo gt : Nat) (A : Option Addr) (c : Nat) (xs : List Step) (h e : Int) : Prop where
  own : w.ownsRow lo 57 2 (.slice A xs.length c) xs.length (xs.flatMap encStep)
  ne : ∀ b, (Value.slice A xs.length c).ownBlock = some b → b ≠ gt
  c0 : w.cell? ⟨gt, 0, none⟩ = some (.slice A xs.length c)
  c1 : w.cell? ⟨gt, 1, none⟩ = some (.int .i64 h)
  c2 : w.cell? ⟨gt, 2, none⟩ = some (.int .i64 e)
  f0 : w.frozen? ⟨gt, 0, none⟩ = false
  f1 : w.frozen? ⟨gt, 1, none⟩ = false
  f2 : w.frozen? ⟨gt, 2, none⟩ = false
namespace TrAt
variable {w w' : World} {lo gt gs : Nat} {A : Option Addr} {c : Nat} {xs : List Step} {h e : Int}
theorem lt (t : TrAt w lo gt A c xs h e) : gt < w.heap.size := World.block_lt_of_cell? _ _ t.c0
theorem below (t : TrAt w lo gt A c xs h e) (hb : Below w.heap.size w w') : TrAt w' lo gt A c xs h e :=
  have hl := t.lt
  ⟨own_below t.own hb, t.ne, below_cell t.c0 hb, below_cell t.c1 hb, below_cell t.c2 hb, (hb.frozen (p := ⟨gt, 0, none⟩) hl).trans t.f0, (hb.frozen (p := ⟨gt, 1, none⟩) hl).trans t.f1, (hb.frozen (p := ⟨gt, 2, none⟩) hl).trans t.f2⟩
theorem alloc (t : TrAt w lo gt A c xs h e) (o : Obj) : TrAt (w.alloc o) lo gt A c xs h e := t.below ((Below.refl _ _).alloc (Nat.le_refl _) o)
/-- a step that is appended -/
theorem snoc {gg cap : Nat} {z : Step} (t : TrAt w lo gt A c xs h e) (ho : w'.ownsRow lo 57 2 (.slice (some ⟨gg, 0, none⟩) (xs.length + 1) cap) (xs.length + 1) (xs.flatMap encStep ++ [.int .i64 z.g, .int .i64 z.p]))
    (hg : w.grownBy w' (Value.slice A xs.length c).ownBlock) (hat : (Value.slice A xs.length c).ownBlock = some gg ∨ w.heap.size ≤ gg) :
    TrAt (w'.setCell ⟨gt, 0, none⟩ (.slice (some ⟨gg, 0, none⟩) (xs.length + 1) cap)) lo gt (some ⟨gg, 0, none⟩) cap (xs ++ [z]) h e := by
  have hl := t.lt
  have hne : some gt ≠ (Value.slice A xs.length c).ownBlock := fun q => t.ne gt q.symm rfl
  have hgg : gg ≠ gt := by
    rcases hat with q | q
    · exact t.ne gg q
    · omega
  have hlen : (xs ++ [z]).length = xs.length + 1 := by simp
  have k0 := hg.cell t.c0 hne
  have k1 := hg.cell t.c1 hne
  have k2 := hg.cell t.c2 hne
  refine ⟨?_, fun b hb => ?_, ?_, ?_, ?_, ?_, ?_, ?_⟩
  · rw [hlen, List.flatMap_append]
    refine ow_set (by simp [Value.ownBlock, hgg]) ?_
    simpa [encStep] using ho
  · simp [Value.ownBlock] at hb
    omega
  · rw [hlen]
    exact World.cell?_setCell_same _ _ _ k0
  · exact (World.cell?_setCell_other _ _ _ _ (by simp)).trans k1
  · exact (World.cell?_setCell_other _ _ _ _ (by simp)).trans k2
  · rw [World.frozen?_setCell]; exact (hg.frozen_far ⟨gt, 0, none⟩ hl hne).trans t.f0
  · rw [World.frozen?_setCell]; exact (hg.frozen_far ⟨gt, 1, none⟩ hl hne).trans t.f1
  · rw [World.frozen?_setCell]; exact (hg.frozen_far ⟨gt, 2, none⟩ hl hne).trans t.f2
theorem put1 (t : TrAt w lo gt A c xs h e) (z : Int) : TrAt (w.setCell ⟨gt, 1, none⟩ (.int .i64 z)) lo gt A c xs z e :=
  ⟨ow_set (fun q => t.ne _ q rfl) t.own, t.ne, (World.cell?_setCell_other _ _ _ _ (by simp)).trans t.c0, World.cell?_setCell_same _ _ _ t.c1, (World.cell?_setCell_other _ _ _ _ (by simp)).trans t.c2,
    by rw [World.frozen?_setCell]; exact t.f0, by rw [World.frozen?_setCell]; exact t.f1, by rw [World.frozen?_setCell]; exact t.f2⟩
theorem put2 (t : TrAt w lo gt A c xs h e) (z : Int) : TrAt (w.setCell ⟨gt, 2, none⟩ (.int .i64 z)) lo gt A c xs h z :=
  ⟨ow_set (fun q => t.ne _ q rfl) t.own, t.ne, (World.cell?_setCell_other _ _ _ _ (by simp)).trans t.c0, (World.cell?_setCell_other _ _ _ _ (by simp)).trans t.c1, World.cell?_setCell_same _ _ _ t.c2,
    by rw [World.frozen?_setCell]; exact t.f0, by rw [World.frozen?_setCell]; exact t.f1, by rw [World.frozen?_setCell]; exact t.f2⟩
end TrAt
/-- three cells of a block -/
structure Bk3 (w : World) (gr : Nat) (v0 v1 v2 : Value) : Prop where
  c0 : w.cell? ⟨gr, 0, none⟩ = some v0
  c1 : w.cell? ⟨gr, 1, none⟩ = some v1
  c2 : w.cell? ⟨gr, 2, none⟩ = some v2
  f0 : w.frozen? ⟨gr, 0, none⟩ = false
  f1 : w.frozen? ⟨gr, 1, none⟩ = false
  f2 : w.frozen? ⟨gr, 2, none⟩ = false
namespace Bk3
variable {w w' : World} {gr : Nat} {v0 v1 v2 : Value}
theorem lt (t : Bk3 w gr v0 v1 v2) : gr < w.heap.size := World.block_lt_of_cell? _ _ t.c0
theorem at_ {B : Nat} (t : Bk3 w gr v0 v1 v2) (hb : Below B w w') (hB : gr < B) : Bk3 w' gr v0 v1 v2 :=
  ⟨(hb.cell (p := ⟨gr, 0, none⟩) hB).trans t.c0, (hb.cell (p := ⟨gr, 1, none⟩) hB).trans t.c1, (hb.cell (p := ⟨gr, 2, none⟩) hB).trans t.c2, (hb.frozen (p := ⟨gr, 0, none⟩) hB).trans t.f0, (hb.frozen (p := ⟨gr, 1, none⟩) hB).trans t.f1, (hb.frozen (p := ⟨gr, 2, none⟩) hB).trans t.f2⟩
theorem below (t : Bk3 w gr v0 v1 v2) (hb : Below w.heap.size w w') : Bk3 w' gr v0 v1 v2 := t.at_ hb t.lt
theorem put (t : Bk3 w gr v0 v1 v2) (a b c : Value) : Bk3 (((w.setCell ⟨gr, 0, none⟩ a).setCell ⟨gr, 1, none⟩ b).setCell ⟨gr, 2, none⟩ c) gr a b c := by
  have d0 : ((w.setCell ⟨gr, 0, none⟩ a).setCell ⟨gr, 1, none⟩ b).cell? ⟨gr, 0, none⟩ = some a := (World.cell?_setCell_other _ _ _ _ (by simp)).trans (World.cell?_setCell_same _ _ _ t.c0)
  have d1 : ((w.setCell ⟨gr, 0, none⟩ a).setCell ⟨gr, 1, none⟩ b).cell? ⟨gr, 1, none⟩ = some b := World.cell?_setCell_same _ _ _ ((World.cell?_setCell_other _ _ _ _ (by simp)).trans t.c1)
  have d2 : ((w.setCell ⟨gr, 0, none⟩ a).setCell ⟨gr, 1, none⟩ b).cell? ⟨gr, 2, none⟩ = some v2 := (World.cell?_setCell_other _ _ _ _ (by simp)).trans ((World.cell?_setCell_other _ _ _ _ (by simp)).trans t.c2)
  exact ⟨(World.cell?_setCell_other _ _ _ _ (by simp)).trans d0, (World.cell?_setCell_other _ _ _ _ (by simp)).trans d1, World.cell?_setCell_same _ _ _ d2, by rw [World.frozen?_setCell, World.frozen?_setCell, World.frozen?_setCell]; exact t.f0, by rw [World.frozen?_setCell, World.frozen?_setCell, World.frozen?_setCell]; exact t.f1, by rw [World.frozen?_setCell, World.frozen?_setCell, World.frozen?_setCell]; exact t.f2⟩
theorem bl {a : World} {B : Nat} (h : Below B a w) (hB : B ≤ gr) (x y z : Value) : Below B a (((w.setCell ⟨gr, 0, none⟩ x).setCell ⟨gr, 1, none⟩ y).setCell ⟨gr, 2, none⟩ z) := ((h.setCell (p := ⟨gr, 0, none⟩) hB x).setCell (p := ⟨gr, 1, none⟩) hB y).setCell (p := ⟨gr, 2, none⟩) hB z
end Bk3
theorem stepI_info : (Tryz.prog.info? 57).map (fun i => (i.zero, i.size, i.bytes)) = some (some (.agg #[.int .i64 0, .int .i64 0]), 2, 16) := by kernel_rfl
theorem Bk3.s0 {w : World} {gr : Nat} {v0 v1 v2 : Value} (t : Bk3 w gr v0 v1 v2) (a : Value) : (w.setCell ⟨gr, 0, none⟩ a).cell? ⟨gr, 0, none⟩ = some a := World.cell?_setCell_same _ _ _ t.c0
theorem Bk3.s1 {w : World} {gr : Nat} {v0 v1 v2 : Value} (t : Bk3 w gr v0 v1 v2) (a b : Value) : ((w.setCell ⟨gr, 0, none⟩ a).setCell ⟨gr, 1, none⟩ b).cell? ⟨gr, 1, none⟩ = some b := World.cell?_setCell_same _ _ _ ((World.cell?_setCell_other _ _ _ _ (by simp)).trans t.c1)
theorem Bk3.s2 {w : World} {gr : Nat} {v0 v1 v2 : Value} (t : Bk3 w gr v0 v1 v2) (a b c : Value) : (((w.setCell ⟨gr, 0, none⟩ a).setCell ⟨gr, 1, none⟩ b).setCell ⟨gr, 2, none⟩ c).cell? ⟨gr, 2, none⟩ = some c := (t.put a b c).c2
def readC (o1 o2 : Option Int) (q : Option (List Step)) : Option Tariff :=
  match o1, o2 with
  | some h, some e => (match q with | some xs => if validT ⟨xs, h, e⟩ then some ⟨xs, h, e⟩ else none | none => none)
  | _, _ => none
def stepJ (q0 q1 : Option Int) : Option Step := match q0, q1 with | some g, some p => some ⟨g, p⟩ | _, _ => none
def sOf : Option Tariff → List Step | some t => t.s | none => []
def hOf : Option Tariff → Int | some t => t.h | none => 0
def eOf : Option Tariff → Int | some t => t.e | none => 0
/-- a tariff that was read, and whether there is one -/
def TarP (w : World) (q : Option Tariff) (r : Ending) (w' : World) : Prop :=
  ∃ A n c, r = .returned (.tuple #[.agg #[.slice A n c, .int .i64 (hOf q), .int .i64 (eOf q)], .bool q.isSome]) ∧ w'.ownsRow w.heap.size 57 2 (.slice A n c) n ((sOf q).flatMap encStep) ∧ Below w.heap.size w w'
theorem TarP.no {w w' : World} {q : Option Tariff} (h : q = none) (hb : Below w.heap.size w w') : TarP w q (.returned (.tuple #[.agg #[.slice none 0 0, .int .i64 0, .int .i64 0], .bool false])) w' := by
  subst h; exact ⟨none, 0, 0, rfl, World.ownsRow_nil _ _ _ _, hb⟩
theorem TarP.yes {w w' : World} {q : Option Tariff} {xs : List Step} {h e : Int} {A : Option Addr} {n c : Nat} (hq : q = some ⟨xs, h, e⟩) (ho : w'.ownsRow w.heap.size 57 2 (.slice A n c) n (xs.flatMap encStep)) (hb : Below w.heap.size w w') :
    TarP w q (.returned (.tuple #[.agg #[.slice A n c, .int .i64 h, .int .i64 e], .bool true])) w' := by
  subst hq; exact ⟨A, n, c, rfl, ho, hb⟩
theorem spl_le (b : UInt8) : ∀ (l : List UInt8), ∀ z ∈ spl b l, z.length ≤ l.length := by
  intro l
  induction l with
  | nil => intro z hz; simp only [spl, List.mem_singleton] at hz; subst hz; simp
  | cons c r ih =>
    intro z hz
    simp only [spl] at hz
    split at hz
    · rcases List.mem_cons.1 hz with rfl | hz
      · simp
      · have := ih z hz; simp only [List.length_cons]; omega
    · cases hs : spl b r with
      | nil => exact absurd hs (spl_ne b r)
      | cons h t =>
        rw [hs] at hz ih
        simp only at hz
        rcases List.mem_cons.1 hz with rfl | hz
        · have := ih h (by simp); simp only [List.length_cons]; omega
        · have := ih z (by simp [hz]); simp only [List.length_cons]; omega
theorem bytesL_at {xs : List ByteArray} {ws : List (List UInt8)} (h : bytesL xs = ws) {i : Nat} {z : ByteArray} (hz : xs[i]? = some z) : ws[i]? = some z.data.toList := by rw [← h, bytesL, List.getElem?_map, hz]; rfl
theorem bytesL_len {xs : List ByteArray} {ws : List (List UInt8)} (h : bytesL xs = ws) : xs.length = ws.length := by rw [← h, bytesL, List.length_map]
theorem part_sz {b : UInt8} {s z : ByteArray} {i : Nat} (hz : (spl b s.data.toList)[i]? = some z.data.toList) (hs : s.size ≤ 1048576) : z.size ≤ 1048576 := by
  have := spl_le b s.data.toList z.data.toList (List.mem_of_getElem? hz)
  rw [bs_len, bs_len] at this
  omega
theorem wAt_of {ws : List (List UInt8)} {i : Nat} {l : List UInt8} (h : ws[i]? = some l) : wAt ws i = l := by simp [wAt, h]
theorem take_drop_at {α : Type} {ws : List α} {m k : Nat} {x : α} (h : ws[k]? = some x) (hk : k < m) : (ws.take m).drop k = x :: (ws.take m).drop (k + 1) := by
  apply drop_at
  rw [List.getElem?_take, if_pos hk, h]
set_option maxHeartbeats 16000000 in
set_option maxRecDepth 100000 in
theorem specReadTariff_any (s : ByteArray) (w : World) (hs : s.size ≤ 1048576) : Calls Tryz.prog 18 #[.string s] w (TarP w (readT s.data.toList)) := by
  obtain ⟨i0, hi, hz0, hz1, hz2⟩ := info_parts stepI_info
  obtain ⟨W0, hW0⟩ : ∃ W0, W0 = w.alloc (.cells #[.slice none 0 0, .int .i64 0, .int .i64 0] 26) := ⟨_, rfl⟩
  have b0 : Below w.heap.size w W0 := by rw [hW0]; exact (Below.refl _ _).alloc (Nat.le_refl _) _
  have rb0 : Bk3 W0 w.heap.size (.slice none 0 0) (.int .i64 0) (.int .i64 0) := by
    rw [hW0]
    exact ⟨(World.cell?_alloc_at _ _ _ _ rfl).trans rfl, (World.cell?_alloc_at _ _ _ _ rfl).trans rfl, (World.cell?_alloc_at _ _ _ _ rfl).trans rfl, by go_simp, by go_simp, by go_simp⟩
  have HW := hid hW0
  have cc := l01Split_any s 32 W0 hs
  clear hW0
  go_enter Tryz.func18, Tryz.ntmps18
  go_wp2_with fail
  rw [← HW.out]
  refine cc.mono ?_
  rintro r w1 ⟨gw, cw, xw, rfl, hX, ho, b1⟩
  clear cc HW
  have RB := hid (rb0.below b1)
  have BB := b0.trans (b1.mono b0.size)
  have WS := hid (own_sl encS_len (by omega) ho)
  have HX := hid hX
  have hlen := bytesL_len hX
  clear b0 rb0 ho b1 hX
  by_cases h3 : xw.length < 3
  · have E : Hid (readT s.data.toList = none) := by rw [Hid, readT, ← hlen, if_pos h3]
    have q3 : (xw.length : Int) < 3 := by omega
    have r0 := RB.out.c0
    have r1 := RB.out.c1
    have r2 := RB.out.c2
    have y0 := RB.out.f0
    have y1 := RB.out.f1
    have y2 := RB.out.f2
    have yl := RB.out.lt
    have p0 := hid (RB.out.s0 (.slice none 0 0))
    have p1 := hid (RB.out.s1 (.slice none 0 0) (.int .i64 0))
    have p2 := hid (RB.out.s2 (.slice none 0 0) (.int .i64 0) (.int .i64 0))
    have FB := hid (Bk3.bl BB (Nat.le_refl _) (.slice none 0 0) (.int .i64 0) (.int .i64 0))
    go_wp2_with fail
    have P0 := p0.out
    have P1 := p1.out
    have P2 := p2.out
    refine bodyPost_ret (v := .tuple #[.agg #[.slice none 0 0, .int .i64 0, .int .i64 0], .bool false]) (by simp [results, Tryz.results18, go_sem, P0, P1, P2]) rfl (TarP.no E.out FB.out)
  · obtain ⟨m, hm⟩ : ∃ m, xw.length = m + 2 := ⟨xw.length - 2, by omega⟩
    have q3 : ¬ (xw.length : Int) < 3 := by omega
    have m1 : 1 ≤ m := by omega
    obtain ⟨z1, b1, off1, Hz1, e1, hb1, k1⟩ := WS.out.str (i := m) (by omega)
    obtain ⟨z2, b2, off2, Hz2, e2, hb2, k2⟩ := WS.out.str (i := m + 1) (by omega)
    injection e1 with e1
    injection e1 with e11 e12
    injection e2 with e2
    injection e2 with e21 e22
    subst e11 e12 e21 e22
    rw [Nat.zero_add] at k1 k2
    have hw1 := bytesL_at HX.out Hz1.out
    have hw2 := bytesL_at HX.out Hz2.out
    have s1 := part_sz hw1 hs
    have s2 := part_sz hw2 hs
    have U1 : Hid (wAt (spl 32 s.data.toList) ((spl 32 s.data.toList).length - 2) = z1.data.toList) := by rw [Hid, ← hlen, hm, Nat.add_sub_cancel]; exact wAt_of hw1
    have U2 : Hid (wAt (spl 32 s.data.toList) ((spl 32 s.data.toList).length - 1) = z2.data.toList) := by rw [Hid, ← hlen, hm, show m + 2 - 1 = m + 1 by omega]; exact wAt_of hw2
    have wm : IntKind.i64.wrap ((xw.length : Int) - 2) = (m : Int) := by
      have : m ≤ 1048576 := by
        have h1 := spl_length 32 s.data.toList
        have h2 : List.count 32 s.data.toList ≤ s.data.toList.length := List.count_le_length
        rw [bs_len] at h2
        omega
      rw [IntWalk.i64_in _ (by omega)]; omega
    have wm2 : (xw.length : Int) - 2 = (m : Int) := by omega
    have wm3 : (xw.length : Int) - 1 = ((m + 1 : Nat) : Int) := by omega
    have mm : m ≤ 1048576 := by
      have h1 := spl_length 32 s.data.toList
      have h2 : List.count 32 s.data.toList ≤ s.data.toList.length := List.count_le_length
      rw [bs_len] at h2
      omega
    have i1 : (m : Int) < (xw.length : Int) := by omega
    have i2 : ((m + 1 : Nat) : Int) < (xw.length : Int) := by omega
    have i3 : (0 : Int) ≤ (m : Int) := by omega
    have i4 : (0 : Int) ≤ ((m + 1 : Nat) : Int) := by omega
    obtain ⟨o1, ho1⟩ : ∃ q, q = partF z1.data.toList preH := ⟨_, rfl⟩
    obtain ⟨o2, ho2⟩ : ∃ q, q = partF z2.data.toList preE := ⟨_, rfl⟩
    have c1 := fun W => l23Part_any z1 ⟨#[49, 48, 48, 109, 58]⟩ W s1 (by decide)
    have c2 := fun W => l23Part_any z2 ⟨#[101, 120, 112, 114, 101, 115, 115, 58]⟩ W s2 (by decide)
    have p1 : (⟨#[49, 48, 48, 109, 58]⟩ : ByteArray).data.toList = preH := rfl
    have p2 : (⟨#[101, 120, 112, 114, 101, 115, 115, 58]⟩ : ByteArray).data.toList = preE := rfl
    rw [p1, ← ho1] at c1
    rw [p2, ← ho2] at c2
    have RD : Hid (readT s.data.toList = readC o1 o2 (stepsF [] ((spl 32 s.data.toList).take m))) := by
      rw [Hid, readT, if_neg (by rw [← hlen]; exact h3), U1.out, U2.out, ho1, ho2, ← hlen, hm, Nat.add_sub_cancel]
      rfl
    have HM := hid hm
    have HZ := hid hlen
    clear p1 p2 ho1 ho2 U1 U2 hw1 hw2 Hz1 Hz2 hm hlen
    go_wp2_with fail
    refine (c1 _).mono ?_
    rintro r w2 ⟨rfl, b2⟩
    replace k2 := below_cell k2 b2
    replace RB := hid (RB.out.below b2)
    replace WS := hid ((WS.out.below b2).more b2.size)
    replace BB := BB.trans (b2.mono BB.size)
    have l2 := World.block_lt_of_cell? _ _ k2
    simp only at l2
    clear c1 k1 b2 hb1 hb2
    cases o1 with
    | none =>
      have E : Hid (readT s.data.toList = none) := RD
      simp only [numO]
      go_wp2_with fail
      refine (c2 _).mono ?_
      rintro r w3 ⟨rfl, b3⟩
      replace RB := hid (RB.out.below b3)
      replace BB := BB.trans (b3.mono BB.size)
      clear c2 k2 WS b3 RD
      cases o2
      all_goals simp only [numO]
      all_goals
        have r0 := RB.out.c0
        have r1 := RB.out.c1
        have r2 := RB.out.c2
        have y0 := RB.out.f0
        have y1 := RB.out.f1
        have y2 := RB.out.f2
        have yl := RB.out.lt
        have p0 := hid (RB.out.s0 (.slice none 0 0))
        have p1 := hid (RB.out.s1 (.slice none 0 0) (.int .i64 0))
        have p2 := hid (RB.out.s2 (.slice none 0 0) (.int .i64 0) (.int .i64 0))
        have FB := hid (Bk3.bl BB (Nat.le_refl _) (.slice none 0 0) (.int .i64 0) (.int .i64 0))
        go_wp2_with fail
        have P0 := p0.out
        have P1 := p1.out
        have P2 := p2.out
        refine bodyPost_ret (v := .tuple #[.agg #[.slice none 0 0, .int .i64 0, .int .i64 0], .bool false]) (by simp [results, Tryz.results18, go_sem, P0, P1, P2]) rfl (TarP.no E.out FB.out)
    | some hh =>
      simp only [numO]
      go_wp2_with fail
      refine (c2 _).mono ?_
      rintro r w3 ⟨rfl, b3⟩
      replace RB := hid (RB.out.below b3)
      replace WS := hid ((WS.out.below b3).more b3.size)
      replace BB := BB.trans (b3.mono BB.size)
      clear c2 k2 b3 l2
      cases o2 with
      | none =>
        have E : Hid (readT s.data.toList = none) := RD
        simp only [numO]
        have r0 := RB.out.c0
        have r1 := RB.out.c1
        have r2 := RB.out.c2
        have y0 := RB.out.f0
        have y1 := RB.out.f1
        have y2 := RB.out.f2
        have yl := RB.out.lt
        have p0 := hid (RB.out.s0 (.slice none 0 0))
        have p1 := hid (RB.out.s1 (.slice none 0 0) (.int .i64 0))
        have p2 := hid (RB.out.s2 (.slice none 0 0) (.int .i64 0) (.int .i64 0))
        have FB := hid (Bk3.bl BB (Nat.le_refl _) (.slice none 0 0) (.int .i64 0) (.int .i64 0))
        go_wp2_with fail
        have P0 := p0.out
        have P1 := p1.out
        have P2 := p2.out
        refine bodyPost_ret (v := .tuple #[.agg #[.slice none 0 0, .int .i64 0, .int .i64 0], .bool false]) (by simp [results, Tryz.results18, go_sem, P0, P1, P2]) rfl (TarP.no E.out FB.out)
      | some ee =>
        simp only [numO]
        have RD2 : Hid (readT s.data.toList = readC (some hh) (some ee) (stepsF [] ((spl 32 s.data.toList).take m))) := RD
        clear RD
        obtain ⟨W4, hW4⟩ : ∃ W4, W4 = (w3.alloc (.cells #[] 57)).alloc (.cells #[.slice (some ⟨w3.heap.size, 0, none⟩) 0 0, .int .i64 hh, .int .i64 ee] 26) := ⟨_, rfl⟩
        obtain ⟨gt, hgt⟩ : ∃ gt, gt = w3.heap.size + 1 := ⟨_, rfl⟩
        have o4 : (w3.alloc (.cells #[] 57)).ownsRow w3.heap.size 57 2 (.slice (some ⟨w3.heap.size, 0, none⟩) 0 0) 0 [] := World.ownsRow_lit w3 #[] 0 (Nat.le_refl _) (by simp [maxLen]) (by simp)
        have T4 : Hid (TrAt W4 w3.heap.size gt (some ⟨w3.heap.size, 0, none⟩) 0 [] hh ee) := by
          rw [hW4, hgt]
          exact ⟨o4.alloc _, fun q hq => by simp [Value.ownBlock] at hq; omega, by go_simp, by go_simp, by go_simp, by go_simp, by go_simp, by go_simp⟩
        have B4 : Below w3.heap.size w3 W4 := by rw [hW4]; exact ((Below.refl _ _).alloc (Nat.le_refl _) _).alloc (by simp) _
        have HW4 := hid hW4
        have HGT := hid hgt
        have hgt2 : w3.heap.size < gt := by omega
        clear o4 hW4 hgt
        go_wp2_with fail
        rw [← HW4.out]
        rw [← HGT.out]
        clear HW4 HGT
        go_loopw [11] (fun vi wl => ∃ (k c : Nat) (A : Option Addr) (xs : List Step), k ≤ m ∧ Hid (xs.length = k) ∧ vi = .int .i64 (k : Nat) ∧ Hid (stepsF [] ((spl 32 s.data.toList).take m) = stepsF xs (((spl 32 s.data.toList).take m).drop k)) ∧ Hid (TrAt wl w3.heap.size gt A c xs hh ee) ∧ Below w3.heap.size w3 wl) (fun vi _ => m - (intOf vi).toNat)
        case atStart => exact ⟨0, 0, _, [], by omega, hid rfl, rfl, hid rfl, T4, B4⟩
        case round =>
          clear T4 B4
          obtain ⟨k, c, A, xs, hk, hxk, rfl, hE, hT, hb⟩ := hrel
          have hbs := hb.size
          have RBl := hid (RB.out.at_ hb RB.out.lt)
          have BBl := BB.trans (hb.mono BB.size)
          have hgr := RB.out.lt
          by_cases hkm : k < m
          · have WSl := WS.out.below hb
            obtain ⟨z, bz, oz, Hz, e3, hbz, kz⟩ := WSl.str (i := k) (by have := HM.out; omega)
            injection e3 with e3
            injection e3 with e31 e32
            subst e31 e32
            rw [Nat.zero_add] at kz
            have hwz := bytesL_at HX.out Hz.out
            have sz := part_sz hwz hs
            have E2 := hE.out
            rw [take_drop_at hwz hkm, stepsF] at E2
            have HE2 := hid E2
            have cS := l01Split_any z 58 wr sz
            have k0 : (0 : Int) ≤ (k : Int) := by omega
            have k1 : (k : Int) < (xw.length : Int) := by have := HM.out; omega
            have k2 : (k : Int) < (m : Int) := by omega
            clear hE E2 WSl hwz Hz
            go_wp2_with fail
            refine cS.mono ?_
            rintro r w5 ⟨gv, cv, xv, rfl, hV, hv, b5⟩
            replace RBl := hid (RBl.out.below b5)
            replace BBl := BBl.trans (b5.mono BBl.size)
            replace hb := hb.trans (b5.mono hbs)
            have T5 := hid (hT.out.below b5)
            have VS := hid (own_sl encS_len (by omega) hv)
            have hvl := bytesL_len hV
            have HV := hid hV
            clear cS kz hT hv b5 hbs hV
            by_cases h2 : xv.length = 2
            · have q2 : ((xv.length : Int) == 2) = true := by rw [beq_iff_eq]; omega
              have q3' : ((xv.length : Int) != 2) = false := by rw [bne_eq_false_iff_eq]; omega
              obtain ⟨v0, bv0, ov0, Hv0, f0, hbv0, kv0⟩ := VS.out.str (i := 0) (by omega)
              obtain ⟨v1, bv1, ov1, Hv1, f1, hbv1, kv1⟩ := VS.out.str (i := 1) (by omega)
              injection f0 with f0
              injection f0 with f01 f02
              injection f1 with f1
              injection f1 with f11 f12
              subst f01 f02 f11 f12
              simp only [Nat.zero_add] at kv0 kv1
              have hv0 := bytesL_at HV.out Hv0.out
              have hv1 := bytesL_at HV.out Hv1.out
              have sv0 := part_sz hv0 sz
              have sv1 := part_sz hv1 sz
              obtain ⟨q0, hq0⟩ : ∃ q, q = unitF v0.data.toList 103 := ⟨_, rfl⟩
              obtain ⟨q1, hq1⟩ : ∃ q, q = rdN v1.data.toList := ⟨_, rfl⟩
              have SF : Hid (stepF z.data.toList = stepJ q0 q1) := by
                rw [Hid, stepF, ← hvl, if_pos h2, hv0, hv1]
                simp only [Option.getD_some]
                rw [hq0, hq1]
                rfl
              have cu := fun W => l03Unit_any v0 103 W sv0
              have cn := fun W => l01Number_any v1 W sv1
              rw [← hq0] at cu
              rw [← hq1] at cn
              have n0 : (0 : Int) < (xv.length : Int) := by omega
              have n1 : (1 : Int) < (xv.length : Int) := by omega
              have n2 : 0 < xv.length := by omega
              have n3 : ¬ xv.length = 0 := by omega
              have n4 : ¬ xv = [] := fun e => by subst e; simp at n2
              have gvl := World.block_lt_of_cell? _ _ kv0
              simp only at gvl
              clear hq0 hq1 hv0 hv1 Hv0 Hv1 hvl VS h2 HV
              go_wp2_with fail
              refine (cu _).mono ?_
              rintro r w6 ⟨rfl, b6⟩
              replace kv1 := below_cell kv1 b6
              replace RBl := hid (RBl.out.below b6)
              replace BBl := BBl.trans (b6.mono BBl.size)
              replace hb := hb.trans (b6.mono hb.size)
              have T6 := hid (T5.out.below b6)
              have gvl6 := World.block_lt_of_cell? _ _ kv1
              simp only at gvl6
              clear cu T5 b6 kv0 gvl hbv0 hbv1
              cases q0 with
              | none =>
                have HE3 : Hid (stepsF [] ((spl 32 s.data.toList).take m) = none) := by
                  have hsf := SF.out
                  simp only [stepJ] at hsf
                  rw [Hid, HE2.out, hsf]
                have E : Hid (readT s.data.toList = none) := by (rw [Hid, RD2.out, HE3.out]; rfl)
                simp only [numO]
                go_wp2_with fail
                refine (cn _).mono ?_
                rintro r w7 ⟨rfl, b7⟩
                have RB := hid (RBl.out.below b7)
                have BB := BBl.trans (b7.mono BBl.size)
                clear cn kv1 b7 SF HE2 HE3 RD2 T6 RBl BBl hb WS
                cases q1
                all_goals simp only [numO]
                all_goals
                  have r0 := RB.out.c0
                  have r1 := RB.out.c1
                  have r2 := RB.out.c2
                  have y0 := RB.out.f0
                  have y1 := RB.out.f1
                  have y2 := RB.out.f2
                  have yl := RB.out.lt
                  have p0 := hid (RB.out.s0 (.slice none 0 0))
                  have p1 := hid (RB.out.s1 (.slice none 0 0) (.int .i64 0))
                  have p2 := hid (RB.out.s2 (.slice none 0 0) (.int .i64 0) (.int .i64 0))
                  have FB := hid (Bk3.bl BB (Nat.le_refl _) (.slice none 0 0) (.int .i64 0) (.int .i64 0))
                  go_wp2_with fail
                  have P0 := p0.out
                  have P1 := p1.out
                  have P2 := p2.out
                  refine bodyPost_ret (v := .tuple #[.agg #[.slice none 0 0, .int .i64 0, .int .i64 0], .bool false]) (by simp [results, Tryz.results18, go_sem, P0, P1, P2]) rfl (TarP.no E.out FB.out)
              | some g =>
                simp only [numO]
                go_wp2_with fail
                refine (cn _).mono ?_
                rintro r w7 ⟨rfl, b7⟩
                replace RBl := hid (RBl.out.below b7)
                replace BBl := BBl.trans (b7.mono BBl.size)
                replace hb := hb.trans (b7.mono hb.size)
                have T7 := hid (T6.out.below b7)
                clear cn kv1 b7 T6
                cases q1 with
                | none =>
                  have HE3 : Hid (stepsF [] ((spl 32 s.data.toList).take m) = none) := by
                    have hsf := SF.out
                    simp only [stepJ] at hsf
                    rw [Hid, HE2.out, hsf]
                  have E : Hid (readT s.data.toList = none) := by (rw [Hid, RD2.out, HE3.out]; rfl)
                  have RB := RBl
                  have BB := BBl
                  clear SF HE2 HE3 RD2 T7 RBl BBl hb WS
                  simp only [numO]
                  have r0 := RB.out.c0
                  have r1 := RB.out.c1
                  have r2 := RB.out.c2
                  have y0 := RB.out.f0
                  have y1 := RB.out.f1
                  have y2 := RB.out.f2
                  have yl := RB.out.lt
                  have p0 := hid (RB.out.s0 (.slice none 0 0))
                  have p1 := hid (RB.out.s1 (.slice none 0 0) (.int .i64 0))
                  have p2 := hid (RB.out.s2 (.slice none 0 0) (.int .i64 0) (.int .i64 0))
                  have FB := hid (Bk3.bl BB (Nat.le_refl _) (.slice none 0 0) (.int .i64 0) (.int .i64 0))
                  go_wp2_with fail
                  have P0 := p0.out
                  have P1 := p1.out
                  have P2 := p2.out
                  refine bodyPost_ret (v := .tuple #[.agg #[.slice none 0 0, .int .i64 0, .int .i64 0], .bool false]) (by simp [results, Tryz.results18, go_sem, P0, P1, P2]) rfl (TarP.no E.out FB.out)
                | some p =>
                  have HE3 : Hid (stepsF [] ((spl 32 s.data.toList).take m) = stepsF (xs ++ [⟨g, p⟩]) (((spl 32 s.data.toList).take m).drop (k + 1))) := by
                    have hsf := SF.out
                    simp only [stepJ] at hsf
                    rw [Hid, HE2.out, hsf]
                  have hlo := T7.out.own.lt
                  have t0 := T7.out.c0
                  have tf := T7.out.f0
                  have tl := T7.out.lt
                  have hb7 := hb.size
                  have hx20 : xs.length ≤ 1048576 := by have := hxk.out; omega
                  clear SF HE2 BBl RBl
                  simp only [numO]
                  go_wp2_with (at_builtin; refine wpList_append_lies _ rfl _ _ 24 rfl w3.heap.size 57 i0 (.agg #[.int .i64 0, .int .i64 0]) 2 16 Tryz.underlying24 hi hz0 hz1 hz2 rfl (by omega) (.slice A xs.length c) xs.length (xs.flatMap encStep) rfl (T7.out.own.alloc _) ⟨w7.heap.size, 0, none⟩ 1 1 [.int .i64 g, .int .i64 p] rfl rfl (World.news_of_block (cs := #[.int .i64 g, .int .i64 p]) (t := 57) (fr := (0, 0)) (heap_alloc_new _ _)) (by simp [Value.oneCell']) (by omega) (by simp only [maxLen]; omega) (by omega) (by simp; omega) (w7.heap.size + 1) (by simp) ?_; intro gg cap w8 ho8 hg8 hat8 hlt8; have hgg := (gr_alloc (o := .cells #[.int .i64 g, .int .i64 p] 57) (World.grownBy.refl w7 (Value.slice A xs.length c).ownBlock)).trans hg8; have ne8 : some gt ≠ (Value.slice A xs.length c).ownBlock := (fun q => T7.out.ne _ q.symm rfl); have k8 := hgg.cell t0 ne8; have f8 := (hgg.frozen_far ⟨gt, 0, none⟩ tl ne8).trans tf; have l8 := World.block_lt_of_cell? _ _ k8)
                  have T8 := hid ((T7.out.alloc (.cells #[.int .i64 g, .int .i64 p] 57)).snoc (z := ⟨g, p⟩) (by simpa [encStep] using ho8) hg8 (hat8.imp id (fun e => by simp; omega)))
                  have b8 : Below w3.heap.size w3 (w8.setCell ⟨gt, 0, none⟩ (.slice (some ⟨gg, 0, none⟩) (xs.length + 1) cap)) := ((hb.alloc hb7 (.cells #[.int .i64 g, .int .i64 p] 57)).grown hg8 (by simp; omega) (fun q hq => (hlo q hq).1)).setCell (by simp only; omega) _
                  have hlen8 : Hid ((xs ++ [(⟨g, p⟩ : Step)]).length = k + 1) := by rw [Hid, List.length_append, hxk.out]; rfl
                  clear T7 ho8 hg8 hat8 hlo t0 tf hgg k8 f8 hb
                  go_roundw
                  all_goals first | exact ⟨k + 1, cap, _, xs ++ [⟨g, p⟩], by omega, hlen8, by go_num, HE3, T8, b8⟩ | exact ⟨⟨k + 1, cap, _, xs ++ [⟨g, p⟩], by omega, hlen8, by go_num, HE3, T8, b8⟩, by simp [intOf]; omega⟩ | (simp [intOf]; omega)
            · have q2 : ((xv.length : Int) == 2) = false := by rw [beq_eq_false_iff_ne]; omega
              have q3' : ((xv.length : Int) != 2) = true := by rw [bne_iff_ne]; omega
              have hsf : stepF z.data.toList = none := by rw [stepF, ← hvl, if_neg h2]
              have HE3 : Hid (stepsF [] ((spl 32 s.data.toList).take m) = none) := by rw [Hid, HE2.out, hsf]
              have E : Hid (readT s.data.toList = none) := by (rw [Hid, RD2.out, HE3.out]; rfl)
              have RB := RBl
              have BB := BBl
              clear hsf HE2 HE3 RD2 T5 RBl BBl hb WS VS HV hvl h2
              have r0 := RB.out.c0
              have r1 := RB.out.c1
              have r2 := RB.out.c2
              have y0 := RB.out.f0
              have y1 := RB.out.f1
              have y2 := RB.out.f2
              have yl := RB.out.lt
              have p0 := hid (RB.out.s0 (.slice none 0 0))
              have p1 := hid (RB.out.s1 (.slice none 0 0) (.int .i64 0))
              have p2 := hid (RB.out.s2 (.slice none 0 0) (.int .i64 0) (.int .i64 0))
              have FB := hid (Bk3.bl BB (Nat.le_refl _) (.slice none 0 0) (.int .i64 0) (.int .i64 0))
              go_wp2_with fail
              have P0 := p0.out
              have P1 := p1.out
              have P2 := p2.out
              refine bodyPost_ret (v := .tuple #[.agg #[.slice none 0 0, .int .i64 0, .int .i64 0], .bool false]) (by simp [results, Tryz.results18, go_sem, P0, P1, P2]) rfl (TarP.no E.out FB.out)
          · obtain rfl : m = k := by omega
            have HE3 : Hid (stepsF [] ((spl 32 s.data.toList).take m) = some xs) := by
              rw [Hid, hE.out, List.drop_of_length_le (by rw [List.length_take]; omega)]; rfl
            have RD3 : Hid (readT s.data.toList = if validT ⟨xs, hh, ee⟩ then some ⟨xs, hh, ee⟩ else none) := by (rw [Hid, RD2.out, HE3.out]; rfl)
            have hx20 : xs.length ≤ 1048576 := by have := hxk.out; omega
            have cO := l23Ok_any gt 0 A xs.length c xs hh ee wr wr.heap.size (Nat.le_refl _) (by omega) (own_sl encStep_len (by omega) hT.out.own) hT.out.c0 hT.out.c1 hT.out.c2
            clear hE HE3 RD2 WS hkm
            go_wp2_with fail
            refine cO.mono ?_
            rintro r w5 ⟨rfl, b5⟩
            have RB := hid (RBl.out.below b5)
            have BB := BBl.trans (b5.mono BBl.size)
            have T5 := hid (hT.out.below b5)
            clear cO b5 RBl BBl hb hT
            cases hv : validT ⟨xs, hh, ee⟩ with
            | false =>
              have E : Hid (readT s.data.toList = none) := by rw [Hid, RD3.out, hv]; rfl
              clear RD3 T5 hv
              have r0 := RB.out.c0
              have r1 := RB.out.c1
              have r2 := RB.out.c2
              have y0 := RB.out.f0
              have y1 := RB.out.f1
              have y2 := RB.out.f2
              have yl := RB.out.lt
              have p0 := hid (RB.out.s0 (.slice none 0 0))
              have p1 := hid (RB.out.s1 (.slice none 0 0) (.int .i64 0))
              have p2 := hid (RB.out.s2 (.slice none 0 0) (.int .i64 0) (.int .i64 0))
              have FB := hid (Bk3.bl BB (Nat.le_refl _) (.slice none 0 0) (.int .i64 0) (.int .i64 0))
              go_wp2_with fail
              have P0 := p0.out
              have P1 := p1.out
              have P2 := p2.out
              refine bodyPost_ret (v := .tuple #[.agg #[.slice none 0 0, .int .i64 0, .int .i64 0], .bool false]) (by simp [results, Tryz.results18, go_sem, P0, P1, P2]) rfl (TarP.no E.out FB.out)
            | true =>
              have E : Hid (readT s.data.toList = some ⟨xs, hh, ee⟩) := by rw [Hid, RD3.out, hv]; rfl
              have r0 := RB.out.c0
              have r1 := RB.out.c1
              have r2 := RB.out.c2
              have y0 := RB.out.f0
              have y1 := RB.out.f1
              have y2 := RB.out.f2
              have yl := RB.out.lt
              have t0 := T5.out.c0
              have t1 := T5.out.c1
              have t2 := T5.out.c2
              have tl := T5.out.lt
              have ntr : gt ≠ w.heap.size := by omega
              have p0 := hid (RB.out.s0 (.slice A xs.length c))
              have p1 := hid (RB.out.s1 (.slice A xs.length c) (.int .i64 hh))
              have p2 := hid (RB.out.s2 (.slice A xs.length c) (.int .i64 hh) (.int .i64 ee))
              have FB := hid (Bk3.bl BB (Nat.le_refl _) (.slice A xs.length c) (.int .i64 hh) (.int .i64 ee))
              have hne : ∀ j, (Value.slice A xs.length c).ownBlock ≠ some (⟨w.heap.size, j, none⟩ : Addr).block := fun j e => by have := (T5.out.own.lt _ e).1; simp only at this; omega
              have OO := hid ((ow_set (u := .int .i64 ee) (hne 2) (ow_set (u := .int .i64 hh) (hne 1) (ow_set (u := .slice A xs.length c) (hne 0) T5.out.own))).mono (show w.heap.size ≤ w3.heap.size by omega))
              clear hne T5 RD3 hv
              go_wp2_with fail
              have P0 := p0.out
              have P1 := p1.out
              have P2 := p2.out
              refine bodyPost_ret (v := .tuple #[.agg #[.slice A xs.length c, .int .i64 hh, .int .i64 ee], .bool true]) (by simp [results, Tryz.results18, go_sem, P0, P1, P2]) rfl (TarP.yes E.out OO.out FB.out)
end Go.Proofs.YtngfhpklakhehaaGreatDoor
