/-
  ShortestRound: the program's side. No condition.
-/
import Derived.Test.YteckfjnglmkenaaPOrd
import Derived.Test.YteckfjnglmkenaaPNear
namespace Go.Proofs.Yteckfjnglmkenaa
open Go.RowKit
set_option maxHeartbeats 400000

/-- a list, a number and a code -/
def LPost2 (w : World) (R : List Int × Int × Int) (r : Ending) (w' : World) : Prop :=
  ∃ A n c, r = .returned (.tuple #[.slice A n c, .int .i64 R.2.1, .int .i64 R.2.2]) ∧ w'.ownsRow w.heap.size 2 1 (.slice A n c) n (R.1.flatMap encI) ∧ Below w.heap.size w w'
theorem LPost2.bad {w w' : World} {R : List Int × Int × Int} {z : Int} (hR : R = ([], 0, z)) (hb : Below w.heap.size w w') : LPost2 w R (.returned (.tuple #[.slice none 0 0, .int .i64 0, .int .i64 z])) w' := by
  subst hR
  exact ⟨none, 0, 0, rfl, World.ownsRow_nil _ _ _ _, hb⟩
theorem Span.set {lo hi : Nat} {a w : World} {g j : Nat} {u : Value} (h : Span lo hi a w) (hg : lo ≤ g ∧ g < hi) : Span lo hi a (w.setCell ⟨g, j, none⟩ u) :=
  ⟨h.os, h.tape, h.output, by simpa [World.setCell] using h.size, fun i hi2 hn => (Below.heap_setCell w ⟨g, j, none⟩ u i (fun e => hn (by simp only at e; omega))).trans (h.block i hi2 hn)⟩

/-- the program's two variables: the best round so far in block gb, its length in the next -/
structure TwoR (w : World) (gb lo : Nat) (st : RSt) : Prop where
  f4 : w.frozen? ⟨gb, 0, none⟩ = false
  f5 : w.frozen? ⟨gb + 1, 0, none⟩ = false
  best : ∃ A1 n1 c1 l, w.cell? ⟨gb, 0, none⟩ = some (.slice A1 n1 c1) ∧ w.cell? ⟨gb + 1, 0, none⟩ = some (.int .i64 l) ∧
    (match st with | none => l = -1 | some (b, x) => w.ownsRow lo 2 1 (.slice A1 n1 c1) n1 (b.flatMap encI) ∧ l = x ∧ 0 ≤ x)
theorem TwoR.below {w w' : World} {gb lo : Nat} {st : RSt} (h : TwoR w gb lo st) (hb : Below w.heap.size w w') : TwoR w' gb lo st := by
  obtain ⟨f4, f5, A1, n1, c1, l, e4, e5, hs⟩ := h
  have l4 := World.block_lt_of_cell? _ _ e4
  have l5 := World.block_lt_of_cell? _ _ e5
  simp only at l4 l5
  refine ⟨(hb.frozen (p := ⟨gb, 0, none⟩) l4).trans f4, (hb.frozen (p := ⟨gb + 1, 0, none⟩) l5).trans f5, A1, n1, c1, l, below_cell e4 hb, below_cell e5 hb, ?_⟩
  cases st with
  | none => exact hs
  | some p => exact ⟨own_below hs.1 hb, hs.2⟩
theorem TwoR.put {w : World} {gb lo : Nat} {st : RSt} (h : TwoR w gb lo st) (hgl : gb + 1 < lo) {ps : List Int} {A : Option Addr} {k c1 : Nat} {x : Int} (hx : 0 ≤ x) (ho : w.ownsRow lo 2 1 (.slice A k c1) k (ps.flatMap encI)) :
    TwoR ((w.setCell ⟨gb, 0, none⟩ (.slice A k c1)).setCell ⟨gb + 1, 0, none⟩ (.int .i64 x)) gb lo (some (ps, x)) := by
  obtain ⟨f4, f5, A1, n1, c3, l, e4, e5, hs⟩ := h
  have hne : ∀ q, q < lo → (Value.slice A k c1).ownBlock ≠ some q := fun q hq e => by have := (ho.lt _ e).1; omega
  refine ⟨by simpa using f4, by simpa using f5, _, _, _, _, ?_, World.cell?_setCell_same _ _ _ ((World.cell?_setCell_other _ _ _ _ (by simp)).trans e5), ow_set (hne _ (by simp only; omega)) (ow_set (hne _ (by simp only; omega)) ho), rfl, hx⟩
  exact (World.cell?_setCell_other _ _ _ _ (by simp)).trans (World.cell?_setCell_same _ _ _ e4)
theorem TwoR.test {w : World} {gb lo : Nat} {st : RSt} (h : TwoR w gb lo st) (x : Int) :
    ∃ A1 n1 c1 l, w.cell? ⟨gb, 0, none⟩ = some (.slice A1 n1 c1) ∧ w.cell? ⟨gb + 1, 0, none⟩ = some (.int .i64 l) ∧ ((lessR x st = false ∧ 0 ≤ l ∧ l ≤ x) ∨ (lessR x st = true ∧ l < 0) ∨ (lessR x st = true ∧ 0 ≤ l ∧ x < l)) := by
  obtain ⟨f4, f5, A1, n1, c3, l, e4, e5, hs⟩ := h
  refine ⟨A1, n1, c3, l, e4, e5, ?_⟩
  cases st with
  | none => exact .inr (.inl ⟨rfl, by simp only at hs; omega⟩)
  | some p =>
    obtain ⟨b, y⟩ := p
    obtain ⟨_, rfl, h0⟩ := hs
    by_cases hx : x < l
    · exact .inr (.inr ⟨by simp [lessR, hx], h0, hx⟩)
    · exact .inl ⟨by simp [lessR]; omega, h0, by omega⟩
theorem lenR_in {css : List (List Int)} (hv : validP css = true) {ps : List Int} (h : inQ css.length ps) : 0 ≤ lenR css ps := by
  have hn := (validP_len hv).1
  have h1 := endR_in h hn
  have h2 := cAt_in hv (endR ps).toNat 0 (by omega) (by omega)
  have h3 := sumR_in hv h
  rw [lenR_eq]; omega

def getG (ps : List Int) (i : Int) : Int := ps.getD i.toNat 0
theorem getG_at {ps : List Int} {k : Nat} {x : Int} (h : ps[k]? = some x) : getG ps (k : Int) = x := by simp [getG, List.getD, h]
/-- what the closure keeps: both arguments in their boxes, the two variables -/
structure KR (gs gp gb lo : Nat) (A : Option Addr) (n c : Nat) (rs : List Row) (A1 : Option Addr) (m1 c1 : Nat) (ps : List Int) (B : Nat) (w : World) (st : RSt) : Prop where
  ks : w.cell? ⟨gs, 0, none⟩ = some (.slice A1 m1 c1)
  kp : w.cell? ⟨gp, 0, none⟩ = some (.slice A n c)
  hx : SlS w B A n rs
  hy : Sl w B 1 encI A1 m1 ps
  two : TwoR w gb lo st
  hlo : lo ≤ w.heap.size
theorem KR.below {gs gp gb lo : Nat} {A : Option Addr} {n c : Nat} {rs : List Row} {A1 : Option Addr} {m1 c1 : Nat} {ps : List Int} {B : Nat} {w w' : World} {st : RSt} (h : KR gs gp gb lo A n c rs A1 m1 c1 ps B w st) (hB : B ≤ w.heap.size) (hb : Below w.heap.size w w') : KR gs gp gb lo A n c rs A1 m1 c1 ps B w' st :=
  ⟨below_cell h.ks hb, below_cell h.kp hb, h.hx.below (hb.mono hB), h.hy.below (hb.mono hB), h.two.below hb, Nat.le_trans h.hlo hb.size⟩
set_option maxHeartbeats 4000000 in
set_option maxRecDepth 100000 in
theorem yieldR_any (gs gp gb lo : Nat) (A : Option Addr) (n c : Nat) (rs : List Row) (A1 : Option Addr) (m1 c1 : Nat) (ps : List Int) (B : Nat) (hBg : B ≤ gb) (hgl : gb + 1 < lo) (hgs : gs < gb) (hgp : gp < gb) (hv : validP (cont rs) = true) (hnl : rs.length = n) (hq : inQ n ps) (hm1 : m1 ≤ 7)
    (W : World) (A' : Option Addr) (c' : Nat) (rd : List Int) (st : RSt) (hK : KR gs gp gb lo A n c rs A1 m1 c1 ps B W st) (hr : Sl W W.heap.size 1 encI A' m1 rd) (hrq : inQ m1 rd) :
    Calls Try.prog 29 (#[.slice A' m1 c'] ++ #[.pointer (some ⟨gs, 0, none⟩), .pointer (some ⟨gp, 0, none⟩), .pointer (some ⟨gb + 1, 0, none⟩), .pointer (some ⟨gb, 0, none⟩)]) W fun r w' => r = .returned (.tuple #[]) ∧ KR gs gp gb lo A n c rs A1 m1 c1 ps B w' (leafR (cont rs) (rd.map (getG ps)) st) ∧ Span gb (gb + 2) W w' := by
  have hlc : (cont rs).length = n := by rw [cont_len, hnl]
  have hn30 := validP_len hv
  rw [hlc] at hn30
  have Lr := hid hr.len
  have Ly := hid hK.hy.len
  have ks := hK.ks
  have hlow := hK.hlo
  have lts := World.block_lt_of_cell? _ _ ks
  simp only at lts
  have HK := hid hK
  have HV := hid hv
  have HQ := hid hq
  have HRQ := hid hrq
  have hyy := hK.hy
  obtain ⟨i0, hi, hz0, hz1, hz2⟩ := info_parts int_info
  have o0 := World.ownsRow_lit (base := W.heap.size) (e := 2) (size := 1) W #[] 0 (Nat.le_refl _) (by simp [maxLen]) (by simp)
  have hBW : B ≤ W.heap.size := by omega
  clear hK hv hq hrq
  go_enter Try.func29, Try.ntmps29
  go_wp2_with fail
  go_loopw [6, 8, 13] (fun r _ i wl => ∃ (k : Nat) (Ar : Option Addr) (cr : Nat), k ≤ m1 ∧ r = .slice Ar k cr ∧ i = .int .i64 k ∧ Hid (wl.ownsRow W.heap.size 2 1 (.slice Ar k cr) k (((rd.take k).map (getG ps)).flatMap encI)) ∧ Below W.heap.size W wl) (fun _ _ i _ => m1 - (intOf i).toNat)
  case atStart => exact ⟨0, _, _, Nat.zero_le _, rfl, rfl, o0, (Below.refl _ _).alloc (Nat.le_refl _) _⟩
  case round =>
    obtain ⟨k, Ar, cr, hk, rfl, rfl, ho, hb⟩ := hrel
    clear o0
    have zb := hb.size
    have ks2 := below_cell ks hb
    by_cases hlt : k < m1
    · obtain ⟨z, b, off, Hz, rfl, hbb, l0⟩ := (hr.below hb).int hlt
      have hzq := HRQ.out z (List.mem_of_getElem? Hz.out)
      obtain ⟨zn, rfl⟩ : ∃ zn : Nat, z = zn := ⟨z.toNat, by omega⟩
      have hzl : zn < m1 := by omega
      obtain ⟨x, b', off', Hx, rfl, hbb', l1⟩ := (hyy.below (hb.mono hBW)).int hzl
      have ho5 := ho.out
      have hlo := hid ho5.lt
      have HY : Hid (((rd.take k).map (getG ps)).flatMap encI ++ [.int .i64 x] = ((rd.take (k + 1)).map (getG ps)).flatMap encI) := by
        rw [Hid, take_at Hz.out]; simp [encI, getG_at Hx.out]
      have j0 : (0 : Int) ≤ (zn : Int) := by omega
      have j1 : (zn : Int) < (m1 : Int) := by omega
      have lb1 : b < wr.heap.size := by omega
      have lb2 : b' < wr.heap.size := by omega
      clear hr hyy ho
      go_wp2_with (at_builtin; refine wpList_append_lies _ rfl _ _ 23 rfl W.heap.size 2 i0 (.int .i64 0) 1 8 Try.underlying23 hi hz0 hz1 hz2 rfl (by omega) (.slice Ar k cr) k (((rd.take k).map (getG ps)).flatMap encI) rfl (ho5.alloc _) ⟨wr.heap.size, 0, none⟩ 1 1 [.int .i64 x] rfl rfl (World.news_of_block (cs := #[.int .i64 x]) (t := 2) (fr := (0, 0)) (heap_alloc_new _ _)) (by simp [Value.oneCell']) (by omega) (by simp only [maxLen]; omega) (by omega) (by simp; omega) (wr.heap.size + 1) (by simp) ?_; intro gg cap w3 ho3 hg3 hat3 hlt3)
      rw [HY.out] at ho3
      have hb3 : Below W.heap.size W w3 := (hb.alloc hb.size _).grown hg3 (by simp; omega) (fun q hq => (hlo.out q hq).1)
      go_roundw
      all_goals first | exact ⟨k + 1, _, _, by omega, rfl, by go_num, ho3, hb3⟩ | exact ⟨⟨k + 1, _, _, by omega, rfl, by go_num, ho3, hb3⟩, by simp [intOf]; omega⟩ | (simp [intOf]; omega)
    · have hkn : k = m1 := by omega
      subst hkn
      have TE : Hid (rd.take k = rd) := List.take_of_length_le (by rw [Lr.out]; exact Nat.le_refl _)
      have ho5 := ho.out
      rw [TE.out] at ho5
      have hK2 := HK.out.below hBW hb
      have kp2 := hK2.kp
      have hin : inQ n (rd.map (getG ps)) := fun y hy => by
        obtain ⟨i, hi1, rfl⟩ := List.mem_map.1 hy
        have hi2 := HRQ.out i hi1
        have hlen : i.toNat < ps.length := by rw [Ly.out]; omega
        have := HQ.out ps[i.toNat] (List.getElem_mem hlen)
        simpa [getG, List.getD, List.getElem?_eq_getElem hlen] using this
      have hrl := roundLength_any A n c rs Ar k cr (rd.map (getG ps)) wr wr.heap.size (Nat.le_refl _) (hK2.hx.more (by omega)) (own_sl encI_len (by omega) ho5) HV.out hin (by omega)
      have hl0 := lenR_in HV.out (ps := rd.map (getG ps)) (by rw [hlc]; exact hin)
      have EL := hid (show leafR (cont rs) (rd.map (getG ps)) st = if lessR (lenR (cont rs) (rd.map (getG ps))) st then some (rd.map (getG ps), lenR (cont rs) (rd.map (getG ps))) else st from rfl)
      obtain ⟨A6, n6, c6, l, e4, e5, ht⟩ := hK2.two.test (lenR (cont rs) (rd.map (getG ps)))
      have f4 := hK2.two.f4
      have f5 := hK2.two.f5
      have HO := hid ho5
      have HK2 := hid hK2
      generalize lenR (cont rs) (rd.map (getG ps)) = L at hrl EL ht hl0
      clear hr hyy ho ho5 hK2 hin
      have lgb : gb + 1 < wr.heap.size := by omega
      rcases ht with ⟨q, l0, l1⟩ | ⟨q, l0⟩ | ⟨q, l0, l1⟩
      · have E2 : Hid (leafR (cont rs) (rd.map (getG ps)) st = st) := by rw [Hid, EL.out, q]; rfl
        clear q EL
        go_wp2_with (go_at_call 30; refine hrl.mono ?_; rintro r w1 ⟨rfl, e⟩; replace e := e.symm; subst e)
        refine bodyPost_end (results_none rfl _ _ _) rfl ?_
        rw [E2.out]
        exact ⟨rfl, HK2.out, Span.ofBelow hb⟩
      all_goals
        have E2 : Hid (leafR (cont rs) (rd.map (getG ps)) st = some (rd.map (getG ps), L)) := by rw [Hid, EL.out, q]; rfl
        clear q EL
        go_wp2_with (go_at_call 30; refine hrl.mono ?_; rintro r w1 ⟨rfl, e⟩; replace e := e.symm; subst e)
        refine bodyPost_end (results_none rfl _ _ _) rfl ?_
        rw [E2.out]
        have hs2 := ((Span.ofBelow (lo := gb) (hi := gb + 2) hb).set (g := gb) (j := 0) (u := .slice Ar k cr) (by omega)).set (g := gb + 1) (j := 0) (u := .int .i64 L) (by omega)
        refine ⟨rfl, ⟨?_, ?_, ?_, ?_, HK2.out.two.put hgl hl0 (HO.out.mono (by omega)), by simpa using (show lo ≤ wr.heap.size by omega)⟩, hs2⟩
        · exact Span.cell hs2 (by simp only; omega) ks
        · exact Span.cell hs2 (by simp only; omega) HK.out.kp
        · have hbB : Below B W _ := hs2.toBelow (Below.refl _ _) hBg (by omega)
          exact HK.out.hx.below hbB
        · have hbB : Below B W _ := hs2.toBelow (Below.refl _ _) hBg (by omega)
          exact HK.out.hy.below hbB
end Go.Proofs.Yteckfjnglmkenaa
