/-
  ShortestRound: the reference's walk, every node. No condition.
-/
import Derived.Test.YteckfjnglmkenaaPShort2
import Derived.Test.YteckfjnglmkenaaPDel
import Derived.Deep.RegionLaw
namespace Go.Proofs.Yteckfjnglmkenaa
open Go.RowKit
set_option maxHeartbeats 400000

theorem sl_take {w : World} {B : Nat} {b o n k : Nat} {xs : List Int} (h : Sl w B 1 encI (some ⟨b, o, none⟩) n xs) (hk : k ≤ n) : Sl w B 1 encI (some ⟨b, o, none⟩) k (xs.take k) :=
  ⟨by rw [List.length_take, h.len]; omega, fun i x hx => by
    have hi : i < k := by have := (List.getElem?_eq_some_iff.1 hx).1; simp at this; omega
    rw [List.getElem?_take, if_pos hi] at hx
    exact h.2 i x hx⟩
theorem RecS.more {w : World} {gs lo : Nat} {A : Option Addr} {n c : Nat} {Ar : Option Addr} {L cr : Nat} {rd : List Int} {st : RSt} (h : RecS w gs lo A n c Ar L cr rd st) : ∀ b, (Value.slice Ar L cr).ownBlock = some b → lo ≤ b ∧ b < w.heap.size := h.row.lt
theorem RecS.push {w w3 : World} {gs lo : Nat} {A : Option Addr} {n c : Nat} {Ar : Option Addr} {L cr : Nat} {rd : List Int} {st : RSt} (h : RecS w gs lo A n c Ar L cr rd st) {x : Int} {gg cap H : Nat} (hg : w.grownBy w3 (Value.slice Ar L cr).ownBlock) (hH : w.heap.size ≤ H)
    (hat : (Value.slice Ar L cr).ownBlock = some gg ∨ gg = H) (ho : w3.ownsRow lo 2 1 (.slice (some ⟨gg, 0, none⟩) (L + 1) cap) (L + 1) ((rd ++ [x]).flatMap encI)) :
    RecS (w3.setCell ⟨gs, 1, none⟩ (.slice (some ⟨gg, 0, none⟩) (L + 1) cap)) gs lo A n c (some ⟨gg, 0, none⟩) (L + 1) cap (rd ++ [x]) st := by
  obtain ⟨k0, k1, row, nr, f1, f2, f3, A1, n1, c1, l, e2, e3, hs⟩ := h
  have lt := World.block_lt_of_cell? _ _ k0
  simp only at lt
  have hn := nr
  have hgn : (Value.slice (some ⟨gg, 0, none⟩) (L + 1) cap).ownBlock ≠ some gs := fun e => by
    have e2 : gg = gs := by simpa [Value.ownBlock] using e
    rcases hat with h1 | h1
    · exact nr (by rw [h1, e2])
    · omega
  have r0 := hg.cell k0 (fun e => hn e.symm)
  have r1 := hg.cell k1 (fun e => hn e.symm)
  have r2 := hg.cell e2 (fun e => hn e.symm)
  have r3 := hg.cell e3 (fun e => hn e.symm)
  have g1 := (hg.frozen_far ⟨gs, 1, none⟩ lt (fun e => hn e.symm)).trans f1
  have g2 := (hg.frozen_far ⟨gs, 2, none⟩ lt (fun e => hn e.symm)).trans f2
  have g3 := (hg.frozen_far ⟨gs, 3, none⟩ lt (fun e => hn e.symm)).trans f3
  refine ⟨(World.cell?_setCell_other _ _ _ _ (by simp)).trans r0, World.cell?_setCell_same _ _ _ r1, ow_set hgn ho, hgn, by simpa using g1, by simpa using g2, by simpa using g3, A1, n1, c1, l, (World.cell?_setCell_other _ _ _ _ (by simp)).trans r2, (World.cell?_setCell_other _ _ _ _ (by simp)).trans r3, ?_⟩
  cases st with
  | none => exact hs
  | some p =>
    obtain ⟨⟨⟨h1, h2⟩, h5⟩, h3⟩ := hs
    refine ⟨⟨⟨ow_set h5 (own_keep h1 (v2 := .slice Ar L cr) (fun b hb e => h2 b e hb) hg), fun b hb e => ?_⟩, h5⟩, h3⟩
    have e2 : gg = b := by simpa [Value.ownBlock] using e
    subst e2
    rcases hat with h4 | h4
    · exact h2 _ hb h4
    · have := (h1.lt _ hb).2; omega
theorem RecS.pop {w : World} {gs lo : Nat} {A : Option Addr} {n c : Nat} {Ar : Option Addr} {L cr : Nat} {rd : List Int} {x : Int} {st : RSt} (h : RecS w gs lo A n c Ar (L + 1) cr (rd ++ [x]) st) :
    RecS (w.setCell ⟨gs, 1, none⟩ (.slice Ar L cr)) gs lo A n c Ar L cr rd st ∧ ∃ g, Ar = some ⟨g, 0, none⟩ ∧ L + 1 ≤ cr := by
  obtain ⟨k0, k1, row, nr, f1, f2, f3, A1, n1, c1, l, e2, e3, hs⟩ := h
  have hl := own_len encI_len (by omega) row
  obtain ⟨g, rfl, _, _⟩ := own_some row (by omega)
  have hrow := own_shrink (m := L) row (by omega)
  have hlen : rd.length = L := by simp at hl; omega
  have ht : ((rd ++ [x]).flatMap encI).take (L * 1) = rd.flatMap encI := by
    rw [Nat.mul_one, List.flatMap_append, List.take_append_of_le_length (by rw [flatMap_len encI_len]; omega), List.take_of_length_le (by rw [flatMap_len encI_len]; omega)]
  rw [ht] at hrow
  obtain ⟨_, _, hfm, hnc⟩ := own_form row
  injection hfm with _ _ h3
  refine ⟨⟨(World.cell?_setCell_other _ _ _ _ (by simp)).trans k0, World.cell?_setCell_same _ _ _ k1, ow_set nr hrow, nr, by simpa using f1, by simpa using f2, by simpa using f3, A1, n1, c1, l, (World.cell?_setCell_other _ _ _ _ (by simp)).trans e2, (World.cell?_setCell_other _ _ _ _ (by simp)).trans e3, ?_⟩, g, rfl, by omega⟩
  cases st with
  | none => exact hs
  | some p =>
    obtain ⟨⟨⟨h1, h2⟩, h5⟩, h3⟩ := hs
    exact ⟨⟨⟨ow_set h5 h1, fun b hb e => h2 b hb e⟩, h5⟩, h3⟩
set_option maxHeartbeats 40000000 in
set_option maxRecDepth 100000 in
theorem walkS_any (gs lo : Nat) (A : Option Addr) (n c : Nat) (rs : List Row) (B : Nat) (hBg : B ≤ gs) (hBl : B ≤ lo) (hv : validP (cont rs) = true) (hnl : rs.length = n) :
    ∀ (m : Nat) (left rd : List Int) (Al : Option Addr) (cl : Nat) (Ar : Option Addr) (L cr : Nat) (sum : Int) (j : Nat) (st : RSt) (w : World), left.length = m → rd.length = L → L + m ≤ 30 → inQ n left → inQ n rd → left.Nodup → Hid (sum = sumR (cont rs) rd) → Hid ((j : Int) = endR rd) → lo ≤ w.heap.size → SlS w B A n rs →
      Sl w w.heap.size 1 encI Al m left → m ≤ cl → (∀ a : Addr, Al = some a → a.block ≠ gs ∧ some a.block ≠ (Value.slice Ar L cr).ownBlock) → RecS w gs lo A n c Ar L cr rd st →
      Calls Try.prog 26 #[.pointer (some ⟨gs, 0, none⟩), .slice Al m cl, .int .i64 sum, .int .i64 j] w fun r w' => r = .returned (.tuple #[]) ∧ ∃ Ar' cr', RecS w' gs lo A n c Ar' L cr' rd (walkR (cont rs) m left rd sum j st) ∧
        (∀ b, (Value.slice Ar' L cr').ownBlock = some b → (Value.slice Ar L cr).ownBlock = some b ∨ w.heap.size ≤ b) ∧ Two2 gs (Value.slice Ar L cr).ownBlock w w' := by
  have hlc : (cont rs).length = n := by rw [cont_len, hnl]
  have hn30 := validP_len hv
  rw [hlc] at hn30
  intro m
  induction m with
  | zero =>
    intro left rd Al cl Ar L cr sum j st w hm hL hLm hq hr _ hs hj hlo hx _ _ _ hR
    have hsb := sumR_in hv (ps := rd) (by rw [hlc]; exact hr)
    have hje := endR_in hr hn30.1
    rw [← hs.out] at hsb
    rw [← hj.out] at hje
    exact (walkS_leaf gs lo A n c rs B hBg hBl hv hnl rd left Al cl Ar L cr sum j st w (by omega) hsb.1 (by omega) (by omega) hlo hx hR).mono fun r w' ⟨h1, h2, h3⟩ => ⟨h1, Ar, cr, h2, fun b hb => .inl hb, h3⟩
  | succ m ih =>
    intro left rd Al cl Ar L cr sum j st w hm hL hLm hq hr hnd hs hj hlo hx hy hcap hap hR
    have hsb := sumR_in hv (ps := rd) (by rw [hlc]; exact hr)
    have hje := endR_in hr hn30.1
    rw [← hs.out] at hsb
    rw [← hj.out] at hje
    obtain ⟨sb0, sb1⟩ := hsb
    have hjn : j < n := by omega
    obtain ⟨l, e3, hcut, _⟩ := hR.cut sum
    obtain ⟨_, b0, o0, _, hAl, _⟩ := hy.int (i := 0) (by omega)
    subst hAl
    obtain ⟨ha1, ha2⟩ := hap _ rfl
    simp only at ha1 ha2
    clear hap
    have lt := World.block_lt_of_cell? _ _ hR.k0
    simp only at lt
    have HR1 := hid hR.row.lt
    rcases hcut with ⟨q, l0, l1⟩ | ⟨q, hl⟩
    · have E : Hid (walkR (cont rs) (m + 1) left rd sum j st = st) := by simp only [Hid, walkR, q]; rfl
      have hm30 : m + 1 ≤ 30 := by omega
      clear hx hy hq hr hnd hs ih hj hm hL q
      go_enter Try.func26, Try.ntmps26
      go_wp2
      refine bodyPost_ret (results_none rfl _ _ _) rfl ?_
      rw [E.out]
      exact ⟨rfl, Ar, cr, hR, fun b hb => .inl hb, Two2.refl _ _ _⟩
    · have E : Hid (walkR (cont rs) (m + 1) left rd sum j st = wrowR (cont rs) m left rd sum j st (m + 1)) := (wrowR_all (by omega) q).symm
      have k1 := hR.k1
      have Hm := hid hm
      have HL := hid hL
      clear q hm hL
      have hcase : l < 0 ∨ (0 ≤ l ∧ sum < l) := hl
      clear hl
      rcases hcase with hl | ⟨hl, hl2⟩
      all_goals go_enter Try.func26, Try.ntmps26
      all_goals go_wp2
      all_goals
        go_loopw [10, 11] (fun i _ wl => ∃ (k : Nat) (Ar2 : Option Addr) (cr2 : Nat), k ≤ m + 1 ∧ i = .int .i64 k ∧ RecS wl gs lo A n c Ar2 L cr2 rd (wrowR (cont rs) m left rd sum j st k) ∧
          Hid (∀ b, (Value.slice Ar2 L cr2).ownBlock = some b → (Value.slice Ar L cr).ownBlock = some b ∨ w.heap.size ≤ b) ∧ Two2 gs (Value.slice Ar L cr).ownBlock w wl) (fun i _ _ => m + 1 - (intOf i).toNat)
        case atStart => exact ⟨0, Ar, cr, Nat.zero_le _, rfl, hR, fun b hb => .inl hb, Two2.refl _ _ _⟩
        case round =>
          obtain ⟨k, Ar2, cr2, hk, rfl, hRr, hbl, hfr⟩ := hrel
          by_cases hkm : k < m + 1
          · have hz := hfr.size
            have hbB : Below B w wr := Two2.toBelow (Below.refl _ _) hfr hBg (fun b hb => by have := (hR.row.lt b hb).1; omega) (by omega)
            have hyr : Sl wr wr.heap.size 1 encI (some ⟨b0, o0, none⟩) (m + 1) left := ⟨hy.1, fun i x hxx => by
              obtain ⟨b, off, e, hb, hc⟩ := hy.2 i x hxx
              injection e with e
              injection e with e1 e2
              subst e1 e2
              exact ⟨b0, o0, rfl, by omega, fun j u hu => hfr.cell ha1 ha2 (hc j u hu)⟩⟩
            obtain ⟨x, b1, o1, Hx, e1, _, c0⟩ := hyr.int hkm
            injection e1 with e1
            injection e1 with e1 e2
            subst e1 e2
            have hown := fun W h1 h2 => l00Own_all (some ⟨b0, o0, none⟩) k cl (left.take k) W wr.heap.size h1 (by omega) h2
            have hxq := hq x (List.mem_of_getElem? Hx.out)
            have hkc : (k : Int) ≤ (cl : Int) := by omega
            obtain ⟨xn, rfl⟩ : ∃ xn : Nat, x = xn := ⟨x.toNat, by omega⟩
            have hxn : xn < n := by omega
            obtain ⟨bi, oi, ci, bk, ok, y, hA, hbi, d0, hbk, d1, hcy, y0, y1⟩ := (hx.below hbB).path hv hjn hxn
            have hxm := List.mem_of_getElem? Hx.out
            have EE : Hid (left.erase (xn : Int) = left.take k ++ left.drop (k + 1)) := by rw [Hid, erase_at hnd Hx.out, List.eraseIdx_eq_take_drop_succ]
            have EL : Hid ((left.erase (xn : Int)).length = m) := by rw [Hid, List.length_erase_of_mem hxm, Hm.out]; rfl
            have ES : Hid (sum + y = sumR (cont rs) (rd ++ [(xn : Int)])) := by rw [Hid, sumR_snoc, ← hs.out, ← hj.out, Int.toNat_natCast, Int.toNat_natCast, hcy]
            have EW : Hid (wrowR (cont rs) m left rd sum j st (k + 1) = walkR (cont rs) m (left.erase (xn : Int)) (rd ++ [(xn : Int)]) (sum + y) xn (wrowR (cont rs) m left rd sum j st k)) := by rw [Hid, wrowR_succ Hx.out, Int.toNat_natCast, Int.toNat_natCast, hcy]
            generalize wrowR (cont rs) m left rd sum j st k = stk at hRr EW
            have hdr : Sl wr wr.heap.size 1 encI (some ⟨b0, o0 + (k + 1), none⟩) (m - k) (left.drop (k + 1)) := ⟨by rw [List.length_drop, Hm.out]; omega, fun i z hz => by
              rw [List.getElem?_drop] at hz
              obtain ⟨b, off, e, hb, hc⟩ := hyr.2 (k + 1 + i) z hz
              injection e with e
              injection e with e1 e2
              subst e1 e2
              exact ⟨b0, _, rfl, hb, fun j u hu => by have := hc j u hu; simpa [Nat.add_assoc] using this⟩⟩
            have hdl : (left.drop (k + 1)).length = m - k := by rw [List.length_drop, Hm.out]; omega
            obtain ⟨i0, hi, hz0, hz1, hz2⟩ := info_parts int_info
            have IH := hid ih
            have HX := hid hx
            have HQ := hid hq
            have HR := hid hr
            have HND := hid hnd
            have HRR := hid hRr
            have rk1 := hRr.k1
            have rk0 := hRr.k0
            have rf1 := hRr.f1
            have hrow := hRr.row
            have hrl := hid hrow.lt
            have ltr := World.block_lt_of_cell? _ _ rk0
            simp only at ltr
            have hlow : lo ≤ wr.heap.size := by omega
            have ha3 : (Value.slice Ar2 L cr2).ownBlock ≠ some b0 := fun e => by
              rcases hbl.out b0 e with h | h
              · exact ha2 h.symm
              · have := World.block_lt_of_cell? _ _ c0; have := (hy.int hkm); obtain ⟨_, bq, oq, _, eq, hq, _⟩ := this; injection eq with eq; injection eq with eq; subst eq; omega
            have lb0 : b0 < wr.heap.size := World.block_lt_of_cell? _ _ c0
            have k1' : (0 : Int) ≤ (k : Int) + 1 := by omega
            have k2' : (k : Int) + 1 ≤ (m : Int) + 1 := by omega
            have k3' : (k : Int) + 1 ≤ (cl : Int) := by omega
            have w1' : IntKind.i64.wrap ((k : Int) + 1) = (k : Int) + 1 := IntWalk.i64_in _ (by omega)
            have q5' : ((k : Int) + 1).toNat = k + 1 := by omega
            clear hx ih hq hr hnd hRr hy hcy hs hj w1' q5'
            subst hA
            have sb2 : sum ≤ 30000 := by have := HL.out; omega
            have HKM : Hid (k + (m - k) = m) := by unfold Hid; omega
            by_cases hcl : cl = k + 1
            · have hkm2 : m - k = 0 := by omega
              have hnil : (left.drop (k + 1)).flatMap encI = [] := by rw [List.drop_of_length_le (by rw [Hm.out]; omega)]; rfl
              have HN5 : ∀ W : World, Hid (∀ (jj : Nat) (u : Value), ((left.drop (k + 1)).flatMap encI)[jj]? = some u → W.cell? ((⟨b0, o0, none⟩ : Addr).add jj) = some u) := fun W jj u hu => by rw [hnil] at hu; simp at hu
              have HL5 : Hid (((left.drop (k + 1)).flatMap encI).length = 0 * 1) := by rw [Hid, hnil]; rfl
              have HKM : Hid (k + 0 = m) := by have := HKM.out; unfold Hid; omega
              clear hkm2 hnil hdl
              subst hcl
              go_wp2_with fail
              refine (hown _ (Nat.le_refl _) (sl_take hyr (by omega))).mono ?_
              rintro r w5 ⟨A5, c5, rfl, o5, b5⟩
              have hn5 := HN5 w5
              clear HN5
              have lo5 := hid o5.lt
              go_wp2_with (at_builtin; refine wpList_append_own_at _ rfl _ _ 23 rfl wr.heap.size 2 i0 (.int .i64 0) 1 8 Try.underlying23 hi hz0 hz1 hz2 rfl (by omega) (.slice A5 k c5) k ((left.take k).flatMap encI) rfl o5 ⟨b0, o0, none⟩ 0 0 ((left.drop (k + 1)).flatMap encI) rfl HL5.out hn5.out (one_encI _) (by simp only [maxLen]; omega) (by omega) b5.size ?_; intro v6 w6 o6 hg6 _ _; rw [HKM.out, ← List.flatMap_append, ← EE.out] at o6; obtain ⟨A6, c6, rfl, hc6⟩ := own_form o6; have b6 : Below wr.heap.size wr w6 := b5.grown hg6 b5.size (fun q hq => (lo5.out q hq).1))
              clear hg6 o5 b5 hn5 HL5
              have z6 := b6.size
              have lo6 := hid o6.lt
              have HK6 := hid (HRR.out.below b6)
              replace rk1 := below_cell rk1 b6
              replace rk0 := below_cell rk0 b6
              replace rf1 : w6.frozen? ⟨gs, 1, none⟩ = false := HK6.out.f1
              replace c0 := below_cell c0 b6
              replace d0 := below_cell d0 b6
              replace d1 := below_cell d1 b6
              replace hrow := own_below hrow b6
              have q9 : (Value.slice Ar2 L cr2).ownBlock ≠ some gs := HRR.out.nr
              have lg6 : gs < w6.heap.size := by omega
              go_wp2_with fail
              go_region_law (refine step_append_lies _ (by rfl) _ _ _ (by rfl) lo 2 i0 _ 1 8 Try.underlying23 hi hz0 hz1 hz2 rfl (by omega) (.slice Ar2 L cr2) L (rd.flatMap encI) (by rfl) ((ow_drew hrow).alloc _) ⟨w6.heap.size, 0, none⟩ 1 1 [.int .i64 (xn : Int)] (by rfl) (by rfl) (World.news_of_block (cs := #[.int .i64 (xn : Int)]) (t := 2) (fr := (0, 0)) (heap_alloc_new w6.drew _)) (by simp [Value.oneCell']) (by omega) (by simp only [maxLen]; omega) (by omega) (by simp; omega) (w6.heap.size + 1) (by simp) ?_; intro gg cap w7 ho3 hg3 hat3 hlt3; have hgg := (gr_alloc (gr_drew (World.grownBy.refl w6 _))).trans hg3; have f3 := (hgg.frozen_far ⟨gs, 1, none⟩ lg6 (fun e => q9 e.symm)).trans rf1; have k3 : ∃ v, w7.cell? ⟨gs, 1, none⟩ = some v := ⟨_, hgg.cell rk1 (fun e => q9 e.symm)⟩; obtain ⟨v3, k3⟩ := k3)
              all_goals
                rw [show rd.flatMap encI ++ [.int .i64 (xn : Int)] = (rd ++ [(xn : Int)]).flatMap encI by simp [encI]] at ho3
                have K7 := HK6.out.push hgg (H := w6.heap.size + 1) (by omega) hat3 ho3
                have T7 : Two2 gs (Value.slice Ar2 L cr2).ownBlock w6 (w7.setCell ⟨gs, 1, none⟩ (.slice (some ⟨gg, 0, none⟩) (L + 1) cap)) := (Two2.ofGrown hgg gs).set 1 _
                have hT : (Value.slice Ar2 L cr2).ownBlock = (Value.slice Ar L cr).ownBlock ∨ ∀ b, (Value.slice Ar2 L cr2).ownBlock = some b → w.heap.size ≤ b := by
                  cases hob : (Value.slice Ar2 L cr2).ownBlock with
                  | none => exact .inr (fun b hb => by cases hb)
                  | some b =>
                    rcases hbl.out b hob with h | h
                    · exact .inl h.symm
                    · exact .inr (fun b2 hb => by injection hb with hb; omega)
                have T8 := (hfr.trans (Two2.ofBelow b6 gs (Value.slice Ar L cr).ownBlock) (.inl rfl)).trans T7 hT
                have own7 := T7.own o6 (fun b hb => ⟨fun e => by have := (lo6.out b hb).1; omega, fun e => by have := (lo6.out b hb).1; have := (hrl.out b e.symm).2; omega⟩)
                have z7 := T7.size
                have hgb : some b0 ≠ (Value.slice Ar2 L cr2).ownBlock := fun e => ha3 e.symm
                replace c0 := T7.cell ha1 hgb c0
                have nbk : ∀ b, b < B → b ≠ gs ∧ some b ≠ (Value.slice Ar2 L cr2).ownBlock := fun b hb => ⟨by omega, fun e => by have := (hrl.out b e.symm).1; omega⟩
                replace d0 := T7.cell (nbk _ hbi).1 (nbk _ hbi).2 d0
                replace d1 := T7.cell (nbk _ hbk).1 (nbk _ hbk).2 d1
                have hgnew : ∀ b, (Value.slice (some ⟨gg, 0, none⟩) (L + 1) cap).ownBlock = some b → (Value.slice Ar2 L cr2).ownBlock = some b ∨ w6.heap.size ≤ b := fun b hb => by
                  have e2 : gg = b := by simpa [Value.ownBlock] using hb
                  subst e2
                  rcases hat3 with h | h
                  · exact .inl h
                  · exact .inr (by omega)
                generalize hW8 : w7.setCell ⟨gs, 1, none⟩ (.slice (some ⟨gg, 0, none⟩) (L + 1) cap) = W8 at *
                replace rk0 := K7.k0
                have hB8 : Below B w W8 := Two2.toBelow (Below.refl _ _) T8 hBg (fun b hb => by have := (HR1.out b hb).1; omega) (by omega)
                have hih := IH.out (left.erase (xn : Int)) (rd ++ [(xn : Int)]) A6 c6 (some ⟨gg, 0, none⟩) (L + 1) cap (sum + y) xn stk W8.drew EL.out (by simp [HL.out]) (by omega) (inQ_erase HQ.out _) (inQ_snoc HR.out ⟨by omega, by omega⟩) (HND.out.erase _) ES (by rw [Hid, endR_snoc]) (by show lo ≤ W8.heap.size; omega) (HX.out.below (bl_drew hB8)) (own_sl encI_len (by omega) (ow_drew own7)) hc6 (fun a ha => by
                    have h1 : (Value.slice A6 m c6).ownBlock = some a.block := by rw [ha]; rfl
                    have h2 := lo6.out _ h1
                    refine ⟨by omega, fun e => ?_⟩
                    rcases hgnew _ e.symm with h3 | h3
                    · have := (hrl.out _ h3).2; omega
                    · omega) (K7.below (Below.refl _ _).drew)
                have zz7 : wr.heap.size ≤ W8.heap.size := by omega
                have K7h := hid K7
                have i0' : (0 : Int) ≤ (j : Int) := by omega
                have i1' : (j : Int) < (n : Int) := by omega
                have i2' : (0 : Int) ≤ (xn : Int) := by omega
                have i3' : (xn : Int) < (n : Int) := by omega
                have i4' : (0 : Int) ≤ (k : Int) := by omega
                have i5' : (k : Int) < (m : Int) + 1 := by omega
                clear hW8 K7 own7 o6 hown hyr hdr ho3 k3 f3 hgg hg3 hrow rk1
                go_wp2_with fail
                go_still_tail 21, (by kernel_rfl)
                change wpList _ _ _ _ _ W8.drew
                go_wp2_with (go_at_call 26; (with_reducible refine hih.mono ?_); rintro r w9 ⟨rfl, Ar9, cr9, K9, hn9, T9⟩; obtain ⟨hP, g9, rfl, hc9⟩ := K9.pop; have s1 := K9.k1; have s2 := K9.f1; have s3 : (L : Int) ≤ (cr9 : Int) := (by omega); have s4 : (0 : Int) ≤ (L : Int) := (by omega); have HP := hid hP; have HN9 := hid hn9; clear hP hn9 K9)
                have hgw : ∀ b, (Value.slice (some ⟨gg, 0, none⟩) (L + 1) cap).ownBlock = some b → (Value.slice Ar L cr).ownBlock = some b ∨ w.heap.size ≤ b := fun b hb => by
                  rcases hgnew b hb with h | h
                  · exact hbl.out b h
                  · exact .inr (by omega)
                have hr9 : (Value.slice (some ⟨gg, 0, none⟩) (L + 1) cap).ownBlock = (Value.slice Ar L cr).ownBlock ∨ ∀ b, (Value.slice (some ⟨gg, 0, none⟩) (L + 1) cap).ownBlock = some b → w.heap.size ≤ b := by
                  rcases hgw gg rfl with h | h
                  · exact .inl h.symm
                  · exact .inr (fun b hb => (show gg = b by simpa [Value.ownBlock] using hb) ▸ h)
                have T10 := (T8.trans ((Two2.ofBelow ((Below.refl W8.heap.size W8).drew) gs (Value.slice (some ⟨gg, 0, none⟩) (L + 1) cap).ownBlock).trans T9 (.inl rfl)) hr9).set 1 (.slice (some ⟨g9, 0, none⟩) L cr9)
                have HB10 : Hid (∀ b, (Value.slice (some ⟨g9, 0, none⟩) L cr9).ownBlock = some b → (Value.slice Ar L cr).ownBlock = some b ∨ w.heap.size ≤ b) := fun b hb => by
                  rcases HN9.out b hb with h | h
                  · exact hgw b h
                  · exact .inr (Nat.le_trans (show w.heap.size ≤ W8.heap.size by omega) h)
                have HP2 := HP.out
                rw [← EW.out] at HP2
                have HP3 := hid HP2
                clear HP2
                go_wp2_with fail
                go_roundw
                all_goals first | exact ⟨k + 1, _, _, by omega, by go_num, HP3.out, HB10, T10⟩ | exact ⟨⟨k + 1, _, _, by omega, by go_num, HP3.out, HB10, T10⟩, by simp [intOf]; omega⟩ | (simp [intOf]; omega) | ((repeat apply Exists.intro); exact ⟨⟨k + 1, _, _, by omega, by go_num, HP3.out, HB10, T10⟩, rfl⟩)
            · have HL5 : Hid (((left.drop (k + 1)).flatMap encI).length = (m - k) * 1) := by rw [Hid, flatMap_len encI_len, hdl]
              clear hdl
              go_wp2_with fail
              refine (hown _ (Nat.le_refl _) (sl_take hyr (by omega))).mono ?_
              rintro r w5 ⟨A5, c5, rfl, o5, b5⟩
              have hn5 := hid (news_of_ints (hdr.below b5))
              have lo5 := hid o5.lt
              go_wp2_with (at_builtin; refine wpList_append_own_at _ rfl _ _ 23 rfl wr.heap.size 2 i0 (.int .i64 0) 1 8 Try.underlying23 hi hz0 hz1 hz2 rfl (by omega) (.slice A5 k c5) k ((left.take k).flatMap encI) rfl o5 ⟨b0, o0 + (k + 1), none⟩ (m - k) (cl - (k + 1)) ((left.drop (k + 1)).flatMap encI) rfl HL5.out hn5.out (one_encI _) (by simp only [maxLen]; omega) (by omega) b5.size ?_; intro v6 w6 o6 hg6 _ _; rw [HKM.out, ← List.flatMap_append, ← EE.out] at o6; obtain ⟨A6, c6, rfl, hc6⟩ := own_form o6; have b6 : Below wr.heap.size wr w6 := b5.grown hg6 b5.size (fun q hq => (lo5.out q hq).1))
              clear hg6 o5 b5 hn5 HL5
              have z6 := b6.size
              have lo6 := hid o6.lt
              have HK6 := hid (HRR.out.below b6)
              replace rk1 := below_cell rk1 b6
              replace rk0 := below_cell rk0 b6
              replace rf1 : w6.frozen? ⟨gs, 1, none⟩ = false := HK6.out.f1
              replace c0 := below_cell c0 b6
              replace d0 := below_cell d0 b6
              replace d1 := below_cell d1 b6
              replace hrow := own_below hrow b6
              have q9 : (Value.slice Ar2 L cr2).ownBlock ≠ some gs := HRR.out.nr
              have lg6 : gs < w6.heap.size := by omega
              go_wp2_with fail
              go_region_law (refine step_append_lies _ (by rfl) _ _ _ (by rfl) lo 2 i0 _ 1 8 Try.underlying23 hi hz0 hz1 hz2 rfl (by omega) (.slice Ar2 L cr2) L (rd.flatMap encI) (by rfl) ((ow_drew hrow).alloc _) ⟨w6.heap.size, 0, none⟩ 1 1 [.int .i64 (xn : Int)] (by rfl) (by rfl) (World.news_of_block (cs := #[.int .i64 (xn : Int)]) (t := 2) (fr := (0, 0)) (heap_alloc_new w6.drew _)) (by simp [Value.oneCell']) (by omega) (by simp only [maxLen]; omega) (by omega) (by simp; omega) (w6.heap.size + 1) (by simp) ?_; intro gg cap w7 ho3 hg3 hat3 hlt3; have hgg := (gr_alloc (gr_drew (World.grownBy.refl w6 _))).trans hg3; have f3 := (hgg.frozen_far ⟨gs, 1, none⟩ lg6 (fun e => q9 e.symm)).trans rf1; have k3 : ∃ v, w7.cell? ⟨gs, 1, none⟩ = some v := ⟨_, hgg.cell rk1 (fun e => q9 e.symm)⟩; obtain ⟨v3, k3⟩ := k3)
              all_goals
                rw [show rd.flatMap encI ++ [.int .i64 (xn : Int)] = (rd ++ [(xn : Int)]).flatMap encI by simp [encI]] at ho3
                have K7 := HK6.out.push hgg (H := w6.heap.size + 1) (by omega) hat3 ho3
                have T7 : Two2 gs (Value.slice Ar2 L cr2).ownBlock w6 (w7.setCell ⟨gs, 1, none⟩ (.slice (some ⟨gg, 0, none⟩) (L + 1) cap)) := (Two2.ofGrown hgg gs).set 1 _
                have hT : (Value.slice Ar2 L cr2).ownBlock = (Value.slice Ar L cr).ownBlock ∨ ∀ b, (Value.slice Ar2 L cr2).ownBlock = some b → w.heap.size ≤ b := by
                  cases hob : (Value.slice Ar2 L cr2).ownBlock with
                  | none => exact .inr (fun b hb => by cases hb)
                  | some b =>
                    rcases hbl.out b hob with h | h
                    · exact .inl h.symm
                    · exact .inr (fun b2 hb => by injection hb with hb; omega)
                have T8 := (hfr.trans (Two2.ofBelow b6 gs (Value.slice Ar L cr).ownBlock) (.inl rfl)).trans T7 hT
                have own7 := T7.own o6 (fun b hb => ⟨fun e => by have := (lo6.out b hb).1; omega, fun e => by have := (lo6.out b hb).1; have := (hrl.out b e.symm).2; omega⟩)
                have z7 := T7.size
                have hgb : some b0 ≠ (Value.slice Ar2 L cr2).ownBlock := fun e => ha3 e.symm
                replace c0 := T7.cell ha1 hgb c0
                have nbk : ∀ b, b < B → b ≠ gs ∧ some b ≠ (Value.slice Ar2 L cr2).ownBlock := fun b hb => ⟨by omega, fun e => by have := (hrl.out b e.symm).1; omega⟩
                replace d0 := T7.cell (nbk _ hbi).1 (nbk _ hbi).2 d0
                replace d1 := T7.cell (nbk _ hbk).1 (nbk _ hbk).2 d1
                have hgnew : ∀ b, (Value.slice (some ⟨gg, 0, none⟩) (L + 1) cap).ownBlock = some b → (Value.slice Ar2 L cr2).ownBlock = some b ∨ w6.heap.size ≤ b := fun b hb => by
                  have e2 : gg = b := by simpa [Value.ownBlock] using hb
                  subst e2
                  rcases hat3 with h | h
                  · exact .inl h
                  · exact .inr (by omega)
                generalize hW8 : w7.setCell ⟨gs, 1, none⟩ (.slice (some ⟨gg, 0, none⟩) (L + 1) cap) = W8 at *
                replace rk0 := K7.k0
                have hB8 : Below B w W8 := Two2.toBelow (Below.refl _ _) T8 hBg (fun b hb => by have := (HR1.out b hb).1; omega) (by omega)
                have hih := IH.out (left.erase (xn : Int)) (rd ++ [(xn : Int)]) A6 c6 (some ⟨gg, 0, none⟩) (L + 1) cap (sum + y) xn stk W8.drew EL.out (by simp [HL.out]) (by omega) (inQ_erase HQ.out _) (inQ_snoc HR.out ⟨by omega, by omega⟩) (HND.out.erase _) ES (by rw [Hid, endR_snoc]) (by show lo ≤ W8.heap.size; omega) (HX.out.below (bl_drew hB8)) (own_sl encI_len (by omega) (ow_drew own7)) hc6 (fun a ha => by
                    have h1 : (Value.slice A6 m c6).ownBlock = some a.block := by rw [ha]; rfl
                    have h2 := lo6.out _ h1
                    refine ⟨by omega, fun e => ?_⟩
                    rcases hgnew _ e.symm with h3 | h3
                    · have := (hrl.out _ h3).2; omega
                    · omega) (K7.below (Below.refl _ _).drew)
                have zz7 : wr.heap.size ≤ W8.heap.size := by omega
                have K7h := hid K7
                have i0' : (0 : Int) ≤ (j : Int) := by omega
                have i1' : (j : Int) < (n : Int) := by omega
                have i2' : (0 : Int) ≤ (xn : Int) := by omega
                have i3' : (xn : Int) < (n : Int) := by omega
                have i4' : (0 : Int) ≤ (k : Int) := by omega
                have i5' : (k : Int) < (m : Int) + 1 := by omega
                clear hW8 K7 own7 o6 hown hyr hdr ho3 k3 f3 hgg hg3 hrow rk1
                go_wp2_with fail
                go_still_tail 21, (by kernel_rfl)
                change wpList _ _ _ _ _ W8.drew
                go_wp2_with (go_at_call 26; (with_reducible refine hih.mono ?_); rintro r w9 ⟨rfl, Ar9, cr9, K9, hn9, T9⟩; obtain ⟨hP, g9, rfl, hc9⟩ := K9.pop; have s1 := K9.k1; have s2 := K9.f1; have s3 : (L : Int) ≤ (cr9 : Int) := (by omega); have s4 : (0 : Int) ≤ (L : Int) := (by omega); have HP := hid hP; have HN9 := hid hn9; clear hP hn9 K9)
                have hgw : ∀ b, (Value.slice (some ⟨gg, 0, none⟩) (L + 1) cap).ownBlock = some b → (Value.slice Ar L cr).ownBlock = some b ∨ w.heap.size ≤ b := fun b hb => by
                  rcases hgnew b hb with h | h
                  · exact hbl.out b h
                  · exact .inr (by omega)
                have hr9 : (Value.slice (some ⟨gg, 0, none⟩) (L + 1) cap).ownBlock = (Value.slice Ar L cr).ownBlock ∨ ∀ b, (Value.slice (some ⟨gg, 0, none⟩) (L + 1) cap).ownBlock = some b → w.heap.size ≤ b := by
                  rcases hgw gg rfl with h | h
                  · exact .inl h.symm
                  · exact .inr (fun b hb => (show gg = b by simpa [Value.ownBlock] using hb) ▸ h)
                have T10 := (T8.trans ((Two2.ofBelow ((Below.refl W8.heap.size W8).drew) gs (Value.slice (some ⟨gg, 0, none⟩) (L + 1) cap).ownBlock).trans T9 (.inl rfl)) hr9).set 1 (.slice (some ⟨g9, 0, none⟩) L cr9)
                have HB10 : Hid (∀ b, (Value.slice (some ⟨g9, 0, none⟩) L cr9).ownBlock = some b → (Value.slice Ar L cr).ownBlock = some b ∨ w.heap.size ≤ b) := fun b hb => by
                  rcases HN9.out b hb with h | h
                  · exact hgw b h
                  · exact .inr (Nat.le_trans (show w.heap.size ≤ W8.heap.size by omega) h)
                have HP2 := HP.out
                rw [← EW.out] at HP2
                have HP3 := hid HP2
                clear HP2
                go_wp2_with fail
                go_roundw
                all_goals first | exact ⟨k + 1, _, _, by omega, by go_num, HP3.out, HB10, T10⟩ | exact ⟨⟨k + 1, _, _, by omega, by go_num, HP3.out, HB10, T10⟩, by simp [intOf]; omega⟩ | (simp [intOf]; omega) | ((repeat apply Exists.intro); exact ⟨⟨k + 1, _, _, by omega, by go_num, HP3.out, HB10, T10⟩, rfl⟩)
          · have : k = m + 1 := by omega
            subst this
            clear hx hy ih
            go_wp2
            refine bodyPost_end (results_none rfl _ _ _) rfl ?_
            rw [E.out]
            exact ⟨rfl, Ar2, cr2, hRr, hbl.out, hfr⟩
end Go.Proofs.Yteckfjnglmkenaa
