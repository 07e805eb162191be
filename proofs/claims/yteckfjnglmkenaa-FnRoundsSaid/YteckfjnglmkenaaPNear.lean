/-
  NearestRound: both sides. No condition.
-/
import Derived.Test.YteckfjnglmkenaaPNearP
import Derived.Test.YteckfjnglmkenaaPDel
import Derived.Test.YteckfjnglmkenaaPFn
import Derived.Test.YteckfjnglmkenaaClI
namespace Go.Proofs.Yteckfjnglmkenaa
open Go.RowKit
set_option maxHeartbeats 400000

/-- two cells of one row of valid paths -/
theorem SlS.path2 {w : World} {B : Nat} {A : Option Addr} {n : Nat} {rs : List Row} (h : SlS w B A n rs) (hv : validP (cont rs) = true) {i k k2 : Nat} (hi : i < n) (hk : k < n) (hk2 : k2 < n) :
    ∃ bi oi ci bk ok x y, A = some ⟨bi, oi, none⟩ ∧ bi < B ∧ w.cell? ⟨bi, oi + i, none⟩ = some (.slice (some ⟨bk, ok, none⟩) n ci) ∧ bk < B ∧ w.cell? ⟨bk, ok + k, none⟩ = some (.int .i64 x) ∧ w.cell? ⟨bk, ok + k2, none⟩ = some (.int .i64 y) ∧ cAt (cont rs) i k = x ∧ cAt (cont rs) i k2 = y := by
  obtain ⟨bi, oi, ci, bk, ok, x, rfl, h1, c0, h2, d0, hx, _⟩ := h.path hv hi hk
  obtain ⟨bi', oi', ci', bk', ok', y, e, _, c0', _, d0', hy, _⟩ := h.path hv hi hk2
  injection e with e
  injection e with e1 e2
  subst e1 e2
  rw [c0] at c0'
  injection c0' with e
  injection e with e _ e3
  injection e with e
  injection e with e1 e2
  subst e1 e2 e3
  exact ⟨bi, oi, ci, bk, ok, x, y, rfl, h1, c0, h2, d0, d0', hx, hy⟩
theorem l19Some_any (A : Option Addr) (n c : Nat) (rs : List Row) (A1 : Option Addr) (m1 c1 : Nat) (ps : List Int) (w : World) (B : Nat) (hB : B ≤ w.heap.size) (hn : n + tot rs ≤ 2000000) (hm1 : m1 ≤ 2000000) (hx : SlS w B A n rs) (hy : Sl w B 1 encI A1 m1 ps) :
    Calls Try.prog 25 #[.slice A n c, .slice A1 m1 c1] w fun r w' => r = .returned (.int .i64 (codeS (cont rs) ps)) ∧ Below w.heap.size w w' := by
  have hok := l19Paths_any A n c rs w B hB hn hx
  have hlc : (cont rs).length = n := by rw [cont_len, hx.len]
  have hr := fun W h1 h2 => l00Rises_any A1 m1 c1 ps 1 ((n : Int) - 1) W B h1 hm1 h2
  have E := hid (show codeS (cont rs) ps = if validP (cont rs) then if riseF 1 ((n : Int) - 1) none ps then 0 else 2 else 1 by rw [codeS, hlc])
  generalize validP (cont rs) = p at hok E
  generalize riseF 1 ((n : Int) - 1) none ps = q at hr E
  clear hx hlc
  go_enter Try.func25, Try.ntmps25
  cases p <;> cases q
  all_goals go_wp2_with (first
    | (go_at_call 41; refine hok.mono ?_; rintro e w1 ⟨rfl, b1⟩)
    | (go_at_call 44; refine (hr _ (Nat.le_trans hB b1.size) (hy.below (b1.mono hB))).mono ?_; rintro e w2 ⟨rfl, b2⟩; replace b1 := b1.trans (b2.mono b1.size)))
  all_goals go_ret
  all_goals exact ⟨retI (by rw [E.out]; rfl), b1⟩
theorem pathsCode_any (A : Option Addr) (n c : Nat) (rs : List Row) (A1 : Option Addr) (m1 c1 : Nat) (ps : List Int) (w : World) (B : Nat) (hB : B ≤ w.heap.size) (hn : n + tot rs ≤ 2000000) (hm1 : m1 ≤ 2000000) (hx : SlS w B A n rs) (hy : Sl w B 1 encI A1 m1 ps) :
    Calls Try.prog 27 #[.slice A n c, .slice A1 m1 c1] w fun r w' => r = .returned (.int .i64 (codeS (cont rs) ps)) ∧ Below w.heap.size w w' := by
  have hok := arePaths_any A n c rs w B hB hn hx
  have hlc : (cont rs).length = n := by rw [cont_len, hx.len]
  have hr := fun W h2 => isIncreasing_any A1 m1 c1 ps 1 ((n : Int) - 1) W B hm1 h2
  have E := hid (show codeS (cont rs) ps = if validP (cont rs) then if riseF 1 ((n : Int) - 1) none ps then 0 else 2 else 1 by rw [codeS, hlc])
  generalize validP (cont rs) = p at hok E
  generalize riseF 1 ((n : Int) - 1) none ps = q at hr E
  clear hx hlc
  go_enter Try.func27, Try.ntmps27
  cases p <;> cases q
  all_goals go_wp2_with (first
    | (go_at_call 39; refine hok.mono ?_; rintro e w1 ⟨rfl, b1⟩)
    | (go_at_call 46; refine (hr _ (hy.below (b1.mono hB))).mono ?_; rintro e w2 ⟨rfl, rfl⟩))
  all_goals go_ret
  all_goals exact ⟨retI (by rw [E.out]; rfl), by assumption⟩
set_option maxHeartbeats 4000000 in
set_option maxRecDepth 100000 in
theorem implNearestRound_any (A : Option Addr) (n c : Nat) (rs : List Row) (A1 : Option Addr) (m1 c1 : Nat) (ps : List Int) (w : World) (B : Nat) (hB : B ≤ w.heap.size) (hn : n + tot rs ≤ 2000000) (hm1 : m1 ≤ 2000000) (hx : SlS w B A n rs) (hy : Sl w B 1 encI A1 m1 ps) :
    Calls Try.prog 17 #[.slice A n c, .slice A1 m1 c1] w (ListPost w (nearF (cont rs) ps)) := by
  have hc := pathsCode_any A n c rs A1 m1 c1 ps w B hB hn hm1 hx hy
  have hlc : (cont rs).length = n := by rw [cont_len, hx.len]
  have hl := hy.len
  by_cases h0 : codeS (cont rs) ps = 0
  · have EF : Hid (nearF (cont rs) ps = (nearK (cont rs) m1 0 ps, 0)) := by simp [Hid, nearF, h0, hl]
    have Hv := hid (codeS_zero h0).1
    have hn30 := validP_len Hv.out
    rw [hlc] at hn30
    have HN := hid (codeS_nodup h0)
    have HQ : Hid (∀ x ∈ ps, 0 ≤ x ∧ x < (n : Int)) := fun x hxx => by have := codeS_in h0 x hxx; rw [hlc] at this; omega
    obtain ⟨i0, hi, hz0, hz1, hz2⟩ := info_parts int_info
    have o0 := fun (W : World) (h : w.heap.size ≤ W.heap.size) => World.ownsRow_lit (base := w.heap.size) (e := 2) (size := 1) W #[] 0 h (by simp [maxLen]) (by simp)
    rw [h0] at hc
    clear h0 hlc hl
    go_enter Try.func17, Try.ntmps17
    go_wp2_with (first
      | (go_at_call 27; refine hc.mono ?_; rintro r w1 ⟨rfl, b1⟩
         have ba : Below w.heap.size w (w1.alloc (.cells #[] 2)) := b1.alloc b1.size _
         have oa := (o0 w1 b1.size))
      | (go_at_call 32; refine (cloneI_any A1 m1 c1 ps _ B (Nat.le_trans hB ba.size) hm1 (hy.below (ba.mono hB))).mono ?_; rintro r w2 ⟨Al, cl, rfl, ol, b2⟩))
    have hb2 := ba.trans (b2.mono ba.size)
    have oa2 := own_below oa b2
    have olz := ol.lt
    have oaz := oa.lt
    have ol2 := ol.mono ba.size
    have hne : ∀ b, (Value.slice Al m1 cl).ownBlock = some b → (Value.slice (some ⟨w1.heap.size, 0, none⟩) 0 0).ownBlock ≠ some b := fun b h e => by
      have := (olz b h).1
      simp [Value.ownBlock] at e
      simp at this
      omega
    clear hc o0 b2 oa ol b1 olz oaz ba hy
    go_loopw [7, 8, 9] (fun o l a w1 => ∃ (L m : Nat) (out left : List Int) (j : Nat) (Ao : Option Addr) (co : Nat) (Al : Option Addr) (cl : Nat), L + m = m1 ∧ j < n ∧ o = .slice Ao L co ∧ l = .slice Al m cl ∧ a = .int .i64 j ∧
        Hid (nearK (cont rs) m1 0 ps = out ++ nearK (cont rs) m j left) ∧ Hid (left.Nodup ∧ ∀ x ∈ left, x ∈ ps) ∧ w1.ownsRow w.heap.size 2 1 (.slice Ao L co) L (out.flatMap encI) ∧ w1.ownsRow w.heap.size 2 1 (.slice Al m cl) m (left.flatMap encI) ∧
        Hid (∀ b, (Value.slice Al m cl).ownBlock = some b → (Value.slice Ao L co).ownBlock ≠ some b) ∧ Below w.heap.size w w1) (fun _ l _ _ => match l with | .slice _ n _ => n | _ => 0)
    case atStart => exact ⟨0, m1, [], ps, 0, _, _, _, _, by omega, by omega, rfl, rfl, rfl, hid rfl, hid ⟨HN.out, fun x h => h⟩, oa2, ol2, hid hne, hb2⟩
    case round =>
      clear oa2 ol2 hne hb2
      obtain ⟨L, m, out, left, j, Ao, co, Al, cl, hLm, hj, rfl, rfl, rfl, he, hleft, ho, hl, hap, hb⟩ := hrel
      have hml : left.length ≤ m ∧ m ≤ left.length := by have := own_len encI_len (by omega) hl; omega
      have hoz : out.length ≤ L ∧ L ≤ out.length := by have := own_len encI_len (by omega) ho; omega
      by_cases hm0 : 0 < m
      · obtain ⟨g, rfl, hg0, hg1⟩ := own_some hl hm0
        have hgne := hap.out g rfl
        obtain ⟨y0, hy0⟩ : ∃ y, left[0]? = some y := ⟨_, List.getElem?_eq_getElem (by omega)⟩
        have hmin := hid (minOf_first (f := nearC (cont rs) j) hy0)
        have Hy0 := hid hy0
        obtain ⟨wo, hwo⟩ : ∃ wo : World, wo = wr := ⟨_, rfl⟩
        subst hwo
        clear hy0
        go_wp2_with fail
        go_loopw [10, 27] (fun b i w1 => ∃ (k q : Nat) (y : Int), k ≤ m ∧ q < m ∧ b = .int .i64 q ∧ i = .int .i64 k ∧ Hid (left[q]? = some y) ∧ Hid (minOf (nearC (cont rs) j) none left = minOf (nearC (cont rs) j) (some y) (left.drop k)) ∧
            w1.ownsRow w.heap.size 2 1 (.slice Ao L co) L (out.flatMap encI) ∧ w1.ownsRow w.heap.size 2 1 (.slice (some ⟨g, 0, none⟩) m cl) m (left.flatMap encI) ∧ Below w.heap.size w w1) (fun _ i _ => m - (intOf i).toNat)
        case atStart => exact ⟨0, 0, y0, by omega, hm0, rfl, rfl, Hy0, hmin, ho, hl, hb⟩
        case round =>
          clear ho hl hb hmin Hy0
          obtain ⟨k, q, y, hk, hq, rfl, rfl, hyq, hmin, ho, hl, hb⟩ := hrel
          by_cases hkm : k < m
          · obtain ⟨x, hxk⟩ : ∃ x, left[k]? = some x := ⟨_, List.getElem?_eq_getElem (by omega)⟩
            have hxi := HQ.out x (hleft.out.2 x (List.mem_of_getElem? hxk))
            have hyi := HQ.out y (hleft.out.2 y (List.mem_of_getElem? hyq.out))
            obtain ⟨xn, rfl⟩ : ∃ xn : Nat, x = xn := ⟨x.toNat, by omega⟩
            obtain ⟨yn, rfl⟩ : ∃ yn : Nat, y = yn := ⟨y.toNat, by omega⟩
            obtain ⟨bi, oi, ci, bk, ok, vx, vy, rfl, hbi, r0, hbk, r1, r2, ex, ey⟩ := (hx.below (hb.mono hB)).path2 Hv.out hj (show xn < n by omega) (show yn < n by omega)
            have l1 := (own_int hl hxk).1
            have l2 := (own_int hl hyq.out).1
            have Hxk := hid hxk
            have i0 : (0 : Int) ≤ (j : Int) := by omega
            have i1 : (j : Int) < (n : Int) := by omega
            have i2 : (0 : Int) ≤ (xn : Int) := by omega
            have i3 : (xn : Int) < (n : Int) := by omega
            have i4 : (0 : Int) ≤ (yn : Int) := by omega
            have i5 : (yn : Int) < (n : Int) := by omega
            have i6 : (0 : Int) ≤ (q : Int) := by omega
            have i7 : (q : Int) < (m : Int) := by omega
            by_cases hless : vx < vy
            · have E : Hid (minOf (nearC (cont rs) j) none left = minOf (nearC (cont rs) j) (some (xn : Int)) (left.drop (k + 1))) := minOf_less hmin.out hxk (by simp only [nearC, Int.toNat_natCast]; rw [ex, ey]; exact hless)
              clear hx hxk ex ey hmin hyq hxi hyi
              go_wp2_with fail
              go_quiet (fail)
              go_wp2_with fail
              have ho2 := ow_drewN (m := nq) ho
              have hl2 := ow_drewN (m := nq) hl
              have hb2 := below_drewN hb nq
              go_roundw
              all_goals first | exact ⟨k + 1, k, (xn : Int), by omega, by omega, rfl, by go_num, Hxk, E, ho2, hl2, hb2⟩ | exact ⟨⟨k + 1, k, (xn : Int), by omega, by omega, rfl, by go_num, Hxk, E, ho2, hl2, hb2⟩, by simp [intOf]; omega⟩ | (simp [intOf]; omega)
            · have E : Hid (minOf (nearC (cont rs) j) none left = minOf (nearC (cont rs) j) (some (yn : Int)) (left.drop (k + 1))) := minOf_more hmin.out hxk (by simp only [nearC, Int.toNat_natCast]; rw [ex, ey]; exact hless)
              clear hx hxk ex ey hmin Hxk hxi hyi
              go_wp2_with fail
              go_quiet (fail)
              go_wp2_with fail
              have ho2 := ow_drewN (m := nq) ho
              have hl2 := ow_drewN (m := nq) hl
              have hb2 := below_drewN hb nq
              go_roundw
              all_goals first | exact ⟨k + 1, q, (yn : Int), by omega, by omega, rfl, by go_num, hyq, E, ho2, hl2, hb2⟩ | exact ⟨⟨k + 1, q, (yn : Int), by omega, by omega, rfl, by go_num, hyq, E, ho2, hl2, hb2⟩, by simp [intOf]; omega⟩ | (simp [intOf]; omega)
          · have : k = m := by omega
            subst this
            have hyi := HQ.out y (hleft.out.2 y (List.mem_of_getElem? hyq.out))
            have E1 : minOf (nearC (cont rs) j) none left = some y := by
              rw [hmin.out, List.drop_of_length_le (by omega)]; rfl
            have E2 := erase_at hleft.out.1 hyq.out
            obtain ⟨m', rfl⟩ : ∃ m', k = m' + 1 := ⟨k - 1, by omega⟩
            have E : Hid (nearK (cont rs) m1 0 ps = (out ++ [y]) ++ nearK (cont rs) m' y (left.eraseIdx q)) := by
              rw [Hid, he.out, nearK_step E1, E2]
              simp
            have HL : Hid ((left.eraseIdx q).Nodup ∧ ∀ x ∈ left.eraseIdx q, x ∈ ps) := by
              rw [← E2]
              exact ⟨List.Pairwise.sublist List.erase_sublist hleft.out.1, fun x hxx => hleft.out.2 x (List.mem_of_mem_erase hxx)⟩
            have l2 := (own_int hl hyq.out).1
            have HS := hid (snocI out y)
            obtain ⟨yn, rfl⟩ : ∃ yn : Nat, y = yn := ⟨y.toNat, by omega⟩
            have hyn : yn < n := by omega
            have hbs := hb.size
            have hoL : ∀ q, (Value.slice Ao L co).ownBlock = some q → w.heap.size ≤ q ∧ q < wr.heap.size := ho.lt
            have hgw := (own_lt hl).2
            have hw1 : IntKind.i64.wrap ((q : Int) + 1) = (q : Int) + 1 := IntWalk.i64_in _ (by omega)
            clear hmin hyq hx he E1 E2 hyi hleft
            go_wp2_with (first
              | (at_builtin; refine wpList_append_lies _ rfl _ _ 23 rfl w.heap.size 2 i0 (.int .i64 0) 1 8 Try.underlying23 hi hz0 hz1 hz2 rfl (by omega) (.slice Ao L co) L (out.flatMap encI) rfl (ho.alloc _) ⟨wr.heap.size, 0, none⟩ 1 1 [.int .i64 (yn : Int)] rfl rfl (World.news_of_block (cs := #[.int .i64 (yn : Int)]) (t := 2) (fr := (0, 0)) (heap_alloc_new _ _)) (by simp [Value.oneCell']) (by omega) (by simp only [maxLen]; omega) (by omega) (by simp; omega) (wr.heap.size + 1) (by simp) ?_; intro gg cap w3 ho3 hg3 hat3 hlt3
                 have hl3 := own_keep (ow_alloc (o := .cells #[.int .i64 (yn : Int)] 2) hl) (v2 := .slice Ao L co) (fun b hbb e => by simp [Value.ownBlock] at e; subst e; exact hgne hbb) hg3
                 have hb3 : Below w.heap.size w w3 := (hb.alloc hb.size _).grown hg3 (by simp; omega) (fun q hq => (hoL q hq).1))
              | (go_at_call 33; refine (delete_own w.heap.size g (m' + 1) cl q left _ (by omega) hq hl3).mono ?_; rintro r w4 ⟨rfl, hl4, hg4⟩))
            have hgg : gg ≠ g := by
              rcases hat3 with h | h
              · intro e; subst e; exact hgne h
              · omega
            have ho4 := own_keep ho3 (v2 := .slice (some ⟨g, 0, none⟩) 0 0) (fun b hbb e => by simp [Value.ownBlock] at hbb e; omega) hg4
            rw [HS.out] at ho4
            have hb4 : Below w.heap.size w w4 := hb3.grown hg4 hb3.size (fun q hq => by injection hq with hq; omega)
            have hap4 : Hid (∀ b, (Value.slice (some ⟨g, 0, none⟩) m' cl).ownBlock = some b → (Value.slice (some ⟨gg, 0, none⟩) (L + 1) cap).ownBlock ≠ some b) := fun b h e => by
              simp [Value.ownBlock] at h e; omega
            go_roundw
            case rel => exact ⟨L + 1, m', _, _, yn, _, _, _, _, by omega, hyn, rfl, rfl, rfl, E, HL, ho4, hl4, hap4, hb4⟩
            case measure => simp
      · have : m = 0 := by omega
        subst this
        have E : Hid (nearF (cont rs) ps = (out, 0)) := by rw [Hid, EF.out, he.out]; simp [nearK]
        clear he hx EF
        go_wp2
        go_ret2
        rw [E.out]
        exact ⟨_, _, _, rfl, ho, hb⟩
  · have EF : Hid (nearF (cont rs) ps = ([], codeS (cont rs) ps)) := by simp [Hid, nearF, h0]
    generalize codeS (cont rs) ps = z at hc h0 EF
    clear hx hy hlc hl
    go_enter Try.func17, Try.ntmps17
    go_wp2_with (go_at_call 27; refine hc.mono ?_; rintro r w1 ⟨rfl, b1⟩)
    go_ret2
    exact ListPost.bad EF.out b1
end Go.Proofs.Yteckfjnglmkenaa
