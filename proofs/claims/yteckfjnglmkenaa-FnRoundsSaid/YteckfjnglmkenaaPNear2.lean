/-
  NearestRound: the reference's side. No condition.
-/
import Derived.Test.YteckfjnglmkenaaPNear
namespace Go.Proofs.Yteckfjnglmkenaa
open Go.RowKit
set_option maxHeartbeats 400000

set_option maxHeartbeats 4000000 in
set_option maxRecDepth 100000 in
theorem specNearestRound_any (A : Option Addr) (n c : Nat) (rs : List Row) (A1 : Option Addr) (m1 c1 : Nat) (ps : List Int) (w : World) (B : Nat) (hB : B ≤ w.heap.size) (hn : n + tot rs ≤ 2000000) (hm1 : m1 ≤ 2000000) (hx : SlS w B A n rs) (hy : Sl w B 1 encI A1 m1 ps) :
    Calls Try.prog 18 #[.slice A n c, .slice A1 m1 c1] w (ListPost w (nearF (cont rs) ps)) := by
  have hc := l19Some_any A n c rs A1 m1 c1 ps w B hB hn hm1 hx hy
  have hlc : (cont rs).length = n := by rw [cont_len, hx.len]
  have hl := hy.len
  by_cases h0 : codeS (cont rs) ps = 0
  · have EF : Hid (nearF (cont rs) ps = (nearK (cont rs) m1 0 ps, 0)) := by simp [Hid, nearF, h0, hl]
    have Hv := hid (codeS_zero h0).1
    have hn30 := validP_len Hv.out
    rw [hlc] at hn30
    have HN := hid (codeS_nodup h0)
    have HQ : Hid (∀ x ∈ ps, 0 ≤ x ∧ x < (n : Int)) := fun x hxx => by have := codeS_in h0 x hxx; rw [hlc] at this; omega
    obtain ⟨i0, hi, hz0, hz1, hz2⟩ := info_parts int_info
    have o0 := fun (W : World) (h : w.heap.size ≤ W.heap.size) => World.ownsRow_lit (base := w.heap.size) (e := 2) (size := 1) W #[] 0 h (by simp [maxLen]) (by simp)
    have Hl := hid hl
    rw [h0] at hc
    clear h0 hlc hl
    go_enter Try.func18, Try.ntmps18
    go_wp2_with (go_at_call 25; refine hc.mono ?_; rintro r w1 ⟨rfl, b1⟩)
    have hb1 : Below w.heap.size w (w1.alloc (.cells #[] 2)) := b1.alloc b1.size _
    have oa := o0 w1 b1.size
    clear hc o0 b1
    go_loopw [7, 8] (fun o a w1 => ∃ (L m : Nat) (out : List Int) (j : Nat) (Ao : Option Addr) (co : Nat), L + m = m1 ∧ j < n ∧ o = .slice Ao L co ∧ a = .int .i64 j ∧
        Hid (nearK (cont rs) m1 0 ps = out ++ nearK (cont rs) m j (leftI ps out)) ∧ Hid ((leftI ps out).length = m) ∧ w1.ownsRow w.heap.size 2 1 (.slice Ao L co) L (out.flatMap encI) ∧ Below w.heap.size w w1) (fun o _ _ => m1 - (match o with | .slice _ n _ => n | _ => 0))
    case atStart => exact ⟨0, m1, [], 0, _, _, by omega, by omega, rfl, rfl, by simp [Hid, leftI_nil], by simp [Hid, leftI_nil, Hl.out], oa, hb1⟩
    case round =>
      clear oa hb1
      obtain ⟨L, m, out, j, Ao, co, hLm, hj, rfl, rfl, he, hml, ho, hb⟩ := hrel
      have hoz : out.length ≤ L ∧ L ≤ out.length := by have := own_len encI_len (by omega) ho; omega
      by_cases hm0 : 0 < m
      · have hLl : L < m1 := by omega
        obtain ⟨wo, hwo⟩ : ∃ wo : World, wo = wr := ⟨_, rfl⟩
        subst hwo
        go_wp2_with fail
        go_loopw [9, 10] (fun b i w1 => ∃ (k : Nat) (z : Int), k ≤ m1 ∧ b = .int .i64 z ∧ i = .int .i64 k ∧
            Hid ((z = -1 ∧ minOf (nearC (cont rs) j) none (leftI ps out) = minOf (nearC (cont rs) j) none (leftI (ps.drop k) out)) ∨
              (0 ≤ z ∧ z ∈ ps ∧ minOf (nearC (cont rs) j) none (leftI ps out) = minOf (nearC (cont rs) j) (some z) (leftI (ps.drop k) out))) ∧
            w1.ownsRow w.heap.size 2 1 (.slice Ao L co) L (out.flatMap encI) ∧ Below w.heap.size w w1) (fun _ i _ => m1 - (intOf i).toNat)
        case atStart => exact ⟨0, -1, by omega, rfl, rfl, .inl ⟨rfl, rfl⟩, ho, hb⟩
        case round =>
          clear ho hb
          obtain ⟨k, z, hk, rfl, rfl, hz, ho, hb⟩ := hrel
          by_cases hkm : k < m1
          · obtain ⟨x, b1, o1, Hx, rfl, hbb, l1⟩ := (hy.below (hb.mono hB)).int hkm
            have hxm := List.mem_of_getElem? Hx.out
            have hxi := HQ.out x hxm
            have hso := own_sl encI_len (by omega) ho
            have hhas := fun W h => l00Has_any Ao L co out x W wr.heap.size (by omega) h
            have i0 : (0 : Int) ≤ (k : Int) := by omega
            have i1 : (k : Int) < (m1 : Int) := by omega
            have HXM := hid hxm
            cases hq : hasI out x with
            | true =>
              have E : Hid ((z = -1 ∧ minOf (nearC (cont rs) j) none (leftI ps out) = minOf (nearC (cont rs) j) none (leftI (ps.drop (k + 1)) out)) ∨
                  (0 ≤ z ∧ z ∈ ps ∧ minOf (nearC (cont rs) j) none (leftI ps out) = minOf (nearC (cont rs) j) (some z) (leftI (ps.drop (k + 1)) out))) := by
                rcases hz.out with ⟨h1, h2⟩ | ⟨h1, h3, h2⟩
                · exact .inl ⟨h1, by rw [h2, nearC_snoc Hx.out, hq]; rfl⟩
                · exact .inr ⟨h1, h3, by rw [h2, nearC_snoc Hx.out, hq]; rfl⟩
              rw [hq] at hhas
              clear hx hz hq hxm hso
              go_wp2_with fail
              go_quiet ((go_at_call 34; exact Calls.quiet_of_same (hhas _ (own_sl encI_len (by omega) ho))))
              go_wp2_with fail
              have ho2 := ow_drewN (m := nq) ho
              have hb2 := below_drewN hb nq
              go_roundw
              all_goals first | exact ⟨k + 1, z, by omega, rfl, by go_num, E, ho2, hb2⟩ | exact ⟨⟨k + 1, z, by omega, rfl, by go_num, E, ho2, hb2⟩, by simp [intOf]; omega⟩ | (simp [intOf]; omega)
            | false =>
              rw [hq] at hhas
              rcases hz.out with ⟨h1, h2⟩ | ⟨h1, h3, h2⟩
              · have E : Hid ((x = -1 ∧ minOf (nearC (cont rs) j) none (leftI ps out) = minOf (nearC (cont rs) j) none (leftI (ps.drop (k + 1)) out)) ∨
                    (0 ≤ x ∧ x ∈ ps ∧ minOf (nearC (cont rs) j) none (leftI ps out) = minOf (nearC (cont rs) j) (some x) (leftI (ps.drop (k + 1)) out))) :=
                  .inr ⟨hxi.1, HXM.out, by rw [h2, nearC_snoc Hx.out, hq]; rfl⟩
                subst h1
                clear hx hz hq hxm hso h2
                go_wp2_with fail
                go_quiet ((go_at_call 34; exact Calls.quiet_of_same (hhas _ (own_sl encI_len (by omega) ho))))
                go_wp2_with fail
                have ho2 := ow_drewN (m := nq) ho
                have hb2 := below_drewN hb nq
                go_roundw
                all_goals first | exact ⟨k + 1, x, by omega, rfl, by go_num, E, ho2, hb2⟩ | exact ⟨⟨k + 1, x, by omega, rfl, by go_num, E, ho2, hb2⟩, by simp [intOf]; omega⟩ | (simp [intOf]; omega)
              · have hzi := HQ.out z h3
                obtain ⟨xn, rfl⟩ : ∃ xn : Nat, x = xn := ⟨x.toNat, by omega⟩
                obtain ⟨zn, rfl⟩ : ∃ zn : Nat, z = zn := ⟨z.toNat, by omega⟩
                obtain ⟨bi, oi, ci, bk, ok, vx, vy, rfl, hbi, r0, hbk, r1, r2, ex, ey⟩ := (hx.below (hb.mono hB)).path2 Hv.out hj (show xn < n by omega) (show zn < n by omega)
                have j0 : (0 : Int) ≤ (j : Int) := by omega
                have j1 : (j : Int) < (n : Int) := by omega
                have j2 : (0 : Int) ≤ (xn : Int) := by omega
                have j3 : (xn : Int) < (n : Int) := by omega
                have j4 : (0 : Int) ≤ (zn : Int) := by omega
                have j5 : (zn : Int) < (n : Int) := by omega
                have j6 : decide ((zn : Int) < 0) = false := by simp
                have j7 : ((zn : Int) < 0) = False := by simp
                have ex' : nearC (cont rs) j xn = vx := by simp only [nearC, Int.toNat_natCast]; exact ex
                have ey' : nearC (cont rs) j zn = vy := by simp only [nearC, Int.toNat_natCast]; exact ey
                by_cases hless : vx < vy
                · have E : Hid (((xn : Int) = -1 ∧ minOf (nearC (cont rs) j) none (leftI ps out) = minOf (nearC (cont rs) j) none (leftI (ps.drop (k + 1)) out)) ∨
                      (0 ≤ (xn : Int) ∧ (xn : Int) ∈ ps ∧ minOf (nearC (cont rs) j) none (leftI ps out) = minOf (nearC (cont rs) j) (some (xn : Int)) (leftI (ps.drop (k + 1)) out))) :=
                    .inr ⟨j2, HXM.out, by rw [h2, nearC_snoc Hx.out, hq]; simp only [minOf, ex', ey', hless, if_true]; rfl⟩
                  have d1 : decide (vx < vy) = true := by simpa using hless
                  clear hx hz hq hxm hso h2 h3 ex ey ex' ey' hzi hxi
                  go_wp2_with fail
                  go_quiet ((go_at_call 34; exact Calls.quiet_of_same (hhas _ (own_sl encI_len (by omega) ho))))
                  go_wp2_with fail
                  have ho2 := ow_drewN (m := nq) ho
                  have hb2 := below_drewN hb nq
                  go_roundw
                  all_goals first | exact ⟨k + 1, (xn : Int), by omega, rfl, by go_num, E, ho2, hb2⟩ | exact ⟨⟨k + 1, (xn : Int), by omega, rfl, by go_num, E, ho2, hb2⟩, by simp [intOf]; omega⟩ | (simp [intOf]; omega)
                · have E : Hid (((zn : Int) = -1 ∧ minOf (nearC (cont rs) j) none (leftI ps out) = minOf (nearC (cont rs) j) none (leftI (ps.drop (k + 1)) out)) ∨
                      (0 ≤ (zn : Int) ∧ (zn : Int) ∈ ps ∧ minOf (nearC (cont rs) j) none (leftI ps out) = minOf (nearC (cont rs) j) (some (zn : Int)) (leftI (ps.drop (k + 1)) out))) :=
                    .inr ⟨j4, h3, by rw [h2, nearC_snoc Hx.out, hq]; simp only [minOf, ex', ey', hless, if_false]; rfl⟩
                  have d1 : decide (vx < vy) = false := by simpa using hless
                  clear hx hz hq hxm hso h2 h3 ex ey ex' ey' hzi hxi
                  go_wp2_with fail
                  go_quiet ((go_at_call 34; exact Calls.quiet_of_same (hhas _ (own_sl encI_len (by omega) ho))))
                  go_wp2_with fail
                  have ho2 := ow_drewN (m := nq) ho
                  have hb2 := below_drewN hb nq
                  go_roundw
                  all_goals first | exact ⟨k + 1, (zn : Int), by omega, rfl, by go_num, E, ho2, hb2⟩ | exact ⟨⟨k + 1, (zn : Int), by omega, rfl, by go_num, E, ho2, hb2⟩, by simp [intOf]; omega⟩ | (simp [intOf]; omega)
          · have : k = m1 := by omega
            subst this
            have hnil : leftI (ps.drop k) out = [] := by rw [List.drop_of_length_le (by rw [Hl.out]; omega)]; rfl
            rw [hnil] at hz
            obtain ⟨q, hq1, hq2⟩ := minOf_none (nearC (cont rs) j) (l := leftI ps out) (by intro e; have := hml.out; rw [e] at this; simp at this; omega)
            have hz2 : 0 ≤ z ∧ z ∈ ps ∧ minOf (nearC (cont rs) j) none (leftI ps out) = some z := by
              rcases hz.out with ⟨h1, h2⟩ | ⟨h1, h3, h2⟩
              · rw [hq1] at h2; cases h2
              · exact ⟨h1, h3, h2⟩
            obtain ⟨z0, z1, z2⟩ := hz2
            obtain rfl : q = z := by rw [z2] at hq1; injection hq1 with hq1; exact hq1.symm
            have hzi := HQ.out q z1
            obtain ⟨zn, rfl⟩ : ∃ zn : Nat, q = zn := ⟨q.toNat, by omega⟩
            obtain ⟨m', rfl⟩ : ∃ m', m = m' + 1 := ⟨m - 1, by omega⟩
            have E : Hid (nearK (cont rs) k 0 ps = (out ++ [(zn : Int)]) ++ nearK (cont rs) m' (zn : Int) (leftI ps (out ++ [(zn : Int)]))) := by
              rw [Hid, he.out, nearK_step z2, leftI_snoc HN.out]
              simp
            have EL : Hid ((leftI ps (out ++ [(zn : Int)])).length = m') := by rw [Hid, leftI_snoc HN.out, List.length_erase_of_mem hq2, hml.out]; omega
            have HS := hid (snocI out zn)
            have hzn : zn < n := by omega
            have hbs := hb.size
            have hoL : ∀ q, (Value.slice Ao L co).ownBlock = some q → w.heap.size ≤ q ∧ q < wr.heap.size := ho.lt
            clear hz z1 z2 hq1 hq2 hnil hx he hml hzi
            go_wp2_with (at_builtin; refine wpList_append_lies _ rfl _ _ 23 rfl w.heap.size 2 i0 (.int .i64 0) 1 8 Try.underlying23 hi hz0 hz1 hz2 rfl (by omega) (.slice Ao L co) L (out.flatMap encI) rfl (ho.alloc _) ⟨wr.heap.size, 0, none⟩ 1 1 [.int .i64 (zn : Int)] rfl rfl (World.news_of_block (cs := #[.int .i64 (zn : Int)]) (t := 2) (fr := (0, 0)) (heap_alloc_new _ _)) (by simp [Value.oneCell']) (by omega) (by simp only [maxLen]; omega) (by omega) (by simp; omega) (wr.heap.size + 1) (by simp) ?_; intro gg cap w3 ho3 hg3 hat3 hlt3)
            rw [HS.out] at ho3
            have hb3 : Below w.heap.size w w3 := (hb.alloc hb.size _).grown hg3 (by simp; omega) (fun q hq => (hoL q hq).1)
            go_roundw
            case rel => exact ⟨L + 1, m', _, zn, _, _, by omega, hzn, rfl, rfl, E, EL, ho3, hb3⟩
            case measure => simp; omega
      · have : m = 0 := by omega
        subst this
        have E : Hid (nearF (cont rs) ps = (out, 0)) := by rw [Hid, EF.out, he.out]; simp [nearK]
        have hLl : L = m1 := by omega
        subst hLl
        clear he hx EF hml
        go_wp2
        go_ret2
        rw [E.out]
        exact ⟨_, _, _, rfl, ho, hb⟩
  · have EF : Hid (nearF (cont rs) ps = ([], codeS (cont rs) ps)) := by simp [Hid, nearF, h0]
    generalize codeS (cont rs) ps = z at hc h0 EF
    clear hx hy hlc hl
    go_enter Try.func18, Try.ntmps18
    go_wp2_with (go_at_call 25; refine hc.mono ?_; rintro r w1 ⟨rfl, b1⟩)
    go_ret2
    exact ListPost.bad EF.out b1
end Go.Proofs.Yteckfjnglmkenaa
