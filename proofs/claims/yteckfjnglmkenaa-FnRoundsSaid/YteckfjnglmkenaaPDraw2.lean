/-
  The draws of paths and of rounds. No condition.
-/
import Derived.Test.YteckfjnglmkenaaPDraw
namespace Go.Proofs.Yteckfjnglmkenaa
open Go.RowKit
set_option maxHeartbeats 400000

/-- what a draw of paths and points leaves -/
def DrawP (gs K : Nat) (w : World) (r : Ending) (w' : World) : Prop :=
  ∃ (A : Option Addr) (c : Nat) (rs : List Row) (As : Option Addr) (cs : Nat) (ps : List Int), r = .returned (.tuple #[.slice A rs.length c, .slice As ps.length cs]) ∧ rs.length ≤ 31 ∧ tot rs ≤ 1000 ∧ ps.length ≤ 31 ∧ ps.length ≤ cs ∧
    Hid (OwnP w' gs A c rs) ∧ Hid (w'.ownsRow (gs + 1) 2 1 (.slice As ps.length cs) ps.length (ps.flatMap encI)) ∧ SrcAt w' gs K ∧ Below gs w w'
theorem own_caps {w : World} {lo T k : Nat} {A : Option Addr} {n c m : Nat} {xs : List Value} (h : w.ownsRow lo T k (.slice A n c) m xs) : n ≤ c := by
  obtain ⟨_, _, e, h⟩ := own_form h
  injection e with _ e1 e2
  omega
theorem rowsP_info : (Try.prog.info? 23).map (fun i => (i.zero, i.size, i.bytes)) = some (some (.slice none 0 0), 1, 24) := by kernel_rfl
set_option maxHeartbeats 8000000 in
set_option maxRecDepth 100000 in
theorem l19DrawPaths_any (gs k : Nat) (w : World) (h : SrcAt w gs k) (hk : k ≤ 1000) :
    Calls Try.prog 36 #[.pointer (some ⟨gs, 0, none⟩)] w (DrawP gs (k + 4000) w) := by
  obtain ⟨i0, hi, hz0, hz1, hz2⟩ := info_parts int_info
  obtain ⟨i1, hi1, hy0, hy1, hy2⟩ := info_parts rowsP_info
  have hgl := h.lt
  have H1 := hid h
  clear h
  go_enter Try.func36, Try.ntmps36
  go_wp2_with fail
  refine (pick_any gs k 7 _ H1.out (by omega) (by omega)).mono ?_
  rintro r w1 ⟨n, rfl, n0, n1, hs1, hg1⟩
  have n6 : n ≤ 6 := by omega
  have S1 := hid hs1
  have b1 := below_src (Below.refl gs w) hg1 (Nat.le_refl _) (by omega)
  have l1 := hs1.lt
  clear H1 hs1 hg1 n1
  go_wp2_with fail
  refine (one_any gs _ 20 _ S1.out (by omega) (by omega)).mono ?_
  rintro r w2 ⟨b, rfl, hs2, hg2⟩
  have S2 := hid hs2
  have b2 := below_src b1 hg2 (Nat.le_refl _) (by omega)
  have l2 := hs2.lt
  clear S1 b1 hs2 hg2 l1
  cases b with
  | true =>
    have la : (w2.alloc (.cells #[.int .i64 9, .int .i64 30, .int .i64 31] 2)).ownsRow w2.heap.size 2 1 (.slice (some ⟨w2.heap.size, 0, none⟩) 3 3) 3 (([9, 30, 31] : List Int).flatMap encI) := World.ownsRow_lit w2 #[.int .i64 9, .int .i64 30, .int .i64 31] 3 (Nat.le_refl _) (by simp [maxLen]) (by simp)
    have HL := hid (own_sl encI_len (by omega) la)
    have hgw : gs < w2.heap.size := S2.out.lt
    clear la

    have S3 := hid (S2.out.alloc (.cells #[.int .i64 9, .int .i64 30, .int .i64 31] 2))
    have b3 := b2.alloc (by omega) (.cells #[.int .i64 9, .int .i64 30, .int .i64 31] 2)
    clear S2 b2
    go_wp2_with fail
    refine (among_any gs _ (some ⟨w2.heap.size, 0, none⟩) 3 3 _ _ S3.out (by omega) (by omega) (by omega) HL.out (fun b o s e => by injection e with e; injection e with e1 e2; omega)).mono ?_
    rintro r w4 ⟨y, rfl, hy, hs4, hg4⟩
    have S4 := hid hs4
    have b4 := below_src b3 hg4 (Nat.le_refl _) (by simp; omega)
    have l4 := hs4.lt
    obtain ⟨N, rfl⟩ : ∃ N : Nat, y = (N : Int) := ⟨y.toNat, by simp at hy; omega⟩
    have hN1 : 1 ≤ N := by simp at hy; omega
    have hN31 : N ≤ 31 := by simp at hy; omega
    clear S3 b3 HL hs4 hg4 hy n0 n6

    have o0 : (w4.alloc (.cells #[] 23)).ownsRow (gs + 1) 23 1 (.slice (some ⟨w4.heap.size, 0, none⟩) 0 0) 0 [] := World.ownsRow_lit w4 #[] 0 (by omega) (by simp only [maxLen]; omega) rfl
    have M3 : Hid (MadeP (w4.alloc (.cells #[] 23)) gs (some ⟨w4.heap.size, 0, none⟩) 0 []) := ⟨o0, fun r hr => by simp at hr, fun r hr => by simp at hr, fun i j r s _ hr => by simp at hr⟩
    have S3 := hid (S4.out.alloc (.cells #[] 23))
    have b3 := b4.alloc (by omega) (.cells #[] 23)
    have l3 : gs < (w4.alloc (.cells #[] 23)).heap.size := by simp; omega
    clear o0 S4 b4
    go_wp2_with fail
    go_loopw [5, 6] (fun o q wl => ∃ (A : Option Addr) (c i : Nat) (rs : List Row), i ≤ N ∧ rs.length = i ∧ o = .slice A rs.length c ∧ q = .int .i64 (i : Nat) ∧ Hid (∀ r ∈ rs, r.n = N) ∧ Hid (MadeP wl gs A c rs) ∧ Hid (SrcAt wl gs (k + 10 + 62 * i)) ∧ Below gs w wl ∧ gs < wl.heap.size) (fun _ q _ => N - (intOf q).toNat)
    case atStart => exact ⟨_, _, 0, [], Nat.zero_le _, rfl, rfl, rfl, hid (fun r hr => by simp at hr), M3, hid (S3.out.mono (by omega)), b3, l3⟩
    case round =>
      clear M3 S3 b3 l3
      obtain ⟨A, c, i, rs, hin, hrl, rfl, rfl, hN, hM, hSr, hb, hgw⟩ := hrel
      have hrl1 : rs.length ≤ i := by omega
      have hrl2 : i ≤ rs.length := by omega
      clear hrl
      by_cases hlt : i < N
      · obtain ⟨wo, rfl⟩ : ∃ wo : World, wo = wr := ⟨_, rfl⟩
        have o1 : (wo.alloc (.cells #[] 2)).ownsRow wo.heap.size 2 1 (.slice (some ⟨wo.heap.size, 0, none⟩) 0 0) 0 [] := World.ownsRow_lit wo #[] 0 (by omega) (by simp only [maxLen]; omega) rfl
        have O1 := hid o1
        have S4 := hid (hSr.out.alloc (.cells #[] 2))
        have htop := hid hM.out.top.lt
        have hrows := hid (fun r (hr : r ∈ rs) => (hM.out.row r hr).lt)
        clear o1
        go_wp2_with fail
        go_loopw [7, 8] (fun o q wl => ∃ (Ar : Option Addr) (cr : Nat) (xs : List Int), xs.length ≤ N ∧ o = .slice Ar xs.length cr ∧ q = .int .i64 (xs.length : Nat) ∧ Hid (wl.ownsRow wo.heap.size 2 1 (.slice Ar xs.length cr) xs.length (xs.flatMap encI)) ∧ Hid (SrcAt wl gs (k + 10 + 62 * i + 2 * xs.length)) ∧ Span gs (gs + 1) wo wl) (fun _ q _ => N - (intOf q).toNat)
        case atStart => exact ⟨_, _, [], Nat.zero_le _, rfl, rfl, O1, S4, (Span.refl _ _ _).alloc _⟩
        case round =>
          obtain ⟨Ar, cr, xs, hxl, rfl, rfl, hO, hSx, hsp⟩ := hrel
          clear O1 S4
          have hws := hsp.size
          by_cases hlt2 : xs.length < N
          · go_wp2_with fail
            refine (pick_any gs _ 30 _ hSx.out (by omega) (by omega)).mono ?_
            rintro r w5 ⟨a, rfl, a0, a1, hs5, hg5⟩
            have a29 : a ≤ 29 := by omega
            have HO := hid (own_src hO.out hg5 (by omega))
            have HS := hid hs5
            replace hsp := hsp.grow hg5 (fun b hb => .inr (by injection hb with hb; omega))
            have hws2 := hsp.size
            have hlo := HO.out.lt
            clear hs5 hg5 hO hSx a1
            go_wp2_with (at_builtin; refine wpList_append_lies _ rfl _ _ 23 rfl wo.heap.size 2 i0 (.int .i64 0) 1 8 Try.underlying23 hi hz0 hz1 hz2 rfl (by omega) (.slice Ar xs.length cr) xs.length (xs.flatMap encI) rfl (HO.out.alloc _) ⟨w5.heap.size, 0, none⟩ 1 1 [.int .i64 (1 + a)] rfl rfl (World.news_of_block (cs := #[.int .i64 (1 + a)]) (t := 2) (fr := (0, 0)) (heap_alloc_new _ _)) (by simp [Value.oneCell']) (by omega) (by simp only [maxLen]; omega) (by omega) (by simp; omega) (w5.heap.size + 1) (by simp) ?_; intro gg6 cap6 w6 ho6 hg6 hat6 hlt6)
            have ho9 : w6.ownsRow wo.heap.size 2 1 (.slice (some ⟨gg6, 0, none⟩) (xs ++ [1 + a]).length cap6) (xs ++ [1 + a]).length ((xs ++ [1 + a]).flatMap encI) := by simpa [encI] using ho6
            have hs9 := (HS.out.alloc (.cells #[.int .i64 (1 + a)] 2)).grown hg6 (fun b hb => by have := (hlo b hb).1; omega)
            have hp9 := (hsp.alloc (.cells #[.int .i64 (1 + a)] 2)).grow hg6 (fun b hb => .inl (hlo b hb).1)
            have HO4 := hid ho9
            have HS4 := hid (hs9.mono (show _ ≤ k + 10 + 62 * i + 2 * (xs ++ [1 + a]).length by simp; omega))
            clear ho6 ho9 hs9 hg6 HO HS
            go_roundw
            all_goals first | exact ⟨_, _, xs ++ [1 + a], (by rw [List.length_append, List.length_singleton]; omega), (by rw [List.length_append, List.length_singleton]), (by rw [List.length_append, List.length_singleton]; go_num), HO4, HS4, hp9⟩ | exact ⟨⟨_, _, xs ++ [1 + a], (by rw [List.length_append, List.length_singleton]; omega), (by rw [List.length_append, List.length_singleton]), (by rw [List.length_append, List.length_singleton]; go_num), HO4, HS4, hp9⟩, by simp [intOf]; omega⟩ | (simp [intOf]; omega)
          · have hxn : xs.length = N := by omega
            obtain ⟨g, rfl, hlo, hgs2⟩ := own_some hO.out (by omega : 0 < xs.length)
            obtain ⟨⟨u, e0⟩, f0⟩ := own_at hO.out (Below.refl _ _) i (by omega)
            have hst := (hO.out.stored i (.int .i64 0)).1
            rw [← set_encI'] at hst
            have M5 := hid (hM.out.span2 hsp)
            have b5 := hsp.toBelow hb (Nat.le_refl _) (by omega)
            have S5 := hid ((hSx.out.mono (show _ ≤ k + 10 + 62 * (i + 1) by omega)).set (p := ⟨g, i, none⟩) (u := .int .i64 0) (by simp only; omega))
            have M6 := hid (M5.out.far (hO.out.stored i (.int .i64 0)).2 (fun b hb => (htop.out b hb).2) (fun r hr b hb => (hrows.out r hr b hb).2) (fun b hb => by simp [Value.ownBlock] at hb; omega))
            have b6 := bl_set (p := ⟨g, i, none⟩) (u := .int .i64 0) (by simp only; omega) b5
            have O6 := hid hst
            have lw6 : wo.heap.size ≤ wr.heap.size := hws
            have hszq : (wr.setCell ⟨g, i, none⟩ (.int .i64 0)).heap.size = wr.heap.size := by simp
            have HXN := hid hxn
            have iA : (i : Int) < (xs.length : Int) := by omega
            have iB : (0 : Int) ≤ (i : Int) := by omega
            have HSQ := hid hszq
            clear hO hSx hst M5 b5 hM hSr hsp hxn hb hszq
            have HMa := hid (M6.out.alloc (.cells #[.slice (some ⟨g, 0, none⟩) xs.length cr] 23))
            have Sa := hid (S5.out.alloc (.cells #[.slice (some ⟨g, 0, none⟩) xs.length cr] 23))
            have ba := b6.alloc (by rw [HSQ.out]; omega) (.cells #[.slice (some ⟨g, 0, none⟩) xs.length cr] 23)
            have ROW := hid ((O6.out.mono (show gs + 1 ≤ wo.heap.size by omega)).alloc (.cells #[.slice (some ⟨g, 0, none⟩) xs.length cr] 23))
            have hlo2 := HMa.out.top.lt
            clear M6 S5 b6 O6
            go_wp2_with (at_builtin; refine wpList_append_lies _ rfl _ _ 22 rfl (gs + 1) 23 i1 (.slice none 0 0) 1 24 Try.underlying22 hi1 hy0 hy1 hy2 rfl (by omega) (.slice A rs.length c) rs.length (rs.flatMap encR) rfl HMa.out.top ⟨wr.heap.size, 0, none⟩ 1 1 [.slice (some ⟨g, 0, none⟩) xs.length cr] rfl rfl (World.news_of_block (cs := #[.slice (some ⟨g, 0, none⟩) xs.length cr]) (t := 23) (fr := (0, 0)) (heap_at (by simp))) (by simp [Value.oneCell']) (by omega) (by simp only [maxLen]; omega) (by omega) (by simp; omega) (wr.heap.size + 1) (by simp) ?_; intro gg cap w7 ho7 hg7 hat7 hlt7)
            have M7 := hid (HMa.out.snoc (r := ⟨some ⟨g, 0, none⟩, xs.length, cr, xs.set i 0⟩) ho7 hg7 (hat7.imp id (fun e => by simp; omega)) ROW.out (fun b hb => by
              have e : g = b := by simpa [Value.ownBlock] using hb
              subst e
              exact ⟨fun e => by have := (htop.out g e).2; omega, fun s hs e => by have := (hrows.out s hs g e).2; omega⟩))
            have S7 := hid (Sa.out.grown hg7 (fun b hb => by have := (hlo2 b hb).1; omega))
            have b7 := grown_below ba hg7 (by simp; omega) (fun b hb => by have := (hlo2 b hb).1; omega)
            have l7 := S7.out.lt
            have N7 : Hid (∀ r ∈ rs ++ [(⟨some ⟨g, 0, none⟩, xs.length, cr, xs.set i 0⟩ : Row)], r.n = N) := fun r hr => by
              rcases List.mem_append.1 hr with hr | hr
              · exact hN.out r hr
              · obtain rfl := List.mem_singleton.1 hr
                exact HXN.out
            clear HMa Sa ba ROW ho7 hg7 hat7 htop hrows hN
            go_roundw
            all_goals first | exact ⟨_, _, i + 1, rs ++ [⟨some ⟨g, 0, none⟩, xs.length, cr, xs.set i 0⟩], by omega, (by rw [List.length_append, List.length_singleton]; omega), (by rw [List.length_append, List.length_singleton]), by go_num, N7, M7, S7, b7, l7⟩ | exact ⟨⟨_, _, i + 1, rs ++ [⟨some ⟨g, 0, none⟩, xs.length, cr, xs.set i 0⟩], by omega, (by rw [List.length_append, List.length_singleton]; omega), (by rw [List.length_append, List.length_singleton]), by go_num, N7, M7, S7, b7, l7⟩, by simp [intOf]; omega⟩ | (simp [intOf]; omega)
      · have hiN : i = N := by omega
        subst hiN
        obtain ⟨wo, rfl⟩ : ∃ wo : World, wo = wr := ⟨_, rfl⟩
        have htop := hid hM.out.top.lt
        have hrows := hid (fun r (hr : r ∈ rs) => (hM.out.row r hr).lt)
        have op : (wo.alloc (.cells #[] 2)).ownsRow wo.heap.size 2 1 (.slice (some ⟨wo.heap.size, 0, none⟩) 0 0) 0 [] := World.ownsRow_lit wo #[] 0 (by omega) (by simp only [maxLen]; omega) rfl
        have OP := hid op
        have MP := hid (hM.out.alloc (.cells #[] 2))
        have SP := hid (hSr.out.alloc (.cells #[] 2))
        have bp := hb.alloc (by omega) (.cells #[] 2)
        have hrs1 : 1 ≤ rs.length := by omega
        have hrs31 : rs.length ≤ 31 := by omega
        have hr0 : (0 : Int) < (rs.length : Int) := by omega
        have hr0n : 0 < rs.length := by omega
        have hr0e : ¬ rs = [] := fun e => by subst e; simp at hr0n
        clear op hM hSr hb hin hlt
        go_wp2_with fail
        go_loopw [9, 10] (fun o q wl => ∃ (As : Option Addr) (cs : Nat) (ps : List Int) (j : Nat), 1 ≤ j ∧ j ≤ i ∧ ps.length + 1 ≤ j ∧ o = .slice As ps.length cs ∧ q = .int .i64 (j : Nat) ∧ Hid (wl.ownsRow wo.heap.size 2 1 (.slice As ps.length cs) ps.length (ps.flatMap encI)) ∧ Hid (MadeP wl gs A c rs) ∧ Hid (SrcAt wl gs (k + 2000 + 2 * j)) ∧ Below gs w wl ∧ wo.heap.size < wl.heap.size) (fun _ q _ => i - (intOf q).toNat)
        case atStart => exact ⟨_, _, [], 1, by omega, by omega, by simp, rfl, rfl, OP, MP, hid (SP.out.mono (by omega)), bp, by simp⟩
        case round =>
          clear OP MP SP bp
          obtain ⟨As, cs, ps, j, j1, jN, hpj, rfl, rfl, hO, hM, hSr, hb, hwl⟩ := hrel
          by_cases hjl : j < i
          · go_wp2_with fail
            refine (one_any gs _ 3 _ hSr.out (by omega) (by omega)).mono ?_
            rintro r w5 ⟨b, rfl, hs5, hg5⟩
            have O5 := hid (own_src hO.out hg5 (by omega))
            have M5 := hid (hM.out.src hg5)
            have S5 := hid hs5
            have b5 := below_src hb hg5 (Nat.le_refl _) (by omega)
            have z5 := hg5.size
            clear hO hM hSr hb hs5 hg5
            cases b with
            | true =>
              have S6 := hid (S5.out.mono (show _ ≤ k + 2000 + 2 * (j + 1) by omega))
              have hw5 : wo.heap.size < w5.heap.size := by omega
              go_wp2_with fail
              go_roundw
              all_goals first | exact ⟨_, _, ps, j + 1, by omega, by omega, by omega, rfl, by go_num, O5, M5, S6, b5, hw5⟩ | exact ⟨⟨_, _, ps, j + 1, by omega, by omega, by omega, rfl, by go_num, O5, M5, S6, b5, hw5⟩, by simp [intOf]; omega⟩ | (simp [intOf]; omega)
            | false =>
              have hlo := O5.out.lt
              go_wp2_with (at_builtin; refine wpList_append_lies _ rfl _ _ 23 rfl wo.heap.size 2 i0 (.int .i64 0) 1 8 Try.underlying23 hi hz0 hz1 hz2 rfl (by omega) (.slice As ps.length cs) ps.length (ps.flatMap encI) rfl (O5.out.alloc _) ⟨w5.heap.size, 0, none⟩ 1 1 [.int .i64 (j : Int)] rfl rfl (World.news_of_block (cs := #[.int .i64 (j : Int)]) (t := 2) (fr := (0, 0)) (heap_alloc_new _ _)) (by simp [Value.oneCell']) (by omega) (by simp only [maxLen]; omega) (by omega) (by simp; omega) (w5.heap.size + 1) (by simp) ?_; intro gg6 cap6 w6 ho6 hg6 hat6 hlt6)
              have O7 : Hid (w6.ownsRow wo.heap.size 2 1 (.slice (some ⟨gg6, 0, none⟩) (ps ++ [(j : Int)]).length cap6) (ps ++ [(j : Int)]).length ((ps ++ [(j : Int)]).flatMap encI)) := by simpa [Hid, encI] using ho6
              have M7 := hid ((M5.out.alloc (.cells #[.int .i64 (j : Int)] 2)).far hg6 (fun b hb => (htop.out b hb).2) (fun r hr b hb => (hrows.out r hr b hb).2) (fun b hb => (hlo b hb).1))
              have S7 := hid (((S5.out.alloc (.cells #[.int .i64 (j : Int)] 2)).grown hg6 (fun b hb => by have := (hlo b hb).1; omega)).mono (show _ ≤ k + 2000 + 2 * (j + 1) by omega))
              have b7 := grown_below (b5.alloc (by omega) (.cells #[.int .i64 (j : Int)] 2)) hg6 (by simp; omega) (fun b hb => by have := (hlo b hb).1; omega)
              have z7 := hg6.size
              rw [World.size_alloc] at z7
              have hw7 : wo.heap.size < w6.heap.size := by omega
              have hlen : (ps ++ [(j : Int)]).length = ps.length + 1 := by simp
              clear O5 M5 S5 b5 ho6 hg6 hat6 hlo
              go_roundw
              all_goals first | exact ⟨_, _, ps ++ [(j : Int)], j + 1, by omega, by omega, by omega, (by rw [List.length_append, List.length_singleton]), by go_num, O7, M7, S7, b7, hw7⟩ | exact ⟨⟨_, _, ps ++ [(j : Int)], j + 1, by omega, by omega, by omega, (by rw [List.length_append, List.length_singleton]), by go_num, O7, M7, S7, b7, hw7⟩, by simp [intOf]; omega⟩ | (simp [intOf]; omega)
          · have hp30 : ps.length ≤ 30 := by omega
            clear hpj
            go_wp2_with fail
            refine (pick_any gs _ 20 _ hSr.out (by omega) (by omega)).mono ?_
            rintro r w5 ⟨x, rfl, x0, x1, hs5, hg5⟩
            have O5 := hid (own_src hO.out hg5 (by omega))
            have M5 := hid (hM.out.src hg5)
            have S5 := hid (hs5.mono (show _ ≤ k + 3000 by omega))
            have b5 := below_src hb hg5 (Nat.le_refl _) (by omega)
            have z5 := hg5.size
            have gs5 : gs < w5.heap.size := hs5.lt
            have t31 : tot rs ≤ 961 := by
              have h1 := tot_of rs (m := 31) (fun r hr => by have := hN.out r hr; omega)
              omega
            obtain ⟨gt, rfl, hgt1, hgt2⟩ := own_some M5.out.top (by omega : 0 < rs.length)
            have hcp := own_caps O5.out
            clear hO hM hSr hb hs5 hg5 x1
            by_cases q0 : x = 0
            · subst q0
              obtain ⟨Ai, ni, ci, xi, bt, ot, Hr, e', _, cr0, _⟩ := M5.out.slS.row (i := 0) (by omega)
              injection e' with e'
              injection e' with e1 e2
              subst e1 e2
              rw [Nat.zero_add] at cr0
              have hni : i = ni := (hN.out _ (List.mem_of_getElem? Hr.out)).symm
              subst hni
              have hrow := M5.out.row _ (List.mem_of_getElem? Hr.out)
              simp only at hrow
              obtain ⟨g0, rfl, hg01, hg02⟩ := own_some hrow (by omega)
              have hap := M5.out.apart _ (List.mem_of_getElem? Hr.out) g0 rfl
              have hg0t : g0 ≠ gt := fun e => hap (by rw [e]; rfl)
              have hg0w : g0 < wo.heap.size := (hrows.out _ (List.mem_of_getElem? Hr.out) g0 rfl).2

              have la : (w5.alloc (.cells #[.int .i64 (-1), .int .i64 0, .int .i64 1] 2)).ownsRow w5.heap.size 2 1 (.slice (some ⟨w5.heap.size, 0, none⟩) 3 3) 3 (([(-1), 0, 1] : List Int).flatMap encI) := World.ownsRow_lit w5 #[.int .i64 (-1), .int .i64 0, .int .i64 1] 3 (Nat.le_refl _) (by simp [maxLen]) (by simp)
              have HL := hid (own_sl encI_len (by omega) la)
              have hgw : gs < w5.heap.size := S5.out.lt
              clear la

              have HLd : Hid (Sl ((w5.alloc (.cells #[.int .i64 (-1), .int .i64 0, .int .i64 1] 2)).drew) ((w5.alloc (.cells #[.int .i64 (-1), .int .i64 0, .int .i64 1] 2)).drew).heap.size 1 encI (some ⟨w5.heap.size, 0, none⟩) 3 ([(-1), 0, 1] : List Int)) := HL.out.keep fun _ _ => rfl
              have S6 := hid ((S5.out.alloc (.cells #[.int .i64 (-1), .int .i64 0, .int .i64 1] 2)).below ((Below.refl _ _).drew))
              have M6 := hid ((M5.out.alloc (.cells #[.int .i64 (-1), .int .i64 0, .int .i64 1] 2)).below ((Below.refl _ _).drew))
              have O6 := hid (own_below (O5.out.alloc (.cells #[.int .i64 (-1), .int .i64 0, .int .i64 1] 2)) ((Below.refl _ _).drew))
              have b6 := (b5.alloc (by omega) (.cells #[.int .i64 (-1), .int .i64 0, .int .i64 1] 2)).drew
              have hni2 : (0 : Int) < (i : Int) := by omega
              have hi0n : 0 < i := by omega
              have hi0z : ¬ i = 0 := by omega
              clear M5 S5 O5 b5 hrow hap

              go_wp2_with fail
              go_region_held3 (fun W => W.cell? ⟨gt, 0, none⟩ = some (.slice (some ⟨g0, 0, none⟩) i ci))
                (first
                  | (go_keep; done)
                  | exact cell_src (by assumption) hg6 (by omega)
                  | exact (cell_far (by simp only; omega)).trans (by assumption))
                (first
                  | (go_at_call 38; with_reducible refine (among_any gs _ (some ⟨w5.heap.size, 0, none⟩) 3 3 _ _ S6.out (by omega) (by omega) (by omega) HLd.out (fun b o s e => by injection e with e; injection e with e1 e2; omega)).mono ?_; rintro r w6 ⟨y, rfl, _, hs6, hg6⟩; obtain ⟨⟨u6, e6⟩, f6⟩ := own_at ((M6.out.src hg6).row _ (List.mem_of_getElem? Hr.out)) (Below.refl _ _) 0 (by show 0 < i * 1; omega)))
              have M7 := M6.out.src hg6
              have O7 := own_src O6.out hg6 (by omega)
              have b7 := below_src b6 hg6 (Nat.le_refl _) (by show _ ≤ (w5.alloc (.cells #[.int .i64 (-1), .int .i64 0, .int .i64 1] 2)).heap.size; simp; omega)
              obtain ⟨rs', hl', ht', hS'⟩ := M7.put (j := 0) Hr.out rfl y
              have RT := hid hS'
              have RP := hid ((ow_set (p := ⟨g0, 0, none⟩) (u := .int .i64 y) (fun e => by have := (O7.lt _ e).1; simp only at this; omega) O7).mono (show gs + 1 ≤ wo.heap.size by omega))
              have RS := hid ((hs6.mono (show _ ≤ k + 4000 by omega)).set (p := ⟨g0, 0, none⟩) (u := .int .i64 y) (by simp only; omega))
              have RB := bl_set (p := ⟨g0, 0, none⟩) (u := .int .i64 y) (by simp only; omega) b7
              have HL' := hid hl'
              have HT' := hid ht'
              clear M6 O6 S6 HL HLd b6 M7 O7 b7 hs6 hg6 hS' hl' ht' e6 f6
              go_wp2_with fail
              go_ret2
              exact ⟨some ⟨gt, 0, none⟩, c, rs', As, cs, ps, by rw [HL'.out]; rfl, by rw [HL'.out]; omega, by rw [HT'.out]; omega, by omega, hcp, RT.out, RP.out, RS.out, RB⟩
            · have n0 : (x == 0) = false := by rw [beq_eq_false_iff_ne]; exact q0
              by_cases q1 : x = 1
              · subst q1
                obtain ⟨jl, hjl2⟩ : ∃ jl : Nat, (i : Int) - 1 = (jl : Int) := ⟨i - 1, by omega⟩
                have hWl : IntKind.i64.wrap ((i : Int) - 1) = (jl : Int) := by rw [hjl2]; exact IntWalk.i64_in _ (by omega)
                have hj0 : (0 : Int) ≤ (jl : Int) := by omega
                have hj1 : (jl : Int) < (rs.length : Int) := by omega
                have hjl3 : jl < rs.length := by omega
                clear hjl2

                obtain ⟨Ai, ni, ci, xi, bt, ot, Hr, e', _, cr0, _⟩ := M5.out.slS.row (i := jl) (by omega)
                injection e' with e'
                injection e' with e1 e2
                subst e1 e2
                rw [Nat.zero_add] at cr0
                have hni : i = ni := (hN.out _ (List.mem_of_getElem? Hr.out)).symm
                subst hni
                have hrow := M5.out.row _ (List.mem_of_getElem? Hr.out)
                simp only at hrow
                obtain ⟨g0, rfl, hg01, hg02⟩ := own_some hrow (by omega)
                have hap := M5.out.apart _ (List.mem_of_getElem? Hr.out) g0 rfl
                have hg0t : g0 ≠ gt := fun e => hap (by rw [e]; rfl)
                have hg0w : g0 < wo.heap.size := (hrows.out _ (List.mem_of_getElem? Hr.out) g0 rfl).2

                have la : (w5.alloc (.cells #[.int .i64 (-1), .int .i64 0, .int .i64 1000, .int .i64 1001] 2)).ownsRow w5.heap.size 2 1 (.slice (some ⟨w5.heap.size, 0, none⟩) 4 4) 4 (([(-1), 0, 1000, 1001] : List Int).flatMap encI) := World.ownsRow_lit w5 #[.int .i64 (-1), .int .i64 0, .int .i64 1000, .int .i64 1001] 4 (Nat.le_refl _) (by simp [maxLen]) (by simp)
                have HL := hid (own_sl encI_len (by omega) la)
                have hgw : gs < w5.heap.size := S5.out.lt
                clear la

                have HLd : Hid (Sl ((w5.alloc (.cells #[.int .i64 (-1), .int .i64 0, .int .i64 1000, .int .i64 1001] 2)).drew) ((w5.alloc (.cells #[.int .i64 (-1), .int .i64 0, .int .i64 1000, .int .i64 1001] 2)).drew).heap.size 1 encI (some ⟨w5.heap.size, 0, none⟩) 4 ([(-1), 0, 1000, 1001] : List Int)) := HL.out.keep fun _ _ => rfl
                have S6 := hid ((S5.out.alloc (.cells #[.int .i64 (-1), .int .i64 0, .int .i64 1000, .int .i64 1001] 2)).below ((Below.refl _ _).drew))
                have M6 := hid ((M5.out.alloc (.cells #[.int .i64 (-1), .int .i64 0, .int .i64 1000, .int .i64 1001] 2)).below ((Below.refl _ _).drew))
                have O6 := hid (own_below (O5.out.alloc (.cells #[.int .i64 (-1), .int .i64 0, .int .i64 1000, .int .i64 1001] 2)) ((Below.refl _ _).drew))
                have b6 := (b5.alloc (by omega) (.cells #[.int .i64 (-1), .int .i64 0, .int .i64 1000, .int .i64 1001] 2)).drew
                have hni2 : (0 : Int) < (i : Int) := by omega
                have hi0n : 0 < i := by omega
                have hi0z : ¬ i = 0 := by omega
                clear M5 S5 O5 b5 hrow hap

                go_wp2_with fail
                go_region_held3 (fun W => W.cell? ⟨gt, jl, none⟩ = some (.slice (some ⟨g0, 0, none⟩) i ci))
                  (first
                    | (go_keep; done)
                    | exact cell_src (by assumption) hg6 (by omega)
                    | exact (cell_far (by simp only; omega)).trans (by assumption))
                  (first
                    | (go_at_call 38; with_reducible refine (among_any gs _ (some ⟨w5.heap.size, 0, none⟩) 4 4 _ _ S6.out (by omega) (by omega) (by omega) HLd.out (fun b o s e => by injection e with e; injection e with e1 e2; omega)).mono ?_; rintro r w6 ⟨y, rfl, _, hs6, hg6⟩; obtain ⟨⟨u6, e6⟩, f6⟩ := own_at ((M6.out.src hg6).row _ (List.mem_of_getElem? Hr.out)) (Below.refl _ _) 0 (by show 0 < i * 1; omega)))
                have M7 := M6.out.src hg6
                have O7 := own_src O6.out hg6 (by omega)
                have b7 := below_src b6 hg6 (Nat.le_refl _) (by show _ ≤ (w5.alloc (.cells #[.int .i64 (-1), .int .i64 0, .int .i64 1000, .int .i64 1001] 2)).heap.size; simp; omega)
                obtain ⟨rs', hl', ht', hS'⟩ := M7.put (j := 0) Hr.out rfl y
                have RT := hid hS'
                have RP := hid ((ow_set (p := ⟨g0, 0, none⟩) (u := .int .i64 y) (fun e => by have := (O7.lt _ e).1; simp only at this; omega) O7).mono (show gs + 1 ≤ wo.heap.size by omega))
                have RS := hid ((hs6.mono (show _ ≤ k + 4000 by omega)).set (p := ⟨g0, 0, none⟩) (u := .int .i64 y) (by simp only; omega))
                have RB := bl_set (p := ⟨g0, 0, none⟩) (u := .int .i64 y) (by simp only; omega) b7
                have HL' := hid hl'
                have HT' := hid ht'
                clear M6 O6 S6 HL HLd b6 M7 O7 b7 hs6 hg6 hS' hl' ht' e6 f6
                go_wp2_with fail
                go_ret2
                exact ⟨some ⟨gt, 0, none⟩, c, rs', As, cs, ps, by rw [HL'.out]; rfl, by rw [HL'.out]; omega, by rw [HT'.out]; omega, by omega, hcp, RT.out, RP.out, RS.out, RB⟩
              · have n1 : (x == 1) = false := by rw [beq_eq_false_iff_ne]; exact q1
                by_cases q2 : x = 2
                · subst q2
                  obtain ⟨Ai, ni, ci, xi, bt, ot, Hr, e', _, cr0, _⟩ := M5.out.slS.row (i := 0) (by omega)
                  injection e' with e'
                  injection e' with e1 e2
                  subst e1 e2
                  simp only [Nat.zero_add] at cr0
                  have hni : i = ni := (hN.out _ (List.mem_of_getElem? Hr.out)).symm
                  subst hni
                  have hrow := M5.out.row _ (List.mem_of_getElem? Hr.out)
                  simp only at hrow
                  have hxl : xi.length = i := by have := own_len encI_len (by omega) hrow; omega
                  obtain ⟨⟨ut, et⟩, ft⟩ := own_at M5.out.top (Below.refl _ _) 0 (by omega)
                  have hap := M5.out.apart _ (List.mem_of_getElem? Hr.out)
                  simp only at hap
                  have hgl0 := hid (hrows.out _ (List.mem_of_getElem? Hr.out))
                  have hgl1 := hid hrow.lt
                  have HROW := hid (hrow.alloc (.cells #[.int .i64 0] 2))
                  have ltw : gt < w5.heap.size := by omega
                  have hap2 : ∀ b, (Value.slice Ai i ci).ownBlock = some b → b ≠ gt := fun b hb e => hap b hb (by rw [e]; rfl)
                  have HAP := hid hap2
                  clear hrow hap hap2
                  go_wp2_with (at_builtin; refine wpList_append_lies _ rfl _ _ 23 rfl (gs + 1) 2 i0 (.int .i64 0) 1 8 Try.underlying23 hi hz0 hz1 hz2 rfl (by omega) (.slice Ai i ci) i (xi.flatMap encI) rfl HROW.out ⟨w5.heap.size, 0, none⟩ 1 1 [.int .i64 0] rfl rfl (World.news_of_block (cs := #[.int .i64 0]) (t := 2) (fr := (0, 0)) (heap_alloc_new _ _)) (by simp [Value.oneCell']) (by omega) (by simp only [maxLen]; omega) (by omega) (by simp; omega) (w5.heap.size + 1) (by simp) ?_; intro gg cap w6 ho6 hg6 hat6 hlt6; have nt : some gt ≠ (Value.slice Ai i ci).ownBlock := (fun q => HAP.out _ q.symm rfl); have hgg := (gr_alloc (World.grownBy.refl w5 _)).trans hg6; have k6 := hgg.cell et nt; have f6 := (hgg.frozen_far ⟨gt, 0, none⟩ ltw nt).trans ft)
                  obtain ⟨rs', hl', ht', hS'⟩ := (M5.out.alloc (.cells #[.int .i64 0] 2)).grow (z := 0) Hr.out rfl ho6 hg6 (hat6.imp id (fun e => by simp; omega))
                  have RT := hid hS'
                  have O7 := own_apart (O5.out.alloc (.cells #[.int .i64 0] 2)) hg6 (fun b hb e => by
                    have h1 := (hgl0.out b hb).2
                    have h2 := (O5.out.lt b e).1
                    omega)
                  have RP := hid ((ow_set (p := ⟨gt, 0, none⟩) (u := .slice (some ⟨gg, 0, none⟩) (i + 1) cap) (fun e => by have h1 := (O5.out.lt _ e).1; have h2 := (htop.out gt rfl).2; simp only at h1; omega) O7).mono (show gs + 1 ≤ wo.heap.size by omega))
                  have RS := hid (((((S5.out.alloc (.cells #[.int .i64 0] 2)).grown hg6 (fun b hb => by have := (hgl1.out b hb).1; omega)).mono (show _ ≤ k + 4000 by omega))).set (p := ⟨gt, 0, none⟩) (u := .slice (some ⟨gg, 0, none⟩) (i + 1) cap) (by simp only; omega))
                  have RB := bl_set (p := ⟨gt, 0, none⟩) (u := .slice (some ⟨gg, 0, none⟩) (i + 1) cap) (by simp only; omega) (grown_below (b5.alloc (by omega) (.cells #[.int .i64 0] 2)) hg6 (by simp; omega) (fun b hb => by have := (hgl1.out b hb).1; omega))
                  have HL' := hid hl'
                  have HT' := hid ht'
                  clear M5 O5 S5 b5 O7 ho6 hg6 hat6 hgg k6 f6 et ft hS' hl' ht' HROW
                  go_ret2
                  exact ⟨some ⟨gt, 0, none⟩, c, rs', As, cs, ps, by rw [HL'.out]; rfl, by rw [HL'.out]; omega, by rw [HT'.out]; omega, by omega, hcp, RT.out, RP.out, RS.out, RB⟩
                · have n2 : (x == 2) = false := by rw [beq_eq_false_iff_ne]; exact q2
                  by_cases q3 : x = 3
                  · subst q3
                    have la : (w5.alloc (.cells #[.int .i64 (-1), .int .i64 0, .int .i64 (i : Int)] 2)).ownsRow w5.heap.size 2 1 (.slice (some ⟨w5.heap.size, 0, none⟩) 3 3) 3 (([(-1), 0, (i : Int)] : List Int).flatMap encI) := World.ownsRow_lit w5 #[.int .i64 (-1), .int .i64 0, .int .i64 (i : Int)] 3 (Nat.le_refl _) (by simp [maxLen]) (by simp)
                    have HL := hid (own_sl encI_len (by omega) la)
                    have hgw : gs < w5.heap.size := S5.out.lt
                    clear la

                    have RT0 := hid (M5.out.alloc (.cells #[.int .i64 (-1), .int .i64 0, .int .i64 (i : Int)] 2))
                    have O6 := hid (O5.out.alloc (.cells #[.int .i64 (-1), .int .i64 0, .int .i64 (i : Int)] 2))
                    have S6 := hid (S5.out.alloc (.cells #[.int .i64 (-1), .int .i64 0, .int .i64 (i : Int)] 2))
                    have b6 := b5.alloc (by omega) (.cells #[.int .i64 (-1), .int .i64 0, .int .i64 (i : Int)] 2)
                    clear M5 O5 S5 b5
                    go_wp2_with fail
                    refine (among_any gs _ (some ⟨w5.heap.size, 0, none⟩) 3 3 _ _ S6.out (by omega) (by omega) (by omega) HL.out (fun b o s e => by injection e with e; injection e with e1 e2; omega)).mono ?_
                    rintro r w7 ⟨y, rfl, _, hs7, hg7⟩
                    have M7 := hid (RT0.out.src hg7)
                    have O7 := hid (own_src O6.out hg7 (by omega))
                    have S7 := hid hs7
                    have b7 := below_src b6 hg7 (Nat.le_refl _) (by simp; omega)
                    have z7 := hg7.size
                    rw [World.size_alloc] at z7
                    have hlo := O7.out.lt
                    clear RT0 O6 S6 b6 HL hs7 hg7
                    go_wp2_with (at_builtin; refine wpList_append_lies _ rfl _ _ 23 rfl wo.heap.size 2 i0 (.int .i64 0) 1 8 Try.underlying23 hi hz0 hz1 hz2 rfl (by omega) (.slice As ps.length cs) ps.length (ps.flatMap encI) rfl (O7.out.alloc _) ⟨w7.heap.size, 0, none⟩ 1 1 [.int .i64 y] rfl rfl (World.news_of_block (cs := #[.int .i64 y]) (t := 2) (fr := (0, 0)) (heap_alloc_new _ _)) (by simp [Value.oneCell']) (by omega) (by simp only [maxLen]; omega) (by omega) (by simp; omega) (w7.heap.size + 1) (by simp) ?_; intro gg8 cap8 w8 ho8 hg8 hat8 hlt8)
                    have O9 : Hid (w8.ownsRow wo.heap.size 2 1 (.slice (some ⟨gg8, 0, none⟩) (ps ++ [y]).length cap8) (ps ++ [y]).length ((ps ++ [y]).flatMap encI)) := by simpa [Hid, encI] using ho8
                    have RT := hid ((M7.out.alloc (.cells #[.int .i64 y] 2)).far hg8 (fun b hb => (htop.out b hb).2) (fun r hr b hb => (hrows.out r hr b hb).2) (fun b hb => (hlo b hb).1)).ownP
                    have RS := hid (((S7.out.alloc (.cells #[.int .i64 y] 2)).grown hg8 (fun b hb => by have := (hlo b hb).1; omega)).mono (show _ ≤ k + 4000 by omega))
                    have RB := grown_below (b7.alloc (by omega) (.cells #[.int .i64 y] 2)) hg8 (by simp; omega) (fun b hb => by have := (hlo b hb).1; omega)
                    have hcp2 := own_caps O9.out
                    have RP := hid (O9.out.mono (show gs + 1 ≤ wo.heap.size by omega))
                    have hlen : (ps ++ [y]).length = ps.length + 1 := by simp
                    clear M7 O7 S7 b7 ho8 hg8 hat8 hlo O9
                    go_ret2
                    exact ⟨some ⟨gt, 0, none⟩, c, rs, some ⟨gg8, 0, none⟩, cap8, ps ++ [y], by rw [List.length_append, List.length_singleton]; rfl, hrs31, by omega, by omega, hcp2, RT.out, RP.out, RS.out, RB⟩
                  · have n3 : (x == 3) = false := by rw [beq_eq_false_iff_ne]; exact q3
                    by_cases q4 : x = 4
                    · subst q4
                      have og : (w5.alloc (.cells #[] 23)).ownsRow (gs + 1) 23 1 (.slice (some ⟨w5.heap.size, 0, none⟩) 0 0) 0 (([] : List Row).flatMap encR) := World.ownsRow_lit w5 #[] 0 (by omega) (by simp only [maxLen]; omega) rfl
                      have RT : Hid (OwnP (w5.alloc (.cells #[] 23)) gs (some ⟨w5.heap.size, 0, none⟩) 0 []) := ⟨og, fun r hr => by simp at hr⟩
                      have RP := hid ((O5.out.alloc (.cells #[] 23)).mono (show gs + 1 ≤ wo.heap.size by omega))
                      have RS := hid ((S5.out.alloc (.cells #[] 23)).mono (show _ ≤ k + 4000 by omega))
                      have RB := b5.alloc (by omega) (.cells #[] 23)
                      clear M5 O5 S5 og b5
                      go_wp2_with fail
                      go_ret2
                      exact ⟨_, _, [], As, cs, ps, rfl, by simp, by simp [tot], by omega, hcp, RT.out, RP.out, RS.out, RB⟩
                    · have n4 : (x == 4) = false := by rw [beq_eq_false_iff_ne]; exact q4
                      have RT := hid M5.out.ownP
                      have RP := hid (O5.out.mono (show gs + 1 ≤ wo.heap.size by omega))
                      have RS := hid (S5.out.mono (show _ ≤ k + 4000 by omega))
                      clear M5 O5 S5
                      go_wp2_with fail
                      go_ret2
                      exact ⟨_, c, rs, As, cs, ps, rfl, hrs31, by omega, by omega, hcp, RT.out, RP.out, RS.out, b5⟩
  | false =>
    obtain ⟨N, hN0⟩ : ∃ N : Nat, 1 + n = (N : Int) := ⟨(1 + n).toNat, by omega⟩
    rw [hN0]
    have hN1 : 1 ≤ N := by omega
    have hN31 : N ≤ 31 := by omega
    clear n0 n6 hN0
    have o0 : (w2.alloc (.cells #[] 23)).ownsRow (gs + 1) 23 1 (.slice (some ⟨w2.heap.size, 0, none⟩) 0 0) 0 [] := World.ownsRow_lit w2 #[] 0 (by omega) (by simp only [maxLen]; omega) rfl
    have M3 : Hid (MadeP (w2.alloc (.cells #[] 23)) gs (some ⟨w2.heap.size, 0, none⟩) 0 []) := ⟨o0, fun r hr => by simp at hr, fun r hr => by simp at hr, fun i j r s _ hr => by simp at hr⟩
    have S3 := hid (S2.out.alloc (.cells #[] 23))
    have b3 := b2.alloc (by omega) (.cells #[] 23)
    have l3 : gs < (w2.alloc (.cells #[] 23)).heap.size := by simp; omega
    clear o0 S2 b2
    go_wp2_with fail
    go_loopw [5, 6] (fun o q wl => ∃ (A : Option Addr) (c i : Nat) (rs : List Row), i ≤ N ∧ rs.length = i ∧ o = .slice A rs.length c ∧ q = .int .i64 (i : Nat) ∧ Hid (∀ r ∈ rs, r.n = N) ∧ Hid (MadeP wl gs A c rs) ∧ Hid (SrcAt wl gs (k + 10 + 62 * i)) ∧ Below gs w wl ∧ gs < wl.heap.size) (fun _ q _ => N - (intOf q).toNat)
    case atStart => exact ⟨_, _, 0, [], Nat.zero_le _, rfl, rfl, rfl, hid (fun r hr => by simp at hr), M3, hid (S3.out.mono (by omega)), b3, l3⟩
    case round =>
      clear M3 S3 b3 l3
      obtain ⟨A, c, i, rs, hin, hrl, rfl, rfl, hN, hM, hSr, hb, hgw⟩ := hrel
      have hrl1 : rs.length ≤ i := by omega
      have hrl2 : i ≤ rs.length := by omega
      clear hrl
      by_cases hlt : i < N
      · obtain ⟨wo, rfl⟩ : ∃ wo : World, wo = wr := ⟨_, rfl⟩
        have o1 : (wo.alloc (.cells #[] 2)).ownsRow wo.heap.size 2 1 (.slice (some ⟨wo.heap.size, 0, none⟩) 0 0) 0 [] := World.ownsRow_lit wo #[] 0 (by omega) (by simp only [maxLen]; omega) rfl
        have O1 := hid o1
        have S4 := hid (hSr.out.alloc (.cells #[] 2))
        have htop := hid hM.out.top.lt
        have hrows := hid (fun r (hr : r ∈ rs) => (hM.out.row r hr).lt)
        clear o1
        go_wp2_with fail
        go_loopw [7, 8] (fun o q wl => ∃ (Ar : Option Addr) (cr : Nat) (xs : List Int), xs.length ≤ N ∧ o = .slice Ar xs.length cr ∧ q = .int .i64 (xs.length : Nat) ∧ Hid (wl.ownsRow wo.heap.size 2 1 (.slice Ar xs.length cr) xs.length (xs.flatMap encI)) ∧ Hid (SrcAt wl gs (k + 10 + 62 * i + 2 * xs.length)) ∧ Span gs (gs + 1) wo wl) (fun _ q _ => N - (intOf q).toNat)
        case atStart => exact ⟨_, _, [], Nat.zero_le _, rfl, rfl, O1, S4, (Span.refl _ _ _).alloc _⟩
        case round =>
          obtain ⟨Ar, cr, xs, hxl, rfl, rfl, hO, hSx, hsp⟩ := hrel
          clear O1 S4
          have hws := hsp.size
          by_cases hlt2 : xs.length < N
          · go_wp2_with fail
            refine (pick_any gs _ 30 _ hSx.out (by omega) (by omega)).mono ?_
            rintro r w5 ⟨a, rfl, a0, a1, hs5, hg5⟩
            have a29 : a ≤ 29 := by omega
            have HO := hid (own_src hO.out hg5 (by omega))
            have HS := hid hs5
            replace hsp := hsp.grow hg5 (fun b hb => .inr (by injection hb with hb; omega))
            have hws2 := hsp.size
            have hlo := HO.out.lt
            clear hs5 hg5 hO hSx a1
            go_wp2_with (at_builtin; refine wpList_append_lies _ rfl _ _ 23 rfl wo.heap.size 2 i0 (.int .i64 0) 1 8 Try.underlying23 hi hz0 hz1 hz2 rfl (by omega) (.slice Ar xs.length cr) xs.length (xs.flatMap encI) rfl (HO.out.alloc _) ⟨w5.heap.size, 0, none⟩ 1 1 [.int .i64 (1 + a)] rfl rfl (World.news_of_block (cs := #[.int .i64 (1 + a)]) (t := 2) (fr := (0, 0)) (heap_alloc_new _ _)) (by simp [Value.oneCell']) (by omega) (by simp only [maxLen]; omega) (by omega) (by simp; omega) (w5.heap.size + 1) (by simp) ?_; intro gg6 cap6 w6 ho6 hg6 hat6 hlt6)
            have ho9 : w6.ownsRow wo.heap.size 2 1 (.slice (some ⟨gg6, 0, none⟩) (xs ++ [1 + a]).length cap6) (xs ++ [1 + a]).length ((xs ++ [1 + a]).flatMap encI) := by simpa [encI] using ho6
            have hs9 := (HS.out.alloc (.cells #[.int .i64 (1 + a)] 2)).grown hg6 (fun b hb => by have := (hlo b hb).1; omega)
            have hp9 := (hsp.alloc (.cells #[.int .i64 (1 + a)] 2)).grow hg6 (fun b hb => .inl (hlo b hb).1)
            have HO4 := hid ho9
            have HS4 := hid (hs9.mono (show _ ≤ k + 10 + 62 * i + 2 * (xs ++ [1 + a]).length by simp; omega))
            clear ho6 ho9 hs9 hg6 HO HS
            go_roundw
            all_goals first | exact ⟨_, _, xs ++ [1 + a], (by rw [List.length_append, List.length_singleton]; omega), (by rw [List.length_append, List.length_singleton]), (by rw [List.length_append, List.length_singleton]; go_num), HO4, HS4, hp9⟩ | exact ⟨⟨_, _, xs ++ [1 + a], (by rw [List.length_append, List.length_singleton]; omega), (by rw [List.length_append, List.length_singleton]), (by rw [List.length_append, List.length_singleton]; go_num), HO4, HS4, hp9⟩, by simp [intOf]; omega⟩ | (simp [intOf]; omega)
          · have hxn : xs.length = N := by omega
            obtain ⟨g, rfl, hlo, hgs2⟩ := own_some hO.out (by omega : 0 < xs.length)
            obtain ⟨⟨u, e0⟩, f0⟩ := own_at hO.out (Below.refl _ _) i (by omega)
            have hst := (hO.out.stored i (.int .i64 0)).1
            rw [← set_encI'] at hst
            have M5 := hid (hM.out.span2 hsp)
            have b5 := hsp.toBelow hb (Nat.le_refl _) (by omega)
            have S5 := hid ((hSx.out.mono (show _ ≤ k + 10 + 62 * (i + 1) by omega)).set (p := ⟨g, i, none⟩) (u := .int .i64 0) (by simp only; omega))
            have M6 := hid (M5.out.far (hO.out.stored i (.int .i64 0)).2 (fun b hb => (htop.out b hb).2) (fun r hr b hb => (hrows.out r hr b hb).2) (fun b hb => by simp [Value.ownBlock] at hb; omega))
            have b6 := bl_set (p := ⟨g, i, none⟩) (u := .int .i64 0) (by simp only; omega) b5
            have O6 := hid hst
            have lw6 : wo.heap.size ≤ wr.heap.size := hws
            have hszq : (wr.setCell ⟨g, i, none⟩ (.int .i64 0)).heap.size = wr.heap.size := by simp
            have HXN := hid hxn
            have iA : (i : Int) < (xs.length : Int) := by omega
            have iB : (0 : Int) ≤ (i : Int) := by omega
            have HSQ := hid hszq
            clear hO hSx hst M5 b5 hM hSr hsp hxn hb hszq
            have HMa := hid (M6.out.alloc (.cells #[.slice (some ⟨g, 0, none⟩) xs.length cr] 23))
            have Sa := hid (S5.out.alloc (.cells #[.slice (some ⟨g, 0, none⟩) xs.length cr] 23))
            have ba := b6.alloc (by rw [HSQ.out]; omega) (.cells #[.slice (some ⟨g, 0, none⟩) xs.length cr] 23)
            have ROW := hid ((O6.out.mono (show gs + 1 ≤ wo.heap.size by omega)).alloc (.cells #[.slice (some ⟨g, 0, none⟩) xs.length cr] 23))
            have hlo2 := HMa.out.top.lt
            clear M6 S5 b6 O6
            go_wp2_with (at_builtin; refine wpList_append_lies _ rfl _ _ 22 rfl (gs + 1) 23 i1 (.slice none 0 0) 1 24 Try.underlying22 hi1 hy0 hy1 hy2 rfl (by omega) (.slice A rs.length c) rs.length (rs.flatMap encR) rfl HMa.out.top ⟨wr.heap.size, 0, none⟩ 1 1 [.slice (some ⟨g, 0, none⟩) xs.length cr] rfl rfl (World.news_of_block (cs := #[.slice (some ⟨g, 0, none⟩) xs.length cr]) (t := 23) (fr := (0, 0)) (heap_at (by simp))) (by simp [Value.oneCell']) (by omega) (by simp only [maxLen]; omega) (by omega) (by simp; omega) (wr.heap.size + 1) (by simp) ?_; intro gg cap w7 ho7 hg7 hat7 hlt7)
            have M7 := hid (HMa.out.snoc (r := ⟨some ⟨g, 0, none⟩, xs.length, cr, xs.set i 0⟩) ho7 hg7 (hat7.imp id (fun e => by simp; omega)) ROW.out (fun b hb => by
              have e : g = b := by simpa [Value.ownBlock] using hb
              subst e
              exact ⟨fun e => by have := (htop.out g e).2; omega, fun s hs e => by have := (hrows.out s hs g e).2; omega⟩))
            have S7 := hid (Sa.out.grown hg7 (fun b hb => by have := (hlo2 b hb).1; omega))
            have b7 := grown_below ba hg7 (by simp; omega) (fun b hb => by have := (hlo2 b hb).1; omega)
            have l7 := S7.out.lt
            have N7 : Hid (∀ r ∈ rs ++ [(⟨some ⟨g, 0, none⟩, xs.length, cr, xs.set i 0⟩ : Row)], r.n = N) := fun r hr => by
              rcases List.mem_append.1 hr with hr | hr
              · exact hN.out r hr
              · obtain rfl := List.mem_singleton.1 hr
                exact HXN.out
            clear HMa Sa ba ROW ho7 hg7 hat7 htop hrows hN
            go_roundw
            all_goals first | exact ⟨_, _, i + 1, rs ++ [⟨some ⟨g, 0, none⟩, xs.length, cr, xs.set i 0⟩], by omega, (by rw [List.length_append, List.length_singleton]; omega), (by rw [List.length_append, List.length_singleton]), by go_num, N7, M7, S7, b7, l7⟩ | exact ⟨⟨_, _, i + 1, rs ++ [⟨some ⟨g, 0, none⟩, xs.length, cr, xs.set i 0⟩], by omega, (by rw [List.length_append, List.length_singleton]; omega), (by rw [List.length_append, List.length_singleton]), by go_num, N7, M7, S7, b7, l7⟩, by simp [intOf]; omega⟩ | (simp [intOf]; omega)
      · have hiN : i = N := by omega
        subst hiN
        obtain ⟨wo, rfl⟩ : ∃ wo : World, wo = wr := ⟨_, rfl⟩
        have htop := hid hM.out.top.lt
        have hrows := hid (fun r (hr : r ∈ rs) => (hM.out.row r hr).lt)
        have op : (wo.alloc (.cells #[] 2)).ownsRow wo.heap.size 2 1 (.slice (some ⟨wo.heap.size, 0, none⟩) 0 0) 0 [] := World.ownsRow_lit wo #[] 0 (by omega) (by simp only [maxLen]; omega) rfl
        have OP := hid op
        have MP := hid (hM.out.alloc (.cells #[] 2))
        have SP := hid (hSr.out.alloc (.cells #[] 2))
        have bp := hb.alloc (by omega) (.cells #[] 2)
        have hrs1 : 1 ≤ rs.length := by omega
        have hrs31 : rs.length ≤ 31 := by omega
        have hr0 : (0 : Int) < (rs.length : Int) := by omega
        have hr0n : 0 < rs.length := by omega
        have hr0e : ¬ rs = [] := fun e => by subst e; simp at hr0n
        clear op hM hSr hb hin hlt
        go_wp2_with fail
        go_loopw [9, 10] (fun o q wl => ∃ (As : Option Addr) (cs : Nat) (ps : List Int) (j : Nat), 1 ≤ j ∧ j ≤ i ∧ ps.length + 1 ≤ j ∧ o = .slice As ps.length cs ∧ q = .int .i64 (j : Nat) ∧ Hid (wl.ownsRow wo.heap.size 2 1 (.slice As ps.length cs) ps.length (ps.flatMap encI)) ∧ Hid (MadeP wl gs A c rs) ∧ Hid (SrcAt wl gs (k + 2000 + 2 * j)) ∧ Below gs w wl ∧ wo.heap.size < wl.heap.size) (fun _ q _ => i - (intOf q).toNat)
        case atStart => exact ⟨_, _, [], 1, by omega, by omega, by simp, rfl, rfl, OP, MP, hid (SP.out.mono (by omega)), bp, by simp⟩
        case round =>
          clear OP MP SP bp
          obtain ⟨As, cs, ps, j, j1, jN, hpj, rfl, rfl, hO, hM, hSr, hb, hwl⟩ := hrel
          by_cases hjl : j < i
          · go_wp2_with fail
            refine (one_any gs _ 3 _ hSr.out (by omega) (by omega)).mono ?_
            rintro r w5 ⟨b, rfl, hs5, hg5⟩
            have O5 := hid (own_src hO.out hg5 (by omega))
            have M5 := hid (hM.out.src hg5)
            have S5 := hid hs5
            have b5 := below_src hb hg5 (Nat.le_refl _) (by omega)
            have z5 := hg5.size
            clear hO hM hSr hb hs5 hg5
            cases b with
            | true =>
              have S6 := hid (S5.out.mono (show _ ≤ k + 2000 + 2 * (j + 1) by omega))
              have hw5 : wo.heap.size < w5.heap.size := by omega
              go_wp2_with fail
              go_roundw
              all_goals first | exact ⟨_, _, ps, j + 1, by omega, by omega, by omega, rfl, by go_num, O5, M5, S6, b5, hw5⟩ | exact ⟨⟨_, _, ps, j + 1, by omega, by omega, by omega, rfl, by go_num, O5, M5, S6, b5, hw5⟩, by simp [intOf]; omega⟩ | (simp [intOf]; omega)
            | false =>
              have hlo := O5.out.lt
              go_wp2_with (at_builtin; refine wpList_append_lies _ rfl _ _ 23 rfl wo.heap.size 2 i0 (.int .i64 0) 1 8 Try.underlying23 hi hz0 hz1 hz2 rfl (by omega) (.slice As ps.length cs) ps.length (ps.flatMap encI) rfl (O5.out.alloc _) ⟨w5.heap.size, 0, none⟩ 1 1 [.int .i64 (j : Int)] rfl rfl (World.news_of_block (cs := #[.int .i64 (j : Int)]) (t := 2) (fr := (0, 0)) (heap_alloc_new _ _)) (by simp [Value.oneCell']) (by omega) (by simp only [maxLen]; omega) (by omega) (by simp; omega) (w5.heap.size + 1) (by simp) ?_; intro gg6 cap6 w6 ho6 hg6 hat6 hlt6)
              have O7 : Hid (w6.ownsRow wo.heap.size 2 1 (.slice (some ⟨gg6, 0, none⟩) (ps ++ [(j : Int)]).length cap6) (ps ++ [(j : Int)]).length ((ps ++ [(j : Int)]).flatMap encI)) := by simpa [Hid, encI] using ho6
              have M7 := hid ((M5.out.alloc (.cells #[.int .i64 (j : Int)] 2)).far hg6 (fun b hb => (htop.out b hb).2) (fun r hr b hb => (hrows.out r hr b hb).2) (fun b hb => (hlo b hb).1))
              have S7 := hid (((S5.out.alloc (.cells #[.int .i64 (j : Int)] 2)).grown hg6 (fun b hb => by have := (hlo b hb).1; omega)).mono (show _ ≤ k + 2000 + 2 * (j + 1) by omega))
              have b7 := grown_below (b5.alloc (by omega) (.cells #[.int .i64 (j : Int)] 2)) hg6 (by simp; omega) (fun b hb => by have := (hlo b hb).1; omega)
              have z7 := hg6.size
              rw [World.size_alloc] at z7
              have hw7 : wo.heap.size < w6.heap.size := by omega
              have hlen : (ps ++ [(j : Int)]).length = ps.length + 1 := by simp
              clear O5 M5 S5 b5 ho6 hg6 hat6 hlo
              go_roundw
              all_goals first | exact ⟨_, _, ps ++ [(j : Int)], j + 1, by omega, by omega, by omega, (by rw [List.length_append, List.length_singleton]), by go_num, O7, M7, S7, b7, hw7⟩ | exact ⟨⟨_, _, ps ++ [(j : Int)], j + 1, by omega, by omega, by omega, (by rw [List.length_append, List.length_singleton]), by go_num, O7, M7, S7, b7, hw7⟩, by simp [intOf]; omega⟩ | (simp [intOf]; omega)
          · have hp30 : ps.length ≤ 30 := by omega
            clear hpj
            go_wp2_with fail
            refine (pick_any gs _ 20 _ hSr.out (by omega) (by omega)).mono ?_
            rintro r w5 ⟨x, rfl, x0, x1, hs5, hg5⟩
            have O5 := hid (own_src hO.out hg5 (by omega))
            have M5 := hid (hM.out.src hg5)
            have S5 := hid (hs5.mono (show _ ≤ k + 3000 by omega))
            have b5 := below_src hb hg5 (Nat.le_refl _) (by omega)
            have z5 := hg5.size
            have gs5 : gs < w5.heap.size := hs5.lt
            have t31 : tot rs ≤ 961 := by
              have h1 := tot_of rs (m := 31) (fun r hr => by have := hN.out r hr; omega)
              omega
            obtain ⟨gt, rfl, hgt1, hgt2⟩ := own_some M5.out.top (by omega : 0 < rs.length)
            have hcp := own_caps O5.out
            clear hO hM hSr hb hs5 hg5 x1
            by_cases q0 : x = 0
            · subst q0
              obtain ⟨Ai, ni, ci, xi, bt, ot, Hr, e', _, cr0, _⟩ := M5.out.slS.row (i := 0) (by omega)
              injection e' with e'
              injection e' with e1 e2
              subst e1 e2
              rw [Nat.zero_add] at cr0
              have hni : i = ni := (hN.out _ (List.mem_of_getElem? Hr.out)).symm
              subst hni
              have hrow := M5.out.row _ (List.mem_of_getElem? Hr.out)
              simp only at hrow
              obtain ⟨g0, rfl, hg01, hg02⟩ := own_some hrow (by omega)
              have hap := M5.out.apart _ (List.mem_of_getElem? Hr.out) g0 rfl
              have hg0t : g0 ≠ gt := fun e => hap (by rw [e]; rfl)
              have hg0w : g0 < wo.heap.size := (hrows.out _ (List.mem_of_getElem? Hr.out) g0 rfl).2

              have la : (w5.alloc (.cells #[.int .i64 (-1), .int .i64 0, .int .i64 1] 2)).ownsRow w5.heap.size 2 1 (.slice (some ⟨w5.heap.size, 0, none⟩) 3 3) 3 (([(-1), 0, 1] : List Int).flatMap encI) := World.ownsRow_lit w5 #[.int .i64 (-1), .int .i64 0, .int .i64 1] 3 (Nat.le_refl _) (by simp [maxLen]) (by simp)
              have HL := hid (own_sl encI_len (by omega) la)
              have hgw : gs < w5.heap.size := S5.out.lt
              clear la

              have HLd : Hid (Sl ((w5.alloc (.cells #[.int .i64 (-1), .int .i64 0, .int .i64 1] 2)).drew) ((w5.alloc (.cells #[.int .i64 (-1), .int .i64 0, .int .i64 1] 2)).drew).heap.size 1 encI (some ⟨w5.heap.size, 0, none⟩) 3 ([(-1), 0, 1] : List Int)) := HL.out.keep fun _ _ => rfl
              have S6 := hid ((S5.out.alloc (.cells #[.int .i64 (-1), .int .i64 0, .int .i64 1] 2)).below ((Below.refl _ _).drew))
              have M6 := hid ((M5.out.alloc (.cells #[.int .i64 (-1), .int .i64 0, .int .i64 1] 2)).below ((Below.refl _ _).drew))
              have O6 := hid (own_below (O5.out.alloc (.cells #[.int .i64 (-1), .int .i64 0, .int .i64 1] 2)) ((Below.refl _ _).drew))
              have b6 := (b5.alloc (by omega) (.cells #[.int .i64 (-1), .int .i64 0, .int .i64 1] 2)).drew
              have hni2 : (0 : Int) < (i : Int) := by omega
              have hi0n : 0 < i := by omega
              have hi0z : ¬ i = 0 := by omega
              clear M5 S5 O5 b5 hrow hap

              go_wp2_with fail
              go_region_held3 (fun W => W.cell? ⟨gt, 0, none⟩ = some (.slice (some ⟨g0, 0, none⟩) i ci))
                (first
                  | (go_keep; done)
                  | exact cell_src (by assumption) hg6 (by omega)
                  | exact (cell_far (by simp only; omega)).trans (by assumption))
                (first
                  | (go_at_call 38; with_reducible refine (among_any gs _ (some ⟨w5.heap.size, 0, none⟩) 3 3 _ _ S6.out (by omega) (by omega) (by omega) HLd.out (fun b o s e => by injection e with e; injection e with e1 e2; omega)).mono ?_; rintro r w6 ⟨y, rfl, _, hs6, hg6⟩; obtain ⟨⟨u6, e6⟩, f6⟩ := own_at ((M6.out.src hg6).row _ (List.mem_of_getElem? Hr.out)) (Below.refl _ _) 0 (by show 0 < i * 1; omega)))
              have M7 := M6.out.src hg6
              have O7 := own_src O6.out hg6 (by omega)
              have b7 := below_src b6 hg6 (Nat.le_refl _) (by show _ ≤ (w5.alloc (.cells #[.int .i64 (-1), .int .i64 0, .int .i64 1] 2)).heap.size; simp; omega)
              obtain ⟨rs', hl', ht', hS'⟩ := M7.put (j := 0) Hr.out rfl y
              have RT := hid hS'
              have RP := hid ((ow_set (p := ⟨g0, 0, none⟩) (u := .int .i64 y) (fun e => by have := (O7.lt _ e).1; simp only at this; omega) O7).mono (show gs + 1 ≤ wo.heap.size by omega))
              have RS := hid ((hs6.mono (show _ ≤ k + 4000 by omega)).set (p := ⟨g0, 0, none⟩) (u := .int .i64 y) (by simp only; omega))
              have RB := bl_set (p := ⟨g0, 0, none⟩) (u := .int .i64 y) (by simp only; omega) b7
              have HL' := hid hl'
              have HT' := hid ht'
              clear M6 O6 S6 HL HLd b6 M7 O7 b7 hs6 hg6 hS' hl' ht' e6 f6
              go_wp2_with fail
              go_ret2
              exact ⟨some ⟨gt, 0, none⟩, c, rs', As, cs, ps, by rw [HL'.out]; rfl, by rw [HL'.out]; omega, by rw [HT'.out]; omega, by omega, hcp, RT.out, RP.out, RS.out, RB⟩
            · have n0 : (x == 0) = false := by rw [beq_eq_false_iff_ne]; exact q0
              by_cases q1 : x = 1
              · subst q1
                obtain ⟨jl, hjl2⟩ : ∃ jl : Nat, (i : Int) - 1 = (jl : Int) := ⟨i - 1, by omega⟩
                have hWl : IntKind.i64.wrap ((i : Int) - 1) = (jl : Int) := by rw [hjl2]; exact IntWalk.i64_in _ (by omega)
                have hj0 : (0 : Int) ≤ (jl : Int) := by omega
                have hj1 : (jl : Int) < (rs.length : Int) := by omega
                have hjl3 : jl < rs.length := by omega
                clear hjl2

                obtain ⟨Ai, ni, ci, xi, bt, ot, Hr, e', _, cr0, _⟩ := M5.out.slS.row (i := jl) (by omega)
                injection e' with e'
                injection e' with e1 e2
                subst e1 e2
                rw [Nat.zero_add] at cr0
                have hni : i = ni := (hN.out _ (List.mem_of_getElem? Hr.out)).symm
                subst hni
                have hrow := M5.out.row _ (List.mem_of_getElem? Hr.out)
                simp only at hrow
                obtain ⟨g0, rfl, hg01, hg02⟩ := own_some hrow (by omega)
                have hap := M5.out.apart _ (List.mem_of_getElem? Hr.out) g0 rfl
                have hg0t : g0 ≠ gt := fun e => hap (by rw [e]; rfl)
                have hg0w : g0 < wo.heap.size := (hrows.out _ (List.mem_of_getElem? Hr.out) g0 rfl).2

                have la : (w5.alloc (.cells #[.int .i64 (-1), .int .i64 0, .int .i64 1000, .int .i64 1001] 2)).ownsRow w5.heap.size 2 1 (.slice (some ⟨w5.heap.size, 0, none⟩) 4 4) 4 (([(-1), 0, 1000, 1001] : List Int).flatMap encI) := World.ownsRow_lit w5 #[.int .i64 (-1), .int .i64 0, .int .i64 1000, .int .i64 1001] 4 (Nat.le_refl _) (by simp [maxLen]) (by simp)
                have HL := hid (own_sl encI_len (by omega) la)
                have hgw : gs < w5.heap.size := S5.out.lt
                clear la

                have HLd : Hid (Sl ((w5.alloc (.cells #[.int .i64 (-1), .int .i64 0, .int .i64 1000, .int .i64 1001] 2)).drew) ((w5.alloc (.cells #[.int .i64 (-1), .int .i64 0, .int .i64 1000, .int .i64 1001] 2)).drew).heap.size 1 encI (some ⟨w5.heap.size, 0, none⟩) 4 ([(-1), 0, 1000, 1001] : List Int)) := HL.out.keep fun _ _ => rfl
                have S6 := hid ((S5.out.alloc (.cells #[.int .i64 (-1), .int .i64 0, .int .i64 1000, .int .i64 1001] 2)).below ((Below.refl _ _).drew))
                have M6 := hid ((M5.out.alloc (.cells #[.int .i64 (-1), .int .i64 0, .int .i64 1000, .int .i64 1001] 2)).below ((Below.refl _ _).drew))
                have O6 := hid (own_below (O5.out.alloc (.cells #[.int .i64 (-1), .int .i64 0, .int .i64 1000, .int .i64 1001] 2)) ((Below.refl _ _).drew))
                have b6 := (b5.alloc (by omega) (.cells #[.int .i64 (-1), .int .i64 0, .int .i64 1000, .int .i64 1001] 2)).drew
                have hni2 : (0 : Int) < (i : Int) := by omega
                have hi0n : 0 < i := by omega
                have hi0z : ¬ i = 0 := by omega
                clear M5 S5 O5 b5 hrow hap

                go_wp2_with fail
                go_region_held3 (fun W => W.cell? ⟨gt, jl, none⟩ = some (.slice (some ⟨g0, 0, none⟩) i ci))
                  (first
                    | (go_keep; done)
                    | exact cell_src (by assumption) hg6 (by omega)
                    | exact (cell_far (by simp only; omega)).trans (by assumption))
                  (first
                    | (go_at_call 38; with_reducible refine (among_any gs _ (some ⟨w5.heap.size, 0, none⟩) 4 4 _ _ S6.out (by omega) (by omega) (by omega) HLd.out (fun b o s e => by injection e with e; injection e with e1 e2; omega)).mono ?_; rintro r w6 ⟨y, rfl, _, hs6, hg6⟩; obtain ⟨⟨u6, e6⟩, f6⟩ := own_at ((M6.out.src hg6).row _ (List.mem_of_getElem? Hr.out)) (Below.refl _ _) 0 (by show 0 < i * 1; omega)))
                have M7 := M6.out.src hg6
                have O7 := own_src O6.out hg6 (by omega)
                have b7 := below_src b6 hg6 (Nat.le_refl _) (by show _ ≤ (w5.alloc (.cells #[.int .i64 (-1), .int .i64 0, .int .i64 1000, .int .i64 1001] 2)).heap.size; simp; omega)
                obtain ⟨rs', hl', ht', hS'⟩ := M7.put (j := 0) Hr.out rfl y
                have RT := hid hS'
                have RP := hid ((ow_set (p := ⟨g0, 0, none⟩) (u := .int .i64 y) (fun e => by have := (O7.lt _ e).1; simp only at this; omega) O7).mono (show gs + 1 ≤ wo.heap.size by omega))
                have RS := hid ((hs6.mono (show _ ≤ k + 4000 by omega)).set (p := ⟨g0, 0, none⟩) (u := .int .i64 y) (by simp only; omega))
                have RB := bl_set (p := ⟨g0, 0, none⟩) (u := .int .i64 y) (by simp only; omega) b7
                have HL' := hid hl'
                have HT' := hid ht'
                clear M6 O6 S6 HL HLd b6 M7 O7 b7 hs6 hg6 hS' hl' ht' e6 f6
                go_wp2_with fail
                go_ret2
                exact ⟨some ⟨gt, 0, none⟩, c, rs', As, cs, ps, by rw [HL'.out]; rfl, by rw [HL'.out]; omega, by rw [HT'.out]; omega, by omega, hcp, RT.out, RP.out, RS.out, RB⟩
              · have n1 : (x == 1) = false := by rw [beq_eq_false_iff_ne]; exact q1
                by_cases q2 : x = 2
                · subst q2
                  obtain ⟨Ai, ni, ci, xi, bt, ot, Hr, e', _, cr0, _⟩ := M5.out.slS.row (i := 0) (by omega)
                  injection e' with e'
                  injection e' with e1 e2
                  subst e1 e2
                  simp only [Nat.zero_add] at cr0
                  have hni : i = ni := (hN.out _ (List.mem_of_getElem? Hr.out)).symm
                  subst hni
                  have hrow := M5.out.row _ (List.mem_of_getElem? Hr.out)
                  simp only at hrow
                  have hxl : xi.length = i := by have := own_len encI_len (by omega) hrow; omega
                  obtain ⟨⟨ut, et⟩, ft⟩ := own_at M5.out.top (Below.refl _ _) 0 (by omega)
                  have hap := M5.out.apart _ (List.mem_of_getElem? Hr.out)
                  simp only at hap
                  have hgl0 := hid (hrows.out _ (List.mem_of_getElem? Hr.out))
                  have hgl1 := hid hrow.lt
                  have HROW := hid (hrow.alloc (.cells #[.int .i64 0] 2))
                  have ltw : gt < w5.heap.size := by omega
                  have hap2 : ∀ b, (Value.slice Ai i ci).ownBlock = some b → b ≠ gt := fun b hb e => hap b hb (by rw [e]; rfl)
                  have HAP := hid hap2
                  clear hrow hap hap2
                  go_wp2_with (at_builtin; refine wpList_append_lies _ rfl _ _ 23 rfl (gs + 1) 2 i0 (.int .i64 0) 1 8 Try.underlying23 hi hz0 hz1 hz2 rfl (by omega) (.slice Ai i ci) i (xi.flatMap encI) rfl HROW.out ⟨w5.heap.size, 0, none⟩ 1 1 [.int .i64 0] rfl rfl (World.news_of_block (cs := #[.int .i64 0]) (t := 2) (fr := (0, 0)) (heap_alloc_new _ _)) (by simp [Value.oneCell']) (by omega) (by simp only [maxLen]; omega) (by omega) (by simp; omega) (w5.heap.size + 1) (by simp) ?_; intro gg cap w6 ho6 hg6 hat6 hlt6; have nt : some gt ≠ (Value.slice Ai i ci).ownBlock := (fun q => HAP.out _ q.symm rfl); have hgg := (gr_alloc (World.grownBy.refl w5 _)).trans hg6; have k6 := hgg.cell et nt; have f6 := (hgg.frozen_far ⟨gt, 0, none⟩ ltw nt).trans ft)
                  obtain ⟨rs', hl', ht', hS'⟩ := (M5.out.alloc (.cells #[.int .i64 0] 2)).grow (z := 0) Hr.out rfl ho6 hg6 (hat6.imp id (fun e => by simp; omega))
                  have RT := hid hS'
                  have O7 := own_apart (O5.out.alloc (.cells #[.int .i64 0] 2)) hg6 (fun b hb e => by
                    have h1 := (hgl0.out b hb).2
                    have h2 := (O5.out.lt b e).1
                    omega)
                  have RP := hid ((ow_set (p := ⟨gt, 0, none⟩) (u := .slice (some ⟨gg, 0, none⟩) (i + 1) cap) (fun e => by have h1 := (O5.out.lt _ e).1; have h2 := (htop.out gt rfl).2; simp only at h1; omega) O7).mono (show gs + 1 ≤ wo.heap.size by omega))
                  have RS := hid (((((S5.out.alloc (.cells #[.int .i64 0] 2)).grown hg6 (fun b hb => by have := (hgl1.out b hb).1; omega)).mono (show _ ≤ k + 4000 by omega))).set (p := ⟨gt, 0, none⟩) (u := .slice (some ⟨gg, 0, none⟩) (i + 1) cap) (by simp only; omega))
                  have RB := bl_set (p := ⟨gt, 0, none⟩) (u := .slice (some ⟨gg, 0, none⟩) (i + 1) cap) (by simp only; omega) (grown_below (b5.alloc (by omega) (.cells #[.int .i64 0] 2)) hg6 (by simp; omega) (fun b hb => by have := (hgl1.out b hb).1; omega))
                  have HL' := hid hl'
                  have HT' := hid ht'
                  clear M5 O5 S5 b5 O7 ho6 hg6 hat6 hgg k6 f6 et ft hS' hl' ht' HROW
                  go_ret2
                  exact ⟨some ⟨gt, 0, none⟩, c, rs', As, cs, ps, by rw [HL'.out]; rfl, by rw [HL'.out]; omega, by rw [HT'.out]; omega, by omega, hcp, RT.out, RP.out, RS.out, RB⟩
                · have n2 : (x == 2) = false := by rw [beq_eq_false_iff_ne]; exact q2
                  by_cases q3 : x = 3
                  · subst q3
                    have la : (w5.alloc (.cells #[.int .i64 (-1), .int .i64 0, .int .i64 (i : Int)] 2)).ownsRow w5.heap.size 2 1 (.slice (some ⟨w5.heap.size, 0, none⟩) 3 3) 3 (([(-1), 0, (i : Int)] : List Int).flatMap encI) := World.ownsRow_lit w5 #[.int .i64 (-1), .int .i64 0, .int .i64 (i : Int)] 3 (Nat.le_refl _) (by simp [maxLen]) (by simp)
                    have HL := hid (own_sl encI_len (by omega) la)
                    have hgw : gs < w5.heap.size := S5.out.lt
                    clear la

                    have RT0 := hid (M5.out.alloc (.cells #[.int .i64 (-1), .int .i64 0, .int .i64 (i : Int)] 2))
                    have O6 := hid (O5.out.alloc (.cells #[.int .i64 (-1), .int .i64 0, .int .i64 (i : Int)] 2))
                    have S6 := hid (S5.out.alloc (.cells #[.int .i64 (-1), .int .i64 0, .int .i64 (i : Int)] 2))
                    have b6 := b5.alloc (by omega) (.cells #[.int .i64 (-1), .int .i64 0, .int .i64 (i : Int)] 2)
                    clear M5 O5 S5 b5
                    go_wp2_with fail
                    refine (among_any gs _ (some ⟨w5.heap.size, 0, none⟩) 3 3 _ _ S6.out (by omega) (by omega) (by omega) HL.out (fun b o s e => by injection e with e; injection e with e1 e2; omega)).mono ?_
                    rintro r w7 ⟨y, rfl, _, hs7, hg7⟩
                    have M7 := hid (RT0.out.src hg7)
                    have O7 := hid (own_src O6.out hg7 (by omega))
                    have S7 := hid hs7
                    have b7 := below_src b6 hg7 (Nat.le_refl _) (by simp; omega)
                    have z7 := hg7.size
                    rw [World.size_alloc] at z7
                    have hlo := O7.out.lt
                    clear RT0 O6 S6 b6 HL hs7 hg7
                    go_wp2_with (at_builtin; refine wpList_append_lies _ rfl _ _ 23 rfl wo.heap.size 2 i0 (.int .i64 0) 1 8 Try.underlying23 hi hz0 hz1 hz2 rfl (by omega) (.slice As ps.length cs) ps.length (ps.flatMap encI) rfl (O7.out.alloc _) ⟨w7.heap.size, 0, none⟩ 1 1 [.int .i64 y] rfl rfl (World.news_of_block (cs := #[.int .i64 y]) (t := 2) (fr := (0, 0)) (heap_alloc_new _ _)) (by simp [Value.oneCell']) (by omega) (by simp only [maxLen]; omega) (by omega) (by simp; omega) (w7.heap.size + 1) (by simp) ?_; intro gg8 cap8 w8 ho8 hg8 hat8 hlt8)
                    have O9 : Hid (w8.ownsRow wo.heap.size 2 1 (.slice (some ⟨gg8, 0, none⟩) (ps ++ [y]).length cap8) (ps ++ [y]).length ((ps ++ [y]).flatMap encI)) := by simpa [Hid, encI] using ho8
                    have RT := hid ((M7.out.alloc (.cells #[.int .i64 y] 2)).far hg8 (fun b hb => (htop.out b hb).2) (fun r hr b hb => (hrows.out r hr b hb).2) (fun b hb => (hlo b hb).1)).ownP
                    have RS := hid (((S7.out.alloc (.cells #[.int .i64 y] 2)).grown hg8 (fun b hb => by have := (hlo b hb).1; omega)).mono (show _ ≤ k + 4000 by omega))
                    have RB := grown_below (b7.alloc (by omega) (.cells #[.int .i64 y] 2)) hg8 (by simp; omega) (fun b hb => by have := (hlo b hb).1; omega)
                    have hcp2 := own_caps O9.out
                    have RP := hid (O9.out.mono (show gs + 1 ≤ wo.heap.size by omega))
                    have hlen : (ps ++ [y]).length = ps.length + 1 := by simp
                    clear M7 O7 S7 b7 ho8 hg8 hat8 hlo O9
                    go_ret2
                    exact ⟨some ⟨gt, 0, none⟩, c, rs, some ⟨gg8, 0, none⟩, cap8, ps ++ [y], by rw [List.length_append, List.length_singleton]; rfl, hrs31, by omega, by omega, hcp2, RT.out, RP.out, RS.out, RB⟩
                  · have n3 : (x == 3) = false := by rw [beq_eq_false_iff_ne]; exact q3
                    by_cases q4 : x = 4
                    · subst q4
                      have og : (w5.alloc (.cells #[] 23)).ownsRow (gs + 1) 23 1 (.slice (some ⟨w5.heap.size, 0, none⟩) 0 0) 0 (([] : List Row).flatMap encR) := World.ownsRow_lit w5 #[] 0 (by omega) (by simp only [maxLen]; omega) rfl
                      have RT : Hid (OwnP (w5.alloc (.cells #[] 23)) gs (some ⟨w5.heap.size, 0, none⟩) 0 []) := ⟨og, fun r hr => by simp at hr⟩
                      have RP := hid ((O5.out.alloc (.cells #[] 23)).mono (show gs + 1 ≤ wo.heap.size by omega))
                      have RS := hid ((S5.out.alloc (.cells #[] 23)).mono (show _ ≤ k + 4000 by omega))
                      have RB := b5.alloc (by omega) (.cells #[] 23)
                      clear M5 O5 S5 og b5
                      go_wp2_with fail
                      go_ret2
                      exact ⟨_, _, [], As, cs, ps, rfl, by simp, by simp [tot], by omega, hcp, RT.out, RP.out, RS.out, RB⟩
                    · have n4 : (x == 4) = false := by rw [beq_eq_false_iff_ne]; exact q4
                      have RT := hid M5.out.ownP
                      have RP := hid (O5.out.mono (show gs + 1 ≤ wo.heap.size by omega))
                      have RS := hid (S5.out.mono (show _ ≤ k + 4000 by omega))
                      clear M5 O5 S5
                      go_wp2_with fail
                      go_ret2
                      exact ⟨_, c, rs, As, cs, ps, rfl, hrs31, by omega, by omega, hcp, RT.out, RP.out, RS.out, b5⟩
end Go.Proofs.Yteckfjnglmkenaa
