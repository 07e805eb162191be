/-
  Drawn tables of costs, drawn trees, drawn demands. No condition.
-/
import Derived.Test.YtfbgglhjlbdfiaaSrc
import Derived.Test.YtfbgglhjlbdfiaaGTab
import Derived.Test.YtfbgglhjlbdfiaaGCosts
import Derived.Test.YtfbgglhjlbdfiaaGTree
namespace Go.Proofs.Ytfbgglhjlbdfiaa
open Go.RowKit
set_option maxHeartbeats 400000

theorem Span.grow {lo hi : Nat} {a w w' : World} {row : Option Nat} (h : Span lo hi a w) (g : w.grownBy w' row) (hr : ∀ b, row = some b → a.heap.size ≤ b ∨ (lo ≤ b ∧ b < hi)) : Span lo hi a w' :=
  ⟨g.os.trans h.os, g.tape.trans h.tape, g.output.trans h.output, Nat.le_trans h.size g.size, fun i hi' hn => (g.block i (Nat.lt_of_lt_of_le hi' h.size) (fun e => by rcases hr i e.symm with h1 | h1 <;> omega)).trans (h.block i hi' hn)⟩
theorem Span.alloc {lo hi : Nat} {a w : World} (h : Span lo hi a w) (o : Obj) : Span lo hi a (w.alloc o) :=
  h.trans (Span.ofBelow ((Below.refl _ _).alloc (Nat.le_refl _) o))
/-- a table under way: k rows, all of numbers -/
structure Made (w : World) (lo T Ti : Nat) (A : Option Addr) (c : Nat) (rs : List Row) : Prop where
  top : w.ownsRow lo T 1 (.slice A rs.length c) rs.length (rs.flatMap encR)
  row : ∀ r ∈ rs, w.ownsRow lo Ti 1 (.slice r.A r.n r.c) r.n (r.xs.flatMap encI)
  apart : ∀ r ∈ rs, ∀ b, (Value.slice r.A r.n r.c).ownBlock = some b → (Value.slice A rs.length c).ownBlock ≠ some b
theorem Made.span {w w' : World} {lo T Ti : Nat} {A : Option Addr} {c gs : Nat} {rs : List Row} (h : Made w lo T Ti A c rs) (hs : Span gs (gs + 1) w w') (hlo : gs < lo) : Made w' lo T Ti A c rs :=
  ⟨hs.own h.top (fun b hb => by have := (h.top.lt b hb).1; omega), fun r hr => hs.own (h.row r hr) (fun b hb => by have := ((h.row r hr).lt b hb).1; omega), h.apart⟩
theorem Made.alloc {w : World} {lo T Ti : Nat} {A : Option Addr} {c : Nat} {rs : List Row} (h : Made w lo T Ti A c rs) (o : Obj) : Made (w.alloc o) lo T Ti A c rs :=
  ⟨h.top.alloc o, fun r hr => (h.row r hr).alloc o, h.apart⟩
/-- a row that is appended -/
theorem Made.snoc {w w' : World} {lo T Ti : Nat} {A : Option Addr} {c g cap : Nat} {rs : List Row} {r : Row} {m : Nat} (h : Made w lo T Ti A c rs) (hm : m = rs.length) (ho : w'.ownsRow lo T 1 (.slice (some ⟨g, 0, none⟩) (m + 1) cap) (m + 1) (rs.flatMap encR ++ [.slice r.A r.n r.c]))
    (hg : w.grownBy w' (Value.slice A m c).ownBlock) (hat : (Value.slice A m c).ownBlock = some g ∨ w.heap.size ≤ g) (hr : w.ownsRow lo Ti 1 (.slice r.A r.n r.c) r.n (r.xs.flatMap encI))
    (hap : ∀ b, (Value.slice r.A r.n r.c).ownBlock = some b → (Value.slice A m c).ownBlock ≠ some b) : Made w' lo T Ti (some ⟨g, 0, none⟩) cap (rs ++ [r]) := by
  subst hm
  have hall : ∀ q ∈ rs ++ [r], w.ownsRow lo Ti 1 (.slice q.A q.n q.c) q.n (q.xs.flatMap encI) ∧ ∀ b, (Value.slice q.A q.n q.c).ownBlock = some b → (Value.slice A rs.length c).ownBlock ≠ some b := by
    intro q hq
    rcases List.mem_append.1 hq with hq | hq
    · exact ⟨h.row q hq, h.apart q hq⟩
    · obtain rfl := List.mem_singleton.1 hq
      exact ⟨hr, hap⟩
  refine ⟨?_, fun q hq => ?_, fun q hq b hb e => ?_⟩
  · simpa [encR] using ho
  · obtain ⟨h1, h2⟩ := hall q hq
    exact own_keep h1 (fun b hb e => h2 b e hb) hg
  · obtain ⟨h1, h2⟩ := hall q hq
    have hg2 : g = b := by simpa [Value.ownBlock] using e
    subst hg2
    rcases hat with h3 | h3
    · exact h2 g hb h3
    · have := (h1.lt g hb).2
      omega
theorem Made.slS {w : World} {lo T Ti : Nat} {A : Option Addr} {c : Nat} {rs : List Row} (h : Made w lo T Ti A c rs) : SlS w w.heap.size A rs.length rs :=
  ⟨own_sl encR_len (by omega) h.top, fun r hr => own_sl encI_len (by omega) (h.row r hr)⟩

/-- the row under way: what is copied from the rows before, then 0, then what is drawn -/
def rowIn (css : List (List Int)) (i : Nat) (xs : List Int) : Prop :=
  ∀ (k : Nat) (z : Int), xs[k]? = some z → (k < i → z = cAt css k i) ∧ (k = i → z = 0) ∧ (i < k → 1 ≤ z ∧ z ≤ 12)
/-- a table under way: n numbers in each row, each as it should be -/
def tabIn (n : Nat) (css : List (List Int)) : Prop := ∀ (i : Nat) (xs : List Int), css[i]? = some xs → xs.length = n ∧ rowIn css i xs
theorem rowIn_nil (css : List (List Int)) (i : Nat) : rowIn css i [] := fun k z h => by simp at h
theorem rowIn_snoc {css : List (List Int)} {i : Nat} {xs : List Int} {z : Int} (h : rowIn css i xs) (hz : (xs.length < i → z = cAt css xs.length i) ∧ (xs.length = i → z = 0) ∧ (i < xs.length → 1 ≤ z ∧ z ≤ 12)) : rowIn css i (xs ++ [z]) := fun k y hy => by
  rw [List.getElem?_append] at hy
  split at hy
  · exact h k y hy
  · rename_i hk
    have h1 := (List.getElem?_eq_some_iff.1 hy).1
    have hk2 : k = xs.length := by simp at h1; omega
    subst hk2
    simp at hy
    subst hy
    exact hz
theorem cAt_snoc {css : List (List Int)} {row : List Int} {i k : Nat} (h : i < css.length) : cAt (css ++ [row]) i k = cAt css i k := by
  simp [cAt, List.getD, List.getElem?_append_left h]
theorem tabIn_snoc {n : Nat} {css : List (List Int)} {xs : List Int} (h : tabIn n css) (hl : xs.length = n) (hr : rowIn css css.length xs) : tabIn n (css ++ [xs]) := fun i ys hy => by
  rw [List.getElem?_append] at hy
  split at hy
  · rename_i hi
    obtain ⟨h1, h2⟩ := h i ys hy
    refine ⟨h1, fun k z hz => ?_⟩
    obtain ⟨g1, g2, g3⟩ := h2 k z hz
    exact ⟨fun hk => by rw [cAt_snoc (by omega)]; exact g1 hk, g2, g3⟩
  · rename_i hi
    have h1 := (List.getElem?_eq_some_iff.1 hy).1
    have hi2 : i = css.length := by simp at h1; omega
    subst hi2
    simp at hy
    subst hy
    refine ⟨hl, fun k z hz => ?_⟩
    obtain ⟨g1, g2, g3⟩ := hr k z hz
    exact ⟨fun hk => by rw [cAt_snoc hk]; exact g1 hk, g2, g3⟩
theorem tabIn_valid {n : Nat} {css : List (List Int)} (h : tabIn n css) (hl : css.length = n) (h2 : 2 ≤ n) (h6 : n ≤ 6) : validC css = true := by
  have hat : ∀ i k, i < n → k < n → (k < i → cAt css i k = cAt css k i) ∧ (k = i → cAt css i k = 0) ∧ (i < k → 1 ≤ cAt css i k ∧ cAt css i k ≤ 12) := by
    intro i k hi hk
    have hx : css[i]? = some css[i] := List.getElem?_eq_getElem (by omega)
    obtain ⟨g1, g2⟩ := h i _ hx
    have hz : css[i][k]? = some (css[i][k]'(by omega)) := List.getElem?_eq_getElem (by omega)
    have hc : cAt css i k = css[i][k]'(by omega) := by simp [cAt, List.getD, hx, hz]
    rw [hc]
    exact g2 k _ hz
  rw [validC_iff]
  refine ⟨⟨by omega, by omega⟩, fun i hi => ?_, fun i hi k hk => ?_⟩
  · rw [List.getD, List.getElem?_eq_getElem hi]
    exact (h i _ (List.getElem?_eq_getElem hi)).1.trans hl.symm
  · obtain ⟨a1, a2, a3⟩ := hat i k (by omega) (by omega)
    obtain ⟨b1, b2, b3⟩ := hat k i (by omega) (by omega)
    rcases Nat.lt_trichotomy i k with h | h | h
    · have := a3 h
      have := b1 h
      refine ⟨fun _ => by omega, fun _ => by omega, by omega⟩
    · have := a2 h.symm
      have := b2 h
      refine ⟨fun _ => by omega, fun hh => absurd h hh, by omega⟩
    · have := b3 h
      have := a1 h
      refine ⟨fun _ => by omega, fun _ => by omega, by omega⟩
theorem rowsD_info : (Try.prog.info? 26).map (fun i => (i.zero, i.size, i.bytes)) = some (some (.slice none 0 0), 1, 24) := by kernel_rfl
set_option maxHeartbeats 4000000 in
set_option maxRecDepth 100000 in
theorem l20Draw_any (gs k n : Nat) (w : World) (h : SrcAt w gs k) (hk : k ≤ 1000) (hn : n ≤ 6) :
    Calls Try.prog 23 #[.pointer (some ⟨gs, 0, none⟩), .int .i64 (n : Nat)] w fun e w' => ∃ A c rs, e = .returned (.slice A rs.length c) ∧ rs.length = n ∧ Made w' (gs + 1) 26 2 A c rs ∧ tabIn n (cont rs) ∧ SrcAt w' gs (k + 72) ∧ Below gs w w' := by
  obtain ⟨i0, hi, hz0, hz1, hz2⟩ := info_parts int_info
  obtain ⟨i1, hi1, hy0, hy1, hy2⟩ := info_parts rowsD_info
  have hgl := h.lt
  have o0 : (w.alloc (.cells #[] 26)).ownsRow (gs + 1) 26 1 (.slice (some ⟨w.heap.size, 0, none⟩) 0 0) 0 [] := World.ownsRow_lit w #[] 0 (by omega) (by simp only [maxLen]; omega) rfl
  have h1 := h.below (((Below.refl (gs + 1) w).alloc (by omega) (.cells #[] 26)))
  have hb0 : Below gs w (w.alloc (.cells #[] 26)) := (Below.refl gs w).alloc (by omega) _
  have H1 := hid h1
  have O0 := hid (Made.mk (Ti := 2) (rs := []) o0 (fun r hr => by simp at hr) (fun r hr => by simp at hr))
  clear h h1 o0
  go_enter Try.func23, Try.ntmps23
  go_wp2_with fail
  go_loopw [5, 6] (fun o q wl => ∃ (A : Option Addr) (c i : Nat) (rs : List Row), i ≤ n ∧ rs.length = i ∧ o = .slice A i c ∧ q = .int .i64 (i : Nat) ∧ Hid (Made wl (gs + 1) 26 2 A c rs) ∧ Hid (tabIn n (cont rs)) ∧ Hid (SrcAt wl gs (k + 12 * i)) ∧ Below gs w wl ∧ gs < wl.heap.size) (fun _ q _ => n - (intOf q).toNat)
  case atStart => exact ⟨_, _, 0, [], Nat.zero_le _, rfl, rfl, rfl, O0, hid (fun i xs h => by simp [cont] at h), H1, hb0, by simp; omega⟩
  case round =>
    obtain ⟨A, c, i, rs, hin, hrl, rfl, rfl, hM, hT, hS, hb, hgw⟩ := hrel
    clear O0 H1
    by_cases hlt : i < n
    · obtain ⟨wo, rfl⟩ : ∃ wo : World, wo = wr := ⟨_, rfl⟩
      have o1 : (wo.alloc (.cells #[] 2)).ownsRow wo.heap.size 2 1 (.slice (some ⟨wo.heap.size, 0, none⟩) 0 0) 0 [] := World.ownsRow_lit wo #[] 0 (by omega) (by simp only [maxLen]; omega) rfl
      have O1 := hid o1
      have S1 := hid (hS.out.alloc (.cells #[] 2))
      clear o1
      go_wp2_with fail
      go_loopw [7, 8] (fun o q wl => ∃ (Ar : Option Addr) (cr : Nat) (xs : List Int), xs.length ≤ n ∧ o = .slice Ar xs.length cr ∧ q = .int .i64 (xs.length : Nat) ∧ Hid (wl.ownsRow wo.heap.size 2 1 (.slice Ar xs.length cr) xs.length (xs.flatMap encI)) ∧ Hid (rowIn (cont rs) i xs) ∧ Hid (SrcAt wl gs (k + 12 * i + 2 * xs.length)) ∧ Span gs (gs + 1) wo wl) (fun _ q _ => n - (intOf q).toNat)
      case atStart => exact ⟨_, _, [], Nat.zero_le _, rfl, rfl, O1, hid (rowIn_nil _ _), S1, (Span.refl _ _ _).alloc _⟩
      case round =>
        obtain ⟨Ar, cr, xs, hxl, rfl, rfl, hO, hR, hSr, hsp⟩ := hrel
        clear O1 S1
        have hws := hsp.size
        by_cases hlt2 : xs.length < n
        · by_cases q1 : xs.length < i
          · obtain ⟨A2, n2, c2, x2, b, off, Hr, rfl, hbb, cr0, hxr⟩ := ((hM.out.span hsp (Nat.lt_succ_self gs)).slS).row (by omega : xs.length < rs.length)
            obtain ⟨hl2, _⟩ := hT.out _ _ (cont_at Hr.out)
            simp only at hl2
            have hn2 : n2 = n := by rw [← hxr.len]; exact hl2
            subst hn2
            obtain ⟨z, b2, off2, Hz, rfl, hbb2, cz⟩ := hxr.int hlt
            have hcz := cAt_of Hr.out Hz.out
            have HR2 := hid (rowIn_snoc (z := z) hR.out ⟨fun _ => hcz.symm, fun h => by omega, fun h => by omega⟩)
            have j0 : (0 : Int) ≤ (xs.length : Int) := by omega
            have j1 : (xs.length : Int) < (i : Int) := by omega
            have j2 : (0 : Int) ≤ (i : Int) := by omega
            have j3 : (i : Int) < (n2 : Int) := by omega
            have hlo := hO.out.lt
            have HO := hO
            have HS := hSr
            clear hxr hR hcz hO hSr
            go_wp2_with (at_builtin; refine wpList_append_lies _ rfl _ _ 26 rfl wo.heap.size 2 i0 (.int .i64 0) 1 8 Try.underlying26 hi hz0 hz1 hz2 rfl (by omega) (.slice Ar xs.length cr) xs.length (xs.flatMap encI) rfl (HO.out.alloc _) ⟨wr.heap.size, 0, none⟩ 1 1 [.int .i64 z] rfl rfl (World.news_of_block (cs := #[.int .i64 z]) (t := 2) (fr := (0, 0)) (heap_alloc_new _ _)) (by simp [Value.oneCell']) (by omega) (by simp only [maxLen]; omega) (by omega) (by simp; omega) (wr.heap.size + 1) (by simp) ?_; intro gg cap w3 ho3 hg3 hat3 hlt3)
            have ho4 : w3.ownsRow wo.heap.size 2 1 (.slice (some ⟨gg, 0, none⟩) (xs ++ [(z : Int)]).length cap) (xs ++ [(z : Int)]).length ((xs ++ [(z : Int)]).flatMap encI) := by simpa [encI] using ho3
            have hs4 := (HS.out.alloc (.cells #[.int .i64 z] 2)).grown hg3 (fun b hb => by have := (hlo b hb).1; omega)
            have hp4 := (hsp.alloc (.cells #[.int .i64 z] 2)).grow hg3 (fun b hb => .inl (hlo b hb).1)
            have HO4 := hid ho4
            have HS4 := hid (hs4.mono (show _ ≤ k + 12 * i + 2 * (xs ++ [(z : Int)]).length by simp; omega))
            clear ho3 ho4 hs4 hg3 HO HS
            go_roundw
            all_goals first | exact ⟨_, _, xs ++ [z], (by rw [List.length_append, List.length_singleton]; omega), (by rw [List.length_append, List.length_singleton]), (by rw [List.length_append, List.length_singleton]; go_num), HO4, HR2, HS4, hp4⟩ | exact ⟨⟨_, _, xs ++ [z], (by rw [List.length_append, List.length_singleton]; omega), (by rw [List.length_append, List.length_singleton]), (by rw [List.length_append, List.length_singleton]; go_num), HO4, HR2, HS4, hp4⟩, by simp [intOf]; omega⟩ | (simp [intOf]; omega)
          · by_cases q2 : xs.length = i
            · have HR2 := hid (rowIn_snoc (z := 0) hR.out ⟨fun h => by omega, fun _ => rfl, fun h => by omega⟩)
              have hlo := hO.out.lt
              have HO := hO
              have HS := hSr
              have q3 : ¬ (xs.length : Int) < (i : Int) := by omega
              have q4 : ((xs.length : Int) == (i : Int)) = true := by rw [beq_iff_eq]; omega
              clear q2
              clear hR hO hSr
              go_wp2_with (at_builtin; refine wpList_append_lies _ rfl _ _ 26 rfl wo.heap.size 2 i0 (.int .i64 0) 1 8 Try.underlying26 hi hz0 hz1 hz2 rfl (by omega) (.slice Ar xs.length cr) xs.length (xs.flatMap encI) rfl (HO.out.alloc _) ⟨wr.heap.size, 0, none⟩ 1 1 [.int .i64 0] rfl rfl (World.news_of_block (cs := #[.int .i64 0]) (t := 2) (fr := (0, 0)) (heap_alloc_new _ _)) (by simp [Value.oneCell']) (by omega) (by simp only [maxLen]; omega) (by omega) (by simp; omega) (wr.heap.size + 1) (by simp) ?_; intro gg cap w3 ho3 hg3 hat3 hlt3)
              have ho4 : w3.ownsRow wo.heap.size 2 1 (.slice (some ⟨gg, 0, none⟩) (xs ++ [(0 : Int)]).length cap) (xs ++ [(0 : Int)]).length ((xs ++ [(0 : Int)]).flatMap encI) := by simpa [encI] using ho3
              have hs4 := (HS.out.alloc (.cells #[.int .i64 0] 2)).grown hg3 (fun b hb => by have := (hlo b hb).1; omega)
              have hp4 := (hsp.alloc (.cells #[.int .i64 0] 2)).grow hg3 (fun b hb => .inl (hlo b hb).1)
              have HO4 := hid ho4
              have HS4 := hid (hs4.mono (show _ ≤ k + 12 * i + 2 * (xs ++ [(0 : Int)]).length by simp; omega))
              clear ho3 ho4 hs4 hg3 HO HS
              go_roundw
              all_goals first | exact ⟨_, _, xs ++ [0], (by rw [List.length_append, List.length_singleton]; omega), (by rw [List.length_append, List.length_singleton]), (by rw [List.length_append, List.length_singleton]; go_num), HO4, HR2, HS4, hp4⟩ | exact ⟨⟨_, _, xs ++ [0], (by rw [List.length_append, List.length_singleton]; omega), (by rw [List.length_append, List.length_singleton]), (by rw [List.length_append, List.length_singleton]; go_num), HO4, HR2, HS4, hp4⟩, by simp [intOf]; omega⟩ | (simp [intOf]; omega)
            · have hlo := hO.out.lt
              have q3 : ¬ (xs.length : Int) < (i : Int) := by omega
              have q4 : ((xs.length : Int) == (i : Int)) = false := by rw [beq_eq_false_iff_ne]; omega
              go_wp2_with fail
              refine (pick_any gs _ 12 _ hSr.out (by omega) (by omega)).mono ?_
              rintro e w2 ⟨a, rfl, a0, a1, hs2, hg2⟩
              have a11 : a ≤ 11 := by omega
              have HO := hid (own_src hO.out hg2 (by omega))
              have HS := hid hs2
              replace hsp := hsp.grow hg2 (fun b hb => .inr (by injection hb with hb; omega))
              have hws2 := hsp.size
              have HR2 := hid (rowIn_snoc (z := 1 + a) hR.out ⟨fun h => by omega, fun h => by omega, fun h => by omega⟩)
              clear hs2 hg2 hO hSr hR a1
              go_wp2_with (at_builtin; refine wpList_append_lies _ rfl _ _ 26 rfl wo.heap.size 2 i0 (.int .i64 0) 1 8 Try.underlying26 hi hz0 hz1 hz2 rfl (by omega) (.slice Ar xs.length cr) xs.length (xs.flatMap encI) rfl (HO.out.alloc _) ⟨w2.heap.size, 0, none⟩ 1 1 [.int .i64 (1 + a)] rfl rfl (World.news_of_block (cs := #[.int .i64 (1 + a)]) (t := 2) (fr := (0, 0)) (heap_alloc_new _ _)) (by simp [Value.oneCell']) (by omega) (by simp only [maxLen]; omega) (by omega) (by simp; omega) (w2.heap.size + 1) (by simp) ?_; intro gg cap w3 ho3 hg3 hat3 hlt3)
              have ho4 : w3.ownsRow wo.heap.size 2 1 (.slice (some ⟨gg, 0, none⟩) (xs ++ [((1 + a) : Int)]).length cap) (xs ++ [((1 + a) : Int)]).length ((xs ++ [((1 + a) : Int)]).flatMap encI) := by simpa [encI] using ho3
              have hs4 := (HS.out.alloc (.cells #[.int .i64 (1 + a)] 2)).grown hg3 (fun b hb => by have := (hlo b hb).1; omega)
              have hp4 := (hsp.alloc (.cells #[.int .i64 (1 + a)] 2)).grow hg3 (fun b hb => .inl (hlo b hb).1)
              have HO4 := hid ho4
              have HS4 := hid (hs4.mono (show _ ≤ k + 12 * i + 2 * (xs ++ [((1 + a) : Int)]).length by simp; omega))
              clear ho3 ho4 hs4 hg3 HO HS
              go_roundw
              all_goals first | exact ⟨_, _, xs ++ [(1 + a)], (by rw [List.length_append, List.length_singleton]; omega), (by rw [List.length_append, List.length_singleton]), (by rw [List.length_append, List.length_singleton]; go_num), HO4, HR2, HS4, hp4⟩ | exact ⟨⟨_, _, xs ++ [(1 + a)], (by rw [List.length_append, List.length_singleton]; omega), (by rw [List.length_append, List.length_singleton]), (by rw [List.length_append, List.length_singleton]; go_num), HO4, HR2, HS4, hp4⟩, by simp [intOf]; omega⟩ | (simp [intOf]; omega)
        · have hxn : xs.length = n := by omega
          have hlo := hM.out.top.lt
          have hM2 := hM.out.span hsp (Nat.lt_succ_self gs)
          have hloR := hO.out.lt
          have hT2 : Hid (tabIn n (cont (rs ++ [⟨Ar, n, cr, xs⟩]))) := by
            have := tabIn_snoc hT.out hxn (by rw [cont_len, hrl]; exact hR.out)
            simpa [Hid, cont] using this
          have hS2 := hid (hSr.out.mono (show _ ≤ k + 12 * (i + 1) by omega))
          have hgw2 : gs < wr.heap.size := by omega
          have hbR := hsp.toBelow hb (Nat.le_refl _) (by omega)
          have HM := hid (hM2.alloc (.cells #[.slice Ar xs.length cr] 26))
          have HO := hO
          have HXN := hid hxn
          clear hM hM2 hT hR hSr hO hS hsp hxn
          go_wp2_with (at_builtin; refine wpList_append_lies _ rfl _ _ 24 rfl (gs + 1) 26 i1 (.slice none 0 0) 1 24 Try.underlying24 hi1 hy0 hy1 hy2 rfl (by omega) (.slice A i c) i (rs.flatMap encR) rfl (by have := HM.out.top; rw [hrl] at this; exact this) ⟨wr.heap.size, 0, none⟩ 1 1 [.slice Ar xs.length cr] rfl rfl (World.news_of_block (cs := #[.slice Ar xs.length cr]) (t := 26) (fr := (0, 0)) (heap_alloc_new _ _)) (by simp [Value.oneCell']) (by omega) (by simp only [maxLen]; omega) (by omega) (by simp; omega) (wr.heap.size + 1) (by simp) ?_; intro gg cap w3 ho3 hg3 hat3 hlt3)
          have hxn := HXN.out
          have hM3 := hid (HM.out.snoc (r := ⟨Ar, n, cr, xs⟩) (m := i) hrl.symm (by rw [← hxn]; exact ho3) hg3 (hat3.imp id (fun e => by simp; omega)) (by rw [← hxn]; exact (HO.out.mono (by omega)).alloc _) (fun b hb e => by rw [← hxn] at hb; have h1 := (hloR b hb).1; rw [← hrl] at e; have h2 := (hlo b e).2; omega))
          have hlo2 := HM.out.top.lt
          rw [hrl] at hlo2
          have hS3 := hid ((hS2.out.alloc (.cells #[.slice Ar xs.length cr] 26)).grown hg3 (fun b hb => by have := (hlo2 b hb).1; omega))
          have hb3 := grown_below (hbR.alloc (by omega) (.cells #[.slice Ar xs.length cr] 26)) hg3 (by simp; omega) (fun b hb => by have := (hlo2 b hb).1; omega)
          have hgw3 := hS3.out.lt
          clear ho3 hg3 HM HO hS2
          go_roundw
          all_goals first | exact ⟨_, _, i + 1, _, by omega, by simp [hrl], rfl, by go_num, hM3, hT2, hS3, hb3, hgw3⟩ | exact ⟨⟨_, _, i + 1, _, by omega, by simp [hrl], rfl, by go_num, hM3, hT2, hS3, hb3, hgw3⟩, by simp [intOf]; omega⟩ | (simp [intOf]; omega)
    · have hil : i = n := by omega
      subst hil
      subst hrl
      go_wp2_with fail
      go_ret
      exact ⟨_, _, rs, rfl, rfl, hM.out, hT.out, hS.out.mono (by omega), hb⟩
theorem tot_of {m : Nat} : ∀ (rs : List Row), (∀ r ∈ rs, r.n ≤ m) → tot rs ≤ m * rs.length
  | [], _ => by simp [tot]
  | r :: rs, h => by
    have h1 := tot_of rs (fun q hq => h q (List.mem_cons_of_mem _ hq))
    have h2 := h r List.mem_cons_self
    simp only [tot, List.map_cons, List.sum_cons, List.length_cons] at h1 ⊢
    rw [Nat.mul_succ]
    omega
/-- what a draw of costs leaves -/
def CostsPost (w : World) (e : Ending) (w' : World) : Prop :=
  ∃ A c rs, e = .returned (.slice A rs.length c) ∧ 2 ≤ rs.length ∧ rs.length ≤ 5 ∧ Hid (validC (cont rs) = true) ∧ tot rs ≤ 25 ∧ Hid (SlS w' w'.heap.size A rs.length rs) ∧ Below w.heap.size w w'
theorem A2Costs_any (v : Value) (w : World) (hv : Bytes w w.heap.size 5000 v) : Calls Try.prog 6 #[v] w (CostsPost w) := by
  have hc := l00From_any v w hv
  clear hv
  go_enter Try.func6, Try.ntmps6
  go_wp2_with fail
  refine hc.mono ?_
  rintro e w1 ⟨rfl, hs, hb, hl⟩
  clear hc
  go_wp2_with fail
  refine (pick_any w.heap.size 0 4 _ hs (by omega) (by omega)).mono ?_
  rintro e w2 ⟨a, rfl, a0, a1, hs2, hg2⟩
  have hb2 := below_src hb hg2 (Nat.le_refl _) (by omega)
  obtain ⟨m, rfl⟩ : ∃ m : Nat, a = (m : Int) := ⟨a.toNat, by omega⟩
  have hd := l20Draw_any w.heap.size 2 (2 + m) w2 hs2 (by omega) (by omega)
  rw [show (((2 + m : Nat)) : Int) = 2 + (m : Int) by omega] at hd
  clear hs hs2 hg2
  go_wp2_with fail
  refine hd.mono ?_
  rintro e w3 ⟨A, c, rs, rfl, hl2, hM, hT, hS, hb3⟩
  have hsl := hM.slS
  have ht : tot rs ≤ (2 + m) * rs.length := tot_of rs fun r hr => by
    obtain ⟨i, hi⟩ := List.mem_iff_getElem?.1 hr
    have h1 := (hT i r.xs (cont_at hi)).1
    have h2 := (hsl.2 r hr).len
    omega
  have ht2 : (2 + m) * rs.length ≤ 5 * 5 := Nat.mul_le_mul (by omega) (by omega)
  have hv := tabIn_valid hT (by rw [cont_len]; exact hl2) (by omega) (by omega)
  have P : CostsPost w (.returned (.slice A rs.length c)) w3 := ⟨A, c, rs, rfl, by omega, by omega, hid hv, by omega, hid hsl, hb2.trans hb3⟩
  clear hM hT hS hsl hv hd hl2 ht ht2
  go_wp2_with fail
  go_ret
  exact P
/-- parents, each before its place -/
def treeIn (ps : List Int) : Prop := ∀ (j : Nat) (z : Int), ps[j]? = some z → 0 ≤ z ∧ z ≤ (j : Nat)
def demIn (ps : List Int) : Prop := ∀ (j : Nat) (z : Int), ps[j]? = some z → 0 ≤ z ∧ z ≤ 11
theorem snoc_at {xs : List Int} {a : Int} {j : Nat} {z : Int} (h : (xs ++ [a])[j]? = some z) : xs[j]? = some z ∨ (j = xs.length ∧ z = a) := by
  rw [List.getElem?_append] at h
  split at h
  · exact .inl h
  · have h1 := (List.getElem?_eq_some_iff.1 h).1
    have hk2 : j = xs.length := by simp at h1; omega
    subst hk2
    simp at h
    exact .inr ⟨rfl, h.symm⟩
/-- what a draw of numbers leaves -/
def IntsDraw (P : List Int → Prop) (n : Nat) (w : World) (e : Ending) (w' : World) : Prop :=
  ∃ A c ps, e = .returned (.slice A ps.length c) ∧ ps.length + 1 = n ∧ Hid (P ps) ∧ Hid (w'.ownsRow (w.heap.size + 1) 2 1 (.slice A ps.length c) ps.length (ps.flatMap encI)) ∧ Below w.heap.size w w'
set_option maxHeartbeats 1000000 in
set_option maxRecDepth 100000 in
theorem A2Tree_any (v : Value) (n : Nat) (h1 : 1 ≤ n) (hn : n ≤ 6) (w : World) (hv : Bytes w w.heap.size 5000 v) : Calls Try.prog 7 #[v, .int .i64 (n : Nat)] w (IntsDraw treeIn n w) := by
  have hc := l00From_any v w hv
  obtain ⟨i0, hi, hz0, hz1, hz2⟩ := info_parts int_info
  clear hv
  go_enter Try.func7, Try.ntmps7
  go_wp2_with fail
  refine hc.mono ?_
  rintro e w1 ⟨rfl, hs, hb, hl⟩
  have o1 : (w1.alloc (.cells #[] 2)).ownsRow (w.heap.size + 1) 2 1 (.slice (some ⟨w1.heap.size, 0, none⟩) 0 0) 0 [] := World.ownsRow_lit w1 #[] 0 (by omega) (by simp only [maxLen]; omega) rfl
  have O1 := hid o1
  have S1 := hid (hs.alloc (.cells #[] 2))
  have hb1 := hb.alloc (by omega) (.cells #[] 2)
  clear hc o1 hs
  go_wp2_with fail
  go_loopw [6, 7] (fun o q wl => ∃ (Ar : Option Addr) (cr : Nat) (xs : List Int), xs.length + 1 ≤ n ∧ o = .slice Ar xs.length cr ∧ q = .int .i64 ((xs.length + 1 : Nat) : Int) ∧ Hid (wl.ownsRow (w.heap.size + 1) 2 1 (.slice Ar xs.length cr) xs.length (xs.flatMap encI)) ∧ Hid (treeIn xs) ∧ Hid (SrcAt wl w.heap.size (2 * xs.length)) ∧ Below w.heap.size w wl ∧ w.heap.size < wl.heap.size) (fun _ q _ => n - (intOf q).toNat)
  case atStart => exact ⟨_, _, [], by simp; omega, rfl, rfl, O1, hid (fun j z h => by simp at h), S1, hb1, by simp; omega⟩
  case round =>
    obtain ⟨Ar, cr, xs, hxl, rfl, rfl, hO, hR, hSr, hbr, hlr⟩ := hrel
    clear O1 S1
    by_cases hlt : xs.length + 1 < n
    · have hlo := hO.out.lt
      go_wp2_with fail
      refine (pick_any w.heap.size _ _ _ hSr.out (by omega) (by omega)).mono ?_
      rintro e w2 ⟨a, rfl, a0, a1, hs2, hg2⟩
      have HO := hid (own_src hO.out hg2 (by omega))
      have HS := hid hs2
      have hb2 := below_src hbr hg2 (Nat.le_refl _) (by omega)
      have hl2 := hs2.lt
      have HR2 : Hid (treeIn (xs ++ [a])) := fun j z hz => by
        rcases snoc_at hz with h | ⟨rfl, rfl⟩
        · exact hR.out j z h
        · constructor <;> omega
      clear hs2 hg2 hO hSr hR a1
      have hlo2 := HO.out.lt
      go_wp2_with (at_builtin; refine wpList_append_lies _ rfl _ _ 26 rfl (w.heap.size + 1) 2 i0 (.int .i64 0) 1 8 Try.underlying26 hi hz0 hz1 hz2 rfl (by omega) (.slice Ar xs.length cr) xs.length (xs.flatMap encI) rfl (HO.out.alloc _) ⟨w2.heap.size, 0, none⟩ 1 1 [.int .i64 a] rfl rfl (World.news_of_block (cs := #[.int .i64 a]) (t := 2) (fr := (0, 0)) (heap_alloc_new _ _)) (by simp [Value.oneCell']) (by omega) (by simp only [maxLen]; omega) (by omega) (by simp; omega) (w2.heap.size + 1) (by simp) ?_; intro gg cap w3 ho3 hg3 hat3 hlt3)
      have ho4 : w3.ownsRow (w.heap.size + 1) 2 1 (.slice (some ⟨gg, 0, none⟩) (xs ++ [a]).length cap) (xs ++ [a]).length ((xs ++ [a]).flatMap encI) := by simpa [encI] using ho3
      have hs4 := (HS.out.alloc (.cells #[.int .i64 a] 2)).grown hg3 (fun b hb => by have := (hlo2 b hb).1; omega)
      have hb4 := grown_below (hb2.alloc (by omega) (.cells #[.int .i64 a] 2)) hg3 (by simp; omega) (fun b hb => by have := (hlo2 b hb).1; omega)
      have HO4 := hid ho4
      have hl4 := hs4.lt
      have HS4 := hid (hs4.mono (show _ ≤ 2 * (xs ++ [a]).length by simp; omega))
      clear ho3 ho4 hs4 hg3 HO HS
      go_roundw
      all_goals first | exact ⟨_, _, xs ++ [a], (by rw [List.length_append, List.length_singleton]; omega), (by rw [List.length_append, List.length_singleton]), (by rw [List.length_append, List.length_singleton]; go_num), HO4, HR2, HS4, hb4, hl4⟩ | exact ⟨⟨_, _, xs ++ [a], (by rw [List.length_append, List.length_singleton]; omega), (by rw [List.length_append, List.length_singleton]), (by rw [List.length_append, List.length_singleton]; go_num), HO4, HR2, HS4, hb4, hl4⟩, by simp [intOf]; omega⟩ | (simp [intOf]; omega)
    · go_wp2_with fail
      go_ret
      exact ⟨_, _, xs, rfl, by omega, hR, hO, hbr⟩
set_option maxHeartbeats 1000000 in
set_option maxRecDepth 100000 in
theorem A2Demands_any (v : Value) (n : Nat) (h1 : 1 ≤ n) (hn : n ≤ 6) (w : World) (hv : Bytes w w.heap.size 5000 v) : Calls Try.prog 8 #[v, .int .i64 (n : Nat)] w (IntsDraw demIn n w) := by
  have hc := l00From_any v w hv
  obtain ⟨i0, hi, hz0, hz1, hz2⟩ := info_parts int_info
  clear hv
  go_enter Try.func8, Try.ntmps8
  go_wp2_with fail
  refine hc.mono ?_
  rintro e w1 ⟨rfl, hs, hb, hl⟩
  have o1 : (w1.alloc (.cells #[] 2)).ownsRow (w.heap.size + 1) 2 1 (.slice (some ⟨w1.heap.size, 0, none⟩) 0 0) 0 [] := World.ownsRow_lit w1 #[] 0 (by omega) (by simp only [maxLen]; omega) rfl
  have O1 := hid o1
  have S1 := hid (hs.alloc (.cells #[] 2))
  have hb1 := hb.alloc (by omega) (.cells #[] 2)
  clear hc o1 hs
  go_wp2_with fail
  go_loopw [6, 7] (fun o q wl => ∃ (Ar : Option Addr) (cr : Nat) (xs : List Int), xs.length + 1 ≤ n ∧ o = .slice Ar xs.length cr ∧ q = .int .i64 ((xs.length + 1 : Nat) : Int) ∧ Hid (wl.ownsRow (w.heap.size + 1) 2 1 (.slice Ar xs.length cr) xs.length (xs.flatMap encI)) ∧ Hid (demIn xs) ∧ Hid (SrcAt wl w.heap.size (2 * xs.length)) ∧ Below w.heap.size w wl ∧ w.heap.size < wl.heap.size) (fun _ q _ => n - (intOf q).toNat)
  case atStart => exact ⟨_, _, [], by simp; omega, rfl, rfl, O1, hid (fun j z h => by simp at h), S1, hb1, by simp; omega⟩
  case round =>
    obtain ⟨Ar, cr, xs, hxl, rfl, rfl, hO, hR, hSr, hbr, hlr⟩ := hrel
    clear O1 S1
    by_cases hlt : xs.length + 1 < n
    · have hlo := hO.out.lt
      go_wp2_with fail
      refine (pick_any w.heap.size _ _ _ hSr.out (by omega) (by omega)).mono ?_
      rintro e w2 ⟨a, rfl, a0, a1, hs2, hg2⟩
      have HO := hid (own_src hO.out hg2 (by omega))
      have HS := hid hs2
      have hb2 := below_src hbr hg2 (Nat.le_refl _) (by omega)
      have hl2 := hs2.lt
      have HR2 : Hid (demIn (xs ++ [a])) := fun j z hz => by
        rcases snoc_at hz with h | ⟨rfl, rfl⟩
        · exact hR.out j z h
        · constructor <;> omega
      clear hs2 hg2 hO hSr hR a1
      have hlo2 := HO.out.lt
      go_wp2_with (at_builtin; refine wpList_append_lies _ rfl _ _ 26 rfl (w.heap.size + 1) 2 i0 (.int .i64 0) 1 8 Try.underlying26 hi hz0 hz1 hz2 rfl (by omega) (.slice Ar xs.length cr) xs.length (xs.flatMap encI) rfl (HO.out.alloc _) ⟨w2.heap.size, 0, none⟩ 1 1 [.int .i64 a] rfl rfl (World.news_of_block (cs := #[.int .i64 a]) (t := 2) (fr := (0, 0)) (heap_alloc_new _ _)) (by simp [Value.oneCell']) (by omega) (by simp only [maxLen]; omega) (by omega) (by simp; omega) (w2.heap.size + 1) (by simp) ?_; intro gg cap w3 ho3 hg3 hat3 hlt3)
      have ho4 : w3.ownsRow (w.heap.size + 1) 2 1 (.slice (some ⟨gg, 0, none⟩) (xs ++ [a]).length cap) (xs ++ [a]).length ((xs ++ [a]).flatMap encI) := by simpa [encI] using ho3
      have hs4 := (HS.out.alloc (.cells #[.int .i64 a] 2)).grown hg3 (fun b hb => by have := (hlo2 b hb).1; omega)
      have hb4 := grown_below (hb2.alloc (by omega) (.cells #[.int .i64 a] 2)) hg3 (by simp; omega) (fun b hb => by have := (hlo2 b hb).1; omega)
      have HO4 := hid ho4
      have hl4 := hs4.lt
      have HS4 := hid (hs4.mono (show _ ≤ 2 * (xs ++ [a]).length by simp; omega))
      clear ho3 ho4 hs4 hg3 HO HS
      go_roundw
      all_goals first | exact ⟨_, _, xs ++ [a], (by rw [List.length_append, List.length_singleton]; omega), (by rw [List.length_append, List.length_singleton]), (by rw [List.length_append, List.length_singleton]; go_num), HO4, HR2, HS4, hb4, hl4⟩ | exact ⟨⟨_, _, xs ++ [a], (by rw [List.length_append, List.length_singleton]; omega), (by rw [List.length_append, List.length_singleton]), (by rw [List.length_append, List.length_singleton]; go_num), HO4, HR2, HS4, hb4, hl4⟩, by simp [intOf]; omega⟩ | (simp [intOf]; omega)
    · go_wp2_with fail
      go_ret
      exact ⟨_, _, xs, rfl, by omega, hR, hO, hbr⟩
end Go.Proofs.Ytfbgglhjlbdfiaa
