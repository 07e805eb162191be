/-
  TreeWithin: the reference's side and the program's. No condition.
-/
import Derived.Test.YtfbgglhjlbdfiaaGShal
namespace Go.Proofs.Ytfbgglhjlbdfiaa
open Go.RowKit
set_option maxHeartbeats 400000

theorem dem_parts {css : List (List Int)} {ds : List Int} (h : demOk css ds = true) : ds.length + 1 = css.length ∧ bnd ds 1000 := by
  simp only [demOk, Bool.and_eq_true, beq_iff_eq, List.all_eq_true] at h
  exact ⟨h.1, fun x hx => by have := h.2 x hx; simpa [inR] using this⟩
theorem allB_pos {css : List (List Int)} (hv : validC css = true) {ok : List Int → Bool} : ∀ (m : Nat) (ps : List Int) (st : BSt), ps.length + m < css.length → inN ps css.length → (∀ q, st = some q → 0 ≤ q.2) → ∀ q, allB css ok m ps st = some q → 0 ≤ q.2 := by
  intro m
  induction m with
  | zero =>
    intro ps st hl hp hs q hq
    simp only [allB, leafB] at hq
    split at hq
    · injection hq with hq
      subst hq
      exact (costG_in hv hp (by omega)).1
    · exact hs q hq
  | succ m ih =>
    intro ps st hl hp hs
    rw [allB_succ]
    suffices h' : ∀ k, k ≤ css.length → ∀ q, rowB css ok m ps st k = some q → 0 ≤ q.2 from h' _ (Nat.le_refl _)
    intro k
    induction k with
    | zero => intro _ q hq; exact hs q hq
    | succ k ihk =>
      intro hk
      rw [rowB_succ]
      refine ih _ _ (by simp; omega) (fun x hx => ?_) (ihk (by omega))
      rcases List.mem_append.1 hx with h | h
      · exact hp x h
      · simp at h; subst h; omega
theorem within_cases (css : List (List Int)) (ds : List Int) (most : Int) :
    (validC css = false ∧ withinF css ds most = ([], 0, 1)) ∨ (validC css = true ∧ demOk css ds = false ∧ withinF css ds most = ([], 0, 2)) ∨ (validC css = true ∧ demOk css ds = true ∧ inR most 0 6000 = false ∧ withinF css ds most = ([], 0, 2)) ∨
      (validC css = true ∧ demOk css ds = true ∧ inR most 0 6000 = true ∧ withinF css ds most = resB (allB css (okW ds most) (css.length - 1) [] none)) := by
  cases hv : validC css
  · exact .inl ⟨rfl, by simp [withinF, hv]⟩
  cases hd : demOk css ds
  · exact .inr (.inl ⟨rfl, rfl, by simp [withinF, hv, hd]⟩)
  cases hm : inR most 0 6000
  · exact .inr (.inr (.inl ⟨rfl, rfl, rfl, by simp [withinF, hv, hd, hm]⟩))
  · refine .inr (.inr (.inr ⟨rfl, rfl, rfl, ?_⟩))
    simp only [withinF, hv, hd, hm, if_true, Bool.and_self]
    cases allB css (okW ds most) (css.length - 1) [] none <;> simp [resB, bestB, leastB]
set_option maxHeartbeats 2000000 in
theorem specTreeWithin_any (A : Option Addr) (n c : Nat) (rs : List Row) (A2 : Option Addr) (m2 c2 : Nat) (ds : List Int) (most : Int) (w : World) (B : Nat) (hB : B ≤ w.heap.size) (hn : n + tot rs ≤ 2000000) (hm2 : m2 ≤ 2000000) (hx : SlS w B A n rs) (hy : Sl w B 1 encI A2 m2 ds) :
    Calls Try.prog 19 #[.slice A n c, .slice A2 m2 c2, .int .i64 most] w (ListPost2 w (withinF (cont rs) ds most)) := by
  have hok := l20Ok_any A n c rs w B hB hn hx
  have hdm := fun W h => l20Demands_any A n c rs A2 m2 c2 ds W B (by omega) hm2 hx.len h
  have hlc : (cont rs).length = n := by rw [cont_len, hx.len]
  have hi := l00In_any most 0 6000
  rcases within_cases (cont rs) ds most with ⟨hv, E⟩ | ⟨hv, hd, E⟩ | ⟨hv, hd, hz, E⟩ | ⟨hv, hd, hz, E⟩
  · have E := hid E
    rw [hv] at hok
    clear hx hv
    go_enter Try.func19, Try.ntmps19
    go_wp2_with (go_at_call 36; refine hok.mono ?_; rintro r w1 ⟨rfl, b1⟩)
    go_ret3
    exact ListPost2.bad E.out b1
  · have E := hid E
    rw [hv] at hok
    rw [hd] at hdm
    clear hx hv hd
    go_enter Try.func19, Try.ntmps19
    go_wp2_with (first
      | (go_at_call 36; refine hok.mono ?_; rintro r w1 ⟨rfl, b1⟩)
      | (go_at_call 38; refine (hdm _ (hy.below (b1.mono hB))).mono ?_; rintro r w1 ⟨rfl, rfl⟩))
    go_ret3
    exact ListPost2.bad E.out b1
  · have E := hid E
    rw [hv] at hok
    rw [hd] at hdm
    rw [hz] at hi
    clear hx hv hd hz
    go_enter Try.func19, Try.ntmps19
    go_wp2_with (first
      | (go_at_call 36; refine hok.mono ?_; rintro r w1 ⟨rfl, b1⟩)
      | (go_at_call 38; refine (hdm _ (hy.below (b1.mono hB))).mono ?_; rintro r w1 ⟨rfl, rfl⟩)
      | (go_at_call 39; refine (hi _).mono ?_; rintro r w1 ⟨rfl, rfl⟩))
    go_ret3
    exact ListPost2.bad E.out b1
  · obtain ⟨hdl, hdb⟩ := dem_parts hd
    have hn6 := validC_len hv
    rw [hlc] at hdl hn6 E
    have e : allB (cont rs) (fitsF ds most 6) (n - 1) [] none = allB (cont rs) (okW ds most) (n - 1) [] none := allB_congr _ _ _ (fun qs hq => by
      have := fits_free (ps := qs) (by simp at hq; omega)
      have hde : ds.isEmpty = false := by cases ds with | nil => simp at hdl; omega | cons x r => rfl
      simp [fitsF, okW, this, hde])
    have hpos := allB_pos hv (ok := okW ds most) (n - 1) [] none (by rw [hlc]; simp; omega) (fun x h => by simp at h) (fun q h => by cases h)
    have hb := fun W h1 h2 h3 => l20Best_any A n c rs A2 m2 c2 ds most 6 W B h1 h2 h3 hv (.inr (by have := hy.len; omega)) hdb
    rw [e] at hb
    have E := hid E
    rw [hv] at hok
    rw [hd] at hdm
    rw [hz] at hi
    generalize allB (cont rs) (okW ds most) (n - 1) [] none = st at hb E hpos
    clear e hv hlc hz hd hdl hdb
    cases st with
    | none =>
      simp only [leastB, bestB] at hb
      clear hpos
      go_enter Try.func19, Try.ntmps19
      go_wp2_with (first
        | (go_at_call 36; refine hok.mono ?_; rintro r w1 ⟨rfl, b1⟩)
        | (go_at_call 38; refine (hdm _ (hy.below (b1.mono hB))).mono ?_; rintro r w1 ⟨rfl, rfl⟩)
        | (go_at_call 39; refine (hi _).mono ?_; rintro r w1 ⟨rfl, rfl⟩)
        | (go_at_call 37; refine (hb _ (Nat.le_trans hB b1.size) (hx.below (b1.mono hB)) (hy.below (b1.mono hB))).mono ?_; rintro r w2 ⟨A1, n1, c1, rfl, o2, b2⟩))
      go_ret3
      exact ListPost2.bad E.out (b1.trans (b2.mono b1.size))
    | some q =>
      obtain ⟨q1, q2⟩ := q
      have hq := hpos _ rfl
      simp only [leastB, bestB] at hb hq
      clear hpos
      go_enter Try.func19, Try.ntmps19
      go_wp2_with (first
        | (go_at_call 36; refine hok.mono ?_; rintro r w1 ⟨rfl, b1⟩)
        | (go_at_call 38; refine (hdm _ (hy.below (b1.mono hB))).mono ?_; rintro r w1 ⟨rfl, rfl⟩)
        | (go_at_call 39; refine (hi _).mono ?_; rintro r w1 ⟨rfl, rfl⟩)
        | (go_at_call 37; refine (hb _ (Nat.le_trans hB b1.size) (hx.below (b1.mono hB)) (hy.below (b1.mono hB))).mono ?_; rintro r w2 ⟨A1, n1, c1, rfl, o2, b2⟩))
      go_ret3
      rw [E.out]
      exact ⟨A1, n1, c1, rfl, o2.mono b1.size, b1.trans (b2.mono b1.size)⟩
theorem allow67 (args : Array Value) (W : World) : (callFunc 34 args).run Try.prog W = .ok (.enter 34 args) W := by go_simp
theorem allowW_any (A : Option Addr) (n c : Nat) (ps : List Int) (A2 : Option Addr) (c2 : Nat) (ds : List Int) (most : Int) (g1 g2 B : Nat) (w : World) (hd1 : w.cell? ⟨g1, 0, none⟩ = some (.slice A2 n c2)) (hd2 : w.cell? ⟨g2, 0, none⟩ = some (.int .i64 most)) (hB : B ≤ w.heap.size) (h0 : 0 < n) (hn : n ≤ 6) (hx : Sl w w.heap.size 1 encI A n ps) (hy : Sl w B 1 encI A2 n ds) (hp : inP ps) (ht : isTree ps = true) (hdb : bnd ds 1000) :
    Calls Try.prog 34 #[.slice A n c, .pointer (some ⟨g1, 0, none⟩), .pointer (some ⟨g2, 0, none⟩)] w fun r w' => r = .returned (.bool ((loadK ps ds ps.length).all fun x => decide (x ≤ most))) ∧ Below w.heap.size w w' := by
  have hxd : Sl w.drew w.heap.size 1 encI A n ps := hx.keep fun _ _ => rfl
  have hyd : Sl w.drew w.heap.size 1 encI A2 n ds := (hy.more hB).keep fun _ _ => rfl
  have hdp := loadsOf_any A n c ps A2 c2 ds w.drew w.heap.size (Nat.le_refl _) hn hxd hyd hp ht hdb
  have hpl := hx.len
  have EA : Hid (∀ x xs, loadK ps ds n = x :: xs → ((loadK ps ds ps.length).all fun x => decide (x ≤ most)) = decide (maxL x xs ≤ most)) := fun x xs e => by rw [hpl, e, maxL_all]
  clear hx hy hxd hyd ht hp hpl
  go_enter Try.func34, Try.ntmps34
  go_wp2_with fail
  go_region_held3 (fun W => W.cell? ⟨g1, 0, none⟩ = some (.slice A2 n c2) ∧ W.cell? ⟨g2, 0, none⟩ = some (.int .i64 most))
    (first
      | go_keep
      | (go_split_ands; exact ⟨below_cell (by assumption) b1, below_cell (by assumption) b1⟩))
    (first
      | (go_at_call 30; with_reducible refine hdp.mono ?_; rintro r w1 ⟨A1, c1, rfl, o1, b1⟩; obtain ⟨x, xs, e, hs⟩ := max_own o1 h0; have E := hid (EA.out x xs e))
      | (go_at_call 35; with_reducible refine (max_any A1 n c1 x xs _ _ (by omega) hs).mono ?_; rintro r w5 ⟨rfl, rfl⟩))
  have b2 : Below w.heap.size w w5 := (Below.refl _ _).drew.trans b1
  go_wp2_with fail
  go_ret
  exact ⟨retB E.out.symm, b2⟩
set_option maxHeartbeats 2000000 in
theorem implTreeWithin_any (A : Option Addr) (n c : Nat) (rs : List Row) (A2 : Option Addr) (m2 c2 : Nat) (ds : List Int) (most : Int) (w : World) (B : Nat) (hB : B ≤ w.heap.size) (hn : n + tot rs ≤ 2000000) (hm2 : m2 ≤ 2000000) (hx : SlS w B A n rs) (hy : Sl w B 1 encI A2 m2 ds) :
    Calls Try.prog 17 #[.slice A n c, .slice A2 m2 c2, .int .i64 most] w (ListPost2 w (withinF (cont rs) ds most)) := by
  have hok := fun W h => implValidCosts_any A n c rs W B h hn
  have hdm := fun W h1 h => areDemands_any A n c rs A2 m2 c2 ds W B h1 (by omega) hm2 hx.len h
  have hlc : (cont rs).length = n := by rw [cont_len, hx.len]
  have hi := within_any most 0 6000
  have hbw : Below w.heap.size w ((w.alloc (.cells #[.slice A2 m2 c2] 26)).alloc (.cells #[.int .i64 most] 2)) := ((Below.refl _ _).alloc (Nat.le_refl _) _).alloc (by simp) _
  obtain ⟨wa, hwa⟩ : ∃ wa, wa = ((w.alloc (.cells #[.slice A2 m2 c2] 26)).alloc (.cells #[.int .i64 most] 2)) := ⟨_, rfl⟩
  have Hwa := hid hwa
  rw [← hwa] at hbw
  have k1 : wa.cell? ⟨w.heap.size, 0, none⟩ = some (.slice A2 m2 c2) := by rw [hwa]; go_simp
  have k2 : wa.cell? ⟨w.heap.size + 1, 0, none⟩ = some (.int .i64 most) := by rw [hwa]; go_simp
  have hsz : w.heap.size ≤ wa.heap.size := hbw.size
  have hok := hok wa (Nat.le_trans hB hsz) (hx.below (hbw.mono hB))
  have F : ∀ W, Below wa.heap.size wa W → B ≤ W.heap.size ∧ SlS W B A n rs ∧ Sl W B 1 encI A2 m2 ds ∧ W.cell? ⟨w.heap.size, 0, none⟩ = some (.slice A2 m2 c2) ∧ W.cell? ⟨w.heap.size + 1, 0, none⟩ = some (.int .i64 most) ∧ Below w.heap.size w W := fun W h =>
    have hb := hbw.trans (h.mono hsz)
    ⟨Nat.le_trans hB hb.size, hx.below (hb.mono hB), hy.below (hb.mono hB), below_cell k1 h, below_cell k2 h, hb⟩
  rcases within_cases (cont rs) ds most with ⟨hv, E⟩ | ⟨hv, hd, E⟩ | ⟨hv, hd, hz, E⟩ | ⟨hv, hd, hz, E⟩
  · have E := hid E
    rw [hv] at hok
    rw [hwa] at hok F
    clear hx hv hbw k1 k2 hsz hdm hwa
    go_enter Try.func17, Try.ntmps17
    go_wp2_with (go_at_call 26; refine hok.mono ?_; rintro r w1 ⟨rfl, b1⟩)
    go_ret3
    exact ListPost2.bad E.out (F _ b1).2.2.2.2.2
  · have E := hid E
    rw [hv] at hok
    rw [hd] at hdm
    rw [hwa] at hok F
    clear hx hv hd hbw k1 k2 hsz hwa
    go_enter Try.func17, Try.ntmps17
    go_wp2_with (first
      | (go_at_call 26; refine hok.mono ?_; rintro r w1 ⟨rfl, b1⟩; obtain ⟨f0, f1, f2, f3, f4, f5⟩ := F _ b1; clear F hok)
      | (go_at_call 29; refine (hdm _ f0 f2).mono ?_; rintro r w2 ⟨rfl, b2⟩))
    go_ret3
    exact ListPost2.bad E.out (f5.trans (b2.mono f5.size))
  · have E := hid E
    rw [hv] at hok
    rw [hd] at hdm
    rw [hz] at hi
    rw [hwa] at hok F
    clear hx hv hd hz hbw k1 k2 hsz hwa
    go_enter Try.func17, Try.ntmps17
    go_wp2_with (first
      | (go_at_call 26; refine hok.mono ?_; rintro r w1 ⟨rfl, b1⟩; obtain ⟨f0, f1, f2, f3, f4, f5⟩ := F _ b1; clear F hok)
      | (go_at_call 29; refine (hdm _ f0 f2).mono ?_; rintro r w2 ⟨rfl, b2⟩; replace f4 := below_cell f4 b2)
      | (go_at_call 33; refine (hi _).mono ?_; rintro r w3 ⟨rfl, rfl⟩))
    go_ret3
    exact ListPost2.bad E.out (f5.trans (b2.mono f5.size))
  · obtain ⟨hdl, hdb⟩ := dem_parts hd
    have hn6 := validC_len hv
    have hyl := hy.len
    rw [hlc] at hdl hn6 E
    have hch := fun W h1 h2 (hc1 : W.cell? ⟨w.heap.size, 0, none⟩ = some (.slice A2 m2 c2)) (hc2 : W.cell? ⟨w.heap.size + 1, 0, none⟩ = some (.int .i64 most)) (hyW : Sl W B 1 encI A2 m2 ds) => cheapestTree_any 34 #[.pointer (some ⟨w.heap.size, 0, none⟩), .pointer (some ⟨w.heap.size + 1, 0, none⟩)] (fun ps => (loadK ps ds ps.length).all fun x => decide (x ≤ most)) A n c rs W B h1 h2 hv allow67 (fun W' A' m' c' ps hW hy' hp ht => by
      have hz := parC_zero hp
      have := hy'.len
      obtain rfl : m' = m2 := by omega
      exact allowW_any A' m' c' ps A2 c2 ds most w.heap.size (w.heap.size + 1) B W' (below_cell hc1 hW) (below_cell hc2 hW) (Nat.le_trans h1 hW.size) (by omega) (by omega) hy' (hyW.below (hW.mono h1)) hz.2.2 ht hdb)
    have hch : ∀ W, B ≤ W.heap.size → SlS W B A n rs → W.cell? ⟨w.heap.size, 0, none⟩ = some (.slice A2 m2 c2) → W.cell? ⟨w.heap.size + 1, 0, none⟩ = some (.int .i64 most) → Sl W B 1 encI A2 m2 ds → Calls _ _ _ _ (ListPost2 W (resB (allB (cont rs) (okW ds most) (n - 1) [] none))) := hch
    have E := hid E
    rw [hv] at hok
    rw [hd] at hdm
    rw [hz] at hi
    rw [hwa] at hok F
    generalize resB (allB (cont rs) (okW ds most) (n - 1) [] none) = R at hch E
    clear hx hv hd hz hbw k1 k2 hsz hwa hdl hdb hn6 hyl hlc
    go_enter Try.func17, Try.ntmps17
    go_wp2_with (first
      | (go_at_call 26; refine hok.mono ?_; rintro r w1 ⟨rfl, b1⟩; obtain ⟨f0, f1, f2, f3, f4, f5⟩ := F _ b1; clear F hok)
      | (go_at_call 29; refine (hdm _ f0 f2).mono ?_; rintro r w2 ⟨rfl, b2⟩; replace f4 := below_cell f4 b2; replace f3 := below_cell f3 b2; have f0' := f0; replace f0 := Nat.le_trans f0 b2.size; replace f1 := f1.below (b2.mono f0'); replace f2 := f2.below (b2.mono f0'); replace f5 := f5.trans (b2.mono f5.size))
      | (go_at_call 33; refine (hi _).mono ?_; rintro r w3 ⟨rfl, rfl⟩)
      | (go_at_call 27; refine (hch _ f0 f1 f3 f4 f2).mono ?_; rintro r w4 ⟨A1, n1, c1, rfl, o4, b4⟩))
    go_ret3
    rw [E.out]
    exact ⟨A1, n1, c1, rfl, o4.mono f5.size, f5.trans (b4.mono f5.size)⟩
end Go.Proofs.Ytfbgglhjlbdfiaa
