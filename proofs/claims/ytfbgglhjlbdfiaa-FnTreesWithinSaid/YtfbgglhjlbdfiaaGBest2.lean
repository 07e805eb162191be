/-
  The reference's cheapest trees: CheapestTree, ShallowTree, TreeWithin. No condition.
-/
import Derived.Test.YtfbgglhjlbdfiaaGWalk
namespace Go.Proofs.Ytfbgglhjlbdfiaa
open Go.RowKit
set_option maxHeartbeats 400000

def bestB : BSt → List Int | none => [] | some p => p.1
def leastB : BSt → Int | none => -1 | some p => p.2
theorem allB_congr {css : List (List Int)} {ok ok' : List Int → Bool} : ∀ (m : Nat) (ps : List Int) (st : BSt), (∀ qs : List Int, qs.length = ps.length + m → ok qs = ok' qs) → allB css ok m ps st = allB css ok' m ps st := by
  intro m
  induction m with
  | zero => intro ps st h; simp only [allB, leafB, h ps rfl]
  | succ m ih =>
    intro ps st h
    rw [allB_succ, allB_succ]
    suffices h' : ∀ k, rowB css ok m ps st k = rowB css ok' m ps st k from h' _
    intro k
    induction k with
    | zero => rfl
    | succ k ihk =>
      rw [rowB_succ, rowB_succ, ihk]
      exact ih _ _ (fun qs hq => h qs (by simp at hq; omega))
/-- what is allowed: any tree; a depth; loads -/
def okD (depth : Int) (ps : List Int) : Bool := isTree ps && (depL ps).all fun d => decide (d ≤ depth)
def okW (ds : List Int) (most : Int) (ps : List Int) : Bool := isTree ps && (loadK ps ds ps.length).all fun x => decide (x ≤ most)
theorem depL_le {ps : List Int} {d : Int} (h : d ∈ depL ps) : d ≤ ps.length := by
  simp only [depL, List.mem_map] at h
  obtain ⟨i, _, rfl⟩ := h
  exact upV_le.2
theorem fits_free {ps : List Int} (h : ps.length ≤ 6) : (depL ps).all (fun d => decide (d ≤ (6 : Int))) = true := by
  rw [List.all_eq_true]
  intro d hd
  have := depL_le hd
  simp; omega
set_option maxHeartbeats 2000000 in
theorem l20Best_any (A : Option Addr) (n c : Nat) (rs : List Row) (A2 : Option Addr) (m2 c2 : Nat) (ds : List Int) (most depth : Int) (w : World) (B : Nat) (hB : B ≤ w.heap.size) (hx : SlS w B A n rs) (hy : Sl w B 1 encI A2 m2 ds) (hv : validC (cont rs) = true) (hm2 : m2 = 0 ∨ m2 + 1 = n) (hd : bnd ds 1000) :
    Calls Try.prog 37 #[.slice A n c, .slice A2 m2 c2, .int .i64 most, .int .i64 depth] w fun r w' => ∃ A1 n1 c1, r = .returned (.tuple #[.slice A1 n1 c1, .int .i64 (leastB (allB (cont rs) (fitsF ds most depth) (n - 1) [] none))]) ∧
      w'.ownsRow w.heap.size 2 1 (.slice A1 n1 c1) n1 ((bestB (allB (cont rs) (fitsF ds most depth) (n - 1) [] none)).flatMap encI) ∧ Below w.heap.size w w' := by
  have hl := hx.len
  have hlc : (cont rs).length = n := by rw [cont_len, hl]
  have hn6 := validC_len hv
  rw [hlc] at hn6
  obtain ⟨wa, hwa⟩ : ∃ wa, wa = ((w.alloc (.cells #[.slice A n c, .slice A2 m2 c2, .int .i64 most, .int .i64 depth, .slice none 0 0, .int .i64 (-1)] 67)).alloc (.cells #[] 2)) := ⟨_, rfl⟩
  have hbw : Below w.heap.size w wa := by rw [hwa]; exact ((Below.refl _ _).alloc (Nat.le_refl _) _).alloc (by simp) _
  have hR : Rec wa w.heap.size (w.heap.size + 1) A n c A2 m2 c2 most depth none := by
    rw [hwa]
    exact ⟨by go_simp, by go_simp, by go_simp, by go_simp, by go_simp, by go_simp, none, 0, 0, -1, by go_simp, by go_simp, rfl, rfl, rfl, rfl⟩
  have ho : wa.ownsRow (w.heap.size + 1) 2 1 (.slice (some ⟨w.heap.size + 1, 0, none⟩) ([] : List Int).length 0) ([] : List Int).length (([] : List Int).flatMap encI) := by
    rw [hwa]
    have := World.ownsRow_lit (base := w.heap.size + 1) (e := 2) (size := 1) (w.alloc (.cells #[.slice A n c, .slice A2 m2 c2, .int .i64 most, .int .i64 depth, .slice none 0 0, .int .i64 (-1)] 67)) #[] 0 (by simp) (by simp [maxLen]) (by simp)
    simpa using this
  have hw := walk_any w.heap.size (w.heap.size + 1) A n c rs A2 m2 c2 ds most depth B hB (by omega) hv hl hm2 hd (n - 1) [] (w.heap.size + 1) 0 0 none wa (by simp; omega) (fun x hx => by simp at hx) (by simp [Hid, costG]) (by rw [hwa]; simp) (hx.below (hbw.mono hB)) (hy.below (hbw.mono hB)) hR ho
  have e := walkB_all (css := cont rs) (ok := fitsF ds most depth) hv fitsF_tree (n - 1) [] none (by simp; omega)
  rw [show costG (cont rs) [] = 0 by simp [costG]] at e
  rw [e] at hw
  generalize allB (cont rs) (fitsF ds most depth) (n - 1) [] none = st at hw
  have hsz : wa.heap.size = w.heap.size + 2 := by rw [hwa]; simp
  clear hx hy hR ho e hd hv
  subst hwa
  go_enter Try.func37, Try.ntmps37
  go_wp2_with (go_at_call 45; refine hw.mono ?_; rintro r w1 ⟨rfl, R1, S1⟩)
  have hbz : Below w.heap.size w w1 := S1.toBelow hbw (Nat.le_refl _) (by rw [hsz]; omega)
  obtain ⟨A1, n1, c1, l, e4, e5, hs⟩ := R1.best
  obtain ⟨hl1, ho1⟩ : l = leastB st ∧ w1.ownsRow (w.heap.size + 1) 2 1 (.slice A1 n1 c1) n1 ((bestB st).flatMap encI) := by
    cases st with
    | none =>
      obtain ⟨rfl, rfl, rfl, rfl⟩ := hs
      exact ⟨rfl, World.ownsRow_nil _ _ _ _⟩
    | some p => exact ⟨hs.2.1, hs.1⟩
  subst hl1
  clear hs R1 S1 hw hsz hbw
  go_quiet (fail)
  go_wp2_with fail
  go_ret2
  exact ⟨A1, n1, c1, rfl, (ow_drewN ho1).mono (by omega), below_drewN hbz nq⟩
theorem allB_len {css : List (List Int)} {ok : List Int → Bool} {L : Nat} : ∀ (m : Nat) (ps : List Int) (st : BSt), ps.length + m ≤ L → (bestB st).length ≤ L → (bestB (allB css ok m ps st)).length ≤ L := by
  intro m
  induction m with
  | zero =>
    intro ps st h1 h2
    simp only [allB, leafB]
    split
    · simpa [bestB] using h1
    · exact h2
  | succ m ih =>
    intro ps st h1 h2
    rw [allB_succ]
    suffices h' : ∀ k, (bestB (rowB css ok m ps st k)).length ≤ L from h' _
    intro k
    induction k with
    | zero => exact h2
    | succ k ihk => rw [rowB_succ]; exact ih _ _ (by simp; omega) ihk
/-- a list and two numbers -/
def ListPost2 (w : World) (R : List Int × Int × Int) (r : Ending) (w' : World) : Prop :=
  ∃ A n c, r = .returned (.tuple #[.slice A n c, .int .i64 R.2.1, .int .i64 R.2.2]) ∧ w'.ownsRow w.heap.size 2 1 (.slice A n c) n (R.1.flatMap encI) ∧ Below w.heap.size w w'
theorem ListPost2.bad {w w' : World} {R : List Int × Int × Int} {z : Int} (hR : R = ([], 0, z)) (hb : Below w.heap.size w w') : ListPost2 w R (.returned (.tuple #[.slice none 0 0, .int .i64 0, .int .i64 z])) w' := by
  subst hR
  exact ⟨none, 0, 0, rfl, World.ownsRow_nil _ _ _ _, hb⟩
def cheapF (css : List (List Int)) : List Int × Int × Int :=
  if validC css then (bestB (allB css isTree (css.length - 1) [] none), leastB (allB css isTree (css.length - 1) [] none), 0) else ([], 0, 1)
def shallowF (css : List (List Int)) (d : Int) : List Int × Int × Int :=
  if validC css then if inR d 1 6 then (bestB (allB css (okD d) (css.length - 1) [] none), leastB (allB css (okD d) (css.length - 1) [] none), 0) else ([], 0, 2) else ([], 0, 1)
def withinF (css : List (List Int)) (ds : List Int) (most : Int) : List Int × Int × Int :=
  if validC css then if demOk css ds && inR most 0 6000 then
    if (allB css (okW ds most) (css.length - 1) [] none).isSome then (bestB (allB css (okW ds most) (css.length - 1) [] none), leastB (allB css (okW ds most) (css.length - 1) [] none), 0) else ([], 0, 3)
  else ([], 0, 2) else ([], 0, 1)
theorem best_small {css : List (List Int)} (hv : validC css = true) (ok : List Int → Bool) : (bestB (allB css ok (css.length - 1) [] none)).length ≤ 2000000 := by
  have := validC_len hv
  exact allB_len _ _ _ (by simp; omega) (by simp [bestB])
theorem cheapF_len (css : List (List Int)) : (cheapF css).1.length ≤ 2000000 := by
  unfold cheapF
  split
  · rename_i hv; exact best_small hv _
  · simp
theorem shallowF_len (css : List (List Int)) (d : Int) : (shallowF css d).1.length ≤ 2000000 := by
  unfold shallowF
  split
  · rename_i hv
    split
    · exact best_small hv _
    · simp
  · simp
theorem withinF_len (css : List (List Int)) (ds : List Int) (most : Int) : (withinF css ds most).1.length ≤ 2000000 := by
  unfold withinF
  split
  · rename_i hv
    split
    · split
      · exact best_small hv _
      · simp
    · simp
  · simp
theorem sl_empty (w : World) (B g : Nat) : Sl w B 1 encI (some ⟨g, 0, none⟩) 0 ([] : List Int) := ⟨rfl, fun i x hx => by simp at hx⟩
theorem specCheapestTree_any (A : Option Addr) (n c : Nat) (rs : List Row) (w : World) (B : Nat) (hB : B ≤ w.heap.size) (hn : n + tot rs ≤ 2000000) (hx : SlS w B A n rs) :
    Calls Try.prog 18 #[.slice A n c] w (ListPost2 w (cheapF (cont rs))) := by
  have hok := l20Ok_any A n c rs w B hB hn hx
  have hlc : (cont rs).length = n := by rw [cont_len, hx.len]
  cases hv : validC (cont rs) with
  | false =>
    have E : Hid (cheapF (cont rs) = ([], 0, 1)) := by simp [Hid, cheapF, hv]
    rw [hv] at hok
    clear hx hv
    go_enter Try.func18, Try.ntmps18
    go_wp2_with (go_at_call 36; refine hok.mono ?_; rintro r w1 ⟨rfl, b1⟩)
    go_ret3
    exact ListPost2.bad E.out b1
  | true =>
    have e : allB (cont rs) (fitsF [] 0 6) (n - 1) [] none = allB (cont rs) isTree (n - 1) [] none := allB_congr _ _ _ (fun qs hq => by
      have h6 := validC_len hv
      have := fits_free (ps := qs) (by simp at hq; omega)
      simp [fitsF, this])
    have E : Hid (cheapF (cont rs) = (bestB (allB (cont rs) isTree (n - 1) [] none), leastB (allB (cont rs) isTree (n - 1) [] none), 0)) := by simp [Hid, cheapF, hv, hlc]
    have hb := fun W g h1 h2 => l20Best_any A n c rs (some ⟨g, 0, none⟩) 0 0 [] 0 6 W B h1 h2 (sl_empty W B g) hv (.inl rfl) (fun x hx => by simp at hx)
    rw [e] at hb
    rw [hv] at hok
    generalize allB (cont rs) isTree (n - 1) [] none = st at hb E
    clear e hv hlc
    go_enter Try.func18, Try.ntmps18
    go_wp2_with (first
      | (go_at_call 36; refine hok.mono ?_; rintro r w1 ⟨rfl, b1⟩)
      | (go_at_call 37; refine (hb _ _ (by simp; have := b1.size; omega) ((hx.below (b1.mono hB)).below ((Below.refl _ _).alloc (Nat.le_trans hB b1.size) _))).mono ?_; rintro r w2 ⟨A1, n1, c1, rfl, o2, b2⟩))
    go_ret3
    rw [E.out]
    exact ⟨A1, n1, c1, rfl, o2.mono (by simp; have := b1.size; omega), (b1.alloc b1.size _).trans (b2.mono (by simp; have := b1.size; omega))⟩
end Go.Proofs.Ytfbgglhjlbdfiaa
