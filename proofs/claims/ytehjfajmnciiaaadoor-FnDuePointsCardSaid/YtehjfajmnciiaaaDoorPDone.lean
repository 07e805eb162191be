/-
  DonePoints: both sides. No condition.
-/
import Derived.Test.YtehjfajmnciiaaaDoorPFn
import Derived.Test.YtehjfajmnciiaaaDoorPRise
import Derived.StillTailTactics
import Derived.Deep.AppendLies
namespace Go.Proofs.YtehjfajmnciiaaaDoor
open Go.RowKit
set_option maxHeartbeats 400000

def doneK (day : Int) : List Int → List Point → Option (List Point)
  | [], l => some l
  | k :: r, l => if day < (l.getD k.toNat ⟨0, 0⟩).l then none else doneK day r (l.set k.toNat ⟨(l.getD k.toNat ⟨0, 0⟩).i, day⟩)
def doneF (xs : List Point) (ks : List Int) (day : Int) : List Point × Int :=
  if codeP xs day = 0 then if riseF 0 ((xs.length : Int) - 1) none ks then (match doneK day ks xs with | some l => (l, 0) | none => ([], 6)) else ([], 2) else ([], codeP xs day)
theorem doneK_len {day : Int} : ∀ (ks : List Int) (l l' : List Point), doneK day ks l = some l' → l'.length = l.length := by
  intro ks
  induction ks with
  | nil => intro l l' h; simp only [doneK, Option.some.injEq] at h; rw [h]
  | cons k r ih =>
    intro l l' h
    simp only [doneK] at h
    split at h
    · cases h
    · have := ih _ _ h; simpa using this
theorem doneF_len (xs : List Point) (ks : List Int) (day : Int) (h : xs.length ≤ 2000000) : (doneF xs ks day).1.length ≤ 2000000 := by
  unfold doneF
  split
  · split
    · cases hd : doneK day ks xs with
      | none => simp
      | some l => simp only; rw [doneK_len _ _ _ hd]; exact h
    · simp
  · simp
theorem doneK_bad {day : Int} {k : Nat} {r : List Int} {l : List Point} {x0 x1 : Int} (h : l[k]? = some ⟨x0, x1⟩) (hd : day < x1) : doneK day ((k : Int) :: r) l = none := by simp [doneK, List.getD, h, hd]
theorem doneK_good {day : Int} {k : Nat} {r : List Int} {l : List Point} {x0 x1 : Int} (h : l[k]? = some ⟨x0, x1⟩) (hd : ¬ day < x1) : doneK day ((k : Int) :: r) l = doneK day r (l.set k ⟨x0, day⟩) := by simp [doneK, List.getD, h, hd]
theorem set_encP1 : ∀ (l : List Point) (j : Nat) (x0 x1 d : Int), l[j]? = some ⟨x0, x1⟩ → (l.flatMap encPoint).set (j * 2 + 1) (.int .i64 d) = (l.set j ⟨x0, d⟩).flatMap encPoint := by
  intro l
  induction l with
  | nil => intro j x0 x1 d h; simp at h
  | cons y r ih =>
    intro j x0 x1 d h
    cases j with
    | zero => simp at h; subst h; simp [encPoint]
    | succ j =>
      have := ih j x0 x1 d (by simpa using h)
      rw [show (j + 1) * 2 + 1 = (j * 2 + 1) + 1 + 1 by omega]
      simp [encPoint] at this ⊢
      exact this
theorem set_encP0 : ∀ (l : List Point) (j : Nat) (x0 x1 : Int), l[j]? = some ⟨x0, x1⟩ → (l.flatMap encPoint).set (j * 2) (.int .i64 x0) = l.flatMap encPoint := by
  intro l
  induction l with
  | nil => intro j x0 x1 h; simp at h
  | cons y r ih =>
    intro j x0 x1 h
    cases j with
    | zero => simp at h; subst h; simp [encPoint]
    | succ j =>
      have := ih j x0 x1 (by simpa using h)
      rw [show (j + 1) * 2 = (j * 2) + 1 + 1 by omega]
      simp [encPoint] at this ⊢
      exact this
/-- a list of points and a code -/
def PtsPost (w : World) (R : List Point × Int) (r : Ending) (w' : World) : Prop :=
  ∃ A n c, r = .returned (.tuple #[.slice A n c, .int .i64 R.2]) ∧ w'.ownsRow w.heap.size 42 2 (.slice A n c) n (R.1.flatMap encPoint) ∧ Below w.heap.size w w'
theorem PtsPost.bad {w w' : World} {R : List Point × Int} {z : Int} (hR : R = ([], z)) (hb : Below w.heap.size w w') : PtsPost w R (.returned (.tuple #[.slice none 0 0, .int .i64 z])) w' := by
  subst hR
  exact ⟨none, 0, 0, rfl, World.ownsRow_nil _ _ _ _, hb⟩
theorem news_of_pts {w : World} {B b off n : Nat} {xs : List Point} (hx : Sl w B 2 encPoint (some ⟨b, off, none⟩) n xs) : ∀ (j : Nat) (u : Value), (xs.flatMap encPoint)[j]? = some u → w.cell? ((⟨b, off, none⟩ : Addr).add j) = some u := by
  intro j u hj
  rw [Addr.add_lit]
  have hjl : j < xs.length * 2 := by have := (List.getElem?_eq_some_iff.1 hj).1; rwa [flatMap_len encPoint_len] at this
  obtain ⟨⟨x0, x1⟩, hx1⟩ : ∃ x, xs[j / 2]? = some x := ⟨_, List.getElem?_eq_getElem (by omega)⟩
  obtain ⟨c0, c1⟩ := hx.inPoint hx1
  have hj2 : j = j / 2 * 2 ∨ j = j / 2 * 2 + 1 := by omega
  rcases hj2 with h | h
  · have := flatMap_get encPoint_len (j := 0) (u := .int .i64 x0) xs (j / 2) hx1 rfl
    rw [Nat.add_zero, ← h, hj] at this
    injection this with this
    rw [this, h]; exact c0
  · have := flatMap_get encPoint_len (j := 1) (u := .int .i64 x1) xs (j / 2) hx1 rfl
    rw [← h, hj] at this
    injection this with this
    rw [this, h]; exact c1
theorem one_encP (xs : List Point) : ∀ u ∈ xs.flatMap encPoint, u.oneCell' = true := by
  intro u hu
  obtain ⟨x, _, hx⟩ := List.mem_flatMap.1 hu
  simp [encPoint] at hx
  rcases hx with rfl | rfl <;> rfl
theorem clonePt_nil (A : Option Addr) (c : Nat) (w : World) :
    Calls Tryd.prog 45 #[.slice A 0 c] w fun r w' => ∃ A1 c1, r = .returned (.slice A1 0 c1) ∧ w'.ownsRow w.heap.size 42 2 (.slice A1 0 c1) 0 [] ∧ Below w.heap.size w w' := by
  have o0 := World.ownsRow_lit (base := w.heap.size) (e := 42) (size := 2) w #[] 0 (Nat.le_refl _) (by simp [maxLen]) (by simp)
  have h1 : ∀ u : World, (pure #[] : Sem (Array Value)).run Tryd.prog u = .ok #[] u := fun _ => rfl
  have h2 : ∀ (p : Addr) (u : World), (storeCells p []).run Tryd.prog u = .ok () u := fun _ _ => rfl
  cases A with
  | none =>
    have hU := fun w' : World => Lib.run_eql_slice_nil (P := Tryd.prog) w' 24 42 none 0 c 0 0 Tryd.underlying24
    go_enter Tryd.func45, Tryd.ntmps45
    go_wp2
    go_ret
    exact ⟨_, _, rfl, World.ownsRow_nil _ _ _ _, Below.refl _ _⟩
  | some a =>
    have hU := fun w' : World => Lib.run_eql_slice_nil (P := Tryd.prog) w' 24 42 (some a) 0 c 0 0 Tryd.underlying24
    go_enter Tryd.func45, Tryd.ntmps45
    go_wp2
    go_ret
    exact ⟨_, _, rfl, o0, (Below.refl _ _).alloc (Nat.le_refl _) _⟩
theorem clonePt_any (A : Option Addr) (n c : Nat) (xs : List Point) (w : World) (B : Nat) (hB : B ≤ w.heap.size) (hn : n ≤ 2000000) (hx : Sl w B 2 encPoint A n xs) :
    Calls Tryd.prog 45 #[.slice A n c] w fun r w' => ∃ A1 c1, r = .returned (.slice A1 n c1) ∧ w'.ownsRow w.heap.size 42 2 (.slice A1 n c1) n (xs.flatMap encPoint) ∧ Below w.heap.size w w' := by
  have hl := hx.len
  rcases Nat.eq_zero_or_pos n with h0 | h0
  · subst h0
    rw [List.eq_nil_of_length_eq_zero hl]
    exact clonePt_nil A c w
  · obtain ⟨x0, x1, b, off, _, rfl, hb, _⟩ := hx.atPoint h0
    have o0 := World.ownsRow_lit (base := w.heap.size) (e := 42) (size := 2) w #[] 0 (Nat.le_refl _) (by simp [maxLen]) (by simp)
    obtain ⟨i0, hi, hz0, hz1, hz2⟩ := info_parts Point_info
    have hnew := news_of_pts (hx.alloc hB (.cells #[] 42))
    have hlen : (xs.flatMap encPoint).length = n * 2 := by rw [flatMap_len encPoint_len, hl]
    clear hx
    have hU := fun w' : World => Lib.run_eql_slice_nil (P := Tryd.prog) w' 24 42 (some ⟨b, off, none⟩) n c 0 0 Tryd.underlying24
    go_enter Tryd.func45, Tryd.ntmps45
    go_wp2_with (at_builtin; refine wpList_append_lies _ rfl _ _ 24 rfl w.heap.size 42 i0 (.agg #[.int .i64 0, .int .i64 0]) 2 16 Tryd.underlying24 hi hz0 hz1 hz2 rfl (by omega) (.slice (some ⟨w.heap.size, 0, none⟩) 0 0) 0 [] rfl o0 ⟨b, off, none⟩ n c (xs.flatMap encPoint) rfl hlen hnew (one_encP xs) (by omega) (by simp only [maxLen]; omega) (by omega) (by simp) (w.heap.size + 1) (by simp) ?_; intro gg cap w3 ho3 hg3 hat3 hlt3)
    have hb3 : Below w.heap.size w w3 := ((Below.refl _ _).alloc (Nat.le_refl _) _).grown hg3 (by simp) (fun q hq => by simp [Value.ownBlock] at hq; omega)
    rw [List.nil_append] at ho3
    simp only [Nat.zero_add] at ho3
    clear hnew hlen o0
    go_ret
    exact ⟨_, _, rfl, ho3, hb3⟩
set_option maxHeartbeats 2000000 in
set_option maxRecDepth 100000 in
theorem implDonePoints_any (A : Option Addr) (n c : Nat) (xs : List Point) (A1 : Option Addr) (m1 c1 : Nat) (ks : List Int) (day : Int) (w : World) (B : Nat) (hB : B ≤ w.heap.size) (hn : n ≤ 2000000) (hm1 : m1 ≤ 2000000) (hx : Sl w B 2 encPoint A n xs) (hy : Sl w B 1 encI A1 m1 ks) :
    Calls Tryd.prog 13 #[.slice A n c, .slice A1 m1 c1, .int .i64 day] w (PtsPost w (doneF xs ks day)) := by
  have hc := pointsCode_any A n c xs day w B hB hn hx
  have hl := hx.len
  have hy1 := hy.len
  have hr := fun W h => isIncreasing_any A1 m1 c1 ks 0 ((n : Int) - 1) W B hm1 h
  have hk := fun W h1 h2 => clonePt_any A n c xs W B h1 hn h2
  by_cases h0 : codeP xs day = 0
  · have hv := (codeP_zero h0).1
    have hn30 := validPts_len hv
    rw [hl] at hn30
    cases hz : riseF 0 ((n : Int) - 1) none ks with
    | false =>
      have EF : Hid (doneF xs ks day = ([], 2)) := by simp [Hid, doneF, h0, hl, hz]
      rw [h0] at hc
      rw [hz] at hr
      clear hx h0 hz hk hv
      go_enter Tryd.func13, Tryd.ntmps13
      go_wp2_with (first
        | (go_at_call 32; refine hc.mono ?_; rintro r w1 ⟨rfl, b1⟩)
        | (go_at_call 44; refine (hr _ (hy.below (b1.mono hB))).mono ?_; rintro r w1 ⟨rfl, rfl⟩))
      go_ret2
      exact PtsPost.bad EF.out b1
    | true =>
      have EF : Hid (doneF xs ks day = (match doneK day ks xs with | some l => (l, 0) | none => ([], 6))) := by simp only [Hid, doneF, h0, hl, hz, if_true]
      have HM := hid (riseF_mem ks none hz)
      have Hy := hid hy1
      have Hl := hid hl
      rw [h0] at hc
      rw [hz] at hr
      clear h0 hz hv hy1 hl
      go_enter Tryd.func13, Tryd.ntmps13
      go_wp2_with (first
        | (go_at_call 32; refine hc.mono ?_; rintro r w1 ⟨rfl, b1⟩)
        | (go_at_call 44; refine (hr _ (hy.below (b1.mono hB))).mono ?_; rintro r w2 ⟨rfl, hw2⟩; replace hw2 := hw2.symm; subst hw2)
        | (go_at_call 45; refine (hk _ (Nat.le_trans hB b1.size) (hx.below (b1.mono hB))).mono ?_; rintro r w3 ⟨Ao, co, rfl, o3, b3⟩))
      have hb3 := b1.trans (b3.mono b1.size)
      have ho3 := o3.mono b1.size
      clear hc hr hk hx o3 b3 b1
      go_loopw [11, 32] (fun _ i wl => ∃ (j : Nat) (l : List Point), j ≤ m1 ∧ i = .int .i64 j ∧ Hid (doneK day ks xs = doneK day (ks.drop j) l) ∧ wl.ownsRow w.heap.size 42 2 (.slice Ao n co) n (l.flatMap encPoint) ∧ Below w.heap.size w wl) (fun _ i _ => m1 - (intOf i).toNat)
      case atStart => exact ⟨0, xs, Nat.zero_le _, rfl, rfl, ho3, hb3⟩
      case round =>
        clear ho3 hb3
        obtain ⟨j, l, hj, rfl, he, ho, hb⟩ := hrel
        by_cases hlt : j < m1
        · obtain ⟨x, b, off, Hx, rfl, hbB, c0⟩ := (hy.below (hb.mono hB)).int hlt
          have hxm := HM.out x (List.mem_of_getElem? Hx.out)
          obtain ⟨k, rfl⟩ : ∃ k : Nat, x = k := ⟨x.toNat, by omega⟩
          have hkn : k < n := by omega
          obtain ⟨g, rfl, hg0, hg1⟩ := own_some ho (by omega)
          obtain ⟨x0, x1, b', off', Hp, e, _, d0, d1⟩ := (own_sl encPoint_len (by omega) ho).atPoint hkn
          injection e with e
          injection e with e1 e2
          subst e1 e2
          rw [Nat.zero_add] at d0 d1
          have he2 := he.out
          rw [drop_at Hx.out] at he2
          by_cases hq : day < x1
          · have E : Hid (doneF xs ks day = ([], 6)) := by rw [Hid, EF.out, he2, doneK_bad Hp.out hq]
            clear he he2 hy EF ho
            go_wp2
            go_ret2
            exact PtsPost.bad E.out hb
          · have E : Hid (doneK day ks xs = doneK day (ks.drop (j + 1)) (l.set k ⟨x0, day⟩)) := by rw [Hid, he2, doneK_good Hp.out hq]
            have hs := (ho.stored (k * 2 + 1) (.int .i64 day)).1
            rw [set_encP1 _ _ _ _ _ Hp.out] at hs
            have f1 := (own_at ho (Below.refl _ _) (k * 2 + 1) (by omega)).2
            have hb2 : Below w.heap.size w (wr.setCell ⟨g, k * 2 + 1, none⟩ (.int .i64 day)) := hb.setCell hg0 _
            clear he he2 hy ho
            go_wp2
            go_roundw
            all_goals first | exact ⟨j + 1, _, by omega, by go_num, E, hs, hb2⟩ | exact ⟨⟨j + 1, _, by omega, by go_num, E, hs, hb2⟩, by simp [intOf]; omega⟩ | (simp [intOf]; omega)
        · have : j = m1 := by omega
          subst this
          have E : Hid (doneF xs ks day = (l, 0)) := by rw [Hid, EF.out, he.out, List.drop_of_length_le (by rw [Hy.out]; omega)]; rfl
          clear he hy EF
          go_wp2
          go_ret2
          rw [E.out]
          exact ⟨_, _, _, rfl, ho, hb⟩
  · have EF : Hid (doneF xs ks day = ([], codeP xs day)) := by simp [Hid, doneF, h0]
    generalize codeP xs day = z at hc h0 EF
    clear hx hk hr hy
    go_enter Tryd.func13, Tryd.ntmps13
    go_wp2_with (go_at_call 32; refine hc.mono ?_; rintro r w1 ⟨rfl, b1⟩)
    go_ret2
    exact PtsPost.bad EF.out b1
end Go.Proofs.YtehjfajmnciiaaaDoor
