/-
  Schemes: what a valid one fulfils; the code of a scheme and a name; places in a list. No condition.
-/
import Derived.Test.YtmanbpobdaamfaaSMet
namespace Go.Proofs.Ytmanbpobdaamfaa
open Go.RowKit
set_option maxHeartbeats 400000

theorem Span.cell {lo hi : Nat} {a w : World} {p : Addr} {v : Value} (h : Span lo hi a w) (hp : ¬ (lo ≤ p.block ∧ p.block < hi)) (hc : a.cell? p = some v) : w.cell? p = some v :=
  (World.cell?_of_block (h.block p.block (World.block_lt_of_cell? _ _ hc) hp)).trans hc
theorem okL_mem {α : Type} {f : List α → α → Int} : ∀ (xs p : List α), okL f p xs = true → ∀ (k : Nat) (x : α), xs[k]? = some x → f (p ++ xs.take k) x = 0 := by
  intro xs
  induction xs with
  | nil => intro p _ k x h; simp at h
  | cons y r ih =>
    intro p h k x hx
    simp only [okL, Bool.and_eq_true, decide_eq_true_eq] at h
    cases k with
    | zero => simp at hx; subst hx; simpa using h.1
    | succ k =>
      have := ih (p ++ [y]) h.2 k x (by simpa using hx)
      simpa using this
theorem validX_way {x : Sch} (h : validX x = true) {k : Nat} {y : Way} (hy : x.wy[k]? = some y) : 1 ≤ y.metres ∧ y.metres ≤ 2000 ∧ k < 60 := by
  simp only [validX, Bool.and_eq_true] at h
  have h1 := wyF_zero (okL_mem _ _ h.2.2 k y hy)
  have h2 : k < x.wy.length := (List.getElem?_eq_some_iff.1 hy).1
  simp only [List.nil_append, List.length_take] at h1
  omega
theorem validX_wyl {x : Sch} (h : validX x = true) : x.wy.length ≤ 60 := by
  rcases Nat.lt_or_ge 60 x.wy.length with hl | hl
  · have := (validX_way h (k := 60) (List.getElem?_eq_getElem hl)).2.2
    omega
  · exact hl
theorem validX_stl {x : Sch} (h : validX x = true) : x.st.length ≤ 20 := by
  rcases Nat.lt_or_ge 20 x.st.length with hl | hl
  · simp only [validX, Bool.and_eq_true] at h
    have h1 := stF_zero (okL_mem _ _ h.1 20 _ (List.getElem?_eq_getElem hl))
    simp only [List.nil_append, List.length_take] at h1
    omega
  · exact hl

/-- the places of those that fulfil p, among the first k -/
def idxF {α : Type} (p : α → Bool) (xs : List α) : Nat → List Int
  | 0 => []
  | k + 1 => match xs[k]? with
    | some x => if p x then idxF p xs k ++ [(k : Int)] else idxF p xs k
    | none => idxF p xs k
theorem idxF_yes {α : Type} {p : α → Bool} {xs : List α} {k : Nat} {x : α} (h : xs[k]? = some x) (hp : p x = true) : idxF p xs (k + 1) = idxF p xs k ++ [(k : Int)] := by simp [idxF, h, hp]
theorem idxF_no {α : Type} {p : α → Bool} {xs : List α} {k : Nat} {x : α} (h : xs[k]? = some x) (hp : p x = false) : idxF p xs (k + 1) = idxF p xs k := by simp [idxF, h, hp]
theorem idxF_len {α : Type} (p : α → Bool) (xs : List α) : ∀ k, (idxF p xs k).length ≤ k := by
  intro k
  induction k with
  | zero => simp [idxF]
  | succ k ih =>
    simp only [idxF]
    split
    · split
      · simp; omega
      · omega
    · omega
/-- a list of numbers and a code -/
def IPost (w : World) (R : List Int × Int) (r : Ending) (w' : World) : Prop :=
  ∃ A n c, r = .returned (.tuple #[.slice A n c, .int .i64 R.2]) ∧ w'.ownsRow w.heap.size 2 1 (.slice A n c) n (R.1.flatMap encI) ∧ Below w.heap.size w w'
theorem IPost.bad {w w' : World} {R : List Int × Int} {z : Int} (hR : R = ([], z)) (hb : Below w.heap.size w w') : IPost w R (.returned (.tuple #[.slice none 0 0, .int .i64 z])) w' := by
  subst hR
  exact ⟨none, 0, 0, rfl, World.ownsRow_nil _ _ _ _, hb⟩
theorem snocIx (xs : List Int) (z : Int) : xs.flatMap encI ++ [.int .i64 z] = (xs ++ [z]).flatMap encI := by simp [encI]

def codeX (x : Sch) (z : ByteArray) : Int := if validX x then if hasS x.st z then 0 else 3 else 1
set_option maxHeartbeats 1000000 in
theorem schemeCode_any (s : SV) (x : Sch) (z : ByteArray) (w : World) (B : Nat) (hB : B ≤ w.heap.size) (hn : s.n1 ≤ 2000000 ∧ s.n2 ≤ 2000000 ∧ s.n3 ≤ 2000000) (hx : SlX w B s x) (hz : Hid (BigX x)) :
    Calls Try.prog 41 #[s.v, .string z] w fun r w' => r = .returned (.int .i64 (codeX x z)) ∧ Below w.heap.size w w' := by
  obtain ⟨A1, n1, c1, A2, n2, c2, A3, n3, c3⟩ := s
  simp only [SV.v] at hn ⊢
  obtain ⟨W0, hW0⟩ : ∃ W0, W0 = w.alloc (.cells #[.slice A1 n1 c1, .slice A2 n2 c2, .slice A3 n3 c3] 29) := ⟨_, rfl⟩
  have b0 : Below w.heap.size w W0 := by rw [hW0]; exact (Below.refl _ _).alloc (Nat.le_refl _) _
  have k0 : W0.cell? ⟨w.heap.size, 0, none⟩ = some (.slice A1 n1 c1) := by rw [hW0]; go_simp
  have hx0 := hx.below (b0.mono hB)
  have hc := implValid_any ⟨A1, n1, c1, A2, n2, c2, A3, n3, c3⟩ x W0 B (Nat.le_trans hB b0.size) hn hx0 hz
  simp only [SV.v] at hc
  have hs := fun W (h : Below W0.heap.size W0 W) => hasStation_any w.heap.size A1 n1 c1 x.st z W B hn.1 (hx0.st.below (h.mono (Nat.le_trans hB b0.size))) (below_cell k0 h)
  have E := hid (show codeX x z = if validX x then if hasS x.st z then 0 else 3 else 1 from rfl)
  generalize validX x = p at hc E
  generalize hasS x.st z = q at hs E
  have HW := hid hW0
  clear hW0 hx hx0 hz
  cases p <;> cases q
  all_goals
    go_enter Try.func41, Try.ntmps41
    go_wp2_with fail
    rw [← HW.out]
    refine hc.mono ?_
    rintro r w1 ⟨rfl, b1⟩
    go_wp2_with (go_at_call 43; refine (hs _ b1).mono ?_; rintro r w2 ⟨rfl, e⟩; replace e := e.symm; subst e)
    go_ret
    exact ⟨retI E.out.symm, b0.trans (b1.mono b0.size)⟩
theorem l21Code_any (gx : Nat) (s : SV) (x : Sch) (z : ByteArray) (w : World) (B : Nat) (hB : B ≤ w.heap.size) (hn : s.n1 ≤ 2000000 ∧ s.n2 ≤ 2000000 ∧ s.n3 ≤ 2000000) (hx : SlX w B s x) (hz : Hid (BigX x))
    (c0 : w.cell? ⟨gx, 0, none⟩ = some (.slice s.A1 s.n1 s.c1)) (c1 : w.cell? ⟨gx, 1, none⟩ = some (.slice s.A2 s.n2 s.c2)) (c2 : w.cell? ⟨gx, 2, none⟩ = some (.slice s.A3 s.n3 s.c3)) :
    Calls Try.prog 35 #[.pointer (some ⟨gx, 0, none⟩), .string z] w fun r w' => r = .returned (.int .i64 (codeX x z)) ∧ Below w.heap.size w w' := by
  have hc := l21Ok_any gx s x w B hB hn hx hz c0 c1 c2
  have hs := fun W (h : Below w.heap.size w W) => l21Has_any s.A1 s.n1 s.c1 x.st z W B hn.1 (hx.st.below (h.mono hB))
  have E := hid (show codeX x z = if validX x then if hasS x.st z then 0 else 3 else 1 from rfl)
  generalize validX x = p at hc E
  generalize hasS x.st z = q at hs E
  obtain ⟨A1, n1, k1, A2, n2, k2, A3, n3, k3⟩ := s
  simp only at hs c0
  clear hx hz c1 c2
  cases p <;> cases q
  all_goals
    go_enter Try.func35, Try.ntmps35
    go_wp2_with fail
    refine hc.mono ?_
    rintro r w1 ⟨rfl, b1⟩
    replace c0 := below_cell c0 b1
    go_wp2_with (go_at_call 37; refine (hs _ b1).mono ?_; rintro r w2 ⟨rfl, e⟩; replace e := e.symm; subst e)
    go_ret
    exact ⟨retI E.out.symm, b1⟩
end Go.Proofs.Ytmanbpobdaamfaa
