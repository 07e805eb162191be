/-
  Lists of tariffs: how they read, their copies, their comparisons. No condition.
-/
import Derived.Test.YtbgpdaclaknapaaLawTariff
namespace Go.Proofs.Ytbgpdaclaknapaa
open Go.RowKit Go.ChangeShapes Go.WideShapes Go.ChangeAt Go.Deep Go.Joins
set_option maxHeartbeats 400000

/-- one tariff of a list, with the place of its steps -/
structure TRow where
  A : Option Addr
  n : Nat
  c : Nat
  xs : List Step
  h : Int
  e : Int
def encTR (r : TRow) : List Value := [.slice r.A r.n r.c, .int .i64 r.h, .int .i64 r.e]
theorem encTR_len (r : TRow) : (encTR r).length = 3 := rfl
def SlT (w : World) (B : Nat) (A : Option Addr) (n : Nat) (ts : List TRow) : Prop := Sl w B 3 encTR A n ts ∧ ∀ r ∈ ts, Sl w B 2 encStep r.A r.n r.xs
def tarOf (r : TRow) : Tariff := ⟨r.xs, r.h, r.e⟩
def tars (ts : List TRow) : List Tariff := ts.map tarOf
theorem tars_len (ts : List TRow) : (tars ts).length = ts.length := by simp [tars]
theorem tars_at {ts : List TRow} {i : Nat} {r : TRow} (h : ts[i]? = some r) : (tars ts)[i]? = some ⟨r.xs, r.h, r.e⟩ := by simp [tars, h, tarOf]
namespace SlT
variable {w w' : World} {B B' : Nat} {A : Option Addr} {n : Nat} {ts : List TRow}
theorem len (h : SlT w B A n ts) : ts.length = n := h.1.len
theorem below (h : SlT w B A n ts) (hb : Below B w w') : SlT w' B A n ts := ⟨h.1.below hb, fun r hr => (h.2 r hr).below hb⟩
theorem keep (h : SlT w B A n ts) (hk : ∀ p : Addr, p.block < B → w'.cell? p = w.cell? p) : SlT w' B A n ts := ⟨h.1.keep hk, fun r hr => (h.2 r hr).keep hk⟩
theorem more (h : SlT w B A n ts) (hB : B ≤ B') : SlT w B' A n ts := ⟨h.1.more hB, fun r hr => (h.2 r hr).more hB⟩
theorem row (h : SlT w B A n ts) {i : Nat} (hi : i < n) :
    ∃ Ai ni ci xi hi ei b off, Hid (ts[i]? = some ⟨Ai, ni, ci, xi, hi, ei⟩) ∧ A = some ⟨b, off, none⟩ ∧ b < B ∧ w.cell? ⟨b, off + i * 3, none⟩ = some (.slice Ai ni ci) ∧ w.cell? ⟨b, off + i * 3 + 1, none⟩ = some (.int .i64 hi) ∧ w.cell? ⟨b, off + i * 3 + 2, none⟩ = some (.int .i64 ei) ∧ Sl w B 2 encStep Ai ni xi := by
  obtain ⟨⟨Ai, ni, ci, xi, hi', ei⟩, b, off, hx, e, hb, hc⟩ := h.1.at_ hi
  exact ⟨Ai, ni, ci, xi, hi', ei, b, off, hx, e, hb, hc 0 _ rfl, hc 1 _ rfl, hc 2 _ rfl, h.2 _ (List.mem_of_getElem? hx)⟩
end SlT
def totT (ts : List TRow) : Nat := (ts.map TRow.n).sum
theorem totT_take {ts : List TRow} {k : Nat} {r : TRow} (h : ts[k]? = some r) : totT (ts.take (k + 1)) = totT (ts.take k) + r.n := by
  rw [take_at h]; simp [totT]
theorem totT_le {ts : List TRow} {k : Nat} : totT (ts.take k) ≤ totT ts := by
  induction ts generalizing k with
  | nil => simp
  | cons x l ih =>
    cases k with
    | zero => simp [totT]
    | succ k =>
      have := @ih k
      simp only [totT, List.take_succ_cons, List.map_cons, List.sum_cons] at this ⊢
      omega
theorem totT_mem {ts : List TRow} {r : TRow} (h : r ∈ ts) : r.n ≤ totT ts := by
  induction ts with
  | nil => simp at h
  | cons x l ih =>
    simp only [totT, List.map_cons, List.sum_cons]
    rcases List.mem_cons.1 h with rfl | h
    · omega
    · have := ih h
      simp only [totT] at this
      omega
theorem tars_eq {ts ts' : List TRow} (hl : ts'.length = ts.length) (h : ∀ (i : Nat) (r r' : TRow), ts[i]? = some r → ts'[i]? = some r' → r'.xs = r.xs ∧ r'.h = r.h ∧ r'.e = r.e) : tars ts' = tars ts := by
  apply List.ext_getElem
  · simp [tars, hl]
  · intro i h1 h2
    simp only [tars, List.length_map] at h1 h2
    simp only [tars, List.getElem_map, tarOf]
    obtain ⟨g1, g2, g3⟩ := h i _ _ (List.getElem?_eq_getElem h2) (List.getElem?_eq_getElem h1)
    rw [g1, g2, g3]
theorem szStep_z (left : Int) (n : Nat) : szStep left n = if left < n then -1 else left - n := rfl

theorem open_Tariffs {H : Type} {enc : TypeId × Value → H} {W : World} {base : Nat} {v : Value} {d : DataW H} {p : List MemPlace} (hv : Value.okWide Try.prog W .any base 34 v)
    (h : DataW.Trod enc Try.prog W 0 (fun _ => true) true 34 v d p) : ∃ A n c ts, v = .slice A n c ∧ n ≤ 9223372036854775807 ∧ SlT W W.heap.size A n ts ∧ ∀ r ∈ ts, r.n ≤ 9223372036854775807 := by
  obtain ⟨a0, len, cap, rfl⟩ := okWide_slice Try.underlying34 hv
  obtain ⟨fuel, hf⟩ := h
  rcases open_slice_fields Try.underlying34 Try.underlying24 (by kernel_rfl) (by kernel_rfl) hf with ⟨hcs, _⟩ | ⟨a, len', cap', m, D, Pl, hcs, _, hl, hm, hmm, _, hi⟩
  · simp [Value.cells] at hcs
    obtain ⟨rfl, rfl, rfl⟩ := hcs
    exact ⟨_, _, _, [], rfl, by omega, ⟨⟨rfl, fun i x hx => by simp at hx⟩, fun r hr => by simp at hr⟩, fun r hr => by simp at hr⟩
  · simp [Value.cells] at hcs
    obtain ⟨rfl, rfl, rfl⟩ := hcs
    obtain ⟨b, off, sp⟩ := a
    have hrow : ∀ i, i < len → ∃ Ai ni ci xi z1 z2, W.cell? ((⟨b, off, sp⟩ : Addr).add (i * 3)) = some (.slice Ai ni ci) ∧ W.cell? ((⟨b, off, sp⟩ : Addr).add (i * 3 + 1)) = some (.int .i64 z1) ∧ W.cell? ((⟨b, off, sp⟩ : Addr).add (i * 3 + 2)) = some (.int .i64 z2) ∧ ni ≤ 9223372036854775807 ∧ Sl W W.heap.size 2 encStep Ai ni xi := by
      intro i hil
      obtain ⟨ys, nf, _, _, _, hf⟩ := hi i (by rw [hmm]; simp; omega)
      obtain ⟨v0, y0, c0, _, t0⟩ := hf 0 _ rfl
      obtain ⟨v1, y1, c1, _, t1⟩ := hf 1 _ rfl
      obtain ⟨v2, y2, c2, _, t2⟩ := hf 2 _ rfl
      obtain ⟨A, n, c, xs, e0, hn, hx⟩ := open_StepS rfl t0
      obtain ⟨z1, e1, _, _⟩ := DataW.trod_int Try.underlying2 t1
      obtain ⟨z2, e2, _, _⟩ := DataW.trod_int Try.underlying2 t2
      simp only [List.cons.injEq, and_true] at e0 e1 e2
      subst e0 e1 e2
      exact ⟨A, n, c, xs, z1, z2, c0, c1, c2, hn, hx⟩
    rcases Nat.eq_zero_or_pos len with h0 | h0
    · subst h0
      exact ⟨_, _, _, [], rfl, by omega, ⟨⟨rfl, fun i x hx => by simp at hx⟩, fun r hr => by simp at hr⟩, fun r hr => by simp at hr⟩
    · obtain ⟨_, _, _, _, _, _, c0, _⟩ := hrow 0 h0
      have hsp := spot_none (b := b) (o := off) (s := sp) (by simpa [Addr.add] using c0)
      subst hsp
      have hall : ∃ ts : List TRow, ts.length = len ∧ ∀ (i : Nat) (r : TRow), ts[i]? = some r → W.cell? ((⟨b, off, none⟩ : Addr).add (i * 3)) = some (.slice r.A r.n r.c) ∧ W.cell? ((⟨b, off, none⟩ : Addr).add (i * 3 + 1)) = some (.int .i64 r.h) ∧ W.cell? ((⟨b, off, none⟩ : Addr).add (i * 3 + 2)) = some (.int .i64 r.e) ∧ r.n ≤ 9223372036854775807 ∧ Sl W W.heap.size 2 encStep r.A r.n r.xs := by
        clear hf hi
        have key : ∀ k, k ≤ len → ∃ ts : List TRow, ts.length = k ∧ ∀ (i : Nat) (r : TRow), ts[i]? = some r → W.cell? ((⟨b, off, none⟩ : Addr).add (i * 3)) = some (.slice r.A r.n r.c) ∧ W.cell? ((⟨b, off, none⟩ : Addr).add (i * 3 + 1)) = some (.int .i64 r.h) ∧ W.cell? ((⟨b, off, none⟩ : Addr).add (i * 3 + 2)) = some (.int .i64 r.e) ∧ r.n ≤ 9223372036854775807 ∧ Sl W W.heap.size 2 encStep r.A r.n r.xs := by
          intro k
          induction k with
          | zero => exact fun _ => ⟨[], rfl, fun i r h => by simp at h⟩
          | succ k ih =>
            intro hk
            obtain ⟨ts, hl', ht⟩ := ih (by omega)
            obtain ⟨Ai, ni, ci, xi, z1, z2, g1, g2, g3, g4, g5⟩ := hrow k (by omega)
            refine ⟨ts ++ [⟨Ai, ni, ci, xi, z1, z2⟩], by simp [hl'], fun i r hr => ?_⟩
            rw [List.getElem?_append] at hr
            split at hr
            · exact ht i r hr
            · have hi0 : i - ts.length = 0 := by have := (List.getElem?_eq_some_iff.1 hr).1; simpa using this
              rw [hi0] at hr
              simp only [List.getElem?_cons_zero, Option.some.injEq] at hr
              subst hr
              obtain rfl : i = k := by omega
              exact ⟨g1, g2, g3, g4, g5⟩
        exact key len (Nat.le_refl _)
      obtain ⟨ts, htl, ht⟩ := hall
      refine ⟨_, len, cap, ts, rfl, by unfold maxLen at hm; omega, ⟨⟨htl, fun i r hr => ?_⟩, fun r hr => ?_⟩, fun r hr => ?_⟩
      · obtain ⟨g1, g2, g3, _, _⟩ := ht i r hr
        rw [Addr.add_lit] at g1 g2 g3
        refine ⟨b, off, rfl, World.block_lt_of_cell? _ _ g1, fun j u hj => ?_⟩
        match j, hj with
        | 0, hj => simp [encTR] at hj; subst hj; simpa using g1
        | 1, hj => simp [encTR] at hj; subst hj; simpa [Nat.add_assoc] using g2
        | 2, hj => simp [encTR] at hj; subst hj; simpa [Nat.add_assoc] using g3
      · obtain ⟨i, hi', rfl⟩ := List.getElem_of_mem hr
        exact (ht i _ (List.getElem?_eq_getElem hi')).2.2.2.2
      · obtain ⟨i, hi', rfl⟩ := List.getElem_of_mem hr
        exact (ht i _ (List.getElem?_eq_getElem hi')).2.2.2.1
theorem szTariffS_any (A : Option Addr) (n c : Nat) (ts : List TRow) (left : Int) (w : World) (B : Nat) (hB : B ≤ w.heap.size) (hn : n ≤ 9223372036854775807) (h0 : 0 ≤ left) (h1 : left ≤ 1048576) (hx : SlT w B A n ts) (hr : ∀ r ∈ ts, r.n ≤ 9223372036854775807) :
    Calls Try.prog 11 #[.slice A n c, .int .i64 left] w fun e w' => e = .returned (.int .i64 (szStep left (n + totT ts))) ∧ Below w.heap.size w w' := by
  have hl := hx.len
  by_cases hb : left < n
  · have E : szStep left (n + totT ts) = -1 := by unfold szStep; rw [if_pos (by omega)]
    rw [E]
    clear hx hr E
    go_enter Try.func11, Try.ntmps11
    go_wp2
    go_ret
    exact ⟨rfl, Below.refl _ _⟩
  · go_enter Try.func11, Try.ntmps11
    go_wp2
    go_loopw [1, 5] (fun s i w1 => ∃ (k : Nat) (z : Int), k ≤ n ∧ i = .int .i64 k ∧ s = .int .i64 z ∧ Hid (z = left - n - totT (ts.take k)) ∧ 0 ≤ z ∧ z ≤ left ∧ Below w.heap.size w w1) (fun _ i _ => n - (intOf i).toNat)
    case atStart => exact ⟨0, left - n, Nat.zero_le _, rfl, by go_num, by simp [Hid, totT], by omega, by omega, Below.refl _ _⟩
    case round =>
      obtain ⟨k, z, hk, rfl, rfl, hz, hz0, hz1, hbw⟩ := hrel
      by_cases hlt : k < n
      · obtain ⟨Ai, ni, ci, xi, ah, ae, b, off, Hx, rfl, hbB, c0, c1, c2, hxi⟩ := (hx.below (hbw.mono hB)).row hlt
        have hni := hr _ (List.mem_of_getElem? Hx.out)
        simp only at hni
        have ht := totT_take Hx.out
        have hle := totT_le (ts := ts) (k := k + 1)
        simp only at ht
        have Ht := hid ht
        have Hle := hid hle
        clear ht hle hx hr
        have hs := fun W => szTariff_any Ai ni ci ah ae z W hni hz0 (by omega)
        by_cases hq : z < ni
        · have E : Hid (szStep left (n + totT ts) = -1) := by unfold Hid szStep; rw [if_pos]; have := Ht.out; have := Hle.out; have := hz.out; omega
          have E2 : szStep z ni = -1 := by unfold szStep; rw [if_pos hq]
          rw [E2] at hs
          clear E2
          go_wp2_with fail
          refine (hs _).mono ?_
          rintro e w1 ⟨rfl, b1⟩
          have b2 := hbw.trans (b1.mono hbw.size)
          clear b1
          go_wp2_with fail
          go_ret
          exact ⟨retI E.out.symm, b2⟩
        · have E2 : szStep z ni = z - ni := by unfold szStep; rw [if_neg hq]
          rw [E2] at hs
          clear E2
          have E3 : Hid (z - ni = left - n - totT (ts.take (k + 1))) := by have := Ht.out; have := hz.out; unfold Hid; omega
          go_wp2_with fail
          refine (hs _).mono ?_
          rintro e w1 ⟨rfl, b1⟩
          have b2 := hbw.trans (b1.mono hbw.size)
          clear b1
          go_wp2_with fail
          go_roundw
          all_goals first | exact ⟨k + 1, z - ni, by omega, by go_num, rfl, E3, by omega, by omega, b2⟩ | exact ⟨⟨k + 1, z - ni, by omega, by go_num, rfl, E3, by omega, by omega, b2⟩, by simp [intOf]; omega⟩ | (simp [intOf]; omega)
      · have : k = n := by omega
        subst this
        rw [List.take_of_length_le (by omega)] at hz
        have E : Hid (szStep left (k + totT ts) = z) := by unfold Hid szStep; have := hz.out; rw [if_neg (by omega)]; omega
        clear hx hr hz
        go_wp2
        go_ret
        exact ⟨retI E.out.symm, hbw⟩
theorem Tariff_info : (Try.prog.info? 30).map (fun i => (i.zero, i.size, i.bytes)) = some (some (.agg #[.slice none 0 0, .int .i64 0, .int .i64 0]), 3, 40) := by kernel_rfl
set_option maxHeartbeats 1000000 in
theorem toTariffS_any (A : Option Addr) (n c : Nat) (ts : List TRow) (w : World) (B : Nat) (hB : B ≤ w.heap.size) (hn : n + totT ts ≤ 2000000) (hx : SlT w B A n ts) :
    Calls Try.prog 13 #[.slice A n c] w fun e w' => ∃ g ts', e = .returned (.slice (some ⟨g, 0, none⟩) n n) ∧ SlT w' w'.heap.size (some ⟨g, 0, none⟩) n ts' ∧ tars ts' = tars ts ∧ totT ts' = totT ts ∧ Below w.heap.size w w' := by
  obtain ⟨i0, hi, hz0, hz1, hz2⟩ := info_parts Tariff_info
  have hmk : ∀ u : World, (Instr.makeSlice 39 (.int .i64 (n : Int)) (.int .i64 (n : Int))).run Try.prog u =
      .ok (.slice (some ⟨u.heap.size, 0, none⟩) n n) (u.alloc (.cells (madeCells #[.slice none 0 0, .int .i64 0, .int .i64 0] (n * 3)) 30)) := fun u => by
    have h := run_make (P := Try.prog) u 39 30 i0 _ Try.underlying39 hi hz0 .i64 .i64 (n : Int) (n : Int) (by omega) (Int.le_refl _) (by rw [hz2]; omega) (by omega)
    simpa [hz1, Value.cells] using h
  clear hi hz0 hz1 hz2
  have hown0 : ((w.alloc (.cells (madeCells #[.slice none 0 0, .int .i64 0, .int .i64 0] (n * 3)) 30))).ownsRow w.heap.size 30 3 (.slice (some ⟨w.heap.size, 0, none⟩) n n) n (madeCells #[.slice none 0 0, .int .i64 0, .int .i64 0] (n * 3)).toList :=
    World.ownsRow_lit w _ n (Nat.le_refl _) (by simp only [maxLen]; omega) (size_madeCells _ _)
  have hlr := hx.len
  go_enter Try.func13, Try.ntmps13
  go_wp2
  go_loopw [4] (fun i w1 => ∃ (k : Nat) (l : List Value) (ts' : List TRow), k ≤ n ∧ i = .int .i64 (k : Nat) ∧ ts'.length = k ∧ w1.ownsRow w.heap.size 30 3 (.slice (some ⟨w.heap.size, 0, none⟩) n n) n l ∧ Pre l (ts'.flatMap encTR) ∧
      Hid (∀ (i : Nat) (r : TRow), ts'[i]? = some r → (∃ r0 : TRow, ts[i]? = some r0 ∧ r.xs = r0.xs ∧ r.h = r0.h ∧ r.e = r0.e ∧ r.n = r0.n) ∧ w1.ownsRow (w.heap.size + 1) 56 2 (.slice r.A r.n r.c) r.n (r.xs.flatMap encStep)) ∧
      Below w.heap.size w w1 ∧ w.heap.size + 1 ≤ w1.heap.size) (fun i _ => n - (intOf i).toNat)
  case atStart => exact ⟨0, _, [], Nat.zero_le _, rfl, rfl, hown0, Pre.nil _, fun i r h => by simp at h, (Below.refl _ _).alloc (Nat.le_refl _) _, by simp⟩
  case round =>
    obtain ⟨k, l, ts', hk, rfl, hl', hown, hpre, hin, hb, hsz⟩ := hrel
    clear hown0 hmk
    by_cases hlt : k < n
    · obtain ⟨Ai, ni, ci, xi, ah, ae, b, off, Hx, rfl, hbB, c0, c1, c2, hxi⟩ := (hx.below (hb.mono hB)).row hlt
      have hni := totT_mem (List.mem_of_getElem? Hx.out)
      simp only at hni
      have f0 := fun W hB => (own_at (w' := W) hown hB (k * 3) (by omega)).2
      have e0 := fun W hB => (own_at (w' := W) hown hB (k * 3) (by omega)).1
      have f1 := fun W hB => (own_at (w' := W) hown hB (k * 3 + 1) (by omega)).2
      have e1 := fun W hB => (own_at (w' := W) hown hB (k * 3 + 1) (by omega)).1
      have f2 := fun W hB => (own_at (w' := W) hown hB (k * 3 + 2) (by omega)).2
      have e2 := fun W hB => (own_at (w' := W) hown hB (k * 3 + 2) (by omega)).1
      go_wp2_with (go_at_call 8; refine (toTariff_any Ai ni ci xi ah ae _ B (Nat.le_trans hB hb.size) (by omega) hxi).mono ?_; rintro e w1 ⟨gi, rfl, oi, bi⟩; replace f0 := f0 _ bi; obtain ⟨v0, e0⟩ := e0 _ bi; replace f1 := f1 _ bi; obtain ⟨v1, e1⟩ := e1 _ bi; replace f2 := f2 _ bi; obtain ⟨v2, e2⟩ := e2 _ bi)
      go_roundw
      case measure => simp [intOf]; omega
      case rel =>
        have hP : (ts'.flatMap encTR).length = k * 3 := by rw [flatMap_len encTR_len, hl']
        have s1 := own_set (own_below hown bi) hpre (j := k * 3) hP.symm (by omega) (.slice (some ⟨gi, 0, none⟩) ni ni)
        have s2 := own_set s1.1 s1.2 (j := k * 3 + 1) (by simp [hP]) (by omega) (.int .i64 ah)
        have s3 := own_set s2.1 s2.2 (j := k * 3 + 2) (by simp [hP]) (by omega) (.int .i64 ae)
        have hgi := own_lt oi
        refine ⟨k + 1, _, ts' ++ [⟨some ⟨gi, 0, none⟩, ni, ni, xi, ah, ae⟩], by omega, by go_num, by simp [hl'], s3.1, ?_, ?_, ?_, ?_⟩
        · rw [List.flatMap_append]
          have := s3.2
          simpa [encTR] using this
        · intro i r hr
          rw [List.getElem?_append] at hr
          by_cases hik : i < ts'.length
          · rw [if_pos hik] at hr
            obtain ⟨h1, h2⟩ := hin.out i r hr
            refine ⟨h1, ?_⟩
            have hne : ∀ j, (Value.slice r.A r.n r.c).ownBlock ≠ some (⟨w.heap.size, j, none⟩ : Addr).block := fun j e => by have := (h2.lt _ e).1; simp only at this; omega
            exact ow_set (hne _) (ow_set (hne _) (ow_set (hne _) (own_below h2 bi)))
          · rw [if_neg hik] at hr
            have hi0 : i - ts'.length = 0 := by have := (List.getElem?_eq_some_iff.1 hr).1; simpa using this
            rw [hi0] at hr
            simp only [List.getElem?_cons_zero, Option.some.injEq] at hr
            subst hr
            obtain rfl : i = k := by omega
            refine ⟨⟨_, Hx.out, rfl, rfl, rfl, rfl⟩, ?_⟩
            have hne : ∀ j, (Value.slice (some ⟨gi, 0, none⟩) ni ni).ownBlock ≠ some (⟨w.heap.size, j, none⟩ : Addr).block := fun j e => by simp [Value.ownBlock] at e; omega
            exact ow_set (hne _) (ow_set (hne _) (ow_set (hne _) (oi.mono (by omega))))
        · have hb2 := hb.trans (bi.mono hb.size)
          repeat (first | with_reducible assumption | with_reducible exact Below.refl _ _ | with_reducible refine bl_drew ?_ | with_reducible refine bl_drewN ?_ | ((with_reducible refine bl_set ?_ ?_); focus (first | (simp; done) | (simp; omega) | omega)) | ((with_reducible refine bl_alloc ?_ ?_); focus (first | (simp; done) | (simp; omega) | omega)))
        · have := bi.size
          simp; omega
    · have : k = n := by omega
      subst this
      have hP : (ts'.flatMap encTR).length = k * 3 := by rw [flatMap_len encTR_len, hl']
      have e := hpre.all (by rw [hown.1, hP])
      subst e
      clear hpre hP
      go_wp2
      go_ret
      refine ⟨_, ts', rfl, ⟨own_sl encTR_len (by omega) hown, fun r hr => ?_⟩, tars_eq (by omega) (fun i r r' h1 h2 => ?_), ?_, hb⟩
      · obtain ⟨i, hi', rfl⟩ := List.getElem_of_mem hr
        exact own_sl encStep_len (by omega) (hin.out i _ (List.getElem?_eq_getElem hi')).2
      · obtain ⟨⟨r0, h3, h4, h5, h6, _⟩, _⟩ := hin.out i r' h2
        rw [h1] at h3
        injection h3 with h3
        subst h3
        exact ⟨h4, h5, h6⟩
      · unfold totT
        congr 1
        apply List.ext_getElem
        · simp; omega
        · intro i h1 h2
          simp only [List.length_map] at h1 h2
          simp only [List.getElem_map]
          obtain ⟨⟨r0, h3, _, _, _, h4⟩, _⟩ := hin.out i _ (List.getElem?_eq_getElem h1)
          rw [List.getElem?_eq_getElem h2] at h3
          injection h3 with h3
          rw [h4, h3]
set_option maxHeartbeats 1000000 in
/-- two copies of one list are found equal -/
theorem eqTariffS_yes (A : Option Addr) (n c : Nat) (A' : Option Addr) (n' c' : Nat) (w : World) (B : Nat) (hB : B ≤ w.heap.size) (ts ts' : List TRow) (hn : n + totT ts ≤ 2000000) (hx : SlT w B A n ts) (hy : SlT w B A' n' ts') (he : tars ts' = tars ts) :
    Calls Try.prog 16 #[.slice A n c, .slice A' n' c'] w fun e w' => e = .returned (.bool true) ∧ Below w.heap.size w w' := by
  have hl := hx.len
  have hl' := hy.len
  obtain rfl : n = n' := by have := congrArg List.length he; simp only [tars, List.length_map] at this; omega
  have He := hid he
  clear he
  go_enter Try.func16, Try.ntmps16
  go_wp2
  go_loopw [5] (fun i w1 => ∃ k : Nat, k ≤ n ∧ i = .int .i64 k ∧ Below w.heap.size w w1) (fun i _ => n - (intOf i).toNat)
  case atStart => exact ⟨0, Nat.zero_le _, rfl, Below.refl _ _⟩
  case round =>
    obtain ⟨k, hk, rfl, hb⟩ := hrel
    by_cases hlt : k < n
    · obtain ⟨Ai, ni, ci, xi, ah, ae, b, off, Hx, rfl, hbB, c0, c1, c2, hxi⟩ := (hx.below (hb.mono hB)).row hlt
      obtain ⟨Ai', ni', ci', xi', ah', ae', b', off', Hy, rfl, hbB', d0, d1, d2, hyi⟩ := (hy.below (hb.mono hB)).row hlt
      obtain ⟨rfl, rfl, rfl⟩ : xi' = xi ∧ ah' = ah ∧ ae' = ae := by
        have h1 := tars_at Hx.out
        have h2 := tars_at Hy.out
        rw [He.out, h1] at h2
        simp only [Option.some.injEq, Tariff.mk.injEq] at h2
        exact ⟨h2.1.symm, h2.2.1.symm, h2.2.2.symm⟩
      have hni := totT_mem (List.mem_of_getElem? Hx.out)
      simp only at hni
      have hBr := Nat.le_trans hB hb.size
      have i0 : (0 : Int) ≤ (k : Int) := by omega
      have i1 : (k : Int) < (n : Int) := by omega
      have hxd : Sl wr.drew B 2 encStep Ai ni xi' := hxi.keep fun _ _ => rfl
      have hyd : Sl wr.drew B 2 encStep Ai' ni' xi' := hyi.keep fun _ _ => rfl
      have hBd : B ≤ wr.drew.heap.size := hBr
      clear hx hy hxi hyi
      go_wp2_with fail
      go_region_held3 (fun W => W.cell? ⟨b, off + k * 3, none⟩ = some (.slice Ai ni ci) ∧ W.cell? ⟨b, off + k * 3 + 1, none⟩ = some (.int .i64 ah') ∧ W.cell? ⟨b, off + k * 3 + 2, none⟩ = some (.int .i64 ae') ∧ W.cell? ⟨b', off' + k * 3, none⟩ = some (.slice Ai' ni' ci') ∧ W.cell? ⟨b', off' + k * 3 + 1, none⟩ = some (.int .i64 ah') ∧ W.cell? ⟨b', off' + k * 3 + 2, none⟩ = some (.int .i64 ae'))
        (first
          | go_keep
          | (go_split_ands; exact ⟨below_cell (by assumption) b5, below_cell (by assumption) b5, below_cell (by assumption) b5, below_cell (by assumption) b5, below_cell (by assumption) b5, below_cell (by assumption) b5⟩))
        (first
          | (go_at_call 10; with_reducible refine (eqTariff_yes Ai ni ci Ai' ni' ci' xi' ah' ae' _ B hBd (by omega) hxd hyd).mono ?_; rintro r w5 ⟨rfl, b5⟩))
      have hb2 := hb.trans (((Below.refl _ _).drew.trans b5).mono hb.size)
      go_wp2_with fail
      go_roundw
      all_goals first | exact ⟨k + 1, by omega, by go_num, hb2⟩ | exact ⟨⟨k + 1, by omega, by go_num, hb2⟩, by simp [intOf]; omega⟩ | (simp [intOf]; omega)
    · go_wp2
      go_ret
      exact ⟨rfl, hb⟩
end Go.Proofs.Ytbgpdaclaknapaa
