/-
  Schemes: a copy of one's own (the reference's). No condition.
-/
import Derived.Test.YtmanbpobdaamfaaSDrop
import Derived.Deep.RegionHeldLaw
namespace Go.Proofs.Ytmanbpobdaamfaa
open Go.RowKit
set_option maxHeartbeats 400000

theorem heap_drew {w : World} {o : Obj} {k : Nat} (h : w.heap[k]? = some o) : w.drew.heap[k]? = some o := h
theorem heap_new {w : World} {o : Obj} {k : Nat} (h : k = w.heap.size) : (w.alloc o).heap[k]? = some o := by subst h; exact heap_alloc_new w o
theorem heap_old {w : World} {o : Obj} {k : Nat} (h : k < w.heap.size) : (w.alloc o).heap[k]? = w.heap[k]? := heap_alloc_old w o h
theorem heap_below {w w' : World} {k : Nat} {o : Obj} (hb : Below w.heap.size w w') (h : w.heap[k]? = some o) : w'.heap[k]? = some o := by
  rw [hb.block k (by rcases Nat.lt_or_ge k w.heap.size with h1 | h1; exact h1; rw [Array.getElem?_eq_none h1] at h; cases h)]
  exact h
/-- append onto an empty slice without room, at a step of a region that draws its order -/
theorem step_append_empty {P : Program} {w : World} {ops : Array Oper} {o : Oper} {a : Act} {K : Act → World → Prop} {Q : Exit → Act → World → Prop} {E : Prop} (hgd : o.guard = none) (s x : Operand) (t : TypeId)
    (ho : o.op = .call { callee := .builtin .append, args := #[s, x], argTypes := #[t, t] })
    (base : Nat) (e : TypeId) (i : TypeInfo) (z : Value) (size bytes : Nat) (ht : P.underlying t = some (.slice e)) (hi : P.info? e = some i) (hz : i.zero = some z)
    (hsize : i.size = size) (hby : i.bytes = bytes) (hzs : z.cells.size = size) (hsz : 0 < size)
    (q : Nat) (hs : a.eval s = .slice (some ⟨q, 0, none⟩) 0 0) (hq : w.heap[q]? = some (.cells #[] e (0, 0))) (hbq : base ≤ q)
    (X : Option Addr) (m c : Nat) (news : List Value) (hx : a.eval x = .slice X m c) (hl : news.length = m * size) (hnews : (X = none → m = 0) ∧ ∀ ad, X = some ad → ∀ j u, news[j]? = some u → w.cell? (ad.add j) = some u) (h1 : ∀ u ∈ news, u.oneCell' = true)
    (h63 : m ≤ maxLen) (hbytes : m * bytes ≤ 140737488355328) (hbase : base ≤ w.heap.size)
    (h : ∀ A c' w', w'.ownsRow base e size (.slice A m c') m news → Below w.heap.size w w' → (∀ q', obA A = some q' → (q' = q ∨ q' = w.heap.size) ∧ q' < w'.heap.size) → K (a.put o.dst (.slice A m c')) w') :
    if Region.wanted o (yielded ops a.tmps) = true then Oper.wp P o a w K Q else E := by
  have hw : Region.wanted o (yielded ops a.tmps) = true := by simp [Region.wanted, hgd]
  rw [if_pos hw]
  subst hsize
  subst hby
  have ho0 : w.ownsRow base e i.size (.slice (some ⟨q, 0, none⟩) 0 0) 0 [] := ⟨by simp, .inr ⟨q, 0, #[], rfl, hbq, hq, Nat.le_refl _, by simp, by simp, by simp⟩⟩
  have hql : q < w.heap.size := by
    rcases Nat.lt_or_ge q w.heap.size with h1 | h1
    · exact h1
    · rw [Array.getElem?_eq_none h1] at hq; cases hq
  have key : ∃ A c' w', (Builtin.append_ #[t, t] o.type #[.slice (some ⟨q, 0, none⟩) 0 0, .slice X m c]).run P w = .ok (.slice A m c') w' ∧
      w'.ownsRow base e i.size (.slice A m c') m news ∧ Below w.heap.size w w' ∧ (∀ q', obA A = some q' → (q' = q ∨ q' = w.heap.size) ∧ q' < w'.heap.size) := by
    by_cases hm : m = 0
    · subst hm
      have hn : news = [] := List.eq_nil_of_length_eq_zero (by simpa using hl)
      subst hn
      refine ⟨some ⟨q, 0, none⟩, 0, w, ?_, ho0, Below.refl _ _, ?_⟩
      · cases X <;> simp [Builtin.append_, run_underlying ht, sizeOf, typeInfo, hi, Builtin.lenOf, Builtin.firstCells, loadCells, loadCellsFrom, storeCells]
      · intro q' hq'
        have : q = q' := by simpa [obA] using hq'
        subst this
        exact ⟨.inl rfl, hql⟩
    · obtain ⟨ad, rfl⟩ : ∃ ad, X = some ad := by
        cases X with
        | none => exact absurd (hnews.1 rfl) hm
        | some ad => exact ⟨ad, rfl⟩
      have hnews := hnews.2 ad rfl
      have hr := run_append_grow (P := P) w t o.type e i z ht hi hz ⟨q, 0, none⟩ 0 0 [] (by simp) (by simp) ad m c news hl hnews (by omega) (by simp only [maxLen] at h63; omega) (growslice_fits (by omega) (by simpa using hbytes))
      simp only [Nat.zero_add] at hr
      have hge := grownCap_ge w m 0 e
      have hcm : grownCap w m 0 e ≤ maxLen := grownCap_le_maxLen w m 0 e h63
      refine ⟨_, _, _, hr, ⟨hl, .inr ⟨w.heap.size, _, _, rfl, hbase, heap_alloc_new w.drew _, hge, hcm, ?_, ?_⟩⟩, ((Below.refl _ _).drew).alloc (by simp) _, ?_⟩
      · simp only [Array.size_append, List.size_toArray, size_zeroCells, hzs, hl, List.length_nil, Nat.zero_add, ← Nat.add_mul]
        congr 1
        omega
      · simp only [Array.toList_append, List.nil_append]
        rw [← hl]
        simp
      · intro q' hq'
        have : w.heap.size = q' := by simpa [obA] using hq'
        subst this
        exact ⟨.inr rfl, by simp⟩
  obtain ⟨A, c', w', hr, h2, h3, h4⟩ := key
  unfold Oper.wp execOp
  simp only [ho, resolve, invoke, builtin, Sem.run_bind, Sem.run_pure, Result.andThen_ok, List.map_toArray, List.map_cons, List.map_nil, hs, hx, hr]
  exact h A c' w' h2 h3 h4
theorem news_strs {w : World} {B n : Nat} {X : Option Addr} {xs : List ByteArray} (hx : Sl w B 1 encS X n xs) : (X = none → n = 0) ∧ ∀ ad, X = some ad → ∀ (j : Nat) (u : Value), (xs.flatMap encS)[j]? = some u → w.cell? (ad.add j) = some u := by
  have hl := hx.len
  cases xs with
  | nil => exact ⟨fun _ => (by simpa using hl.symm), fun ad _ j u hj => (by simp at hj)⟩
  | cons a r =>
    obtain ⟨b, off, e, _, _⟩ := hx.2 0 a rfl
    subst e
    exact ⟨fun h => (by cases h), fun ad h => (by injection h with h; subst h; exact news_of_strs hx)⟩
theorem news_ways {w : World} {B n : Nat} {X : Option Addr} {xs : List Way} (hx : Sl w B 3 encWay X n xs) : (X = none → n = 0) ∧ ∀ ad, X = some ad → ∀ (j : Nat) (u : Value), (xs.flatMap encWay)[j]? = some u → w.cell? (ad.add j) = some u := by
  have hl := hx.len
  cases xs with
  | nil => exact ⟨fun _ => (by simpa using hl.symm), fun ad _ j u hj => (by simp at hj)⟩
  | cons a r =>
    obtain ⟨b, off, e, _, _⟩ := hx.2 0 a rfl
    subst e
    exact ⟨fun h => (by cases h), fun ad h => (by injection h with h; subst h; exact news_of_ways hx)⟩
set_option maxHeartbeats 8000000 in
set_option maxRecDepth 100000 in
theorem l21Own_any (gx : Nat) (X1 X2 X3 : Option Addr) (n1 c1 n2 c2 n3 c3 : Nat) (x : Sch) (w : World) (B : Nat) (hB : B ≤ w.heap.size) (hn1 : n1 ≤ 2000000) (hn2 : n2 ≤ 2000000) (hn3 : n3 ≤ 2000000) (hx : SlX w B ⟨X1, n1, c1, X2, n2, c2, X3, n3, c3⟩ x)
    (k0 : w.cell? ⟨gx, 0, none⟩ = some (.slice X1 n1 c1)) (k1 : w.cell? ⟨gx, 1, none⟩ = some (.slice X2 n2 c2)) (k2 : w.cell? ⟨gx, 2, none⟩ = some (.slice X3 n3 c3)) :
    Calls Try.prog 38 #[.pointer (some ⟨gx, 0, none⟩)] w fun r w' => ∃ A1 d1 A2 d2 A3 d3, r = .returned (.agg #[.slice A1 n1 d1, .slice A2 n2 d2, .slice A3 n3 d3]) ∧ OwnX w' w.heap.size ⟨A1, n1, d1, A2, n2, d2, A3, n3, d3⟩ x ∧ Below w.heap.size w w' := by
  obtain ⟨i0, hi, hz0, hz1, hz2⟩ := info_parts str_info
  obtain ⟨j0, hj, hy0, hy1, hy2⟩ := info_parts Way_info
  have lg := World.block_lt_of_cell? _ _ k0
  simp only at lg
  obtain ⟨W0, hW0⟩ : ∃ W0, W0 = w.alloc (.cells #[.slice none 0 0, .slice none 0 0, .slice none 0 0] 29) := ⟨_, rfl⟩
  have b0 : Below w.heap.size w W0 := by rw [hW0]; exact (Below.refl _ _).alloc (Nat.le_refl _) _
  have d0 : W0.cell? ⟨w.heap.size, 0, none⟩ = some (.slice none 0 0) := by rw [hW0]; go_simp
  have d1 : W0.cell? ⟨w.heap.size, 1, none⟩ = some (.slice none 0 0) := by rw [hW0]; go_simp
  have d2 : W0.cell? ⟨w.heap.size, 2, none⟩ = some (.slice none 0 0) := by rw [hW0]; go_simp
  have f0 : W0.frozen? ⟨w.heap.size, 0, none⟩ = false := by rw [hW0]; go_simp
  have f1 : W0.frozen? ⟨w.heap.size, 1, none⟩ = false := by rw [hW0]; go_simp
  have f2 : W0.frozen? ⟨w.heap.size, 2, none⟩ = false := by rw [hW0]; go_simp
  have z0 : w.heap.size < W0.heap.size := World.block_lt_of_cell? _ _ d0
  have HW := hid hW0
  clear hW0
  have x1 := hx.st.below (b0.mono hB)
  have x2 := hx.rm.below (b0.mono hB)
  have x3 := hx.wy.below (b0.mono hB)
  simp only at x1 x2 x3
  have N1 := hid (fun (W : World) (h : Below W0.heap.size W0 W) => news_strs (x1.below (h.mono (Nat.le_trans hB b0.size))))
  have N2 := hid (fun (W : World) (h : Below W0.heap.size W0 W) => news_strs (x2.below (h.mono (Nat.le_trans hB b0.size))))
  have N3 := hid (fun (W : World) (h : Below W0.heap.size W0 W) => news_ways (x3.below (h.mono (Nat.le_trans hB b0.size))))
  have l1 : Hid ((x.st.flatMap encS).length = n1 * 1) := by rw [Hid, flatMap_len encS_len, x1.len]
  have l2 : Hid ((x.rm.flatMap encS).length = n2 * 1) := by rw [Hid, flatMap_len encS_len, x2.len]
  have l3 : Hid ((x.wy.flatMap encWay).length = n3 * 3) := by rw [Hid, flatMap_len encWay_len, x3.len]
  clear hx x1 x2 x3
  replace k0 := below_cell k0 b0
  replace k1 := below_cell k1 b0
  replace k2 := below_cell k2 b0
  have hcur : Below W0.heap.size W0 W0.drew := (Below.refl _ _).drew
  have kk0 := below_cell k0 hcur
  go_enter Try.func38, Try.ntmps38
  go_wp2_with fail
  rw [← HW.out]
  go_region_held_law? (fun W => W.cell? ⟨gx, 0, none⟩ = some (.slice X1 n1 c1) ∧ W.cell? ⟨gx, 1, none⟩ = some (.slice X2 n2 c2) ∧ W.cell? ⟨gx, 2, none⟩ = some (.slice X3 n3 c3))
    (first
      | (go_split_ands; exact ⟨below_cell k0 (by (first | exact hcur | exact hcur.alloc (by have h5 := hcur.size; first | exact h5 | omega | (simp; done) | (simp; omega)) _ | exact (hcur.alloc (by have h5 := hcur.size; first | exact h5 | omega | (simp; done) | (simp; omega)) _).alloc (by have h5 := hcur.size; first | exact h5 | omega | (simp; done) | (simp; omega)) _ | exact ((hcur.alloc (by have h5 := hcur.size; first | exact h5 | omega | (simp; done) | (simp; omega)) _).alloc (by have h5 := hcur.size; first | exact h5 | omega | (simp; done) | (simp; omega)) _).alloc (by have h5 := hcur.size; first | exact h5 | omega | (simp; done) | (simp; omega)) _)), below_cell k1 (by (first | exact hcur | exact hcur.alloc (by have h5 := hcur.size; first | exact h5 | omega | (simp; done) | (simp; omega)) _ | exact (hcur.alloc (by have h5 := hcur.size; first | exact h5 | omega | (simp; done) | (simp; omega)) _).alloc (by have h5 := hcur.size; first | exact h5 | omega | (simp; done) | (simp; omega)) _ | exact ((hcur.alloc (by have h5 := hcur.size; first | exact h5 | omega | (simp; done) | (simp; omega)) _).alloc (by have h5 := hcur.size; first | exact h5 | omega | (simp; done) | (simp; omega)) _).alloc (by have h5 := hcur.size; first | exact h5 | omega | (simp; done) | (simp; omega)) _)), below_cell k2 (by (first | exact hcur | exact hcur.alloc (by have h5 := hcur.size; first | exact h5 | omega | (simp; done) | (simp; omega)) _ | exact (hcur.alloc (by have h5 := hcur.size; first | exact h5 | omega | (simp; done) | (simp; omega)) _).alloc (by have h5 := hcur.size; first | exact h5 | omega | (simp; done) | (simp; omega)) _ | exact ((hcur.alloc (by have h5 := hcur.size; first | exact h5 | omega | (simp; done) | (simp; omega)) _).alloc (by have h5 := hcur.size; first | exact h5 | omega | (simp; done) | (simp; omega)) _).alloc (by have h5 := hcur.size; first | exact h5 | omega | (simp; done) | (simp; omega)) _))⟩)
      | (go_split_ands; exact ⟨(far3 (by simp only; omega)).trans (below_cell k0 hcur), (far3 (by simp only; omega)).trans (below_cell k1 hcur), (far3 (by simp only; omega)).trans (below_cell k2 hcur)⟩)
      | go_keep)
    (first
      | (refine step_append_empty (by rfl) _ _ _ (by rfl) W0.heap.size 9 i0 _ 1 16 Try.underlying22 hi hz0 hz1 hz2 rfl (by omega) _ (by rfl) (by ((try (first | (refine Fa _ _ ?_) | (refine Fb _ _ ?_) | (refine Fc _ _ ?_) | (refine heap_drew ?_) | (refine heap_new ?_; focus (simp; done)) | (refine (heap_old ?_).trans ?_; focus (first | omega | (simp; done) | (simp; omega))))); (try (first | (refine Fa _ _ ?_) | (refine Fb _ _ ?_) | (refine Fc _ _ ?_) | (refine heap_drew ?_) | (refine heap_new ?_; focus (simp; done)) | (refine (heap_old ?_).trans ?_; focus (first | omega | (simp; done) | (simp; omega))))); (try (first | (refine Fa _ _ ?_) | (refine Fb _ _ ?_) | (refine Fc _ _ ?_) | (refine heap_drew ?_) | (refine heap_new ?_; focus (simp; done)) | (refine (heap_old ?_).trans ?_; focus (first | omega | (simp; done) | (simp; omega))))); (try (first | (refine Fa _ _ ?_) | (refine Fb _ _ ?_) | (refine Fc _ _ ?_) | (refine heap_drew ?_) | (refine heap_new ?_; focus (simp; done)) | (refine (heap_old ?_).trans ?_; focus (first | omega | (simp; done) | (simp; omega))))); (try (first | (refine Fa _ _ ?_) | (refine Fb _ _ ?_) | (refine Fc _ _ ?_) | (refine heap_drew ?_) | (refine heap_new ?_; focus (simp; done)) | (refine (heap_old ?_).trans ?_; focus (first | omega | (simp; done) | (simp; omega))))); (try (first | (refine Fa _ _ ?_) | (refine Fb _ _ ?_) | (refine Fc _ _ ?_) | (refine heap_drew ?_) | (refine heap_new ?_; focus (simp; done)) | (refine (heap_old ?_).trans ?_; focus (first | omega | (simp; done) | (simp; omega))))))) (by have h5 := hcur.size; first | omega | (simp; done) | (simp; omega)) X1 n1 c1 (x.st.flatMap encS) (by rfl) l1.out (N1.out _ (by (first | exact hcur | exact hcur.alloc (by have h5 := hcur.size; first | exact h5 | omega | (simp; done) | (simp; omega)) _ | exact (hcur.alloc (by have h5 := hcur.size; first | exact h5 | omega | (simp; done) | (simp; omega)) _).alloc (by have h5 := hcur.size; first | exact h5 | omega | (simp; done) | (simp; omega)) _ | exact ((hcur.alloc (by have h5 := hcur.size; first | exact h5 | omega | (simp; done) | (simp; omega)) _).alloc (by have h5 := hcur.size; first | exact h5 | omega | (simp; done) | (simp; omega)) _).alloc (by have h5 := hcur.size; first | exact h5 | omega | (simp; done) | (simp; omega)) _))) (one_encS _) (by simp only [maxLen]; omega) (by omega) (by have h5 := hcur.size; first | omega | (simp; done) | (simp; omega)) ?_; intro Aa da wa oa ha ma; have Fa := fun k o => heap_below (k := k) (o := o) ha; (try replace ob := own_below (by (first | exact ob | exact ob.alloc _ | exact (ob.alloc _).alloc _ | exact ((ob.alloc _).alloc _).alloc _)) ha); (try replace oc := own_below (by (first | exact oc | exact oc.alloc _ | exact (oc.alloc _).alloc _ | exact ((oc.alloc _).alloc _).alloc _)) ha); replace hcur : Below W0.heap.size W0 wa := Below.trans (by (first | exact hcur | exact hcur.alloc (by have h5 := hcur.size; first | exact h5 | omega | (simp; done) | (simp; omega)) _ | exact (hcur.alloc (by have h5 := hcur.size; first | exact h5 | omega | (simp; done) | (simp; omega)) _).alloc (by have h5 := hcur.size; first | exact h5 | omega | (simp; done) | (simp; omega)) _ | exact ((hcur.alloc (by have h5 := hcur.size; first | exact h5 | omega | (simp; done) | (simp; omega)) _).alloc (by have h5 := hcur.size; first | exact h5 | omega | (simp; done) | (simp; omega)) _).alloc (by have h5 := hcur.size; first | exact h5 | omega | (simp; done) | (simp; omega)) _)) (ha.mono (by have h5 := hcur.size; first | omega | (simp; done) | (simp; omega))); have ya := hcur.size; have za := ha.size; (try simp at za); have e0 := below_cell d0 hcur; have e1 := below_cell d1 hcur; have e2 := below_cell d2 hcur; have g0 := below_frz d0 f0 hcur; have g1 := below_frz d1 f1 hcur; have g2 := below_frz d2 f2 hcur; clear ha)
      | (refine step_append_empty (by rfl) _ _ _ (by rfl) W0.heap.size 9 i0 _ 1 16 Try.underlying22 hi hz0 hz1 hz2 rfl (by omega) _ (by rfl) (by ((try (first | (refine Fa _ _ ?_) | (refine Fb _ _ ?_) | (refine Fc _ _ ?_) | (refine heap_drew ?_) | (refine heap_new ?_; focus (simp; done)) | (refine (heap_old ?_).trans ?_; focus (first | omega | (simp; done) | (simp; omega))))); (try (first | (refine Fa _ _ ?_) | (refine Fb _ _ ?_) | (refine Fc _ _ ?_) | (refine heap_drew ?_) | (refine heap_new ?_; focus (simp; done)) | (refine (heap_old ?_).trans ?_; focus (first | omega | (simp; done) | (simp; omega))))); (try (first | (refine Fa _ _ ?_) | (refine Fb _ _ ?_) | (refine Fc _ _ ?_) | (refine heap_drew ?_) | (refine heap_new ?_; focus (simp; done)) | (refine (heap_old ?_).trans ?_; focus (first | omega | (simp; done) | (simp; omega))))); (try (first | (refine Fa _ _ ?_) | (refine Fb _ _ ?_) | (refine Fc _ _ ?_) | (refine heap_drew ?_) | (refine heap_new ?_; focus (simp; done)) | (refine (heap_old ?_).trans ?_; focus (first | omega | (simp; done) | (simp; omega))))); (try (first | (refine Fa _ _ ?_) | (refine Fb _ _ ?_) | (refine Fc _ _ ?_) | (refine heap_drew ?_) | (refine heap_new ?_; focus (simp; done)) | (refine (heap_old ?_).trans ?_; focus (first | omega | (simp; done) | (simp; omega))))); (try (first | (refine Fa _ _ ?_) | (refine Fb _ _ ?_) | (refine Fc _ _ ?_) | (refine heap_drew ?_) | (refine heap_new ?_; focus (simp; done)) | (refine (heap_old ?_).trans ?_; focus (first | omega | (simp; done) | (simp; omega))))))) (by have h5 := hcur.size; first | omega | (simp; done) | (simp; omega)) X2 n2 c2 (x.rm.flatMap encS) (by rfl) l2.out (N2.out _ (by (first | exact hcur | exact hcur.alloc (by have h5 := hcur.size; first | exact h5 | omega | (simp; done) | (simp; omega)) _ | exact (hcur.alloc (by have h5 := hcur.size; first | exact h5 | omega | (simp; done) | (simp; omega)) _).alloc (by have h5 := hcur.size; first | exact h5 | omega | (simp; done) | (simp; omega)) _ | exact ((hcur.alloc (by have h5 := hcur.size; first | exact h5 | omega | (simp; done) | (simp; omega)) _).alloc (by have h5 := hcur.size; first | exact h5 | omega | (simp; done) | (simp; omega)) _).alloc (by have h5 := hcur.size; first | exact h5 | omega | (simp; done) | (simp; omega)) _))) (one_encS _) (by simp only [maxLen]; omega) (by omega) (by have h5 := hcur.size; first | omega | (simp; done) | (simp; omega)) ?_; intro Ab db wb ob hb mb; have Fb := fun k o => heap_below (k := k) (o := o) hb; (try replace oa := own_below (by (first | exact oa | exact oa.alloc _ | exact (oa.alloc _).alloc _ | exact ((oa.alloc _).alloc _).alloc _)) hb); (try replace oc := own_below (by (first | exact oc | exact oc.alloc _ | exact (oc.alloc _).alloc _ | exact ((oc.alloc _).alloc _).alloc _)) hb); replace hcur : Below W0.heap.size W0 wb := Below.trans (by (first | exact hcur | exact hcur.alloc (by have h5 := hcur.size; first | exact h5 | omega | (simp; done) | (simp; omega)) _ | exact (hcur.alloc (by have h5 := hcur.size; first | exact h5 | omega | (simp; done) | (simp; omega)) _).alloc (by have h5 := hcur.size; first | exact h5 | omega | (simp; done) | (simp; omega)) _ | exact ((hcur.alloc (by have h5 := hcur.size; first | exact h5 | omega | (simp; done) | (simp; omega)) _).alloc (by have h5 := hcur.size; first | exact h5 | omega | (simp; done) | (simp; omega)) _).alloc (by have h5 := hcur.size; first | exact h5 | omega | (simp; done) | (simp; omega)) _)) (hb.mono (by have h5 := hcur.size; first | omega | (simp; done) | (simp; omega))); have yb := hcur.size; have zb := hb.size; (try simp at zb); have e0 := below_cell d0 hcur; have e1 := below_cell d1 hcur; have e2 := below_cell d2 hcur; have g0 := below_frz d0 f0 hcur; have g1 := below_frz d1 f1 hcur; have g2 := below_frz d2 f2 hcur; clear hb)
      | (refine step_append_empty (by rfl) _ _ _ (by rfl) W0.heap.size 54 j0 _ 3 40 Try.underlying27 hj hy0 hy1 hy2 rfl (by omega) _ (by rfl) (by ((try (first | (refine Fa _ _ ?_) | (refine Fb _ _ ?_) | (refine Fc _ _ ?_) | (refine heap_drew ?_) | (refine heap_new ?_; focus (simp; done)) | (refine (heap_old ?_).trans ?_; focus (first | omega | (simp; done) | (simp; omega))))); (try (first | (refine Fa _ _ ?_) | (refine Fb _ _ ?_) | (refine Fc _ _ ?_) | (refine heap_drew ?_) | (refine heap_new ?_; focus (simp; done)) | (refine (heap_old ?_).trans ?_; focus (first | omega | (simp; done) | (simp; omega))))); (try (first | (refine Fa _ _ ?_) | (refine Fb _ _ ?_) | (refine Fc _ _ ?_) | (refine heap_drew ?_) | (refine heap_new ?_; focus (simp; done)) | (refine (heap_old ?_).trans ?_; focus (first | omega | (simp; done) | (simp; omega))))); (try (first | (refine Fa _ _ ?_) | (refine Fb _ _ ?_) | (refine Fc _ _ ?_) | (refine heap_drew ?_) | (refine heap_new ?_; focus (simp; done)) | (refine (heap_old ?_).trans ?_; focus (first | omega | (simp; done) | (simp; omega))))); (try (first | (refine Fa _ _ ?_) | (refine Fb _ _ ?_) | (refine Fc _ _ ?_) | (refine heap_drew ?_) | (refine heap_new ?_; focus (simp; done)) | (refine (heap_old ?_).trans ?_; focus (first | omega | (simp; done) | (simp; omega))))); (try (first | (refine Fa _ _ ?_) | (refine Fb _ _ ?_) | (refine Fc _ _ ?_) | (refine heap_drew ?_) | (refine heap_new ?_; focus (simp; done)) | (refine (heap_old ?_).trans ?_; focus (first | omega | (simp; done) | (simp; omega))))))) (by have h5 := hcur.size; first | omega | (simp; done) | (simp; omega)) X3 n3 c3 (x.wy.flatMap encWay) (by rfl) l3.out (N3.out _ (by (first | exact hcur | exact hcur.alloc (by have h5 := hcur.size; first | exact h5 | omega | (simp; done) | (simp; omega)) _ | exact (hcur.alloc (by have h5 := hcur.size; first | exact h5 | omega | (simp; done) | (simp; omega)) _).alloc (by have h5 := hcur.size; first | exact h5 | omega | (simp; done) | (simp; omega)) _ | exact ((hcur.alloc (by have h5 := hcur.size; first | exact h5 | omega | (simp; done) | (simp; omega)) _).alloc (by have h5 := hcur.size; first | exact h5 | omega | (simp; done) | (simp; omega)) _).alloc (by have h5 := hcur.size; first | exact h5 | omega | (simp; done) | (simp; omega)) _))) (one_encWay _) (by simp only [maxLen]; omega) (by omega) (by have h5 := hcur.size; first | omega | (simp; done) | (simp; omega)) ?_; intro Ac dc wc oc hc mc; have Fc := fun k o => heap_below (k := k) (o := o) hc; (try replace oa := own_below (by (first | exact oa | exact oa.alloc _ | exact (oa.alloc _).alloc _ | exact ((oa.alloc _).alloc _).alloc _)) hc); (try replace ob := own_below (by (first | exact ob | exact ob.alloc _ | exact (ob.alloc _).alloc _ | exact ((ob.alloc _).alloc _).alloc _)) hc); replace hcur : Below W0.heap.size W0 wc := Below.trans (by (first | exact hcur | exact hcur.alloc (by have h5 := hcur.size; first | exact h5 | omega | (simp; done) | (simp; omega)) _ | exact (hcur.alloc (by have h5 := hcur.size; first | exact h5 | omega | (simp; done) | (simp; omega)) _).alloc (by have h5 := hcur.size; first | exact h5 | omega | (simp; done) | (simp; omega)) _ | exact ((hcur.alloc (by have h5 := hcur.size; first | exact h5 | omega | (simp; done) | (simp; omega)) _).alloc (by have h5 := hcur.size; first | exact h5 | omega | (simp; done) | (simp; omega)) _).alloc (by have h5 := hcur.size; first | exact h5 | omega | (simp; done) | (simp; omega)) _)) (hc.mono (by have h5 := hcur.size; first | omega | (simp; done) | (simp; omega))); have yc := hcur.size; have zc := hc.size; (try simp at zc); have e0 := below_cell d0 hcur; have e1 := below_cell d1 hcur; have e2 := below_cell d2 hcur; have g0 := below_frz d0 f0 hcur; have g1 := below_frz d1 f1 hcur; have g2 := below_frz d2 f2 hcur; clear hc))
  all_goals
    go_wp2_with fail
    have q0 := set3_0 e0 (.slice Aa n1 da) (.slice Ab n2 db) (.slice Ac n3 dc)
    have q1 := set3_1 e1 (.slice Aa n1 da) (.slice Ab n2 db) (.slice Ac n3 dc)
    have q2 := set3_2 e2 (.slice Aa n1 da) (.slice Ab n2 db) (.slice Ac n3 dc)
    have nab : ∀ q, obA Aa = some q → obA Ab ≠ some q := fun q h1 h2 => by have m1 := ma q h1; have m2 := mb q h2; (try simp at m1); (try simp at m2); omega
    have nac : ∀ q, obA Aa = some q → obA Ac ≠ some q := fun q h1 h2 => by have m1 := ma q h1; have m2 := mc q h2; (try simp at m1); (try simp at m2); omega
    have nbc : ∀ q, obA Ab = some q → obA Ac ≠ some q := fun q h1 h2 => by have m1 := mb q h1; have m2 := mc q h2; (try simp at m1); (try simp at m2); omega
    refine bodyPost_ret (v := .agg #[.slice Aa n1 da, .slice Ab n2 db, .slice Ac n3 dc]) (by simp [results, Try.results38, go_sem, q0, q1, q2]) rfl ⟨_, _, _, _, _, _, rfl, ⟨?_, ?_, ?_, apO nab, apO nac, apO nbc⟩, bl_set3 (by omega) (b0.trans (hcur.mono b0.size))⟩
    · exact ow_set3 (fun e => by have := (oa.lt _ e).1; omega) (oa.mono (by omega))
    · exact ow_set3 (fun e => by have := (ob.lt _ e).1; omega) (ob.mono (by omega))
    · exact ow_set3 (fun e => by have := (oc.lt _ e).1; omega) (oc.mono (by omega))
end Go.Proofs.Ytmanbpobdaamfaa
