/-
  RS: texts SOwnS, StFault, one behind the other. No condition but what each says.
-/
import Derived.Test.YtcgkcfmiabninaaGreatDoorRS10
import Derived.Deep.RegionHeldLaw
/-
  Schemes: a copy of one's own (the reference's). No condition.
-/
namespace Go.Proofs.YtcgkcfmiabninaaGreatDoor
open Go.RowKit
set_option maxHeartbeats 400000

theorem heap_drew {w : World} {o : Obj} {k : Nat} (h : w.heap[k]? = some o) : w.drew.heap[k]? = some o := h
theorem heap_new {w : World} {o : Obj} {k : Nat} (h : k = w.heap.size) : (w.alloc o).heap[k]? = some o := by subst h; exact heap_alloc_new w o
theorem heap_old {w : World} {o : Obj} {k : Nat} (h : k < w.heap.size) : (w.alloc o).heap[k]? = w.heap[k]? := heap_alloc_old w o h
theorem heap_below {w w' : World} {k : Nat} {o : Obj} (hb : Below w.heap.size w w') (h : w.heap[k]? = some o) : w'.heap[k]? = some o := by
  rw [hb.block k (by rcases Nat.lt_or_ge k w.heap.size with h1 | h1; exact h1; rw [Array.getElem?_eq_none h1] at h; cases h)]
  exact h
/-- append onto an empty slice without room, at a step of a region that draws its order -/
theorem step_append_empty {P : Program} {w : World} {ops : Array Oper} {o : Oper} {a : Act} {K : Act → World → Prop} {Q : Exit → Act → World → Prop} {E : Prop} (hgd : o.guard = none) (s x : Operand) (t : TypeId)
    (ho : o.op = .call { callee := .builtin .append, args := #[s, x], argTypes := #[t, t] })
    (base : Nat) (e : TypeId) (i : TypeInfo) (z : Value) (size bytes : Nat) (ht : P.underlying t = some (.slice e)) (hi : P.info? e = some i) (hz : i.zero = some z)
    (hsize : i.size = size) (hby : i.bytes = bytes) (hzs : z.cells.size = size) (hsz : 0 < size)
    (q : Nat) (hs : a.eval s = .slice (some ⟨q, 0, none⟩) 0 0) (hq : w.heap[q]? = some (.cells #[] e (0, 0))) (hbq : base ≤ q)
    (X : Option Addr) (m c : Nat) (news : List Value) (hx : a.eval x = .slice X m c) (hl : news.length = m * size) (hnews : (X = none → m = 0) ∧ ∀ ad, X = some ad → ∀ j u, news[j]? = some u → w.cell? (ad.add j) = some u) (h1 : ∀ u ∈ news, u.oneCell' = true)
    (h63 : m ≤ maxLen) (hbytes : m * bytes ≤ 140737488355328) (hbase : base ≤ w.heap.size)
    (h : ∀ A c' w', w'.ownsRow base e size (.slice A m c') m news → Below w.heap.size w w' → (∀ q', obA A = some q' → (q' = q ∨ q' = w.heap.size) ∧ q' < w'.heap.size) → K (a.put o.dst (.slice A m c')) w') :
    if Region.wanted o (yielded ops a.tmps) = true then Oper.wp P o a w K Q else E := by
  have hw : Region.wanted o (yielded ops a.tmps) = true := by simp [Region.wanted, hgd]
  rw [if_pos hw]
  subst hsize
  subst hby
  have ho0 : w.ownsRow base e i.size (.slice (some ⟨q, 0, none⟩) 0 0) 0 [] := ⟨by simp, .inr ⟨q, 0, #[], rfl, hbq, hq, Nat.le_refl _, by simp, by simp, by simp⟩⟩
  have hql : q < w.heap.size := by
    rcases Nat.lt_or_ge q w.heap.size with h1 | h1
    · exact h1
    · rw [Array.getElem?_eq_none h1] at hq; cases hq
  have key : ∃ A c' w', (Builtin.append_ #[t, t] o.type #[.slice (some ⟨q, 0, none⟩) 0 0, .slice X m c]).run P w = .ok (.slice A m c') w' ∧
      w'.ownsRow base e i.size (.slice A m c') m news ∧ Below w.heap.size w w' ∧ (∀ q', obA A = some q' → (q' = q ∨ q' = w.heap.size) ∧ q' < w'.heap.size) := by
    by_cases hm : m = 0
    · subst hm
      have hn : news = [] := List.eq_nil_of_length_eq_zero (by simpa using hl)
      subst hn
      refine ⟨some ⟨q, 0, none⟩, 0, w, ?_, ho0, Below.refl _ _, ?_⟩
      · cases X <;> simp [Builtin.append_, run_underlying ht, sizeOf, typeInfo, hi, Builtin.lenOf, Builtin.firstCells, loadCells, loadCellsFrom, storeCells]
      · intro q' hq'
        have : q = q' := by simpa [obA] using hq'
        subst this
        exact ⟨.inl rfl, hql⟩
    · obtain ⟨ad, rfl⟩ : ∃ ad, X = some ad := by
        cases X with
        | none => exact absurd (hnews.1 rfl) hm
        | some ad => exact ⟨ad, rfl⟩
      have hnews := hnews.2 ad rfl
      have hr := run_append_grow (P := P) w t o.type e i z ht hi hz ⟨q, 0, none⟩ 0 0 [] (by simp) (by simp) ad m c news hl hnews (by omega) (by simp only [maxLen] at h63; omega) (growslice_fits (by omega) (by simpa using hbytes))
      simp only [Nat.zero_add] at hr
      have hge := grownCap_ge w m 0 e
      have hcm : grownCap w m 0 e ≤ maxLen := grownCap_le_maxLen w m 0 e h63
      refine ⟨_, _, _, hr, ⟨hl, .inr ⟨w.heap.size, _, _, rfl, hbase, heap_alloc_new w.drew _, hge, hcm, ?_, ?_⟩⟩, ((Below.refl _ _).drew).alloc (by simp) _, ?_⟩
      · simp only [Array.size_append, List.size_toArray, size_zeroCells, hzs, hl, List.length_nil, Nat.zero_add, ← Nat.add_mul]
        congr 1
        omega
      · simp only [Array.toList_append, List.nil_append]
        rw [← hl]
        simp
      · intro q' hq'
        have : w.heap.size = q' := by simpa [obA] using hq'
        subst this
        exact ⟨.inr rfl, by simp⟩
  obtain ⟨A, c', w', hr, h2, h3, h4⟩ := key
  unfold Oper.wp execOp
  simp only [ho, resolve, invoke, builtin, Sem.run_bind, Sem.run_pure, Result.andThen_ok, List.map_toArray, List.map_cons, List.map_nil, hs, hx, hr]
  exact h A c' w' h2 h3 h4
theorem news_strs {w : World} {B n : Nat} {X : Option Addr} {xs : List ByteArray} (hx : Sl w B 1 encS X n xs) : (X = none → n = 0) ∧ ∀ ad, X = some ad → ∀ (j : Nat) (u : Value), (xs.flatMap encS)[j]? = some u → w.cell? (ad.add j) = some u := by
  have hl := hx.len
  cases xs with
  | nil => exact ⟨fun _ => (by simpa using hl.symm), fun ad _ j u hj => (by simp at hj)⟩
  | cons a r =>
    obtain ⟨b, off, e, _, _⟩ := hx.2 0 a rfl
    subst e
    exact ⟨fun h => (by cases h), fun ad h => (by injection h with h; subst h; exact news_of_strs hx)⟩
theorem news_ways {w : World} {B n : Nat} {X : Option Addr} {xs : List Way} (hx : Sl w B 3 encWay X n xs) : (X = none → n = 0) ∧ ∀ ad, X = some ad → ∀ (j : Nat) (u : Value), (xs.flatMap encWay)[j]? = some u → w.cell? (ad.add j) = some u := by
  have hl := hx.len
  cases xs with
  | nil => exact ⟨fun _ => (by simpa using hl.symm), fun ad _ j u hj => (by simp at hj)⟩
  | cons a r =>
    obtain ⟨b, off, e, _, _⟩ := hx.2 0 a rfl
    subst e
    exact ⟨fun h => (by cases h), fun ad h => (by injection h with h; subst h; exact news_of_ways hx)⟩
set_option maxHeartbeats 8000000 in
set_option maxRecDepth 100000 in
theorem l21Own_any (gx : Nat) (X1 X2 X3 : Option Addr) (n1 c1 n2 c2 n3 c3 : Nat) (x : Sch) (w : World) (B : Nat) (hB : B ≤ w.heap.size) (hn1 : n1 ≤ 2000000) (hn2 : n2 ≤ 2000000) (hn3 : n3 ≤ 2000000) (hx : SlX w B ⟨X1, n1, c1, X2, n2, c2, X3, n3, c3⟩ x)
    (k0 : w.cell? ⟨gx, 0, none⟩ = some (.slice X1 n1 c1)) (k1 : w.cell? ⟨gx, 1, none⟩ = some (.slice X2 n2 c2)) (k2 : w.cell? ⟨gx, 2, none⟩ = some (.slice X3 n3 c3)) :
    Calls Tryz.prog 43 #[.pointer (some ⟨gx, 0, none⟩)] w fun r w' => ∃ A1 d1 A2 d2 A3 d3, r = .returned (.agg #[.slice A1 n1 d1, .slice A2 n2 d2, .slice A3 n3 d3]) ∧ OwnX w' w.heap.size ⟨A1, n1, d1, A2, n2, d2, A3, n3, d3⟩ x ∧ Below w.heap.size w w' := by
  obtain ⟨i0, hi, hz0, hz1, hz2⟩ := info_parts str_info
  obtain ⟨j0, hj, hy0, hy1, hy2⟩ := info_parts Way_info
  have lg := World.block_lt_of_cell? _ _ k0
  simp only at lg
  obtain ⟨W0, hW0⟩ : ∃ W0, W0 = w.alloc (.cells #[.slice none 0 0, .slice none 0 0, .slice none 0 0] 25) := ⟨_, rfl⟩
  have b0 : Below w.heap.size w W0 := by rw [hW0]; exact (Below.refl _ _).alloc (Nat.le_refl _) _
  have d0 : W0.cell? ⟨w.heap.size, 0, none⟩ = some (.slice none 0 0) := by rw [hW0]; go_simp
  have d1 : W0.cell? ⟨w.heap.size, 1, none⟩ = some (.slice none 0 0) := by rw [hW0]; go_simp
  have d2 : W0.cell? ⟨w.heap.size, 2, none⟩ = some (.slice none 0 0) := by rw [hW0]; go_simp
  have f0 : W0.frozen? ⟨w.heap.size, 0, none⟩ = false := by rw [hW0]; go_simp
  have f1 : W0.frozen? ⟨w.heap.size, 1, none⟩ = false := by rw [hW0]; go_simp
  have f2 : W0.frozen? ⟨w.heap.size, 2, none⟩ = false := by rw [hW0]; go_simp
  have z0 : w.heap.size < W0.heap.size := World.block_lt_of_cell? _ _ d0
  have HW := hid hW0
  clear hW0
  have x1 := hx.st.below (b0.mono hB)
  have x2 := hx.rm.below (b0.mono hB)
  have x3 := hx.wy.below (b0.mono hB)
  simp only at x1 x2 x3
  have N1 := hid (fun (W : World) (h : Below W0.heap.size W0 W) => news_strs (x1.below (h.mono (Nat.le_trans hB b0.size))))
  have N2 := hid (fun (W : World) (h : Below W0.heap.size W0 W) => news_strs (x2.below (h.mono (Nat.le_trans hB b0.size))))
  have N3 := hid (fun (W : World) (h : Below W0.heap.size W0 W) => news_ways (x3.below (h.mono (Nat.le_trans hB b0.size))))
  have l1 : Hid ((x.st.flatMap encS).length = n1 * 1) := by rw [Hid, flatMap_len encS_len, x1.len]
  have l2 : Hid ((x.rm.flatMap encS).length = n2 * 1) := by rw [Hid, flatMap_len encS_len, x2.len]
  have l3 : Hid ((x.wy.flatMap encWay).length = n3 * 3) := by rw [Hid, flatMap_len encWay_len, x3.len]
  clear hx x1 x2 x3
  replace k0 := below_cell k0 b0
  replace k1 := below_cell k1 b0
  replace k2 := below_cell k2 b0
  have hcur : Below W0.heap.size W0 W0.drew := (Below.refl _ _).drew
  have kk0 := below_cell k0 hcur
  go_enter Tryz.func43, Tryz.ntmps43
  go_wp2_with fail
  rw [← HW.out]
  go_region_held_law? (fun W => W.cell? ⟨gx, 0, none⟩ = some (.slice X1 n1 c1) ∧ W.cell? ⟨gx, 1, none⟩ = some (.slice X2 n2 c2) ∧ W.cell? ⟨gx, 2, none⟩ = some (.slice X3 n3 c3))
    (first
      | (go_split_ands; exact ⟨below_cell k0 (by (first | exact hcur | exact hcur.alloc (by have h5 := hcur.size; first | exact h5 | omega | (simp; done) | (simp; omega)) _ | exact (hcur.alloc (by have h5 := hcur.size; first | exact h5 | omega | (simp; done) | (simp; omega)) _).alloc (by have h5 := hcur.size; first | exact h5 | omega | (simp; done) | (simp; omega)) _ | exact ((hcur.alloc (by have h5 := hcur.size; first | exact h5 | omega | (simp; done) | (simp; omega)) _).alloc (by have h5 := hcur.size; first | exact h5 | omega | (simp; done) | (simp; omega)) _).alloc (by have h5 := hcur.size; first | exact h5 | omega | (simp; done) | (simp; omega)) _)), below_cell k1 (by (first | exact hcur | exact hcur.alloc (by have h5 := hcur.size; first | exact h5 | omega | (simp; done) | (simp; omega)) _ | exact (hcur.alloc (by have h5 := hcur.size; first | exact h5 | omega | (simp; done) | (simp; omega)) _).alloc (by have h5 := hcur.size; first | exact h5 | omega | (simp; done) | (simp; omega)) _ | exact ((hcur.alloc (by have h5 := hcur.size; first | exact h5 | omega | (simp; done) | (simp; omega)) _).alloc (by have h5 := hcur.size; first | exact h5 | omega | (simp; done) | (simp; omega)) _).alloc (by have h5 := hcur.size; first | exact h5 | omega | (simp; done) | (simp; omega)) _)), below_cell k2 (by (first | exact hcur | exact hcur.alloc (by have h5 := hcur.size; first | exact h5 | omega | (simp; done) | (simp; omega)) _ | exact (hcur.alloc (by have h5 := hcur.size; first | exact h5 | omega | (simp; done) | (simp; omega)) _).alloc (by have h5 := hcur.size; first | exact h5 | omega | (simp; done) | (simp; omega)) _ | exact ((hcur.alloc (by have h5 := hcur.size; first | exact h5 | omega | (simp; done) | (simp; omega)) _).alloc (by have h5 := hcur.size; first | exact h5 | omega | (simp; done) | (simp; omega)) _).alloc (by have h5 := hcur.size; first | exact h5 | omega | (simp; done) | (simp; omega)) _))⟩)
      | (go_split_ands; exact ⟨(far3 (by simp only; omega)).trans (below_cell k0 hcur), (far3 (by simp only; omega)).trans (below_cell k1 hcur), (far3 (by simp only; omega)).trans (below_cell k2 hcur)⟩)
      | go_keep)
    (first
      | (refine step_append_empty (by rfl) _ _ _ (by rfl) W0.heap.size 9 i0 _ 1 16 Tryz.underlying22 hi hz0 hz1 hz2 rfl (by omega) _ (by rfl) (by ((try (first | (refine Fa _ _ ?_) | (refine Fb _ _ ?_) | (refine Fc _ _ ?_) | (refine heap_drew ?_) | (refine heap_new ?_; focus (simp; done)) | (refine (heap_old ?_).trans ?_; focus (first | omega | (simp; done) | (simp; omega))))); (try (first | (refine Fa _ _ ?_) | (refine Fb _ _ ?_) | (refine Fc _ _ ?_) | (refine heap_drew ?_) | (refine heap_new ?_; focus (simp; done)) | (refine (heap_old ?_).trans ?_; focus (first | omega | (simp; done) | (simp; omega))))); (try (first | (refine Fa _ _ ?_) | (refine Fb _ _ ?_) | (refine Fc _ _ ?_) | (refine heap_drew ?_) | (refine heap_new ?_; focus (simp; done)) | (refine (heap_old ?_).trans ?_; focus (first | omega | (simp; done) | (simp; omega))))); (try (first | (refine Fa _ _ ?_) | (refine Fb _ _ ?_) | (refine Fc _ _ ?_) | (refine heap_drew ?_) | (refine heap_new ?_; focus (simp; done)) | (refine (heap_old ?_).trans ?_; focus (first | omega | (simp; done) | (simp; omega))))); (try (first | (refine Fa _ _ ?_) | (refine Fb _ _ ?_) | (refine Fc _ _ ?_) | (refine heap_drew ?_) | (refine heap_new ?_; focus (simp; done)) | (refine (heap_old ?_).trans ?_; focus (first | omega | (simp; done) | (simp; omega))))); (try (first | (refine Fa _ _ ?_) | (refine Fb _ _ ?_) | (refine Fc _ _ ?_) | (refine heap_drew ?_) | (refine heap_new ?_; focus (simp; done)) | (refine (heap_old ?_).trans ?_; focus (first | omega | (simp; done) | (simp; omega))))))) (by have h5 := hcur.size; first | omega | (simp; done) | (simp; omega)) X1 n1 c1 (x.st.flatMap encS) (by rfl) l1.out (N1.out _ (by (first | exact hcur | exact hcur.alloc (by have h5 := hcur.size; first | exact h5 | omega | (simp; done) | (simp; omega)) _ | exact (hcur.alloc (by have h5 := hcur.size; first | exact h5 | omega | (simp; done) | (simp; omega)) _).alloc (by have h5 := hcur.size; first | exact h5 | omega | (simp; done) | (simp; omega)) _ | exact ((hcur.alloc (by have h5 := hcur.size; first | exact h5 | omega | (simp; done) | (simp; omega)) _).alloc (by have h5 := hcur.size; first | exact h5 | omega | (simp; done) | (simp; omega)) _).alloc (by have h5 := hcur.size; first | exact h5 | omega | (simp; done) | (simp; omega)) _))) (one_encS _) (by simp only [maxLen]; omega) (by omega) (by have h5 := hcur.size; first | omega | (simp; done) | (simp; omega)) ?_; intro Aa da wa oa ha ma; have Fa := fun k o => heap_below (k := k) (o := o) ha; (try replace ob := own_below (by (first | exact ob | exact ob.alloc _ | exact (ob.alloc _).alloc _ | exact ((ob.alloc _).alloc _).alloc _)) ha); (try replace oc := own_below (by (first | exact oc | exact oc.alloc _ | exact (oc.alloc _).alloc _ | exact ((oc.alloc _).alloc _).alloc _)) ha); replace hcur : Below W0.heap.size W0 wa := Below.trans (by (first | exact hcur | exact hcur.alloc (by have h5 := hcur.size; first | exact h5 | omega | (simp; done) | (simp; omega)) _ | exact (hcur.alloc (by have h5 := hcur.size; first | exact h5 | omega | (simp; done) | (simp; omega)) _).alloc (by have h5 := hcur.size; first | exact h5 | omega | (simp; done) | (simp; omega)) _ | exact ((hcur.alloc (by have h5 := hcur.size; first | exact h5 | omega | (simp; done) | (simp; omega)) _).alloc (by have h5 := hcur.size; first | exact h5 | omega | (simp; done) | (simp; omega)) _).alloc (by have h5 := hcur.size; first | exact h5 | omega | (simp; done) | (simp; omega)) _)) (ha.mono (by have h5 := hcur.size; first | omega | (simp; done) | (simp; omega))); have ya := hcur.size; have za := ha.size; (try simp at za); have e0 := below_cell d0 hcur; have e1 := below_cell d1 hcur; have e2 := below_cell d2 hcur; have g0 := below_frz d0 f0 hcur; have g1 := below_frz d1 f1 hcur; have g2 := below_frz d2 f2 hcur; clear ha)
      | (refine step_append_empty (by rfl) _ _ _ (by rfl) W0.heap.size 9 i0 _ 1 16 Tryz.underlying22 hi hz0 hz1 hz2 rfl (by omega) _ (by rfl) (by ((try (first | (refine Fa _ _ ?_) | (refine Fb _ _ ?_) | (refine Fc _ _ ?_) | (refine heap_drew ?_) | (refine heap_new ?_; focus (simp; done)) | (refine (heap_old ?_).trans ?_; focus (first | omega | (simp; done) | (simp; omega))))); (try (first | (refine Fa _ _ ?_) | (refine Fb _ _ ?_) | (refine Fc _ _ ?_) | (refine heap_drew ?_) | (refine heap_new ?_; focus (simp; done)) | (refine (heap_old ?_).trans ?_; focus (first | omega | (simp; done) | (simp; omega))))); (try (first | (refine Fa _ _ ?_) | (refine Fb _ _ ?_) | (refine Fc _ _ ?_) | (refine heap_drew ?_) | (refine heap_new ?_; focus (simp; done)) | (refine (heap_old ?_).trans ?_; focus (first | omega | (simp; done) | (simp; omega))))); (try (first | (refine Fa _ _ ?_) | (refine Fb _ _ ?_) | (refine Fc _ _ ?_) | (refine heap_drew ?_) | (refine heap_new ?_; focus (simp; done)) | (refine (heap_old ?_).trans ?_; focus (first | omega | (simp; done) | (simp; omega))))); (try (first | (refine Fa _ _ ?_) | (refine Fb _ _ ?_) | (refine Fc _ _ ?_) | (refine heap_drew ?_) | (refine heap_new ?_; focus (simp; done)) | (refine (heap_old ?_).trans ?_; focus (first | omega | (simp; done) | (simp; omega))))); (try (first | (refine Fa _ _ ?_) | (refine Fb _ _ ?_) | (refine Fc _ _ ?_) | (refine heap_drew ?_) | (refine heap_new ?_; focus (simp; done)) | (refine (heap_old ?_).trans ?_; focus (first | omega | (simp; done) | (simp; omega))))))) (by have h5 := hcur.size; first | omega | (simp; done) | (simp; omega)) X2 n2 c2 (x.rm.flatMap encS) (by rfl) l2.out (N2.out _ (by (first | exact hcur | exact hcur.alloc (by have h5 := hcur.size; first | exact h5 | omega | (simp; done) | (simp; omega)) _ | exact (hcur.alloc (by have h5 := hcur.size; first | exact h5 | omega | (simp; done) | (simp; omega)) _).alloc (by have h5 := hcur.size; first | exact h5 | omega | (simp; done) | (simp; omega)) _ | exact ((hcur.alloc (by have h5 := hcur.size; first | exact h5 | omega | (simp; done) | (simp; omega)) _).alloc (by have h5 := hcur.size; first | exact h5 | omega | (simp; done) | (simp; omega)) _).alloc (by have h5 := hcur.size; first | exact h5 | omega | (simp; done) | (simp; omega)) _))) (one_encS _) (by simp only [maxLen]; omega) (by omega) (by have h5 := hcur.size; first | omega | (simp; done) | (simp; omega)) ?_; intro Ab db wb ob hb mb; have Fb := fun k o => heap_below (k := k) (o := o) hb; (try replace oa := own_below (by (first | exact oa | exact oa.alloc _ | exact (oa.alloc _).alloc _ | exact ((oa.alloc _).alloc _).alloc _)) hb); (try replace oc := own_below (by (first | exact oc | exact oc.alloc _ | exact (oc.alloc _).alloc _ | exact ((oc.alloc _).alloc _).alloc _)) hb); replace hcur : Below W0.heap.size W0 wb := Below.trans (by (first | exact hcur | exact hcur.alloc (by have h5 := hcur.size; first | exact h5 | omega | (simp; done) | (simp; omega)) _ | exact (hcur.alloc (by have h5 := hcur.size; first | exact h5 | omega | (simp; done) | (simp; omega)) _).alloc (by have h5 := hcur.size; first | exact h5 | omega | (simp; done) | (simp; omega)) _ | exact ((hcur.alloc (by have h5 := hcur.size; first | exact h5 | omega | (simp; done) | (simp; omega)) _).alloc (by have h5 := hcur.size; first | exact h5 | omega | (simp; done) | (simp; omega)) _).alloc (by have h5 := hcur.size; first | exact h5 | omega | (simp; done) | (simp; omega)) _)) (hb.mono (by have h5 := hcur.size; first | omega | (simp; done) | (simp; omega))); have yb := hcur.size; have zb := hb.size; (try simp at zb); have e0 := below_cell d0 hcur; have e1 := below_cell d1 hcur; have e2 := below_cell d2 hcur; have g0 := below_frz d0 f0 hcur; have g1 := below_frz d1 f1 hcur; have g2 := below_frz d2 f2 hcur; clear hb)
      | (refine step_append_empty (by rfl) _ _ _ (by rfl) W0.heap.size 62 j0 _ 3 40 Tryz.underlying23 hj hy0 hy1 hy2 rfl (by omega) _ (by rfl) (by ((try (first | (refine Fa _ _ ?_) | (refine Fb _ _ ?_) | (refine Fc _ _ ?_) | (refine heap_drew ?_) | (refine heap_new ?_; focus (simp; done)) | (refine (heap_old ?_).trans ?_; focus (first | omega | (simp; done) | (simp; omega))))); (try (first | (refine Fa _ _ ?_) | (refine Fb _ _ ?_) | (refine Fc _ _ ?_) | (refine heap_drew ?_) | (refine heap_new ?_; focus (simp; done)) | (refine (heap_old ?_).trans ?_; focus (first | omega | (simp; done) | (simp; omega))))); (try (first | (refine Fa _ _ ?_) | (refine Fb _ _ ?_) | (refine Fc _ _ ?_) | (refine heap_drew ?_) | (refine heap_new ?_; focus (simp; done)) | (refine (heap_old ?_).trans ?_; focus (first | omega | (simp; done) | (simp; omega))))); (try (first | (refine Fa _ _ ?_) | (refine Fb _ _ ?_) | (refine Fc _ _ ?_) | (refine heap_drew ?_) | (refine heap_new ?_; focus (simp; done)) | (refine (heap_old ?_).trans ?_; focus (first | omega | (simp; done) | (simp; omega))))); (try (first | (refine Fa _ _ ?_) | (refine Fb _ _ ?_) | (refine Fc _ _ ?_) | (refine heap_drew ?_) | (refine heap_new ?_; focus (simp; done)) | (refine (heap_old ?_).trans ?_; focus (first | omega | (simp; done) | (simp; omega))))); (try (first | (refine Fa _ _ ?_) | (refine Fb _ _ ?_) | (refine Fc _ _ ?_) | (refine heap_drew ?_) | (refine heap_new ?_; focus (simp; done)) | (refine (heap_old ?_).trans ?_; focus (first | omega | (simp; done) | (simp; omega))))))) (by have h5 := hcur.size; first | omega | (simp; done) | (simp; omega)) X3 n3 c3 (x.wy.flatMap encWay) (by rfl) l3.out (N3.out _ (by (first | exact hcur | exact hcur.alloc (by have h5 := hcur.size; first | exact h5 | omega | (simp; done) | (simp; omega)) _ | exact (hcur.alloc (by have h5 := hcur.size; first | exact h5 | omega | (simp; done) | (simp; omega)) _).alloc (by have h5 := hcur.size; first | exact h5 | omega | (simp; done) | (simp; omega)) _ | exact ((hcur.alloc (by have h5 := hcur.size; first | exact h5 | omega | (simp; done) | (simp; omega)) _).alloc (by have h5 := hcur.size; first | exact h5 | omega | (simp; done) | (simp; omega)) _).alloc (by have h5 := hcur.size; first | exact h5 | omega | (simp; done) | (simp; omega)) _))) (one_encWay _) (by simp only [maxLen]; omega) (by omega) (by have h5 := hcur.size; first | omega | (simp; done) | (simp; omega)) ?_; intro Ac dc wc oc hc mc; have Fc := fun k o => heap_below (k := k) (o := o) hc; (try replace oa := own_below (by (first | exact oa | exact oa.alloc _ | exact (oa.alloc _).alloc _ | exact ((oa.alloc _).alloc _).alloc _)) hc); (try replace ob := own_below (by (first | exact ob | exact ob.alloc _ | exact (ob.alloc _).alloc _ | exact ((ob.alloc _).alloc _).alloc _)) hc); replace hcur : Below W0.heap.size W0 wc := Below.trans (by (first | exact hcur | exact hcur.alloc (by have h5 := hcur.size; first | exact h5 | omega | (simp; done) | (simp; omega)) _ | exact (hcur.alloc (by have h5 := hcur.size; first | exact h5 | omega | (simp; done) | (simp; omega)) _).alloc (by have h5 := hcur.size; first | exact h5 | omega | (simp; done) | (simp; omega)) _ | exact ((hcur.alloc (by have h5 := hcur.size; first | exact h5 | omega | (simp; done) | (simp; omega)) _).alloc (by have h5 := hcur.size; first | exact h5 | omega | (simp; done) | (simp; omega)) _).alloc (by have h5 := hcur.size; first | exact h5 | omega | (simp; done) | (simp; omega)) _)) (hc.mono (by have h5 := hcur.size; first | omega | (simp; done) | (simp; omega))); have yc := hcur.size; have zc := hc.size; (try simp at zc); have e0 := below_cell d0 hcur; have e1 := below_cell d1 hcur; have e2 := below_cell d2 hcur; have g0 := below_frz d0 f0 hcur; have g1 := below_frz d1 f1 hcur; have g2 := below_frz d2 f2 hcur; clear hc))
  all_goals
    go_wp2_with fail
    have q0 := set3_0 e0 (.slice Aa n1 da) (.slice Ab n2 db) (.slice Ac n3 dc)
    have q1 := set3_1 e1 (.slice Aa n1 da) (.slice Ab n2 db) (.slice Ac n3 dc)
    have q2 := set3_2 e2 (.slice Aa n1 da) (.slice Ab n2 db) (.slice Ac n3 dc)
    have nab : ∀ q, obA Aa = some q → obA Ab ≠ some q := fun q h1 h2 => by have m1 := ma q h1; have m2 := mb q h2; (try simp at m1); (try simp at m2); omega
    have nac : ∀ q, obA Aa = some q → obA Ac ≠ some q := fun q h1 h2 => by have m1 := ma q h1; have m2 := mc q h2; (try simp at m1); (try simp at m2); omega
    have nbc : ∀ q, obA Ab = some q → obA Ac ≠ some q := fun q h1 h2 => by have m1 := mb q h1; have m2 := mc q h2; (try simp at m1); (try simp at m2); omega
    refine bodyPost_ret (v := .agg #[.slice Aa n1 da, .slice Ab n2 db, .slice Ac n3 dc]) (by simp [results, Tryz.results43, go_sem, q0, q1, q2]) rfl ⟨_, _, _, _, _, _, rfl, ⟨?_, ?_, ?_, apO nab, apO nac, apO nbc⟩, bl_set3 (by omega) (b0.trans (hcur.mono b0.size))⟩
    · exact ow_set3 (fun e => by have := (oa.lt _ e).1; omega) (oa.mono (by omega))
    · exact ow_set3 (fun e => by have := (ob.lt _ e).1; omega) (ob.mono (by omega))
    · exact ow_set3 (fun e => by have := (oc.lt _ e).1; omega) (oc.mono (by omega))
end Go.Proofs.YtcgkcfmiabninaaGreatDoor
/-
  Fault: a struct of numbers: how a slice of it reads; its copies, comparisons and marks. No condition.
-/
namespace Go.Proofs.YtcgkcfmiabninaaGreatDoor
open Go.RowKit Go.ChangeShapes Go.WideShapes Go.ChangeAt Go.Deep
set_option maxHeartbeats 400000

structure Fault where
  row : Int
  kind : Int
  deriving DecidableEq
def encFault (x : Fault) : List Value := [.int .i64 x.row, .int .i64 x.kind]
theorem encFault_len (x : Fault) : (encFault x).length = 2 := rfl
theorem Sl.atFault {w : World} {B : Nat} {A : Option Addr} {n : Nat} {xs : List Fault} (h : Sl w B 2 encFault A n xs) {i : Nat} (hi : i < n) :
    ∃ x0 x1 b off, Hid (xs[i]? = some ⟨x0, x1⟩) ∧ A = some ⟨b, off, none⟩ ∧ b < B ∧ w.cell? ⟨b, off + i * 2, none⟩ = some (.int .i64 x0) ∧ w.cell? ⟨b, off + i * 2 + 1, none⟩ = some (.int .i64 x1) := by
  obtain ⟨⟨x0, x1⟩, b, off, hx, e, hb, hc⟩ := h.at_ hi
  exact ⟨x0, x1, b, off, hx, e, hb, hc 0 _ rfl, hc 1 _ rfl⟩
theorem Sl.ofFault {w : World} {B n : Nat} {A : Option Addr} {xs : List Fault} (h : Sl w B 2 encFault A n xs) {i : Nat} {x0 x1 : Int} (hx : xs[i]? = some ⟨x0, x1⟩) :
    ∃ b off, A = some ⟨b, off, none⟩ ∧ b < B ∧ w.cell? ⟨b, off + i * 2, none⟩ = some (.int .i64 x0) ∧ w.cell? ⟨b, off + i * 2 + 1, none⟩ = some (.int .i64 x1) := by
  obtain ⟨b, off, e, hb, hc⟩ := h.2 i _ hx
  exact ⟨b, off, e, hb, hc 0 _ rfl, hc 1 _ rfl⟩
theorem Sl.inFault {w : World} {B b off n : Nat} {xs : List Fault} (h : Sl w B 2 encFault (some ⟨b, off, none⟩) n xs) {i : Nat} {x0 x1 : Int} (hx : xs[i]? = some ⟨x0, x1⟩) :
    w.cell? ⟨b, off + i * 2, none⟩ = some (.int .i64 x0) ∧ w.cell? ⟨b, off + i * 2 + 1, none⟩ = some (.int .i64 x1) := by
  obtain ⟨b', off', e, _, hc⟩ := h.2 i _ hx
  injection e with e
  injection e with e1 e2
  subst e1 e2
  exact ⟨hc 0 _ rfl, hc 1 _ rfl⟩

theorem Fault_info : (Tryz.prog.info? 42).map (fun i => (i.zero, i.size, i.bytes)) = some (some (.agg #[.int .i64 0, .int .i64 0]), 2, 16) := by kernel_rfl
theorem eqFault_yes (x0 x1 : Int) (w : World) :
    Calls Tryz.prog 33 #[.agg #[.int .i64 x0, .int .i64 x1], .agg #[.int .i64 x0, .int .i64 x1]] w fun e w' => e = .returned (.bool true) ∧ Below w.heap.size w w' := by
  go_enter Tryz.func33, Tryz.ntmps33
  go_wp2
  all_goals go_ret
  all_goals refine ⟨rfl, ?_⟩
  all_goals repeat (first | with_reducible assumption | with_reducible exact Below.refl _ _ | with_reducible refine bl_drew ?_ | with_reducible refine bl_drewN ?_ | ((with_reducible refine bl_set ?_ ?_); focus (first | (simp; done) | (simp; omega) | omega)) | ((with_reducible refine bl_alloc ?_ ?_); focus (first | (simp; done) | (simp; omega) | omega)))
theorem eqFaultS_yes (A : Option Addr) (n c : Nat) (A' : Option Addr) (n' c' : Nat) (w : World) (B : Nat) (hB : B ≤ w.heap.size) (xs : List Fault) (hn : n ≤ 2000000) (hx : Sl w B 2 encFault A n xs) (hy : Sl w B 2 encFault A' n' xs) :
    Calls Tryz.prog 8 #[.slice A n c, .slice A' n' c'] w fun e w' => e = .returned (.bool true) ∧ Below w.heap.size w w' := by
  obtain rfl : n = n' := hx.len.symm.trans hy.len
  go_enter Tryz.func8, Tryz.ntmps8
  go_wp2
  go_loopw [5] (fun i w1 => ∃ k : Nat, k ≤ n ∧ i = .int .i64 k ∧ Below w.heap.size w w1) (fun i _ => n - (intOf i).toNat)
  case atStart => exact ⟨0, Nat.zero_le _, rfl, Below.refl _ _⟩
  case round =>
    obtain ⟨k, hk, rfl, hb⟩ := hrel
    by_cases hlt : k < n
    · obtain ⟨x0, x1, b, off, Hx, rfl, hbB, c0, c1⟩ := (hx.below (hb.mono hB)).atFault hlt
      obtain ⟨x0', x1', b', off', Hy, rfl, hbB', c0', c1'⟩ := (hy.below (hb.mono hB)).atFault hlt
      obtain ⟨rfl, rfl⟩ : x0 = x0' ∧ x1 = x1' := by have := Hx.out.symm.trans Hy.out; simpa using this
      clear hx hy
      go_wp2
      go_region_with (go_at_call 33; refine (eqFault_yes _ _ _).mono ?_; rintro e w' ⟨rfl, hbb⟩)
      all_goals go_wp2
      all_goals have hb2 := hb.trans (Below.mono ((Below.refl _ _).drew.trans hbb) (by simpa using hb.size))
      all_goals go_roundw
      all_goals first | exact ⟨k + 1, by omega, by go_num, hb2⟩ | exact ⟨⟨k + 1, by omega, by go_num, hb2⟩, by simp [intOf]; omega⟩ | (simp [intOf]; omega)
    · go_wp2
      go_ret
      exact ⟨rfl, hb⟩
/-- the marks of some structs, one number a field -/
def marksFault (m : Int) (n : Nat) : List Fault := (List.range n).map fun i => ⟨m + 2 * (i : Nat), m + 2 * (i : Nat) + 1⟩
theorem marksFault_succ (m : Int) (n : Nat) : marksFault m (n + 1) = marksFault m n ++ [⟨m + 2 * n, m + 2 * n + 1⟩] := by simp [marksFault, List.range_succ]
theorem marksFault_len (m : Int) (n : Nat) : (marksFault m n).length = n := by simp [marksFault]
theorem markFaultS_any (lo : Nat) (A : Option Addr) (n c : Nat) (l : List Value) (m : Int) (w : World) (hn : n ≤ 2000000) (h0 : 0 ≤ m) (h1 : m ≤ 9000000) (hown : w.ownsRow lo 42 2 (.slice A n c) n l) :
    Calls Tryz.prog 10 #[.slice A n c, .int .i64 m] w fun e w' => e = .returned (.int .i64 (m + 2 * n)) ∧ w'.ownsRow lo 42 2 (.slice A n c) n ((marksFault m n).flatMap encFault) ∧ w.grownBy w' (Value.slice A n c).ownBlock := by
  go_enter Tryz.func10, Tryz.ntmps10
  go_wp2
  go_loopw [1, 5] (fun s i w1 => ∃ k l1, k ≤ n ∧ i = .int .i64 (k : Nat) ∧ s = .int .i64 (m + 2 * (k : Nat)) ∧ w1.ownsRow lo 42 2 (.slice A n c) n l1 ∧ Pre l1 ((marksFault m k).flatMap encFault) ∧ w.grownBy w1 (Value.slice A n c).ownBlock) (fun _ i _ => n - (intOf i).toNat)
  case atStart => exact ⟨0, l, Nat.zero_le _, rfl, by go_num, hown, Pre.nil _, World.grownBy.refl _ _⟩
  case round =>
    obtain ⟨k, l1, hk, rfl, rfl, hown1, hpre, hg⟩ := hrel
    clear hown
    by_cases hlt : k < n
    · obtain ⟨g, rfl, hlo, hgs⟩ := own_some hown1 (by omega)
      obtain ⟨⟨u0, e0⟩, f0⟩ := own_at hown1 (Below.refl _ _) (k * 2) (by omega)
      obtain ⟨⟨u1, e1⟩, f1⟩ := own_at hown1 (Below.refl _ _) (k * 2 + 1) (by omega)
      go_wp2
      have hP : ((marksFault m k).flatMap encFault).length = k * 2 := by rw [flatMap_len encFault_len, marksFault_len]
      have t1 := own_set hown1 hpre (j := k * 2) hP.symm (by omega) (.int .i64 (m + 2 * (k : Nat)))
      have g1 := (hown1.stored (k * 2) (.int .i64 (m + 2 * (k : Nat)))).2
      have t2 := own_set t1.1 t1.2 (j := k * 2 + 1) (by simp [hP]) (by omega) (.int .i64 (m + 2 * (k : Nat) + 1))
      have g2 := (t1.1.stored (k * 2 + 1) (.int .i64 (m + 2 * (k : Nat) + 1))).2
      have hg2 := (hg.trans g1).trans g2
      have e9 : ((marksFault m k).flatMap encFault ++ [.int .i64 (m + 2 * (k : Nat))]) ++ [.int .i64 (m + 2 * (k : Nat) + 1)] = (marksFault m (k + 1)).flatMap encFault := by rw [marksFault_succ, List.flatMap_append]; simp [encFault]
      have s9 := t2.2
      rw [e9] at s9
      clear e9 hP
      go_roundw
      all_goals first | exact ⟨k + 1, _, by omega, by go_num, by go_num, t2.1, s9, hg2⟩ | exact ⟨⟨k + 1, _, by omega, by go_num, by go_num, t2.1, s9, hg2⟩, by simp [intOf]; omega⟩ | (simp [intOf]; omega)
    · have : k = n := by omega
      subst this
      have e := hpre.all (by rw [hown1.1, flatMap_len encFault_len, marksFault_len])
      subst e
      clear hpre
      go_wp2
      go_ret
      exact ⟨rfl, hown1, hg⟩
theorem heldFaultS_any (A : Option Addr) (n c : Nat) (m : Int) (w : World) (B : Nat) (hn : n ≤ 2000000) (h0 : 0 ≤ m) (h1 : m ≤ 9000000) (hx : Sl w B 2 encFault A n (marksFault m n)) :
    Calls Tryz.prog 12 #[.slice A n c, .int .i64 m] w fun e w' => e = .returned (.int .i64 (m + 2 * n)) ∧ Below w.heap.size w w' := by
  go_enter Tryz.func12, Tryz.ntmps12
  go_wp2
  go_loopw [1, 5] (fun s i w1 => ∃ k : Nat, k ≤ n ∧ i = .int .i64 k ∧ s = .int .i64 (m + 2 * k) ∧ w1 = w) (fun _ i _ => n - (intOf i).toNat)
  case atStart => exact ⟨0, Nat.zero_le _, rfl, by go_num, rfl⟩
  case round =>
    obtain ⟨k, hk, rfl, rfl, rfl⟩ := hrel
    by_cases hlt : k < n
    · obtain ⟨x0, x1, b, off, Hx, rfl, hbB, c0, c1⟩ := hx.atFault hlt
      obtain ⟨rfl, rfl⟩ : x0 = m + 2 * k ∧ x1 = m + 2 * k + 1 := by
        have := Hx.out
        simp only [marksFault, List.getElem?_map, List.getElem?_range hlt, Option.map_some, Option.some.injEq, Fault.mk.injEq] at this
        omega
      clear hx
      go_wp2
      go_roundw
      all_goals first | exact ⟨k + 1, by omega, by go_num, by go_num, by trivial⟩ | exact ⟨⟨k + 1, by omega, by go_num, by go_num, by trivial⟩, by simp [intOf]; omega⟩ | (simp [intOf]; omega)
    · have : k = n := by omega
      subst this
      go_wp2
      go_ret
      exact ⟨rfl, Below.refl _ _⟩
end Go.Proofs.YtcgkcfmiabninaaGreatDoor
