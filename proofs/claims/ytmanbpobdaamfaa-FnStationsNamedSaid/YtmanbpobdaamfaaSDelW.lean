/-
  slices.Clone and slices.DeleteFunc over ways. No condition.
-/
import Derived.Test.YtmanbpobdaamfaaSDel
namespace Go.Proofs.Ytmanbpobdaamfaa
open Go.RowKit
set_option maxHeartbeats 400000

theorem run_clear_cells {P : Program} (w : World) (t e ty : TypeId) (z : Value) (ht : P.underlying t = some (.slice e)) (hv : ∀ w, (zeroValue e).run P w = .ok z w) (b o n c : Nat) (hn : 0 < n) (L : List Value) (hL : (Builtin.zeroCells z.cells n).toList = L) (h1 : ∀ v ∈ L, v.oneCell' = true)
    (hc : ∀ j, j < L.length → (w.cell? ⟨b, o + j, none⟩).isSome = true) (hf : ∀ j, j < L.length → w.frozen? ⟨b, o + j, none⟩ = false) :
    (Builtin.clear_ #[t] ty #[.slice (some ⟨b, o, none⟩) n c]).run P w = .ok (.tuple #[]) (w.setCells b o L) := by
  have hst := run_storeCells_cells (P := P) b o L 0 w (by simpa using hc) (by simpa using hf) h1
  simp only [Nat.add_zero] at hst
  obtain ⟨m, rfl⟩ : ∃ m, n = m + 1 := ⟨n - 1, by omega⟩
  simp [Builtin.clear_, run_underlying ht, hv, hL, hst]
/-- the zero cells of some ways -/
def zeroW (n : Nat) : List Value := (Builtin.zeroCells (Value.agg #[.string ByteArray.empty, .string ByteArray.empty, .int .i64 0]).cells n).toList
theorem zeroW_len (n : Nat) : (zeroW n).length = n * 3 := by simp [zeroW, Builtin.zeroCells, Value.cells]
theorem zeroW_one (n : Nat) : ∀ v ∈ zeroW n, v.oneCell' = true := by
  intro v hv
  simp [zeroW, Builtin.zeroCells, Value.cells] at hv
  obtain ⟨i, _, hi⟩ := hv
  have h3 : i % 3 = 0 ∨ i % 3 = 1 ∨ i % 3 = 2 := by omega
  rcases h3 with h | h | h <;> (simp [h] at hi; subst hi; rfl)
theorem news_of_ways {w : World} {B b off n : Nat} {xs : List Way} (hx : Sl w B 3 encWay (some ⟨b, off, none⟩) n xs) : ∀ (j : Nat) (u : Value), (xs.flatMap encWay)[j]? = some u → w.cell? ((⟨b, off, none⟩ : Addr).add j) = some u := by
  intro j u hj
  rw [Addr.add_lit]
  have hjl : j < xs.length * 3 := by have := (List.getElem?_eq_some_iff.1 hj).1; rwa [flatMap_len encWay_len] at this
  have hq : j / 3 < xs.length := by omega
  obtain ⟨b', off', e, _, hc⟩ := hx.2 (j / 3) xs[j / 3] (List.getElem?_eq_getElem hq)
  injection e with e
  injection e with e1 e2
  subst e1 e2
  have hm : j % 3 < (encWay xs[j / 3]).length := by rw [encWay_len]; omega
  have h2 := flatMap_get encWay_len xs (j / 3) (List.getElem?_eq_getElem hq) (List.getElem?_eq_getElem hm)
  rw [show j / 3 * 3 + j % 3 = j by omega, hj] at h2
  injection h2 with h2
  have := hc (j % 3) _ (List.getElem?_eq_getElem hm)
  rw [show off + j / 3 * 3 + j % 3 = off + j by omega] at this
  rw [this, h2]
theorem one_encWay (xs : List Way) : ∀ u ∈ xs.flatMap encWay, u.oneCell' = true := by
  intro u hu
  obtain ⟨x, _, hx⟩ := List.mem_flatMap.1 hu
  simp [encWay] at hx
  rcases hx with rfl | rfl | rfl <;> rfl
theorem cloneW_nil (A : Option Addr) (c : Nat) (w : World) :
    Calls Try.prog 58 #[.slice A 0 c] w fun r w' => ∃ A1 c1, r = .returned (.slice A1 0 c1) ∧ w'.ownsRow w.heap.size 54 3 (.slice A1 0 c1) 0 [] ∧ Below w.heap.size w w' := by
  have o0 := World.ownsRow_lit (base := w.heap.size) (e := 54) (size := 3) w #[] 0 (Nat.le_refl _) (by simp [maxLen]) (by simp)
  have h1 : ∀ u : World, (pure #[] : Sem (Array Value)).run Try.prog u = .ok #[] u := fun _ => rfl
  have h2 : ∀ (p : Addr) (u : World), (storeCells p []).run Try.prog u = .ok () u := fun _ _ => rfl
  cases A with
  | none =>
    have hU := fun w' : World => Lib.run_eql_slice_nil (P := Try.prog) w' 27 54 none 0 c 0 0 Try.underlying27
    go_enter Try.func58, Try.ntmps58
    go_wp2
    go_ret
    exact ⟨_, _, rfl, World.ownsRow_nil _ _ _ _, Below.refl _ _⟩
  | some a =>
    have hU := fun w' : World => Lib.run_eql_slice_nil (P := Try.prog) w' 27 54 (some a) 0 c 0 0 Try.underlying27
    go_enter Try.func58, Try.ntmps58
    go_wp2
    go_ret
    exact ⟨_, _, rfl, o0, (Below.refl _ _).alloc (Nat.le_refl _) _⟩
theorem cloneW_any (A : Option Addr) (n c : Nat) (xs : List Way) (w : World) (B : Nat) (hB : B ≤ w.heap.size) (hn : n ≤ 2000000) (hx : Sl w B 3 encWay A n xs) :
    Calls Try.prog 58 #[.slice A n c] w fun r w' => ∃ A1 c1, r = .returned (.slice A1 n c1) ∧ w'.ownsRow w.heap.size 54 3 (.slice A1 n c1) n (xs.flatMap encWay) ∧ Below w.heap.size w w' := by
  have hl := hx.len
  rcases Nat.eq_zero_or_pos n with h0 | h0
  · subst h0
    rw [List.eq_nil_of_length_eq_zero hl]
    exact cloneW_nil A c w
  · obtain ⟨x0, x1, x2, b, off, _, rfl, hb, _⟩ := hx.atWay h0
    have o0 := World.ownsRow_lit (base := w.heap.size) (e := 54) (size := 3) w #[] 0 (Nat.le_refl _) (by simp [maxLen]) (by simp)
    obtain ⟨i0, hi, hz0, hz1, hz2⟩ := info_parts Way_info
    have hnew := news_of_ways (hx.alloc hB (.cells #[] 54))
    have hlen : (xs.flatMap encWay).length = n * 3 := by rw [flatMap_len encWay_len, hl]
    clear hx
    have hU := fun w' : World => Lib.run_eql_slice_nil (P := Try.prog) w' 27 54 (some ⟨b, off, none⟩) n c 0 0 Try.underlying27
    go_enter Try.func58, Try.ntmps58
    go_wp2_with (at_builtin; refine wpList_append_lies _ rfl _ _ 27 rfl w.heap.size 54 i0 (.agg #[.string ByteArray.empty, .string ByteArray.empty, .int .i64 0]) 3 40 Try.underlying27 hi hz0 hz1 hz2 rfl (by omega) (.slice (some ⟨w.heap.size, 0, none⟩) 0 0) 0 [] rfl o0 ⟨b, off, none⟩ n c (xs.flatMap encWay) rfl hlen hnew (one_encWay xs) (by omega) (by simp only [maxLen]; omega) (by omega) (by simp) (w.heap.size + 1) (by simp) ?_; intro gg cap w3 ho3 hg3 hat3 hlt3)
    have hb3 : Below w.heap.size w w3 := ((Below.refl _ _).alloc (Nat.le_refl _) _).grown hg3 (by simp) (fun q hq => by simp [Value.ownBlock] at hq; omega)
    rw [List.nil_append] at ho3
    simp only [Nat.zero_add] at ho3
    clear hnew hlen o0
    go_ret
    exact ⟨_, _, rfl, ho3, hb3⟩
theorem Mid.keepW {p : Way → Bool} {xs : List Way} {m j : Nat} {f t : ByteArray} {z : Int} {l : List Value} (h : Mid encWay 3 p xs m j l) (hx : xs[j]? = some ⟨f, t, z⟩) (hp : p ⟨f, t, z⟩ = false) (hm : m < j) (hl : j * 3 + 2 < l.length) : Mid encWay 3 p xs (m + 1) (j + 1) (((l.set (m * 3) (.string f)).set (m * 3 + 1) (.string t)).set (m * 3 + 2) (.int .i64 z)) := by
  have e : stay p (xs.take (j + 1)) = stay p (xs.take j) ++ [⟨f, t, z⟩] := by rw [stay_snoc hx, hp]; simp
  have hlen : ((stay p (xs.take j)).flatMap encWay).length = m * 3 := by rw [flatMap_len encWay_len, h.num]
  refine ⟨?_, by rw [e]; simp [h.num], fun i hi => ?_⟩
  · rw [e, List.flatMap_append]
    have h1 := h.pre.push (j := m * 3) hlen.symm (by omega) (.string f)
    have h2 := h1.push (j := m * 3 + 1) (by simp [hlen]) (by simp; omega) (.string t)
    have h3 := h2.push (j := m * 3 + 2) (by simp [hlen]) (by simp; omega) (.int .i64 z)
    simpa [encWay] using h3
  · rw [List.getElem?_set_ne (by omega), List.getElem?_set_ne (by omega), List.getElem?_set_ne (by omega)]
    exact h.rest i (by omega)
set_option maxHeartbeats 4000000 in
set_option maxRecDepth 100000 in
theorem deleteW_some (g : Nat) (caps : Array Value) (p : Way → Bool) (eg : ∀ args w, (callFunc g args).run Try.prog w = .ok (.enter g args) w) (lo gb n c : Nat) (xs : List Way) (w : World) (hn : n ≤ 2000000) (hn0 : 0 < n) (ho : w.ownsRow lo 54 3 (.slice (some ⟨gb, 0, none⟩) n c) n (xs.flatMap encWay))
    (hp : ∀ (W : World) (x y : ByteArray) (m : Int), (⟨x, y, m⟩ : Way) ∈ xs → w.grownBy W (some gb) → Calls Try.prog g (#[.agg #[.string x, .string y, .int .i64 m]] ++ caps) W fun e w' => e = .returned (.bool (p ⟨x, y, m⟩)) ∧ Below W.heap.size W w') :
    Calls Try.prog 57 #[.slice (some ⟨gb, 0, none⟩) n c, .func (.func g) #[] caps] w fun r w' => ∃ m, r = .returned (.slice (some ⟨gb, 0, none⟩) m c) ∧ w'.ownsRow lo 54 3 (.slice (some ⟨gb, 0, none⟩) m c) m ((stay p xs).flatMap encWay) ∧ w.grownBy w' (some gb) := by
  have hl := own_len encWay_len (by omega) ho
  have hix := IndexFunc_Way g caps p eg (some ⟨gb, 0, none⟩) n c xs w w.heap.size (Nat.le_refl _) (by omega) (own_sl encWay_len (by omega) ho) (fun W x y m hz hb => hp W x y m hz (Span0 hb _))
  obtain ⟨_, _, hfm, hnc0⟩ := own_form ho
  have hnc : n ≤ c := by injection hfm with _ _ h3; omega
  have hcm : c ≤ 9223372036854775807 := by
    rcases ho.2 with ⟨h', _⟩ | ⟨g', cap', cur, h', _, _, _, hcm, _⟩
    · simp at h'
    · injection h' with _ _ h3
      unfold maxLen at hcm
      omega
  clear hfm hnc0
  rcases findFrom_cases p xs 0 with ⟨hf, hall⟩ | ⟨k0, x0, hf, hx0, hp0, hall⟩
  · have ES : Hid (stay p xs = xs) := stay_all hall
    rw [hf] at hix
    clear hf hall hp hl
    go_enter Try.func57, Try.ntmps57
    go_wp2_with (go_at_call 81; refine hix.mono ?_; rintro r w1 ⟨rfl, b1⟩)
    go_ret
    exact ⟨n, rfl, by rw [ES.out]; exact own_below ho b1, Span0 b1 _⟩
  · rw [hf, Nat.zero_add] at hix
    have M0 := hid (Mid.start (enc := encWay) (kc := 3) hx0 hp0 hall)
    have hk0 : k0 < n := by have := (List.getElem?_eq_some_iff.1 hx0).1; omega
    have hne : ((k0 : Int) == -1) = false := by simp
    have v3 : ∀ w, (zeroValue 54).run Try.prog w = .ok (.agg #[.string ByteArray.empty, .string ByteArray.empty, .int .i64 0]) w := fun w => by kernel_rfl
    have HP := hid hp
    have HL := hid hl
    have HO := hid ho
    clear hf hall hp hl hx0 hp0 ho
    go_enter Try.func57, Try.ntmps57
    go_wp2_with (go_at_call 81; refine hix.mono ?_; rintro r w1 ⟨rfl, b1⟩)
    go_loopw [5, 6, 7] (fun i j _ wl => ∃ (m q : Nat) (l : List Value), i = .int .i64 m ∧ j = .int .i64 q ∧ m < q ∧ q ≤ n ∧ Hid (Mid encWay 3 p xs m q l) ∧ Hid (wl.ownsRow lo 54 3 (.slice (some ⟨gb, 0, none⟩) n c) n l) ∧ w.grownBy wl (some gb)) (fun _ j _ _ => n - (intOf j).toNat)
    case atStart => exact ⟨k0, k0 + 1, _, rfl, by go_num, by omega, by omega, M0, own_below HO.out b1, Span0 b1 _⟩
    case round =>
      obtain ⟨m, q, l, rfl, rfl, hmq, hqn, hM, ho2, hgr⟩ := hrel
      have hlen : Hid (l.length = n * 3) := ho2.out.1
      by_cases hlt : q < n
      · have hqx : q < xs.length := by rw [← HL.out]; exact hlt
        have hz := List.getElem?_eq_getElem hqx
        have hce := fun (jj : Nat) (hj : jj < 3) => ho2.out.cellAt (q * 3 + jj) (by omega)
        have hget := fun (jj : Nat) (u : Value) (hu : (encWay xs[q])[jj]? = some u) => flatMap_get encWay_len xs q hz hu
        obtain ⟨fx, fy, fm⟩ : ∃ a b c, xs[q] = (⟨a, b, c⟩ : Way) := ⟨xs[q].fr, xs[q].to, xs[q].metres, rfl⟩
        obtain ⟨f, hf⟩ : ∃ f, xs[q].fr = f := ⟨_, rfl⟩
        obtain ⟨t, ht⟩ : ∃ t, xs[q].to = t := ⟨_, rfl⟩
        obtain ⟨z, hm⟩ : ∃ z, xs[q].metres = z := ⟨_, rfl⟩
        have hxq : xs[q] = (⟨f, t, z⟩ : Way) := by rw [← hf, ← ht, ← hm]
        have c0 := hce 0 (by omega)
        have c1 := hce 1 (by omega)
        have c2 := hce 2 (by omega)
        rw [hM.out.rest _ (by omega), hget 0 (.string f) (by rw [hxq]; rfl), Nat.add_zero] at c0
        rw [hM.out.rest _ (by omega), hget 1 (.string t) (by rw [hxq]; rfl)] at c1
        rw [hM.out.rest _ (by omega), hget 2 (.int .i64 z) (by rw [hxq]; rfl)] at c2
        rw [hxq] at hz
        have hzz := hid hz
        obtain ⟨W5, hW5⟩ : ∃ W5, W5 = wr.alloc (.cells #[.string f, .string t, .int .i64 z] 54) := ⟨_, rfl⟩
        have b5 : Below wr.heap.size wr W5 := by rw [hW5]; exact (Below.refl _ _).alloc (Nat.le_refl _) _
        have d0 : W5.cell? ⟨wr.heap.size, 0, none⟩ = some (.string f) := by rw [hW5]; go_simp
        have d1 : W5.cell? ⟨wr.heap.size, 1, none⟩ = some (.string t) := by rw [hW5]; go_simp
        have d2 : W5.cell? ⟨wr.heap.size, 2, none⟩ = some (.int .i64 z) := by rw [hW5]; go_simp
        have hg5 := hgr.trans (Span0 b5 (some gb))
        have hcall := HP.out W5 f t z (by rw [← hxq]; exact List.getElem_mem hqx) hg5
        have HW5 := hid hW5
        have o5' := own_below ho2.out b5
        clear hz hW5 hce hget hxq hf ht hm
        have q0 : (0 : Int) ≤ (q : Int) := by omega
        have q1 : (q : Int) < (n : Int) := by omega
        cases hpz : p ⟨f, t, z⟩ with
        | true =>
          have M2 := hid (hM.out.skip hzz.out hpz)
          rw [hpz] at hcall
          clear hpz
          go_wp2_with fail
          rw [← HW5.out]
          go_wp2_with (go_at_fn g; refine hcall.mono ?_; rintro r w2 ⟨rfl, b2⟩)
          have hg2 := hg5.trans (Span0 b2 _)
          have o3 := hid (own_below o5' b2)
          go_roundw
          all_goals first | exact ⟨m, q + 1, l, rfl, by go_num, by omega, by omega, M2, o3, hg2⟩ | exact ⟨⟨m, q + 1, l, rfl, by go_num, by omega, by omega, M2, o3, hg2⟩, by simp [intOf]; omega⟩ | (simp [intOf]; omega)
        | false =>
          have M2 := hid (hM.out.keepW hzz.out hpz hmq (by rw [hlen.out]; omega))
          rw [hpz] at hcall
          clear hpz
          have m0 : (0 : Int) ≤ (m : Int) := by omega
          have m1 : (m : Int) < (n : Int) := by omega
          go_wp2_with fail
          rw [← HW5.out]
          refine hcall.mono ?_
          rintro r w2 ⟨rfl, b2⟩
          have o3 := own_below o5' b2
          replace d0 := below_cell d0 b2
          replace d1 := below_cell d1 b2
          replace d2 := below_cell d2 b2
          have hgw : gb < wr.heap.size := (own_lt ho2.out).2
          obtain ⟨⟨u0, e0⟩, f0⟩ := own_at o3 (Below.refl _ _) (m * 3) (by omega)
          obtain ⟨⟨u1, e1⟩, f1⟩ := own_at o3 (Below.refl _ _) (m * 3 + 1) (by omega)
          obtain ⟨⟨u2, e2⟩, f2⟩ := own_at o3 (Below.refl _ _) (m * 3 + 2) (by omega)
          have s1 := o3.stored (m * 3) (.string f)
          have s2 := s1.1.stored (m * 3 + 1) (.string t)
          have s3 := s2.1.stored (m * 3 + 2) (.int .i64 z)
          have hg2 := (((hg5.trans (Span0 b2 _)).trans s1.2).trans s2.2).trans s3.2
          have o5 := hid s3.1
          clear s1 s2 s3
          go_wp2_with fail
          go_roundw
          all_goals first | exact ⟨m + 1, q + 1, _, by go_num, by go_num, by omega, by omega, M2, o5, hg2⟩ | exact ⟨⟨m + 1, q + 1, _, by go_num, by go_num, by omega, by omega, M2, o5, hg2⟩, by simp [intOf]; omega⟩ | (simp [intOf]; omega)
      · have hqe : q = n := by omega
        subst hqe
        have hat : ∀ t, t < q * 3 → (wr.cell? ⟨gb, t, none⟩).isSome = true ∧ wr.frozen? ⟨gb, t, none⟩ = false := fun t ht => by
          obtain ⟨⟨u, hu⟩, hf⟩ := own_at ho2.out (Below.refl _ _) t (by omega)
          exact ⟨by rw [hu]; rfl, hf⟩
        have hcl : ∀ ty, (Builtin.clear_ #[27] ty #[.slice (some ⟨gb, m * 3, none⟩) (q - m) (c - m)]).run Try.prog wr = .ok (.tuple #[]) (wr.setCells gb (m * 3) (zeroW (q - m))) := fun ty =>
          run_clear_cells (P := Try.prog) wr 27 54 ty _ Try.underlying27 v3 gb (m * 3) (q - m) (c - m) (by omega) _ rfl (zeroW_one _) (fun t ht => (hat _ (by have := zeroW_len (q - m); omega)).1) (fun t ht => (hat _ (by have := zeroW_len (q - m); omega)).2)
        obtain ⟨o6, g6⟩ := own_setCells (zeroW (q - m)) (m * 3) wr l ho2.out
        have o7 := own_shrink (m := m) o6 (by omega)
        have e7 : (setL l (m * 3) (zeroW (q - m))).take (m * 3) = (stay p xs).flatMap encWay := by
          rw [← hM.out.done encWay_len (by rw [← HL.out]; exact Nat.le_refl _) (by rw [hlen.out]; omega), setL_eq _ _ _ (by rw [hlen.out, zeroW_len]; omega), List.append_assoc, List.take_append_of_le_length (by rw [List.length_take, hlen.out]; omega), List.take_take]
          simp
        rw [e7] at o7
        have O7 := hid o7
        have G7 := hid (hgr.trans g6)
        have hmc : ¬ c = m := by omega
        have m2 : (m : Int) ≤ (q : Int) := by omega
        have m3 : (m : Int) ≤ (c : Int) := by omega
        have m0 : (0 : Int) ≤ (m : Int) := by omega
        have hm3 : 0 + m * 3 = m * 3 := Nat.zero_add _
        clear o6 g6 o7 e7 hat hM ho2
        go_wp2_with fail
        go_ret
        exact ⟨m, rfl, O7.out, G7.out⟩
theorem deleteW_any (g : Nat) (caps : Array Value) (p : Way → Bool) (eg : ∀ args w, (callFunc g args).run Try.prog w = .ok (.enter g args) w) (lo : Nat) (A : Option Addr) (n c : Nat) (xs : List Way) (w : World) (hn : n ≤ 2000000) (ho : w.ownsRow lo 54 3 (.slice A n c) n (xs.flatMap encWay))
    (hp : ∀ (W : World) (x y : ByteArray) (m : Int), (⟨x, y, m⟩ : Way) ∈ xs → w.grownBy W (Value.slice A n c).ownBlock → Calls Try.prog g (#[.agg #[.string x, .string y, .int .i64 m]] ++ caps) W fun e w' => e = .returned (.bool (p ⟨x, y, m⟩)) ∧ Below W.heap.size W w') :
    Calls Try.prog 57 #[.slice A n c, .func (.func g) #[] caps] w fun r w' => ∃ m, r = .returned (.slice A m c) ∧ w'.ownsRow lo 54 3 (.slice A m c) m ((stay p xs).flatMap encWay) ∧ w.grownBy w' (Value.slice A n c).ownBlock := by
  rcases Nat.eq_zero_or_pos n with h0 | h0
  · subst h0
    have hl := own_len encWay_len (by omega) ho
    have hxs : xs = [] := List.eq_nil_of_length_eq_zero hl.symm
    subst hxs
    have hix := IndexFunc_Way g caps p eg A 0 c [] w w.heap.size (Nat.le_refl _) (by omega) ⟨rfl, fun i x h => by simp at h⟩ (fun W x y m hz hb => by simp at hz)
    simp only [findFrom] at hix
    clear hp hl
    go_enter Try.func57, Try.ntmps57
    go_wp2_with (go_at_call 81; refine hix.mono ?_; rintro r w1 ⟨rfl, b1⟩)
    go_ret
    exact ⟨0, rfl, own_below ho b1, Span0 b1 _⟩
  · obtain ⟨gb, rfl, _, _⟩ := own_some ho h0
    exact deleteW_some g caps p eg lo gb n c xs w hn h0 ho hp
end Go.Proofs.Ytmanbpobdaamfaa
