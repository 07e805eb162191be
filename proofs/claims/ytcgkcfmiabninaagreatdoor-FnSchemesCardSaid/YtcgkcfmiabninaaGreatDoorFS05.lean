/-
  FS: texts SDel, SDelW, SList, SBy, SByS, SDrop, RegL, SDraw0, one behind the other. No condition but what each says.
-/
import Derived.Test.YtcgkcfmiabninaaGreatDoorFS04
import Derived.Deep.RegionHeld3
import Derived.Deep.RegionHeld
/-
  slices.Clone and slices.DeleteFunc over names. No condition.
-/
namespace Go.Proofs.YtcgkcfmiabninaaGreatDoor
open Go.RowKit
set_option maxHeartbeats 400000

theorem news_of_strs {w : World} {B b off n : Nat} {xs : List ByteArray} (hx : Sl w B 1 encS (some ⟨b, off, none⟩) n xs) : ∀ (j : Nat) (u : Value), (xs.flatMap encS)[j]? = some u → w.cell? ((⟨b, off, none⟩ : Addr).add j) = some u := by
  intro j u hj
  rw [Addr.add_lit]
  have hjl : j < xs.length := by have := (List.getElem?_eq_some_iff.1 hj).1; rwa [flatMap_len encS_len, Nat.mul_one] at this
  obtain ⟨b', off', e, _, hc⟩ := hx.2 j xs[j] (List.getElem?_eq_getElem hjl)
  injection e with e
  injection e with e1 e2
  subst e1 e2
  have := hc 0 _ rfl
  simp only [Nat.mul_one, Nat.add_zero] at this
  rw [this]
  have h2 := flatMap_get encS_len (j := 0) (u := .string xs[j]) xs j (List.getElem?_eq_getElem hjl) rfl
  rw [Nat.mul_one, Nat.add_zero, hj] at h2
  injection h2 with h2
  rw [h2]
theorem one_encS (xs : List ByteArray) : ∀ u ∈ xs.flatMap encS, u.oneCell' = true := by
  intro u hu
  obtain ⟨x, _, hx⟩ := List.mem_flatMap.1 hu
  simp [encS] at hx
  subst hx
  rfl
theorem IndexFunc_S (g : Nat) (caps : Array Value) (p : ByteArray → Bool) (eg : ∀ args w, (callFunc g args).run Tryz.prog w = .ok (.enter g args) w) (A : Option Addr) (n c : Nat) (xs : List ByteArray) (w : World) (B : Nat) (hB : B ≤ w.heap.size) (hn : n ≤ 140737488355328)
    (hx : Sl w B 1 encS A n xs) (hp : ∀ (W : World) (z : ByteArray), z ∈ xs → Below w.heap.size w W → Calls Tryz.prog g (#[.string z] ++ caps) W fun e w' => e = .returned (.bool (p z)) ∧ Below W.heap.size W w') :
    Calls Tryz.prog 94 #[.slice A n c, .func (.func g) #[] caps] w fun e w' => e = .returned (.int .i64 (findFrom p 0 xs)) ∧ Below w.heap.size w w' := by
  go_enter Tryz.func94, Tryz.ntmps94
  go_wp2
  go_loopw [5, 8] (fun _ i w1 => ∃ k : Nat, k ≤ n ∧ i = .int .i64 k ∧ Hid (findFrom p 0 xs = findFrom p k (xs.drop k)) ∧ Below w.heap.size w w1) (fun _ i _ => n - (intOf i).toNat)
  case atStart => exact ⟨0, Nat.zero_le _, rfl, hid rfl, Below.refl _ _⟩
  case round =>
    obtain ⟨k, hk, rfl, he, hb⟩ := hrel
    by_cases hlt : k < n
    · obtain ⟨z, b, off, Hx, rfl, hbB, c0⟩ := (hx.below (hb.mono hB)).str hlt
      have hcall := hp wr z (List.mem_of_getElem? Hx.out) hb
      have he2 := he.out
      rw [drop_at Hx.out, findFrom] at he2
      clear hp hx
      cases hq : p z with
      | true =>
        rw [hq] at hcall
        rw [hq, if_pos rfl] at he2
        have He2 := hid he2
        clear he2 hq
        go_wp2_with (go_at_fn g; refine hcall.mono ?_; rintro e w' ⟨rfl, hb'⟩)
        go_ret
        exact ⟨retI He2.out.symm, hb.trans (hb'.mono hb.size)⟩
      | false =>
        rw [hq] at hcall
        rw [hq, if_neg (by simp)] at he2
        have He2 := hid he2
        clear he2 hq
        go_wp2_with (go_at_fn g; refine hcall.mono ?_; rintro e w' ⟨rfl, hb'⟩)
        have hb2 := hb.trans (hb'.mono hb.size)
        go_roundw
        all_goals first | exact ⟨k + 1, by omega, by go_num, He2, hb2⟩ | exact ⟨⟨k + 1, by omega, by go_num, He2, hb2⟩, by simp [intOf]; omega⟩ | (simp [intOf]; omega)
    · have : k = n := by omega
      subst this
      have he2 := he.out
      rw [List.drop_of_length_le (by rw [hx.len]; omega), findFrom] at he2
      have He2 := hid he2
      clear he2
      go_wp2
      go_ret
      exact ⟨retI He2.out.symm, hb⟩
theorem findFrom_cases {α : Type} (p : α → Bool) : ∀ (l : List α) (i : Nat), (findFrom p i l = -1 ∧ ∀ x ∈ l, p x = false) ∨ ∃ (k : Nat) (x : α), findFrom p i l = ((i + k : Nat) : Int) ∧ l[k]? = some x ∧ p x = true ∧ ∀ y ∈ l.take k, p y = false := by
  intro l
  induction l with
  | nil => intro i; exact .inl ⟨rfl, by simp⟩
  | cons a r ih =>
    intro i
    cases ha : p a with
    | true => exact .inr ⟨0, a, by simp [findFrom, ha], by simp, ha, by simp⟩
    | false =>
      rcases ih (i + 1) with ⟨h1, h2⟩ | ⟨k, x, h1, h2, h3, h4⟩
      · exact .inl ⟨by simp [findFrom, ha, h1], by simp [ha]; exact h2⟩
      · refine .inr ⟨k + 1, x, ?_, by simpa using h2, h3, by simp [ha]; exact h4⟩
        simp only [findFrom, ha]
        rw [if_neg (by simp), h1]
        congr 1
        omega
/-- those that stay -/
def stay {α : Type} (p : α → Bool) (l : List α) : List α := l.filter fun z => !p z
theorem stay_all {α : Type} {p : α → Bool} {l : List α} (h : ∀ x ∈ l, p x = false) : stay p l = l := by
  unfold stay; rw [List.filter_eq_self]; intro x hx; simp [h x hx]
theorem stay_snoc {α : Type} {p : α → Bool} {xs : List α} {k : Nat} {x : α} (h : xs[k]? = some x) : stay p (xs.take (k + 1)) = if p x then stay p (xs.take k) else stay p (xs.take k) ++ [x] := by
  rw [take_at h, stay, List.filter_append]
  cases hp : p x <;> simp [hp, stay]
theorem stay_len {α : Type} (p : α → Bool) (l : List α) : (stay p l).length ≤ l.length := List.length_filter_le _ _
/-- a row on its way: what stays lies ahead, what is not yet looked at lies where it lay -/
structure Mid {α : Type} (enc : α → List Value) (kc : Nat) (p : α → Bool) (xs : List α) (m j : Nat) (l : List Value) : Prop where
  pre : Pre l ((stay p (xs.take j)).flatMap enc)
  num : (stay p (xs.take j)).length = m
  rest : ∀ i, j * kc ≤ i → l[i]? = (xs.flatMap enc)[i]?
theorem Mid.start {α : Type} {enc : α → List Value} {kc : Nat} {p : α → Bool} {xs : List α} {k : Nat} {x : α} (h : xs[k]? = some x) (hp : p x = true) (ha : ∀ y ∈ xs.take k, p y = false) : Mid enc kc p xs k (k + 1) (xs.flatMap enc) := by
  have hlt := (List.getElem?_eq_some_iff.1 h).1
  have e : stay p (xs.take (k + 1)) = xs.take k := by rw [stay_snoc h, if_pos hp, stay_all ha]
  refine ⟨?_, by rw [e, List.length_take]; omega, fun i _ => rfl⟩
  rw [e]
  intro j u hj
  have : xs.flatMap enc = (xs.take k).flatMap enc ++ (xs.drop k).flatMap enc := by rw [← List.flatMap_append, List.take_append_drop]
  rw [this, List.getElem?_append_left (List.getElem?_eq_some_iff.1 hj).1]
  exact hj
theorem Mid.skip {α : Type} {enc : α → List Value} {kc : Nat} {p : α → Bool} {xs : List α} {m j : Nat} {x : α} {l : List Value} (h : Mid enc kc p xs m j l) (hx : xs[j]? = some x) (hp : p x = true) : Mid enc kc p xs m (j + 1) l := by
  have e : stay p (xs.take (j + 1)) = stay p (xs.take j) := by rw [stay_snoc hx, if_pos hp]
  exact ⟨by rw [e]; exact h.pre, by rw [e]; exact h.num, fun i hi => h.rest i (by rw [Nat.succ_mul] at hi; omega)⟩
theorem Mid.done {α : Type} {enc : α → List Value} {kc : Nat} (hk : ∀ x, (enc x).length = kc) {p : α → Bool} {xs : List α} {m j : Nat} {l : List Value} (h : Mid enc kc p xs m j l) (hj : xs.length ≤ j) (hl : m * kc ≤ l.length) : l.take (m * kc) = (stay p xs).flatMap enc := by
  have hp := h.pre
  have hn := h.num
  rw [List.take_of_length_le hj] at hp hn
  have hlen : ((stay p xs).flatMap enc).length = m * kc := by rw [flatMap_len hk, hn]
  have h2 : Pre (l.take (m * kc)) ((stay p xs).flatMap enc) := fun i u hu => by
    have := (List.getElem?_eq_some_iff.1 hu).1
    rw [List.getElem?_take, if_pos (by omega)]
    exact hp i u hu
  exact h2.all (by rw [List.length_take, hlen]; omega)
theorem Mid.keepS {p : ByteArray → Bool} {xs : List ByteArray} {m j : Nat} {x : ByteArray} {l : List Value} (h : Mid encS 1 p xs m j l) (hx : xs[j]? = some x) (hp : p x = false) (hm : m < j) (hl : j < l.length) : Mid encS 1 p xs (m + 1) (j + 1) (l.set m (.string x)) := by
  have e : stay p (xs.take (j + 1)) = stay p (xs.take j) ++ [x] := by rw [stay_snoc hx, hp]; simp
  have hlen : ((stay p (xs.take j)).flatMap encS).length = m := by rw [flatMap_len encS_len, h.num, Nat.mul_one]
  refine ⟨?_, by rw [e]; simp [h.num], fun i hi => ?_⟩
  · rw [e, List.flatMap_append]
    have := h.pre.push (j := m) hlen.symm (by omega) (.string x)
    simpa [encS] using this
  · rw [List.getElem?_set_ne (by omega)]
    exact h.rest i (by omega)
set_option maxHeartbeats 4000000 in
set_option maxRecDepth 100000 in
theorem deleteS_some (g : Nat) (caps : Array Value) (p : ByteArray → Bool) (eg : ∀ args w, (callFunc g args).run Tryz.prog w = .ok (.enter g args) w) (lo gb n c : Nat) (xs : List ByteArray) (w : World) (hn : n ≤ 2000000) (hn0 : 0 < n) (ho : w.ownsRow lo 9 1 (.slice (some ⟨gb, 0, none⟩) n c) n (xs.flatMap encS))
    (hp : ∀ (W : World) (z : ByteArray), z ∈ xs → w.grownBy W (some gb) → Calls Tryz.prog g (#[.string z] ++ caps) W fun e w' => e = .returned (.bool (p z)) ∧ Below W.heap.size W w') :
    Calls Tryz.prog 81 #[.slice (some ⟨gb, 0, none⟩) n c, .func (.func g) #[] caps] w fun r w' => ∃ m, r = .returned (.slice (some ⟨gb, 0, none⟩) m c) ∧ w'.ownsRow lo 9 1 (.slice (some ⟨gb, 0, none⟩) m c) m ((stay p xs).flatMap encS) ∧ w.grownBy w' (some gb) := by
  have hl := own_len encS_len (by omega) ho
  have hix := IndexFunc_S g caps p eg (some ⟨gb, 0, none⟩) n c xs w w.heap.size (Nat.le_refl _) (by omega) (own_sl encS_len (by omega) ho) (fun W z hz hb => hp W z hz (Span0 hb _))
  obtain ⟨_, _, hfm, hnc0⟩ := own_form ho
  have hnc : n ≤ c := by injection hfm with _ _ h3; omega
  have hcm : c ≤ 9223372036854775807 := by
    rcases ho.2 with ⟨h', _⟩ | ⟨g', cap', cur, h', _, _, _, hcm, _⟩
    · simp at h'
    · injection h' with _ _ h3
      unfold maxLen at hcm
      omega
  clear hfm hnc0
  rcases findFrom_cases p xs 0 with ⟨hf, hall⟩ | ⟨k0, x0, hf, hx0, hp0, hall⟩
  · have ES : Hid (stay p xs = xs) := stay_all hall
    rw [hf] at hix
    clear hf hall hp hl
    go_enter Tryz.func81, Tryz.ntmps81
    go_wp2_with (go_at_call 94; refine hix.mono ?_; rintro r w1 ⟨rfl, b1⟩)
    go_ret
    exact ⟨n, rfl, by rw [ES.out]; exact own_below ho b1, Span0 b1 _⟩
  · rw [hf, Nat.zero_add] at hix
    have M0 := hid (Mid.start (enc := encS) (kc := 1) hx0 hp0 hall)
    have hk0 : k0 < n := by have := (List.getElem?_eq_some_iff.1 hx0).1; omega
    have hne : ((k0 : Int) == -1) = false := by simp
    have v3 : ∀ w, (zeroValue 9).run Tryz.prog w = .ok (.string ByteArray.empty) w := fun w => by kernel_rfl
    have HP := hid hp
    have HL := hid hl
    have HO := hid ho
    clear hf hall hp hl hx0 hp0 ho
    go_enter Tryz.func81, Tryz.ntmps81
    go_wp2_with (go_at_call 94; refine hix.mono ?_; rintro r w1 ⟨rfl, b1⟩)
    go_loopw [5, 6, 7] (fun i j _ wl => ∃ (m q : Nat) (l : List Value), i = .int .i64 m ∧ j = .int .i64 q ∧ m < q ∧ q ≤ n ∧ Hid (Mid encS 1 p xs m q l) ∧ Hid (wl.ownsRow lo 9 1 (.slice (some ⟨gb, 0, none⟩) n c) n l) ∧ w.grownBy wl (some gb)) (fun _ j _ _ => n - (intOf j).toNat)
    case atStart => exact ⟨k0, k0 + 1, _, rfl, by go_num, by omega, by omega, M0, own_below HO.out b1, Span0 b1 _⟩
    case round =>
      obtain ⟨m, q, l, rfl, rfl, hmq, hqn, hM, ho2, hgr⟩ := hrel
      have hlen : Hid (l.length = n) := by have := ho2.out.1; rw [Nat.mul_one] at this; exact this
      by_cases hlt : q < n
      · have hqx : q < xs.length := by rw [← HL.out]; exact hlt
        have hz := List.getElem?_eq_getElem hqx
        have hcell := ho2.out.cellAt q (by omega)
        rw [hM.out.rest q (by omega), show (xs.flatMap encS)[q]? = some (.string xs[q]) by
          have := flatMap_get encS_len (j := 0) (u := .string xs[q]) xs q hz rfl
          simpa using this] at hcell
        have hcall := HP.out wr xs[q] (List.getElem_mem hqx) hgr
        have hzz := hid hz
        generalize xs[q] = z at hcell hcall hzz
        clear hz
        have q0 : (0 : Int) ≤ (q : Int) := by omega
        have q1 : (q : Int) < (n : Int) := by omega
        cases hpz : p z with
        | true =>
          have M2 := hid (hM.out.skip hzz.out hpz)
          rw [hpz] at hcall
          clear hpz
          go_wp2_with (go_at_fn g; refine hcall.mono ?_; rintro r w2 ⟨rfl, b2⟩)
          have hg2 := hgr.trans (Span0 b2 _)
          have o3 := hid (own_below ho2.out b2)
          go_roundw
          all_goals first | exact ⟨m, q + 1, l, rfl, by go_num, by omega, by omega, M2, o3, hg2⟩ | exact ⟨⟨m, q + 1, l, rfl, by go_num, by omega, by omega, M2, o3, hg2⟩, by simp [intOf]; omega⟩ | (simp [intOf]; omega)
        | false =>
          have M2 := hid (hM.out.keepS hzz.out hpz hmq (by rw [hlen.out]; exact hlt))
          rw [hpz] at hcall
          clear hpz
          have m0 : (0 : Int) ≤ (m : Int) := by omega
          have m1 : (m : Int) < (n : Int) := by omega
          go_wp2_with (go_at_fn g; refine hcall.mono ?_; rintro r w2 ⟨rfl, b2⟩; have o3 := own_below ho2.out b2; obtain ⟨⟨u, e0⟩, f0⟩ := own_at o3 (Below.refl _ _) m (by omega); have o4 := o3.stored m (.string z))
          have hg2 := (hgr.trans (Span0 b2 _)).trans o4.2
          have o5 := hid o4.1
          go_roundw
          all_goals first | exact ⟨m + 1, q + 1, _, by go_num, by go_num, by omega, by omega, M2, o5, hg2⟩ | exact ⟨⟨m + 1, q + 1, _, by go_num, by go_num, by omega, by omega, M2, o5, hg2⟩, by simp [intOf]; omega⟩ | (simp [intOf]; omega)
      · have hqe : q = n := by omega
        subst hqe
        have hat : ∀ t, t < q → (wr.cell? ⟨gb, t, none⟩).isSome = true ∧ wr.frozen? ⟨gb, t, none⟩ = false := fun t ht => by
          obtain ⟨⟨u, hu⟩, hf⟩ := own_at ho2.out (Below.refl _ _) t (by omega)
          exact ⟨by rw [hu]; rfl, hf⟩
        have hcl : ∀ ty, (Builtin.clear_ #[22] ty #[.slice (some ⟨gb, m, none⟩) (q - m) (c - m)]).run Tryz.prog wr = .ok (.tuple #[]) (wr.setCells gb m (List.replicate (q - m) (.string ByteArray.empty))) := fun ty =>
          Lib.run_clear_slice (P := Tryz.prog) wr 22 9 ty _ Tryz.underlying22 v3 rfl rfl gb m (q - m) (c - m) (by omega) (fun t ht => (hat _ (by omega)).1) (fun t ht => (hat _ (by omega)).2)
        obtain ⟨o6, g6⟩ := own_setCells (List.replicate (q - m) (.string ByteArray.empty)) m wr l ho2.out
        have o7 := own_shrink (m := m) o6 (by omega)
        have e7 : (setL l m (List.replicate (q - m) (.string ByteArray.empty))).take (m * 1) = (stay p xs).flatMap encS := by
          rw [← hM.out.done encS_len (by rw [← HL.out]; exact Nat.le_refl _) (by rw [hlen.out]; omega), setL_eq _ _ _ (by rw [hlen.out, List.length_replicate]; omega), Nat.mul_one, List.append_assoc, List.take_append_of_le_length (by rw [List.length_take, hlen.out]; omega), List.take_take]
          simp
        rw [e7] at o7
        have O7 := hid o7
        have G7 := hid (hgr.trans g6)
        have hmc : ¬ c = m := by omega
        have m2 : (m : Int) ≤ (q : Int) := by omega
        have m3 : (m : Int) ≤ (c : Int) := by omega
        have m0 : (0 : Int) ≤ (m : Int) := by omega
        clear o6 g6 o7 e7 hat hM ho2
        go_wp2_with fail
        go_ret
        exact ⟨m, rfl, O7.out, G7.out⟩
theorem deleteS_any (g : Nat) (caps : Array Value) (p : ByteArray → Bool) (eg : ∀ args w, (callFunc g args).run Tryz.prog w = .ok (.enter g args) w) (lo : Nat) (A : Option Addr) (n c : Nat) (xs : List ByteArray) (w : World) (hn : n ≤ 2000000) (ho : w.ownsRow lo 9 1 (.slice A n c) n (xs.flatMap encS))
    (hp : ∀ (W : World) (z : ByteArray), z ∈ xs → w.grownBy W (Value.slice A n c).ownBlock → Calls Tryz.prog g (#[.string z] ++ caps) W fun e w' => e = .returned (.bool (p z)) ∧ Below W.heap.size W w') :
    Calls Tryz.prog 81 #[.slice A n c, .func (.func g) #[] caps] w fun r w' => ∃ m, r = .returned (.slice A m c) ∧ w'.ownsRow lo 9 1 (.slice A m c) m ((stay p xs).flatMap encS) ∧ w.grownBy w' (Value.slice A n c).ownBlock := by
  rcases Nat.eq_zero_or_pos n with h0 | h0
  · subst h0
    have hl := own_len encS_len (by omega) ho
    have hxs : xs = [] := List.eq_nil_of_length_eq_zero hl.symm
    subst hxs
    have hix := IndexFunc_S g caps p eg A 0 c [] w w.heap.size (Nat.le_refl _) (by omega) ⟨rfl, fun i x h => by simp at h⟩ (fun W z hz hb => by simp at hz)
    simp only [findFrom] at hix
    clear hp hl
    go_enter Tryz.func81, Tryz.ntmps81
    go_wp2_with (go_at_call 94; refine hix.mono ?_; rintro r w1 ⟨rfl, b1⟩)
    go_ret
    exact ⟨0, rfl, own_below ho b1, Span0 b1 _⟩
  · obtain ⟨gb, rfl, _, _⟩ := own_some ho h0
    exact deleteS_some g caps p eg lo gb n c xs w hn h0 ho hp
end Go.Proofs.YtcgkcfmiabninaaGreatDoor
/-
  slices.Clone and slices.DeleteFunc over ways. No condition.
-/
namespace Go.Proofs.YtcgkcfmiabninaaGreatDoor
open Go.RowKit
set_option maxHeartbeats 400000

theorem run_clear_cells {P : Program} (w : World) (t e ty : TypeId) (z : Value) (ht : P.underlying t = some (.slice e)) (hv : ∀ w, (zeroValue e).run P w = .ok z w) (b o n c : Nat) (hn : 0 < n) (L : List Value) (hL : (Builtin.zeroCells z.cells n).toList = L) (h1 : ∀ v ∈ L, v.oneCell' = true)
    (hc : ∀ j, j < L.length → (w.cell? ⟨b, o + j, none⟩).isSome = true) (hf : ∀ j, j < L.length → w.frozen? ⟨b, o + j, none⟩ = false) :
    (Builtin.clear_ #[t] ty #[.slice (some ⟨b, o, none⟩) n c]).run P w = .ok (.tuple #[]) (w.setCells b o L) := by
  have hst := run_storeCells_cells (P := P) b o L 0 w (by simpa using hc) (by simpa using hf) h1
  simp only [Nat.add_zero] at hst
  obtain ⟨m, rfl⟩ : ∃ m, n = m + 1 := ⟨n - 1, by omega⟩
  simp [Builtin.clear_, run_underlying ht, hv, hL, hst]
/-- the zero cells of some ways -/
def zeroW (n : Nat) : List Value := (Builtin.zeroCells (Value.agg #[.string ByteArray.empty, .string ByteArray.empty, .int .i64 0]).cells n).toList
theorem zeroW_len (n : Nat) : (zeroW n).length = n * 3 := by simp [zeroW, Builtin.zeroCells, Value.cells]
theorem zeroW_one (n : Nat) : ∀ v ∈ zeroW n, v.oneCell' = true := by
  intro v hv
  simp [zeroW, Builtin.zeroCells, Value.cells] at hv
  obtain ⟨i, _, hi⟩ := hv
  have h3 : i % 3 = 0 ∨ i % 3 = 1 ∨ i % 3 = 2 := by omega
  rcases h3 with h | h | h <;> (simp [h] at hi; subst hi; rfl)
theorem news_of_ways {w : World} {B b off n : Nat} {xs : List Way} (hx : Sl w B 3 encWay (some ⟨b, off, none⟩) n xs) : ∀ (j : Nat) (u : Value), (xs.flatMap encWay)[j]? = some u → w.cell? ((⟨b, off, none⟩ : Addr).add j) = some u := by
  intro j u hj
  rw [Addr.add_lit]
  have hjl : j < xs.length * 3 := by have := (List.getElem?_eq_some_iff.1 hj).1; rwa [flatMap_len encWay_len] at this
  have hq : j / 3 < xs.length := by omega
  obtain ⟨b', off', e, _, hc⟩ := hx.2 (j / 3) xs[j / 3] (List.getElem?_eq_getElem hq)
  injection e with e
  injection e with e1 e2
  subst e1 e2
  have hm : j % 3 < (encWay xs[j / 3]).length := by rw [encWay_len]; omega
  have h2 := flatMap_get encWay_len xs (j / 3) (List.getElem?_eq_getElem hq) (List.getElem?_eq_getElem hm)
  rw [show j / 3 * 3 + j % 3 = j by omega, hj] at h2
  injection h2 with h2
  have := hc (j % 3) _ (List.getElem?_eq_getElem hm)
  rw [show off + j / 3 * 3 + j % 3 = off + j by omega] at this
  rw [this, h2]
theorem one_encWay (xs : List Way) : ∀ u ∈ xs.flatMap encWay, u.oneCell' = true := by
  intro u hu
  obtain ⟨x, _, hx⟩ := List.mem_flatMap.1 hu
  simp [encWay] at hx
  rcases hx with rfl | rfl | rfl <;> rfl
theorem Mid.keepW {p : Way → Bool} {xs : List Way} {m j : Nat} {f t : ByteArray} {z : Int} {l : List Value} (h : Mid encWay 3 p xs m j l) (hx : xs[j]? = some ⟨f, t, z⟩) (hp : p ⟨f, t, z⟩ = false) (hm : m < j) (hl : j * 3 + 2 < l.length) : Mid encWay 3 p xs (m + 1) (j + 1) (((l.set (m * 3) (.string f)).set (m * 3 + 1) (.string t)).set (m * 3 + 2) (.int .i64 z)) := by
  have e : stay p (xs.take (j + 1)) = stay p (xs.take j) ++ [⟨f, t, z⟩] := by rw [stay_snoc hx, hp]; simp
  have hlen : ((stay p (xs.take j)).flatMap encWay).length = m * 3 := by rw [flatMap_len encWay_len, h.num]
  refine ⟨?_, by rw [e]; simp [h.num], fun i hi => ?_⟩
  · rw [e, List.flatMap_append]
    have h1 := h.pre.push (j := m * 3) hlen.symm (by omega) (.string f)
    have h2 := h1.push (j := m * 3 + 1) (by simp [hlen]) (by simp; omega) (.string t)
    have h3 := h2.push (j := m * 3 + 2) (by simp [hlen]) (by simp; omega) (.int .i64 z)
    simpa [encWay] using h3
  · rw [List.getElem?_set_ne (by omega), List.getElem?_set_ne (by omega), List.getElem?_set_ne (by omega)]
    exact h.rest i (by omega)
end Go.Proofs.YtcgkcfmiabninaaGreatDoor
/-
  MetresOf, OneWays, WaysFromName: both sides. No condition.
-/
namespace Go.Proofs.YtcgkcfmiabninaaGreatDoor
open Go.RowKit
set_option maxHeartbeats 400000

def sumM (xs : List Way) : Int := (xs.map Way.metres).sum
theorem sumM_take {xs : List Way} {k : Nat} {y : Way} (h : xs[k]? = some y) : sumM (xs.take (k + 1)) = sumM (xs.take k) + y.metres := by
  rw [take_at h]; simp [sumM]
def metF (x : Sch) : Int × Int := if validX x then (sumM x.wy, 0) else (0, 1)
def oneP (x : Sch) (y : Way) : Bool := !hasW x.wy y.«to» y.fr
def oneF (x : Sch) : List Int × Int := if validX x then (idxF (oneP x) x.wy x.wy.length, 0) else ([], 1)
def fromP (z : ByteArray) (y : Way) : Bool := decide (y.fr = z)
def fromF (x : Sch) (z : ByteArray) : List Int × Int := if codeX x z = 0 then (idxF (fromP z) x.wy x.wy.length, 0) else ([], codeX x z)
theorem idxX_len {α : Type} (p : α → Bool) {x : Sch} {xs : List α} (h : xs.length ≤ x.wy.length) (HT : Hid (totX x ≤ 1048576)) : (idxF p xs xs.length).length ≤ 2000000 := by
  have := idxF_len p xs xs.length
  have := HT.out
  simp only [totX] at this
  omega
theorem oneF_len (x : Sch) (HT : Hid (totX x ≤ 1048576)) : (oneF x).1.length ≤ 2000000 := by
  unfold oneF
  split
  · exact idxX_len _ (Nat.le_refl _) HT
  · simp
theorem fromF_len (x : Sch) (z : ByteArray) (HT : Hid (totX x ≤ 1048576)) : (fromF x z).1.length ≤ 2000000 := by
  unfold fromF
  split
  · exact idxX_len _ (Nat.le_refl _) HT
  · simp
theorem codeX_zero {x : Sch} {z : ByteArray} (h : codeX x z = 0) : validX x = true ∧ hasS x.st z = true := by
  unfold codeX at h
  split at h
  · split at h
    · exact ⟨by assumption, by assumption⟩
    · cases h
  · cases h

end Go.Proofs.YtcgkcfmiabninaaGreatDoor
/-
  LonelyStations, DeadEnds: both sides. No condition.
-/
namespace Go.Proofs.YtcgkcfmiabninaaGreatDoor
open Go.RowKit
set_option maxHeartbeats 400000

/-- a list of names and a code -/
def SPost (w : World) (R : List ByteArray × Int) (r : Ending) (w' : World) : Prop :=
  ∃ A n c, r = .returned (.tuple #[.slice A n c, .int .i64 R.2]) ∧ w'.ownsRow w.heap.size 9 1 (.slice A n c) n (R.1.flatMap encS) ∧ Below w.heap.size w w'
theorem SPost.bad {w w' : World} {R : List ByteArray × Int} {z : Int} (hR : R = ([], z)) (hb : Below w.heap.size w w') : SPost w R (.returned (.tuple #[.slice none 0 0, .int .i64 z])) w' := by
  subst hR
  exact ⟨none, 0, 0, rfl, World.ownsRow_nil _ _ _ _, hb⟩
def leadsB (ws : List Way) (z : ByteArray) : Bool := ws.any fun y => decide (y.fr = z)
def comesB (ws : List Way) (z : ByteArray) : Bool := ws.any fun y => decide (y.«to» = z)
/-- is struck: leads or comes otherwise than asked -/
def strB (ws : List Way) (f t : Bool) (z : ByteArray) : Bool := (leadsB ws z != f) || (comesB ws z != t)
def byF (x : Sch) (f t : Bool) : List ByteArray × Int := if validX x then (stay (strB x.wy f t) x.st, 0) else ([], 1)
def lonelyF (x : Sch) : List ByteArray × Int := byF x false false
def deadF (x : Sch) : List ByteArray × Int := byF x false true
theorem byF_len (x : Sch) (f t : Bool) (HT : Hid (totX x ≤ 1048576)) : (byF x f t).1.length ≤ 2000000 := by
  unfold byF
  split
  · have := stay_len (strB x.wy f t) x.st
    have := HT.out
    simp only [totX] at this
    simp only
    omega
  · simp
theorem lonelyF_len (x : Sch) (HT : Hid (totX x ≤ 1048576)) : (lonelyF x).1.length ≤ 2000000 := byF_len x _ _ HT
theorem deadF_len (x : Sch) (HT : Hid (totX x ≤ 1048576)) : (deadF x).1.length ≤ 2000000 := byF_len x _ _ HT
end Go.Proofs.YtcgkcfmiabninaaGreatDoor
/-
  LonelyStations, DeadEnds: the reference's side. No condition.
-/
namespace Go.Proofs.YtcgkcfmiabninaaGreatDoor
open Go.RowKit
set_option maxHeartbeats 400000

def cntB (p : Way → Bool) (ws : List Way) : Nat := ws.countP p
theorem cntB_take {p : Way → Bool} {ws : List Way} {k : Nat} {y : Way} (h : ws[k]? = some y) : cntB p (ws.take (k + 1)) = if p y then cntB p (ws.take k) + 1 else cntB p (ws.take k) := by
  rw [take_at h, cntB, List.countP_append]
  cases hp : p y <;> simp [hp, cntB]
theorem cntB_le (p : Way → Bool) (ws : List Way) : cntB p ws ≤ ws.length := List.countP_le_length
theorem cntB_any (p : Way → Bool) (ws : List Way) : ws.any p = decide (0 < cntB p ws) := by
  rw [Bool.eq_iff_iff]
  simp only [List.any_eq_true, decide_eq_true_eq, cntB, List.countP_pos_iff]
theorem snocS (xs : List ByteArray) (z : ByteArray) : xs.flatMap encS ++ [.string z] = (xs ++ [z]).flatMap encS := by simp [encS]
end Go.Proofs.YtcgkcfmiabninaaGreatDoor
/-
  DropStation: the program's side. No condition.
-/
namespace Go.Proofs.YtcgkcfmiabninaaGreatDoor
open Go.RowKit
set_option maxHeartbeats 400000

def isS (z y : ByteArray) : Bool := decide (y = z)
def atW (z : ByteArray) (y : Way) : Bool := decide (y.fr = z) || decide (y.«to» = z)
def dropF (x : Sch) (z : ByteArray) : Sch × Int := if codeX x z = 0 then (⟨stay (isS z) x.st, stay (isS z) x.rm, stay (atW z) x.wy⟩, 0) else (⟨[], [], []⟩, codeX x z)
theorem dropF_len (x : Sch) (z : ByteArray) (HT : Hid (totX x ≤ 1048576)) : (dropF x z).1.st.length ≤ 2000000 ∧ (dropF x z).1.rm.length ≤ 2000000 ∧ (dropF x z).1.wy.length ≤ 2000000 ∧ lenX (dropF x z).1 ≤ 4000000 := by
  have h1 := stay_len (isS z) x.st
  have h2 := stay_len (isS z) x.rm
  have h3 := stay_len (atW z) x.wy
  have := HT.out
  simp only [totX] at this
  unfold dropF
  split
  · simp only [lenX]; omega
  · simp [lenX]
/-- a scheme and a code -/
def XPost (w : World) (R : Sch × Int) (r : Ending) (w' : World) : Prop :=
  ∃ s : SV, r = .returned (.tuple #[s.v, .int .i64 R.2]) ∧ OwnX w' w.heap.size s R.1 ∧ Below w.heap.size w w'
def obA (A : Option Addr) : Option Nat := A.map Addr.block
theorem own_ob (A : Option Addr) (n c : Nat) : (Value.slice A n c).ownBlock = obA A := by cases A <;> rfl
theorem keepO {w w' : World} {lo T k : Nat} {A A2 : Option Addr} {n c n2 c2 m : Nat} {l : List Value} (h : w.ownsRow lo T k (.slice A n c) m l) (hn : ∀ q, obA A2 = some q → obA A ≠ some q) (hg : w.grownBy w' (Value.slice A2 n2 c2).ownBlock) : w'.ownsRow lo T k (.slice A n c) m l :=
  own_keep h (v2 := .slice A2 n2 c2) (fun q h1 h2 => hn q (by rw [← own_ob A2 n2 c2]; exact h1) (by rw [← own_ob A n c]; exact h2)) hg
theorem keepP {w w' : World} {lo T k : Nat} {A A2 : Option Addr} {n c n2 c2 m : Nat} {l : List Value} (h : w.ownsRow lo T k (.slice A n c) m l) (hn : ∀ q, obA A = some q → obA A2 ≠ some q) (hg : w.grownBy w' (Value.slice A2 n2 c2).ownBlock) : w'.ownsRow lo T k (.slice A n c) m l :=
  keepO h (fun q h1 h2 => hn q h2 h1) hg
theorem far3 {w : World} {g : Nat} {a b c : Value} {p : Addr} (h : p.block ≠ g) : (((w.setCell ⟨g, 0, none⟩ a).setCell ⟨g, 1, none⟩ b).setCell ⟨g, 2, none⟩ c).cell? p = w.cell? p := by
  rw [cell_far (p := ⟨g, 2, none⟩) (Ne.symm h), cell_far (p := ⟨g, 1, none⟩) (Ne.symm h), cell_far (p := ⟨g, 0, none⟩) (Ne.symm h)]
theorem set3_0 {w : World} {g : Nat} {u : Value} (h : w.cell? ⟨g, 0, none⟩ = some u) (a b c : Value) : (((w.setCell ⟨g, 0, none⟩ a).setCell ⟨g, 1, none⟩ b).setCell ⟨g, 2, none⟩ c).cell? ⟨g, 0, none⟩ = some a :=
  (World.cell?_setCell_other _ _ _ _ (by simp)).trans ((World.cell?_setCell_other _ _ _ _ (by simp)).trans (World.cell?_setCell_same _ _ _ h))
theorem set3_1 {w : World} {g : Nat} {u : Value} (h : w.cell? ⟨g, 1, none⟩ = some u) (a b c : Value) : (((w.setCell ⟨g, 0, none⟩ a).setCell ⟨g, 1, none⟩ b).setCell ⟨g, 2, none⟩ c).cell? ⟨g, 1, none⟩ = some b :=
  (World.cell?_setCell_other _ _ _ _ (by simp)).trans (World.cell?_setCell_same _ _ _ ((World.cell?_setCell_other _ _ _ _ (by simp)).trans h))
theorem set3_2 {w : World} {g : Nat} {u : Value} (h : w.cell? ⟨g, 2, none⟩ = some u) (a b c : Value) : (((w.setCell ⟨g, 0, none⟩ a).setCell ⟨g, 1, none⟩ b).setCell ⟨g, 2, none⟩ c).cell? ⟨g, 2, none⟩ = some c :=
  World.cell?_setCell_same _ _ _ ((World.cell?_setCell_other _ _ _ _ (by simp)).trans ((World.cell?_setCell_other _ _ _ _ (by simp)).trans h))
theorem ow_set3 {w : World} {lo T k g : Nat} {v a b c : Value} {n : Nat} {l : List Value} (hp : v.ownBlock ≠ some g) (h : w.ownsRow lo T k v n l) : (((w.setCell ⟨g, 0, none⟩ a).setCell ⟨g, 1, none⟩ b).setCell ⟨g, 2, none⟩ c).ownsRow lo T k v n l := ow_set hp (ow_set hp (ow_set hp h))
theorem bl_set3 {B g : Nat} {a w : World} {u v x : Value} (hg : B ≤ g) (h : Below B a w) : Below B a (((w.setCell ⟨g, 0, none⟩ u).setCell ⟨g, 1, none⟩ v).setCell ⟨g, 2, none⟩ x) := bl_set hg (bl_set hg (bl_set hg h))
theorem apO {A A2 : Option Addr} {n c n2 c2 : Nat} (h : ∀ q, obA A = some q → obA A2 ≠ some q) : ∀ q, (Value.slice A n c).ownBlock = some q → (Value.slice A2 n2 c2).ownBlock ≠ some q := fun q h1 h2 => h q (by rw [← own_ob A n c]; exact h1) (by rw [← own_ob A2 n2 c2]; exact h2)
theorem freshO {w w' : World} {lo T k T2 k2 : Nat} {A A2 : Option Addr} {n c n2 c2 m m2 : Nat} {l l2 : List Value} (h : w'.ownsRow w.heap.size T k (.slice A n c) m l) (h2 : w.ownsRow lo T2 k2 (.slice A2 n2 c2) m2 l2) : ∀ q, obA A2 = some q → obA A ≠ some q := fun q h1 h3 => by
  have a1 := (h.lt q (by rw [own_ob]; exact h3)).1
  have a2 := (h2.lt q (by rw [own_ob]; exact h1)).2
  omega
end Go.Proofs.YtcgkcfmiabninaaGreatDoor
/-
  A region that draws its order and whose last operation waits for all the others: the others in whatever order, then the last one. No condition.
-/
namespace Go.Proofs.YtcgkcfmiabninaaGreatDoor
open Go.RowKit

section
variable {P : Program} {ops : Array Oper} {Q : Exit → Act → World → Prop} {md : Region.Mode} {n : Nat}

/-- what is left when all but the last operation have come up -/
def QLast (P : Program) (ops : Array Oper) (Q : Exit → Act → World → Prop) (n : Nat) (e : Exit) (a : Act) (w : World) : Prop :=
  match e with
  | .normal => wpOp P ops Q n (Q .normal) a w
  | e => Q e a w
def opOk (md : Region.Mode) (i : Nat) (o : Oper) : Bool := o.guard.isNone && o.after.all fun e => !Region.binds md e || decide (e.on < i)
/-- no guard; each waits for earlier ones alone; the last one for all -/
def lastB (md : Region.Mode) (ops : Array Oper) (n : Nat) : Bool :=
  decide (ops.size = n + 1) && (List.range (n + 1)).all (fun i => ((ops[i]?).map (opOk md i)).getD false) &&
    (List.range n).all fun j => ((ops[n]?).map fun o => o.after.any fun e => Region.binds md e && e.on == j).getD false

theorem lastB_size (h : lastB md ops n = true) : ops.size = n + 1 := by
  simp only [lastB, Bool.and_eq_true, decide_eq_true_eq] at h
  exact h.1.1
theorem lastB_op (h : lastB md ops n = true) {i : Nat} (hi : i < n + 1) : ∃ o, ops[i]? = some o ∧ o.guard = none ∧ ∀ e ∈ o.after, Region.binds md e = true → e.on < i := by
  simp only [lastB, Bool.and_eq_true, decide_eq_true_eq] at h
  have h1 := List.all_eq_true.1 h.1.2 i (List.mem_range.2 hi)
  cases ho : ops[i]? with
  | none => rw [ho] at h1; simp at h1
  | some o =>
    rw [ho] at h1
    simp only [Option.map_some, Option.getD_some, opOk, Bool.and_eq_true, Option.isNone_iff_eq_none] at h1
    refine ⟨o, rfl, h1.1, fun e he hb => ?_⟩
    have h2 := Array.all_eq_true_iff_forall_mem.1 h1.2 e he
    simp only [hb, Bool.not_true, Bool.false_or, decide_eq_true_eq] at h2
    exact h2
theorem lastB_wait (h : lastB md ops n = true) {j : Nat} (hj : j < n) {o : Oper} (ho : ops[n]? = some o) : ∃ e ∈ o.after, Region.binds md e = true ∧ e.on = j := by
  simp only [lastB, Bool.and_eq_true, decide_eq_true_eq] at h
  have h1 := List.all_eq_true.1 h.2 j (List.mem_range.2 hj)
  rw [ho] at h1
  simp only [Option.map_some, Option.getD_some] at h1
  obtain ⟨i, hi, h2⟩ := Array.any_eq_true.1 h1
  simp only [Bool.and_eq_true, beq_iff_eq] at h2
  exact ⟨o.after[i], Array.getElem_mem hi, h2.1, h2.2⟩
theorem pop_at (hs : ops.size = n + 1) {i : Nat} (hi : i < n) : ops.pop[i]? = ops[i]? := by
  rw [Array.getElem?_pop]
  simp [hs, hi]
theorem letsOut_last (h : LetsOut (QLast P ops Q n)) : LetsOut Q := h
theorem oper_last {o : Oper} {a : Act} {w : World} {K K' : Act → World → Prop} (hK : ∀ a w, K a w → K' a w) (h : o.wp P a w K (QLast P ops Q n)) : o.wp P a w K' Q := by
  unfold Oper.wp at *
  generalize (execOp a.eval o).run P w = r at *
  cases r with
  | ok x w' =>
    cases x <;> first
      | exact hK _ _ h
      | exact Calls.mono h (fun e w'' he => by cases e <;> first | exact hK _ _ he | exact he)
      | exact Rows.mono h (fun _ _ he => hK _ _ he)
      | exact h
  | halt x w' => cases x <;> exact h
theorem wpOp_last (hB : lastB md ops n = true) {i : Nat} (hi : i < n) {a : Act} {w : World} {K K' : Act → World → Prop} (hK : ∀ a w, K a w → K' a w)
    (h : wpOp P ops.pop (QLast P ops Q n) i K a w) : wpOp P ops Q i K' a w := by
  obtain ⟨o, ho, hg, _⟩ := lastB_op hB (Nat.lt_succ_of_lt hi)
  have hp := pop_at (lastB_size hB) hi
  unfold wpOp at *
  rw [hp, ho] at h
  rw [ho]
  simp only at h ⊢
  have w1 : ∀ f, Region.wanted o f = true := fun f => by simp only [Region.wanted, hg]
  rw [if_pos (w1 _)] at h ⊢
  exact h.imp (oper_last hK) id
theorem any_done : ∀ (fuel : Nat) {listed : Array Bool} {a : Act} {w : World}, Region.ready md ops listed = [] → Q .normal a w → wpAny P md ops Q fuel listed a w
  | 0, _, _, _, h, hq => ⟨h, hq⟩
  | _ + 1, _, _, _, h, hq => ⟨fun _ => hq, fun i hi => by rw [h] at hi; cases hi⟩
theorem first_open (listed : Array Bool) : ∀ m : Nat, (∀ j, j < m → listed.getD j false = true) ∨ ∃ j, j < m ∧ listed.getD j false = false ∧ ∀ i, i < j → listed.getD i false = true := by
  intro m
  induction m with
  | zero => exact .inl fun j hj => absurd hj (Nat.not_lt_zero j)
  | succ m ih =>
    rcases ih with h | ⟨j, hj, h1, h2⟩
    · cases hm : listed.getD m false with
      | true => exact .inl fun j hj => (Nat.lt_succ_iff_lt_or_eq.1 hj).elim (h j) (fun e => e ▸ hm)
      | false => exact .inr ⟨m, Nat.lt_succ_self m, hm, h⟩
    · exact .inr ⟨j, Nat.lt_succ_of_lt hj, h1, h2⟩
theorem getD_tf {l : Array Bool} {j : Nat} (hj : j < l.size) (b c : Bool) : l.getD j b = l.getD j c := by simp [hj]
theorem push_lt {l : Array Bool} {j : Nat} (hj : j < l.size) (b : Bool) : (l.push false).getD j b = l.getD j b := by
  simp [Array.getElem?_push, Nat.ne_of_lt hj]
theorem push_false {l : Array Bool} {j : Nat} : (l.push false).getD j false = l.getD j false := by
  rcases Nat.lt_or_ge j l.size with h | h
  · exact push_lt h false
  · rcases Nat.eq_or_lt_of_le h with h1 | h1
    · subst h1; simp
    · simp [Array.getElem?_push, Nat.ne_of_gt h1, Array.getElem?_eq_none h]
theorem ready_push (hB : lastB md ops n = true) {listed : Array Bool} (hl : listed.size = n) {i : Nat} (hi : i < n) : i ∈ Region.ready md ops (listed.push false) ↔ i ∈ Region.ready md ops.pop listed := by
  rw [mem_ready, mem_ready, pop_at (lastB_size hB) hi]
  simp only [push_false, push_lt (show i < listed.size by omega)]
theorem any_last (hB : lastB md ops n = true) : ∀ (fuel : Nat) (listed : Array Bool) (a : Act) (w : World), listed.size = n → wpAny P md ops.pop (QLast P ops Q n) fuel listed a w → wpAny P md ops Q (fuel + 1) (listed.push false) a w := by
  have hs := lastB_size hB
  obtain ⟨o, ho, _, hlt⟩ := lastB_op hB (Nat.lt_succ_self n)
  have lt_of : ∀ {l : Array Bool} {i : Nat}, i ∈ Region.ready md ops l → i < n + 1 := fun {l i} h => by
    obtain ⟨_, oj, hoj, _⟩ := mem_ready.1 h
    have := (Array.getElem?_eq_some_iff.1 hoj).1
    omega
  have lt_pop : ∀ {l : Array Bool} {i : Nat}, i ∈ Region.ready md ops.pop l → i < n := fun {l i} h => by
    obtain ⟨_, oj, hoj, _⟩ := mem_ready.1 h
    have := (Array.getElem?_eq_some_iff.1 hoj).1
    simp only [Array.size_pop] at this
    omega
  intro fuel
  induction fuel with
  | zero =>
    intro listed a w hl h
    rcases first_open listed n with hall | ⟨j, hj, h1, h2⟩
    · have hq : wpOp P ops Q n (Q .normal) a w := h.2
      have mem : n ∈ Region.ready md ops (listed.push false) := mem_ready.2 ⟨by subst hl; simp, o, ho, fun e he hb => by rw [push_false]; exact hall _ (hlt e he hb)⟩
      refine ⟨fun h0 => (by rw [h0] at mem; cases mem), fun i hi => ?_⟩
      have hin : i = n := by
        rcases Nat.lt_or_ge i n with hlt' | hge
        · have := (mem_ready.1 hi).1
          rw [push_lt (by omega), getD_tf (by omega) true false, hall i hlt'] at this
          cases this
        · have := lt_of hi; omega
      subst hin
      refine wpOp_mono (fun a' w' hq' => any_done 0 ?_ hq') hq
      refine List.eq_nil_iff_forall_not_mem.2 fun k hk => ?_
      have h3 := (mem_ready.1 hk).1
      have h4 := lt_of hk
      rcases Nat.lt_or_ge k i with hlt' | hge
      · rw [getD_set_ne true (by omega), push_lt (by omega), getD_tf (by omega) true false, hall k hlt'] at h3
        cases h3
      · obtain rfl : k = i := by omega
        subst hl
        simp at h3
    · obtain ⟨oj, hoj, _, hon⟩ := lastB_op hB (Nat.lt_succ_of_lt hj)
      have : j ∈ Region.ready md ops.pop listed := mem_ready.2 ⟨by rw [getD_tf (by omega) true false]; exact h1, oj, (pop_at hs hj).trans hoj, fun e he hb => h2 _ (hon e he hb)⟩
      rw [h.1] at this
      cases this
  | succ fuel ih =>
    intro listed a w hl h
    rcases first_open listed n with hall | ⟨j, hj, h1, h2⟩
    · have hr : Region.ready md ops.pop listed = [] := List.eq_nil_iff_forall_not_mem.2 fun k hk => by
        have h3 := (mem_ready.1 hk).1
        rw [getD_tf (by have := lt_pop hk; omega) true false, hall k (lt_pop hk)] at h3
        cases h3
      have hq : wpOp P ops Q n (Q .normal) a w := h.1 hr
      have mem : n ∈ Region.ready md ops (listed.push false) := mem_ready.2 ⟨by subst hl; simp, o, ho, fun e he hb => by rw [push_false]; exact hall _ (hlt e he hb)⟩
      refine ⟨fun h0 => (by rw [h0] at mem; cases mem), fun i hi => ?_⟩
      have hin : i = n := by
        rcases Nat.lt_or_ge i n with hlt' | hge
        · have := (mem_ready.1 hi).1
          rw [push_lt (by omega), getD_tf (by omega) true false, hall i hlt'] at this
          cases this
        · have := lt_of hi; omega
      subst hin
      refine wpOp_mono (fun a' w' hq' => any_done (fuel + 1) ?_ hq') hq
      refine List.eq_nil_iff_forall_not_mem.2 fun k hk => ?_
      have h3 := (mem_ready.1 hk).1
      have h4 := lt_of hk
      rcases Nat.lt_or_ge k i with hlt' | hge
      · rw [getD_set_ne true (by omega), push_lt (by omega), getD_tf (by omega) true false, hall k hlt'] at h3
        cases h3
      · obtain rfl : k = i := by omega
        subst hl
        simp at h3
    · obtain ⟨oj, hoj, _, hon⟩ := lastB_op hB (Nat.lt_succ_of_lt hj)
      have mj : j ∈ Region.ready md ops.pop listed := mem_ready.2 ⟨by rw [getD_tf (by omega) true false]; exact h1, oj, (pop_at hs hj).trans hoj, fun e he hb => h2 _ (hon e he hb)⟩
      refine ⟨fun h0 => ?_, fun i hi => ?_⟩
      · have := (ready_push hB hl hj).2 mj
        rw [h0] at this
        cases this
      · have hin : i < n := by
          rcases Nat.lt_or_ge i n with hlt' | hge
          · exact hlt'
          · obtain rfl : i = n := by have := lt_of hi; omega
            exfalso
            obtain ⟨_, o2, ho2, hall⟩ := mem_ready.1 hi
            obtain ⟨e, he, hb, e1⟩ := lastB_wait hB hj ho2
            have := hall e he hb
            rw [push_false, e1, h1] at this
            cases this
        refine wpOp_last hB hin (fun a' w' h3 => ?_) (h.2 i ((ready_push hB hl hin).1 hi))
        have := ih (listed.setIfInBounds i true) a' w' (by simpa using hl) h3
        rw [show (listed.push false).setIfInBounds i true = (listed.setIfInBounds i true).push false from ?_]
        · exact this
        · apply Array.ext_getElem?
          intro k
          simp only [Array.getElem?_setIfInBounds, Array.getElem?_push, Array.size_push, Array.size_setIfInBounds]
          by_cases h5 : i = k
          · subst h5
            rw [if_pos rfl, if_pos (by omega), if_neg (by omega), if_pos rfl, if_pos (by omega)]
          · rw [if_neg h5, if_neg h5]
theorem wp_region_last {id : Nat} {a : Act} {w : World} {S : World → Prop} (hm : P.follows .mixedOrders = true) (hB : lastB .any ops n = true) (hS : S w.drew)
    (h : S w.drew → wpAnyH P .any ops.pop (QLast P ops Q n) S n (Array.replicate n false) a w.drew) : (Code.region id ops true).wp P Q a w := by
  refine wp_region_any hm ?_
  have := any_last (P := P) (Q := Q) hB n (Array.replicate n false) a w.drew (by simp) (wpAny_of_held _ _ _ _ (h hS))
  rw [lastB_size hB]
  rw [Array.replicate_succ]
  exact this
/-- the last operation -/
theorem last_step {o : Oper} {a : Act} {w : World} (ho : ops[n]? = some o) (hg : o.guard = none) (h : ∀ K : Act → World → Prop, Shut (∀ a w, Q .normal a w → K a w) → Oper.wp P o a w K Q) : QLast P ops Q n .normal a w := by
  show wpOp P ops Q n (Q .normal) a w
  unfold wpOp
  rw [ho]
  simp only
  rw [if_pos (by simp only [Region.wanted, hg])]
  exact .inl (h _ (fun _ _ h => h))
end
end Go.Proofs.YtcgkcfmiabninaaGreatDoor
/-
  A source of choices: a text; a scheme under way beside a source and a result's block. No condition.
-/
namespace Go.Proofs.YtcgkcfmiabninaaGreatDoor
open Go.RowKit
set_option maxHeartbeats 400000

/-- one of some texts -/
theorem text_any (gs k : Nat) (A : Option Addr) (n c : Nat) (xs : List ByteArray) (w : World) (h : SrcAt w gs k) (hk : k ≤ 900000) (hn : n ≤ 1000) (hn0 : 0 < n) (hx : Sl w w.heap.size 1 encS A n xs) (hA : ∀ b off s, A = some ⟨b, off, s⟩ → b ≠ gs) :
    Calls Tryz.prog 67 #[.pointer (some ⟨gs, 0, none⟩), .slice A n c] w fun e w' => ∃ r, e = .returned (.string r) ∧ r ∈ xs ∧ SrcAt w' gs (k + 2) ∧ w.grownBy w' (some gs) := by
  have hp := pick_any gs k n w h hk (by omega)
  have hpost : ∀ (r : Int) (w1 : World), 0 ≤ r → (r < n ∨ (r = 0 ∧ (n : Int) ≤ 1)) → w.grownBy w1 (some gs) → ∃ (i : Nat) (z : ByteArray) (b off : Nat), r = i ∧ (i : Int) < (n : Int) ∧ z ∈ xs ∧ A = some ⟨b, off, none⟩ ∧ w1.cell? ⟨b, off + i, none⟩ = some (.string z) := by
    intro r w1 r0 r1 hg
    have hi : r.toNat < n := by omega
    obtain ⟨z, b, off, Hx, e, hb, cb⟩ := hx.str hi
    refine ⟨r.toNat, z, b, off, by omega, by omega, List.mem_of_getElem? Hx.out, e, hg.cell cb (fun e2 => hA _ _ _ e (by simpa using e2))⟩
  have HP := hid hpost
  clear h hx hpost
  go_enter Tryz.func67, Tryz.ntmps67
  go_wp2_with (go_at_call 44; refine hp.mono ?_; rintro e w1 ⟨r, rfl, r0, r1, hs, hg⟩; obtain ⟨i, z, b, off, rfl, hin, hz, rfl, cz⟩ := HP.out _ _ r0 r1 hg; have hi0 : (0 : Int) ≤ (i : Int) := Int.natCast_nonneg i)
  go_ret
  exact ⟨z, rfl, hz, hs, hg⟩
theorem own_apartS {w w' : World} {lo T k n : Nat} {v : Value} {l : List Value} {row : Option Nat} (h : w.ownsRow lo T k v n l) (hg : w.grownBy w' row) (hn : ∀ b, row = some b → v.ownBlock ≠ some b) : w'.ownsRow lo T k v n l := by
  cases row with
  | none => exact own_keep (v2 := .slice none 0 0) h (fun b hb => by simp [Value.ownBlock] at hb) hg
  | some b => exact own_keep (v2 := .slice (some ⟨b, 0, none⟩) 0 0) h (fun q hq => by simp [Value.ownBlock] at hq; subst hq; exact hn _ rfl) hg
theorem src_grow {a w w' : World} {gs : Nat} {row : Option Nat} (h : a.grownBy w (some gs)) (g : w.grownBy w' row) (hr : ∀ b, row = some b → a.heap.size ≤ b ∨ b = gs) : a.grownBy w' (some gs) :=
  ⟨g.os.trans h.os, g.tape.trans h.tape, g.output.trans h.output, Nat.le_trans h.size g.size, fun i hi hn => (g.block i (Nat.lt_of_lt_of_le hi h.size) (fun e => by
    rcases hr i e.symm with h1 | h1
    · omega
    · exact hn (by rw [h1]))).trans (h.block i hi hn)⟩
theorem src_gset {a w : World} {gs b o : Nat} {u : Value} (h : a.grownBy w (some gs)) (hp : a.heap.size ≤ b) : a.grownBy (w.setCell ⟨b, o, none⟩ u) (some gs) :=
  src_grow h (gr_set (World.grownBy.refl _ _)) (fun q hq => .inl (by injection hq with hq; subst hq; exact hp))
theorem src_below {a w w' : World} {gs B : Nat} (h : a.grownBy w (some gs)) (hb : Below B w w') (hB : a.heap.size ≤ B) : a.grownBy w' (some gs) :=
  ⟨hb.os.trans h.os, hb.tape.trans h.tape, hb.output.trans h.output, Nat.le_trans h.size hb.size, fun i hi hn => (hb.block i (by omega)).trans (h.block i hi hn)⟩
/-- a block of three cells -/
structure Blk3 (w : World) (gr : Nat) (v0 v1 v2 : Value) : Prop where
  c0 : w.cell? ⟨gr, 0, none⟩ = some v0
  c1 : w.cell? ⟨gr, 1, none⟩ = some v1
  c2 : w.cell? ⟨gr, 2, none⟩ = some v2
  f0 : w.frozen? ⟨gr, 0, none⟩ = false
  f1 : w.frozen? ⟨gr, 1, none⟩ = false
  f2 : w.frozen? ⟨gr, 2, none⟩ = false
namespace Blk3
variable {w w' : World} {gr : Nat} {v0 v1 v2 : Value}
theorem lt (t : Blk3 w gr v0 v1 v2) : gr < w.heap.size := World.block_lt_of_cell? _ _ t.c0
theorem at_ {B : Nat} (t : Blk3 w gr v0 v1 v2) (hb : Below B w w') (hB : gr < B) : Blk3 w' gr v0 v1 v2 :=
  ⟨(hb.cell (p := ⟨gr, 0, none⟩) hB).trans t.c0, (hb.cell (p := ⟨gr, 1, none⟩) hB).trans t.c1, (hb.cell (p := ⟨gr, 2, none⟩) hB).trans t.c2, (hb.frozen (p := ⟨gr, 0, none⟩) hB).trans t.f0, (hb.frozen (p := ⟨gr, 1, none⟩) hB).trans t.f1, (hb.frozen (p := ⟨gr, 2, none⟩) hB).trans t.f2⟩
theorem grow {row : Option Nat} (t : Blk3 w gr v0 v1 v2) (hg : w.grownBy w' row) (hne : row ≠ some gr) : Blk3 w' gr v0 v1 v2 :=
  have hl := t.lt
  have hn : some gr ≠ row := fun q => hne q.symm
  ⟨hg.cell t.c0 hn, hg.cell t.c1 hn, hg.cell t.c2 hn, (hg.frozen_far ⟨gr, 0, none⟩ hl hn).trans t.f0, (hg.frozen_far ⟨gr, 1, none⟩ hl hn).trans t.f1, (hg.frozen_far ⟨gr, 2, none⟩ hl hn).trans t.f2⟩
theorem set {b o : Nat} {u : Value} (t : Blk3 w gr v0 v1 v2) (hp : b ≠ gr) : Blk3 (w.setCell ⟨b, o, none⟩ u) gr v0 v1 v2 :=
  ⟨(cell_far hp).trans t.c0, (cell_far hp).trans t.c1, (cell_far hp).trans t.c2, by rw [World.frozen?_setCell]; exact t.f0, by rw [World.frozen?_setCell]; exact t.f1, by rw [World.frozen?_setCell]; exact t.f2⟩
theorem put (t : Blk3 w gr v0 v1 v2) (a b c : Value) : Blk3 (((w.setCell ⟨gr, 0, none⟩ a).setCell ⟨gr, 1, none⟩ b).setCell ⟨gr, 2, none⟩ c) gr a b c :=
  ⟨set3_0 t.c0 a b c, set3_1 t.c1 a b c, set3_2 t.c2 a b c, by rw [World.frozen?_setCell, World.frozen?_setCell, World.frozen?_setCell]; exact t.f0, by rw [World.frozen?_setCell, World.frozen?_setCell, World.frozen?_setCell]; exact t.f1, by rw [World.frozen?_setCell, World.frozen?_setCell, World.frozen?_setCell]; exact t.f2⟩
end Blk3
theorem XAt.src {w w' : World} {gs gx lo : Nat} {s : SV} {x : Sch} (h : XAt w gx lo s x) (hg : w.grownBy w' (some gs)) (hlo : gs < lo) (hgx : gs ≠ gx) : XAt w' gx lo s x :=
  have hl := h.lt
  have hn : (some gx : Option Nat) ≠ some gs := fun e => hgx (by simpa using e.symm)
  ⟨hg.cell h.k0 hn, hg.cell h.k1 hn, hg.cell h.k2 hn, (hg.frozen_far ⟨gx, 0, none⟩ hl hn).trans h.f0, (hg.frozen_far ⟨gx, 1, none⟩ hl hn).trans h.f1, (hg.frozen_far ⟨gx, 2, none⟩ hl hn).trans h.f2,
    ⟨own_src h.own.st hg hlo, own_src h.own.rm hg hlo, own_src h.own.wy hg hlo, h.own.ap12, h.own.ap13, h.own.ap23⟩, h.o1, h.o2, h.o3⟩
theorem XAt.far {w : World} {gx lo b o : Nat} {s : SV} {x : Sch} {u : Value} (h : XAt w gx lo s x) (hb : b ≠ gx) (hs : ∀ q, ((Value.slice s.A1 s.n1 s.c1).ownBlock = some q ∨ (Value.slice s.A2 s.n2 s.c2).ownBlock = some q ∨ (Value.slice s.A3 s.n3 s.c3).ownBlock = some q) → q ≠ b) : XAt (w.setCell ⟨b, o, none⟩ u) gx lo s x :=
  ⟨(cell_far hb).trans h.k0, (cell_far hb).trans h.k1, (cell_far hb).trans h.k2, by rw [World.frozen?_setCell]; exact h.f0, by rw [World.frozen?_setCell]; exact h.f1, by rw [World.frozen?_setCell]; exact h.f2,
    ⟨ow_set (fun e => hs b (.inl e) rfl) h.own.st, ow_set (fun e => hs b (.inr (.inl e)) rfl) h.own.rm, ow_set (fun e => hs b (.inr (.inr e)) rfl) h.own.wy, h.own.ap12, h.own.ap13, h.own.ap23⟩, h.o1, h.o2, h.o3⟩

/-- a scheme under way in block gx, a source in block gs, an empty result's block gr; a: the world of the call -/
structure StX (a w : World) (gs gr gx lo K : Nat) (s : SV) (x : Sch) : Prop where
  xa : XAt w gx lo s x
  src : SrcAt w gs K
  res : Blk3 w gr (.slice none 0 0) (.slice none 0 0) (.slice none 0 0)
  grn : a.grownBy w (some gs)
  h1 : gs < a.heap.size
  h2 : a.heap.size ≤ gr
  h3 : gr < lo
  h4 : lo ≤ gx
namespace StX
variable {a w w' : World} {gs gr gx lo K K' : Nat} {s : SV} {x : Sch}
theorem lt (t : StX a w gs gr gx lo K s x) : gx < w.heap.size := t.xa.lt
theorem up (t : StX a w gs gr gx lo K s x) (h : K ≤ K') : StX a w gs gr gx lo K' s x := ⟨t.xa, t.src.mono h, t.res, t.grn, t.h1, t.h2, t.h3, t.h4⟩
theorem pick (t : StX a w gs gr gx lo K s x) (hs : SrcAt w' gs K') (hg : w.grownBy w' (some gs)) : StX a w' gs gr gx lo K' s x :=
  have h1 := t.h1; have h2 := t.h2; have h3 := t.h3; have h4 := t.h4
  ⟨t.xa.src hg (by omega) (by omega), hs, t.res.grow hg (by simp; omega), t.grn.trans hg, h1, h2, h3, h4⟩
theorem below (t : StX a w gs gr gx lo K s x) (hb : Below w.heap.size w w') : StX a w' gs gr gx lo K s x :=
  have h1 := t.h1; have h2 := t.h2; have h3 := t.h3; have h4 := t.h4; have hl := t.lt
  ⟨t.xa.below hb, t.src.below (hb.mono (by omega)), t.res.at_ hb t.res.lt, src_below t.grn hb t.grn.size, h1, h2, h3, h4⟩
theorem alloc (t : StX a w gs gr gx lo K s x) (o : Obj) : StX a (w.alloc o) gs gr gx lo K s x := t.below ((Below.refl _ _).alloc (Nat.le_refl _) o)
theorem drew (t : StX a w gs gr gx lo K s x) : StX a w.drew gs gr gx lo K s x := t.below (Below.refl _ _).drew
/-- a store into a block that is none of its own -/
theorem set {b o : Nat} {u : Value} (t : StX a w gs gr gx lo K s x) (hb : gx < b) (hq : ∀ q, ((Value.slice s.A1 s.n1 s.c1).ownBlock = some q ∨ (Value.slice s.A2 s.n2 s.c2).ownBlock = some q ∨ (Value.slice s.A3 s.n3 s.c3).ownBlock = some q) → q < b) : StX a (w.setCell ⟨b, o, none⟩ u) gs gr gx lo K s x :=
  have h1 := t.h1; have h2 := t.h2; have h3 := t.h3; have h4 := t.h4
  ⟨t.xa.far (by omega) (fun q h => Nat.ne_of_lt (hq q h)), t.src.set (by simp only; omega), t.res.set (by omega), src_gset t.grn (by omega), h1, h2, h3, h4⟩
theorem lts (t : StX a w gs gr gx lo K s x) : ∀ q, ((Value.slice s.A1 s.n1 s.c1).ownBlock = some q ∨ (Value.slice s.A2 s.n2 s.c2).ownBlock = some q ∨ (Value.slice s.A3 s.n3 s.c3).ownBlock = some q) → q < w.heap.size := fun q h => by
  rcases h with h | h | h
  · exact (t.xa.own.st.lt q h).2
  · exact (t.xa.own.rm.lt q h).2
  · exact (t.xa.own.wy.lt q h).2
/-- what adds to the scheme in place -/
theorem add {s' : SV} {x' : Sch} (t : StX a w gs gr gx lo K s x) (hx : XAt w' gx lo s' x') (hb : Below lo w w') : StX a w' gs gr gx lo K s' x' :=
  have h1 := t.h1; have h2 := t.h2; have h3 := t.h3; have h4 := t.h4
  ⟨hx, t.src.below (hb.mono (by omega)), t.res.at_ hb h3, src_below t.grn hb (by omega), h1, h2, h3, h4⟩
/-- an element appended to one of its lists -/
theorem put {s' : SV} {x' : Sch} {o : Nat} {v u : Value} (t : StX a w gs gr gx lo K s x) (hg : w.grownBy w' v.ownBlock) (hv : ∀ b, v.ownBlock = some b → lo ≤ b) (hx : XAt (w'.setCell ⟨gx, o, none⟩ u) gx lo s' x') : StX a (w'.setCell ⟨gx, o, none⟩ u) gs gr gx lo K s' x' :=
  have h1 := t.h1; have h2 := t.h2; have h3 := t.h3; have h4 := t.h4
  ⟨hx, (t.src.grown hg (fun b hb => by have := hv b hb; omega)).set (by simp only; omega), (t.res.grow hg (fun e => by have := hv gr e; omega)).set (by omega),
    src_gset (src_grow t.grn hg (fun b hb => .inl (by have := hv b hb; omega))) (by omega), h1, h2, h3, h4⟩
end StX
/-- the scheme is replaced by one of other rows -/
theorem StX.reset {a w w' : World} {gs gr gx lo K : Nat} {s s' : SV} {x x' : Sch} (t : StX a w gs gr gx lo K s x) (ho : OwnX w' w.heap.size s' x') (hb : Below w.heap.size w w') :
    StX a (((w'.setCell ⟨gx, 0, none⟩ (.slice s'.A1 s'.n1 s'.c1)).setCell ⟨gx, 1, none⟩ (.slice s'.A2 s'.n2 s'.c2)).setCell ⟨gx, 2, none⟩ (.slice s'.A3 s'.n3 s'.c3)) gs gr gx lo K s' x' := by
  have h1 := t.h1; have h2 := t.h2; have h3 := t.h3; have h4 := t.h4; have hl := t.lt
  have n1 : (Value.slice s'.A1 s'.n1 s'.c1).ownBlock ≠ some gx := fun e => by have := (ho.st.lt _ e).1; omega
  have n2 : (Value.slice s'.A2 s'.n2 s'.c2).ownBlock ≠ some gx := fun e => by have := (ho.rm.lt _ e).1; omega
  have n3 : (Value.slice s'.A3 s'.n3 s'.c3).ownBlock ≠ some gx := fun e => by have := (ho.wy.lt _ e).1; omega
  have tb := t.below hb
  refine ⟨⟨set3_0 tb.xa.k0 _ _ _, set3_1 tb.xa.k1 _ _ _, set3_2 tb.xa.k2 _ _ _, ?_, ?_, ?_, ⟨ow_set3 n1 (ho.st.mono (by omega)), ow_set3 n2 (ho.rm.mono (by omega)), ow_set3 n3 (ho.wy.mono (by omega)), ho.ap12, ho.ap13, ho.ap23⟩, n1, n2, n3⟩, ((tb.src.set (by simp only; omega)).set (by simp only; omega)).set (by simp only; omega), ((tb.res.set (by omega)).set (by omega)).set (by omega), src_gset (src_gset (src_gset tb.grn (by omega)) (by omega)) (by omega), h1, h2, h3, h4⟩
  · rw [World.frozen?_setCell, World.frozen?_setCell, World.frozen?_setCell]; exact tb.xa.f0
  · rw [World.frozen?_setCell, World.frozen?_setCell, World.frozen?_setCell]; exact tb.xa.f1
  · rw [World.frozen?_setCell, World.frozen?_setCell, World.frozen?_setCell]; exact tb.xa.f2
/-- the parts of a scheme are few and short -/
def FewX (m : Nat) (x : Sch) : Prop := x.st.length ≤ m ∧ x.rm.length ≤ m ∧ x.wy.length ≤ m ∧ (∀ z ∈ x.st, z.size ≤ 12) ∧ (∀ z ∈ x.rm, z.size ≤ 12) ∧ ∀ y ∈ x.wy, y.fr.size ≤ 12 ∧ y.«to».size ≤ 12
def MetX (x : Sch) : Prop := ∀ y ∈ x.wy, 0 ≤ y.metres ∧ y.metres ≤ 2000
/-- what a draw of a scheme leaves -/
def DrawX (gs K : Nat) (p : Sch → Prop) (w : World) (r : Ending) (w' : World) : Prop :=
  ∃ (s : SV) (x : Sch), r = .returned s.v ∧ OwnX w' w.heap.size s x ∧ p x ∧ SrcAt w' gs K ∧ w.grownBy w' (some gs)
/-- the end of a draw: the scheme is written into the result's block -/
theorem StX.fin {a w : World} {gs gr gx lo K : Nat} {s : SV} {x : Sch} (t : StX a w gs gr gx lo K s x) :
    OwnX (((w.setCell ⟨gr, 0, none⟩ (.slice s.A1 s.n1 s.c1)).setCell ⟨gr, 1, none⟩ (.slice s.A2 s.n2 s.c2)).setCell ⟨gr, 2, none⟩ (.slice s.A3 s.n3 s.c3)) a.heap.size s x ∧
    SrcAt (((w.setCell ⟨gr, 0, none⟩ (.slice s.A1 s.n1 s.c1)).setCell ⟨gr, 1, none⟩ (.slice s.A2 s.n2 s.c2)).setCell ⟨gr, 2, none⟩ (.slice s.A3 s.n3 s.c3)) gs K ∧
    a.grownBy (((w.setCell ⟨gr, 0, none⟩ (.slice s.A1 s.n1 s.c1)).setCell ⟨gr, 1, none⟩ (.slice s.A2 s.n2 s.c2)).setCell ⟨gr, 2, none⟩ (.slice s.A3 s.n3 s.c3)) (some gs) := by
  have h1 := t.h1; have h2 := t.h2; have h3 := t.h3; have h4 := t.h4
  have ho := t.xa.own
  have f : ∀ {A : Option Addr} {n c T k : Nat} {l : List Value}, w.ownsRow lo T k (.slice A n c) n l → (((w.setCell ⟨gr, 0, none⟩ (.slice s.A1 s.n1 s.c1)).setCell ⟨gr, 1, none⟩ (.slice s.A2 s.n2 s.c2)).setCell ⟨gr, 2, none⟩ (.slice s.A3 s.n3 s.c3)).ownsRow a.heap.size T k (.slice A n c) n l := fun o =>
    (ow_set3 (fun e => by have := (o.lt _ e).1; omega) o).mono (by omega)
  exact ⟨⟨f ho.st, f ho.rm, f ho.wy, ho.ap12, ho.ap13, ho.ap23⟩, ((t.src.set (by simp only; omega)).set (by simp only; omega)).set (by simp only; omega), src_gset (src_gset (src_gset t.grn h2) h2) h2⟩
end Go.Proofs.YtcgkcfmiabninaaGreatDoor
