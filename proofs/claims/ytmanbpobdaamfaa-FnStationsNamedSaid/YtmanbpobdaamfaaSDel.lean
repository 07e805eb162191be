/-
  slices.Clone and slices.DeleteFunc over names. No condition.
-/
import Derived.Test.YtmanbpobdaamfaaSCode
import Derived.Test.YtmanbpobdaamfaaPDel
namespace Go.Proofs.Ytmanbpobdaamfaa
open Go.RowKit
set_option maxHeartbeats 400000

theorem news_of_strs {w : World} {B b off n : Nat} {xs : List ByteArray} (hx : Sl w B 1 encS (some ⟨b, off, none⟩) n xs) : ∀ (j : Nat) (u : Value), (xs.flatMap encS)[j]? = some u → w.cell? ((⟨b, off, none⟩ : Addr).add j) = some u := by
  intro j u hj
  rw [Addr.add_lit]
  have hjl : j < xs.length := by have := (List.getElem?_eq_some_iff.1 hj).1; rwa [flatMap_len encS_len, Nat.mul_one] at this
  obtain ⟨b', off', e, _, hc⟩ := hx.2 j xs[j] (List.getElem?_eq_getElem hjl)
  injection e with e
  injection e with e1 e2
  subst e1 e2
  have := hc 0 _ rfl
  simp only [Nat.mul_one, Nat.add_zero] at this
  rw [this]
  have h2 := flatMap_get encS_len (j := 0) (u := .string xs[j]) xs j (List.getElem?_eq_getElem hjl) rfl
  rw [Nat.mul_one, Nat.add_zero, hj] at h2
  injection h2 with h2
  rw [h2]
theorem one_encS (xs : List ByteArray) : ∀ u ∈ xs.flatMap encS, u.oneCell' = true := by
  intro u hu
  obtain ⟨x, _, hx⟩ := List.mem_flatMap.1 hu
  simp [encS] at hx
  subst hx
  rfl
theorem cloneS_nil (A : Option Addr) (c : Nat) (w : World) :
    Calls Try.prog 56 #[.slice A 0 c] w fun r w' => ∃ A1 c1, r = .returned (.slice A1 0 c1) ∧ w'.ownsRow w.heap.size 9 1 (.slice A1 0 c1) 0 [] ∧ Below w.heap.size w w' := by
  have o0 := World.ownsRow_lit (base := w.heap.size) (e := 9) (size := 1) w #[] 0 (Nat.le_refl _) (by simp [maxLen]) (by simp)
  have h1 : ∀ u : World, (pure #[] : Sem (Array Value)).run Try.prog u = .ok #[] u := fun _ => rfl
  have h2 : ∀ (p : Addr) (u : World), (storeCells p []).run Try.prog u = .ok () u := fun _ _ => rfl
  cases A with
  | none =>
    have hU := fun w' : World => Lib.run_eql_slice_nil (P := Try.prog) w' 22 9 none 0 c 0 0 Try.underlying22
    go_enter Try.func56, Try.ntmps56
    go_wp2
    go_ret
    exact ⟨_, _, rfl, World.ownsRow_nil _ _ _ _, Below.refl _ _⟩
  | some a =>
    have hU := fun w' : World => Lib.run_eql_slice_nil (P := Try.prog) w' 22 9 (some a) 0 c 0 0 Try.underlying22
    go_enter Try.func56, Try.ntmps56
    go_wp2
    go_ret
    exact ⟨_, _, rfl, o0, (Below.refl _ _).alloc (Nat.le_refl _) _⟩
theorem cloneS_any (A : Option Addr) (n c : Nat) (xs : List ByteArray) (w : World) (B : Nat) (hB : B ≤ w.heap.size) (hn : n ≤ 2000000) (hx : Sl w B 1 encS A n xs) :
    Calls Try.prog 56 #[.slice A n c] w fun r w' => ∃ A1 c1, r = .returned (.slice A1 n c1) ∧ w'.ownsRow w.heap.size 9 1 (.slice A1 n c1) n (xs.flatMap encS) ∧ Below w.heap.size w w' := by
  have hl := hx.len
  rcases Nat.eq_zero_or_pos n with h0 | h0
  · subst h0
    rw [List.eq_nil_of_length_eq_zero hl]
    exact cloneS_nil A c w
  · obtain ⟨x0, b, off, _, rfl, hb, _⟩ := hx.str h0
    have o0 := World.ownsRow_lit (base := w.heap.size) (e := 9) (size := 1) w #[] 0 (Nat.le_refl _) (by simp [maxLen]) (by simp)
    obtain ⟨i0, hi, hz0, hz1, hz2⟩ := info_parts str_info
    have hnew := news_of_strs (hx.alloc hB (.cells #[] 9))
    have hlen : (xs.flatMap encS).length = n * 1 := by rw [flatMap_len encS_len, hl]
    clear hx
    have hU := fun w' : World => Lib.run_eql_slice_nil (P := Try.prog) w' 22 9 (some ⟨b, off, none⟩) n c 0 0 Try.underlying22
    go_enter Try.func56, Try.ntmps56
    go_wp2_with (at_builtin; refine wpList_append_lies _ rfl _ _ 22 rfl w.heap.size 9 i0 (.string ByteArray.empty) 1 16 Try.underlying22 hi hz0 hz1 hz2 rfl (by omega) (.slice (some ⟨w.heap.size, 0, none⟩) 0 0) 0 [] rfl o0 ⟨b, off, none⟩ n c (xs.flatMap encS) rfl hlen hnew (one_encS xs) (by omega) (by simp only [maxLen]; omega) (by omega) (by simp) (w.heap.size + 1) (by simp) ?_; intro gg cap w3 ho3 hg3 hat3 hlt3)
    have hb3 : Below w.heap.size w w3 := ((Below.refl _ _).alloc (Nat.le_refl _) _).grown hg3 (by simp) (fun q hq => by simp [Value.ownBlock] at hq; omega)
    rw [List.nil_append] at ho3
    simp only [Nat.zero_add] at ho3
    clear hnew hlen o0
    go_ret
    exact ⟨_, _, rfl, ho3, hb3⟩
theorem IndexFunc_S (g : Nat) (caps : Array Value) (p : ByteArray → Bool) (eg : ∀ args w, (callFunc g args).run Try.prog w = .ok (.enter g args) w) (A : Option Addr) (n c : Nat) (xs : List ByteArray) (w : World) (B : Nat) (hB : B ≤ w.heap.size) (hn : n ≤ 140737488355328)
    (hx : Sl w B 1 encS A n xs) (hp : ∀ (W : World) (z : ByteArray), z ∈ xs → Below w.heap.size w W → Calls Try.prog g (#[.string z] ++ caps) W fun e w' => e = .returned (.bool (p z)) ∧ Below W.heap.size W w') :
    Calls Try.prog 80 #[.slice A n c, .func (.func g) #[] caps] w fun e w' => e = .returned (.int .i64 (findFrom p 0 xs)) ∧ Below w.heap.size w w' := by
  go_enter Try.func80, Try.ntmps80
  go_wp2
  go_loopw [5, 8] (fun _ i w1 => ∃ k : Nat, k ≤ n ∧ i = .int .i64 k ∧ Hid (findFrom p 0 xs = findFrom p k (xs.drop k)) ∧ Below w.heap.size w w1) (fun _ i _ => n - (intOf i).toNat)
  case atStart => exact ⟨0, Nat.zero_le _, rfl, hid rfl, Below.refl _ _⟩
  case round =>
    obtain ⟨k, hk, rfl, he, hb⟩ := hrel
    by_cases hlt : k < n
    · obtain ⟨z, b, off, Hx, rfl, hbB, c0⟩ := (hx.below (hb.mono hB)).str hlt
      have hcall := hp wr z (List.mem_of_getElem? Hx.out) hb
      have he2 := he.out
      rw [drop_at Hx.out, findFrom] at he2
      clear hp hx
      cases hq : p z with
      | true =>
        rw [hq] at hcall
        rw [hq, if_pos rfl] at he2
        have He2 := hid he2
        clear he2 hq
        go_wp2_with (go_at_fn g; refine hcall.mono ?_; rintro e w' ⟨rfl, hb'⟩)
        go_ret
        exact ⟨retI He2.out.symm, hb.trans (hb'.mono hb.size)⟩
      | false =>
        rw [hq] at hcall
        rw [hq, if_neg (by simp)] at he2
        have He2 := hid he2
        clear he2 hq
        go_wp2_with (go_at_fn g; refine hcall.mono ?_; rintro e w' ⟨rfl, hb'⟩)
        have hb2 := hb.trans (hb'.mono hb.size)
        go_roundw
        all_goals first | exact ⟨k + 1, by omega, by go_num, He2, hb2⟩ | exact ⟨⟨k + 1, by omega, by go_num, He2, hb2⟩, by simp [intOf]; omega⟩ | (simp [intOf]; omega)
    · have : k = n := by omega
      subst this
      have he2 := he.out
      rw [List.drop_of_length_le (by rw [hx.len]; omega), findFrom] at he2
      have He2 := hid he2
      clear he2
      go_wp2
      go_ret
      exact ⟨retI He2.out.symm, hb⟩
theorem findFrom_cases {α : Type} (p : α → Bool) : ∀ (l : List α) (i : Nat), (findFrom p i l = -1 ∧ ∀ x ∈ l, p x = false) ∨ ∃ (k : Nat) (x : α), findFrom p i l = ((i + k : Nat) : Int) ∧ l[k]? = some x ∧ p x = true ∧ ∀ y ∈ l.take k, p y = false := by
  intro l
  induction l with
  | nil => intro i; exact .inl ⟨rfl, by simp⟩
  | cons a r ih =>
    intro i
    cases ha : p a with
    | true => exact .inr ⟨0, a, by simp [findFrom, ha], by simp, ha, by simp⟩
    | false =>
      rcases ih (i + 1) with ⟨h1, h2⟩ | ⟨k, x, h1, h2, h3, h4⟩
      · exact .inl ⟨by simp [findFrom, ha, h1], by simp [ha]; exact h2⟩
      · refine .inr ⟨k + 1, x, ?_, by simpa using h2, h3, by simp [ha]; exact h4⟩
        simp only [findFrom, ha]
        rw [if_neg (by simp), h1]
        congr 1
        omega
/-- those that stay -/
def stay {α : Type} (p : α → Bool) (l : List α) : List α := l.filter fun z => !p z
theorem stay_all {α : Type} {p : α → Bool} {l : List α} (h : ∀ x ∈ l, p x = false) : stay p l = l := by
  unfold stay; rw [List.filter_eq_self]; intro x hx; simp [h x hx]
theorem stay_snoc {α : Type} {p : α → Bool} {xs : List α} {k : Nat} {x : α} (h : xs[k]? = some x) : stay p (xs.take (k + 1)) = if p x then stay p (xs.take k) else stay p (xs.take k) ++ [x] := by
  rw [take_at h, stay, List.filter_append]
  cases hp : p x <;> simp [hp, stay]
theorem stay_len {α : Type} (p : α → Bool) (l : List α) : (stay p l).length ≤ l.length := List.length_filter_le _ _
/-- a row on its way: what stays lies ahead, what is not yet looked at lies where it lay -/
structure Mid {α : Type} (enc : α → List Value) (kc : Nat) (p : α → Bool) (xs : List α) (m j : Nat) (l : List Value) : Prop where
  pre : Pre l ((stay p (xs.take j)).flatMap enc)
  num : (stay p (xs.take j)).length = m
  rest : ∀ i, j * kc ≤ i → l[i]? = (xs.flatMap enc)[i]?
theorem Mid.start {α : Type} {enc : α → List Value} {kc : Nat} {p : α → Bool} {xs : List α} {k : Nat} {x : α} (h : xs[k]? = some x) (hp : p x = true) (ha : ∀ y ∈ xs.take k, p y = false) : Mid enc kc p xs k (k + 1) (xs.flatMap enc) := by
  have hlt := (List.getElem?_eq_some_iff.1 h).1
  have e : stay p (xs.take (k + 1)) = xs.take k := by rw [stay_snoc h, if_pos hp, stay_all ha]
  refine ⟨?_, by rw [e, List.length_take]; omega, fun i _ => rfl⟩
  rw [e]
  intro j u hj
  have : xs.flatMap enc = (xs.take k).flatMap enc ++ (xs.drop k).flatMap enc := by rw [← List.flatMap_append, List.take_append_drop]
  rw [this, List.getElem?_append_left (List.getElem?_eq_some_iff.1 hj).1]
  exact hj
theorem Mid.skip {α : Type} {enc : α → List Value} {kc : Nat} {p : α → Bool} {xs : List α} {m j : Nat} {x : α} {l : List Value} (h : Mid enc kc p xs m j l) (hx : xs[j]? = some x) (hp : p x = true) : Mid enc kc p xs m (j + 1) l := by
  have e : stay p (xs.take (j + 1)) = stay p (xs.take j) := by rw [stay_snoc hx, if_pos hp]
  exact ⟨by rw [e]; exact h.pre, by rw [e]; exact h.num, fun i hi => h.rest i (by rw [Nat.succ_mul] at hi; omega)⟩
theorem Mid.done {α : Type} {enc : α → List Value} {kc : Nat} (hk : ∀ x, (enc x).length = kc) {p : α → Bool} {xs : List α} {m j : Nat} {l : List Value} (h : Mid enc kc p xs m j l) (hj : xs.length ≤ j) (hl : m * kc ≤ l.length) : l.take (m * kc) = (stay p xs).flatMap enc := by
  have hp := h.pre
  have hn := h.num
  rw [List.take_of_length_le hj] at hp hn
  have hlen : ((stay p xs).flatMap enc).length = m * kc := by rw [flatMap_len hk, hn]
  have h2 : Pre (l.take (m * kc)) ((stay p xs).flatMap enc) := fun i u hu => by
    have := (List.getElem?_eq_some_iff.1 hu).1
    rw [List.getElem?_take, if_pos (by omega)]
    exact hp i u hu
  exact h2.all (by rw [List.length_take, hlen]; omega)
theorem Mid.keepS {p : ByteArray → Bool} {xs : List ByteArray} {m j : Nat} {x : ByteArray} {l : List Value} (h : Mid encS 1 p xs m j l) (hx : xs[j]? = some x) (hp : p x = false) (hm : m < j) (hl : j < l.length) : Mid encS 1 p xs (m + 1) (j + 1) (l.set m (.string x)) := by
  have e : stay p (xs.take (j + 1)) = stay p (xs.take j) ++ [x] := by rw [stay_snoc hx, hp]; simp
  have hlen : ((stay p (xs.take j)).flatMap encS).length = m := by rw [flatMap_len encS_len, h.num, Nat.mul_one]
  refine ⟨?_, by rw [e]; simp [h.num], fun i hi => ?_⟩
  · rw [e, List.flatMap_append]
    have := h.pre.push (j := m) hlen.symm (by omega) (.string x)
    simpa [encS] using this
  · rw [List.getElem?_set_ne (by omega)]
    exact h.rest i (by omega)
set_option maxHeartbeats 4000000 in
set_option maxRecDepth 100000 in
theorem deleteS_some (g : Nat) (caps : Array Value) (p : ByteArray → Bool) (eg : ∀ args w, (callFunc g args).run Try.prog w = .ok (.enter g args) w) (lo gb n c : Nat) (xs : List ByteArray) (w : World) (hn : n ≤ 2000000) (hn0 : 0 < n) (ho : w.ownsRow lo 9 1 (.slice (some ⟨gb, 0, none⟩) n c) n (xs.flatMap encS))
    (hp : ∀ (W : World) (z : ByteArray), z ∈ xs → w.grownBy W (some gb) → Calls Try.prog g (#[.string z] ++ caps) W fun e w' => e = .returned (.bool (p z)) ∧ Below W.heap.size W w') :
    Calls Try.prog 55 #[.slice (some ⟨gb, 0, none⟩) n c, .func (.func g) #[] caps] w fun r w' => ∃ m, r = .returned (.slice (some ⟨gb, 0, none⟩) m c) ∧ w'.ownsRow lo 9 1 (.slice (some ⟨gb, 0, none⟩) m c) m ((stay p xs).flatMap encS) ∧ w.grownBy w' (some gb) := by
  have hl := own_len encS_len (by omega) ho
  have hix := IndexFunc_S g caps p eg (some ⟨gb, 0, none⟩) n c xs w w.heap.size (Nat.le_refl _) (by omega) (own_sl encS_len (by omega) ho) (fun W z hz hb => hp W z hz (Span0 hb _))
  obtain ⟨_, _, hfm, hnc0⟩ := own_form ho
  have hnc : n ≤ c := by injection hfm with _ _ h3; omega
  have hcm : c ≤ 9223372036854775807 := by
    rcases ho.2 with ⟨h', _⟩ | ⟨g', cap', cur, h', _, _, _, hcm, _⟩
    · simp at h'
    · injection h' with _ _ h3
      unfold maxLen at hcm
      omega
  clear hfm hnc0
  rcases findFrom_cases p xs 0 with ⟨hf, hall⟩ | ⟨k0, x0, hf, hx0, hp0, hall⟩
  · have ES : Hid (stay p xs = xs) := stay_all hall
    rw [hf] at hix
    clear hf hall hp hl
    go_enter Try.func55, Try.ntmps55
    go_wp2_with (go_at_call 80; refine hix.mono ?_; rintro r w1 ⟨rfl, b1⟩)
    go_ret
    exact ⟨n, rfl, by rw [ES.out]; exact own_below ho b1, Span0 b1 _⟩
  · rw [hf, Nat.zero_add] at hix
    have M0 := hid (Mid.start (enc := encS) (kc := 1) hx0 hp0 hall)
    have hk0 : k0 < n := by have := (List.getElem?_eq_some_iff.1 hx0).1; omega
    have hne : ((k0 : Int) == -1) = false := by simp
    have v3 : ∀ w, (zeroValue 9).run Try.prog w = .ok (.string ByteArray.empty) w := fun w => by kernel_rfl
    have HP := hid hp
    have HL := hid hl
    have HO := hid ho
    clear hf hall hp hl hx0 hp0 ho
    go_enter Try.func55, Try.ntmps55
    go_wp2_with (go_at_call 80; refine hix.mono ?_; rintro r w1 ⟨rfl, b1⟩)
    go_loopw [5, 6, 7] (fun i j _ wl => ∃ (m q : Nat) (l : List Value), i = .int .i64 m ∧ j = .int .i64 q ∧ m < q ∧ q ≤ n ∧ Hid (Mid encS 1 p xs m q l) ∧ Hid (wl.ownsRow lo 9 1 (.slice (some ⟨gb, 0, none⟩) n c) n l) ∧ w.grownBy wl (some gb)) (fun _ j _ _ => n - (intOf j).toNat)
    case atStart => exact ⟨k0, k0 + 1, _, rfl, by go_num, by omega, by omega, M0, own_below HO.out b1, Span0 b1 _⟩
    case round =>
      obtain ⟨m, q, l, rfl, rfl, hmq, hqn, hM, ho2, hgr⟩ := hrel
      have hlen : Hid (l.length = n) := by have := ho2.out.1; rw [Nat.mul_one] at this; exact this
      by_cases hlt : q < n
      · have hqx : q < xs.length := by rw [← HL.out]; exact hlt
        have hz := List.getElem?_eq_getElem hqx
        have hcell := ho2.out.cellAt q (by omega)
        rw [hM.out.rest q (by omega), show (xs.flatMap encS)[q]? = some (.string xs[q]) by
          have := flatMap_get encS_len (j := 0) (u := .string xs[q]) xs q hz rfl
          simpa using this] at hcell
        have hcall := HP.out wr xs[q] (List.getElem_mem hqx) hgr
        have hzz := hid hz
        generalize xs[q] = z at hcell hcall hzz
        clear hz
        have q0 : (0 : Int) ≤ (q : Int) := by omega
        have q1 : (q : Int) < (n : Int) := by omega
        cases hpz : p z with
        | true =>
          have M2 := hid (hM.out.skip hzz.out hpz)
          rw [hpz] at hcall
          clear hpz
          go_wp2_with (go_at_fn g; refine hcall.mono ?_; rintro r w2 ⟨rfl, b2⟩)
          have hg2 := hgr.trans (Span0 b2 _)
          have o3 := hid (own_below ho2.out b2)
          go_roundw
          all_goals first | exact ⟨m, q + 1, l, rfl, by go_num, by omega, by omega, M2, o3, hg2⟩ | exact ⟨⟨m, q + 1, l, rfl, by go_num, by omega, by omega, M2, o3, hg2⟩, by simp [intOf]; omega⟩ | (simp [intOf]; omega)
        | false =>
          have M2 := hid (hM.out.keepS hzz.out hpz hmq (by rw [hlen.out]; exact hlt))
          rw [hpz] at hcall
          clear hpz
          have m0 : (0 : Int) ≤ (m : Int) := by omega
          have m1 : (m : Int) < (n : Int) := by omega
          go_wp2_with (go_at_fn g; refine hcall.mono ?_; rintro r w2 ⟨rfl, b2⟩; have o3 := own_below ho2.out b2; obtain ⟨⟨u, e0⟩, f0⟩ := own_at o3 (Below.refl _ _) m (by omega); have o4 := o3.stored m (.string z))
          have hg2 := (hgr.trans (Span0 b2 _)).trans o4.2
          have o5 := hid o4.1
          go_roundw
          all_goals first | exact ⟨m + 1, q + 1, _, by go_num, by go_num, by omega, by omega, M2, o5, hg2⟩ | exact ⟨⟨m + 1, q + 1, _, by go_num, by go_num, by omega, by omega, M2, o5, hg2⟩, by simp [intOf]; omega⟩ | (simp [intOf]; omega)
      · have hqe : q = n := by omega
        subst hqe
        have hat : ∀ t, t < q → (wr.cell? ⟨gb, t, none⟩).isSome = true ∧ wr.frozen? ⟨gb, t, none⟩ = false := fun t ht => by
          obtain ⟨⟨u, hu⟩, hf⟩ := own_at ho2.out (Below.refl _ _) t (by omega)
          exact ⟨by rw [hu]; rfl, hf⟩
        have hcl : ∀ ty, (Builtin.clear_ #[22] ty #[.slice (some ⟨gb, m, none⟩) (q - m) (c - m)]).run Try.prog wr = .ok (.tuple #[]) (wr.setCells gb m (List.replicate (q - m) (.string ByteArray.empty))) := fun ty =>
          Lib.run_clear_slice (P := Try.prog) wr 22 9 ty _ Try.underlying22 v3 rfl rfl gb m (q - m) (c - m) (by omega) (fun t ht => (hat _ (by omega)).1) (fun t ht => (hat _ (by omega)).2)
        obtain ⟨o6, g6⟩ := own_setCells (List.replicate (q - m) (.string ByteArray.empty)) m wr l ho2.out
        have o7 := own_shrink (m := m) o6 (by omega)
        have e7 : (setL l m (List.replicate (q - m) (.string ByteArray.empty))).take (m * 1) = (stay p xs).flatMap encS := by
          rw [← hM.out.done encS_len (by rw [← HL.out]; exact Nat.le_refl _) (by rw [hlen.out]; omega), setL_eq _ _ _ (by rw [hlen.out, List.length_replicate]; omega), Nat.mul_one, List.append_assoc, List.take_append_of_le_length (by rw [List.length_take, hlen.out]; omega), List.take_take]
          simp
        rw [e7] at o7
        have O7 := hid o7
        have G7 := hid (hgr.trans g6)
        have hmc : ¬ c = m := by omega
        have m2 : (m : Int) ≤ (q : Int) := by omega
        have m3 : (m : Int) ≤ (c : Int) := by omega
        have m0 : (0 : Int) ≤ (m : Int) := by omega
        clear o6 g6 o7 e7 hat hM ho2
        go_wp2_with fail
        go_ret
        exact ⟨m, rfl, O7.out, G7.out⟩
theorem deleteS_any (g : Nat) (caps : Array Value) (p : ByteArray → Bool) (eg : ∀ args w, (callFunc g args).run Try.prog w = .ok (.enter g args) w) (lo : Nat) (A : Option Addr) (n c : Nat) (xs : List ByteArray) (w : World) (hn : n ≤ 2000000) (ho : w.ownsRow lo 9 1 (.slice A n c) n (xs.flatMap encS))
    (hp : ∀ (W : World) (z : ByteArray), z ∈ xs → w.grownBy W (Value.slice A n c).ownBlock → Calls Try.prog g (#[.string z] ++ caps) W fun e w' => e = .returned (.bool (p z)) ∧ Below W.heap.size W w') :
    Calls Try.prog 55 #[.slice A n c, .func (.func g) #[] caps] w fun r w' => ∃ m, r = .returned (.slice A m c) ∧ w'.ownsRow lo 9 1 (.slice A m c) m ((stay p xs).flatMap encS) ∧ w.grownBy w' (Value.slice A n c).ownBlock := by
  rcases Nat.eq_zero_or_pos n with h0 | h0
  · subst h0
    have hl := own_len encS_len (by omega) ho
    have hxs : xs = [] := List.eq_nil_of_length_eq_zero hl.symm
    subst hxs
    have hix := IndexFunc_S g caps p eg A 0 c [] w w.heap.size (Nat.le_refl _) (by omega) ⟨rfl, fun i x h => by simp at h⟩ (fun W z hz hb => by simp at hz)
    simp only [findFrom] at hix
    clear hp hl
    go_enter Try.func55, Try.ntmps55
    go_wp2_with (go_at_call 80; refine hix.mono ?_; rintro r w1 ⟨rfl, b1⟩)
    go_ret
    exact ⟨0, rfl, own_below ho b1, Span0 b1 _⟩
  · obtain ⟨gb, rfl, _, _⟩ := own_some ho h0
    exact deleteS_some g caps p eg lo gb n c xs w hn h0 ho hp
end Go.Proofs.Ytmanbpobdaamfaa
