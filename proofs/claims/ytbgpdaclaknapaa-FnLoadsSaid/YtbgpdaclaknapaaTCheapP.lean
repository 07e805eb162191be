/-
  The cheapest tariff, in plain Lean; what the parts of both sides give. No condition.
-/
import Derived.Test.YtbgpdaclaknapaaTList
import Derived.Test.YtbgpdaclaknapaaTSplit
import Derived.Test.YtbgpdaclaknapaaGTree
namespace Go.Proofs.Ytbgpdaclaknapaa
open Go.RowKit
set_option maxHeartbeats 400000

/-- what some carriers cost under a tariff: none if one has no step -/
def sumTo (t : Tariff) (gs ms : List Int) : Nat → Option Int
  | 0 => some 0
  | k + 1 => match sumTo t gs ms k, costOf t.s t.h t.e (gs.getD k 0) (ms.getD k 0) false with
    | some s, some c => some (s + c)
    | _, _ => none
def bestT (ts : List Tariff) (gs ms : List Int) : Nat → SSt
  | 0 => none
  | k + 1 => match ts[k]? with
    | none => bestT ts gs ms k
    | some t => match sumTo t gs ms gs.length with
      | none => bestT ts gs ms k
      | some s => if better s (bestT ts gs ms k) then some ((k : Int), s) else bestT ts gs ms k
def outT : SSt → Int × Int × Int | none => (0, 0, 3) | some p => (p.1, p.2, 0)
def numsT (gs ms : List Int) : Bool := gs.all (fun g => inR g 0 5000) && ms.all (fun m => inR m 0 20000)
def cheapT (ts : List Tariff) (gs ms : List Int) : Int × Int × Int :=
  if ts.all validT then if ts.length ≤ 8 ∧ gs.length ≤ 40 ∧ gs.length = ms.length ∧ numsT gs ms = true then outT (bestT ts gs ms ts.length) else (0, 0, 2) else (0, 0, 1)
theorem sumTo_some {t : Tariff} {gs ms : List Int} {k : Nat} {s c g m : Int} (h : sumTo t gs ms k = some s) (hg : gs[k]? = some g) (hm : ms[k]? = some m) (hc : costOf t.s t.h t.e g m false = some c) : sumTo t gs ms (k + 1) = some (s + c) := by
  have e1 : gs.getD k 0 = g := by rw [List.getD, hg]; rfl
  have e2 : ms.getD k 0 = m := by rw [List.getD, hm]; rfl
  simp only [sumTo, h, e1, e2, hc]
theorem sumTo_no {t : Tariff} {gs ms : List Int} {k : Nat} {g m : Int} (hg : gs[k]? = some g) (hm : ms[k]? = some m) (hc : costOf t.s t.h t.e g m false = none) : sumTo t gs ms (k + 1) = none := by
  have e1 : gs.getD k 0 = g := by rw [List.getD, hg]; rfl
  have e2 : ms.getD k 0 = m := by rw [List.getD, hm]; rfl
  simp only [sumTo, e1, e2, hc]
  split <;> simp_all
theorem sumTo_none {t : Tariff} {gs ms : List Int} {k : Nat} (h : sumTo t gs ms k = none) : ∀ d, sumTo t gs ms (k + d) = none := by
  intro d
  induction d with
  | zero => exact h
  | succ d ih =>
    rw [show k + (d + 1) = (k + d) + 1 by omega]
    simp only [sumTo, ih]
theorem bestT_some {ts : List Tariff} {gs ms : List Int} {k : Nat} {t : Tariff} {s : Int} (ht : ts[k]? = some t) (hs : sumTo t gs ms gs.length = some s) : bestT ts gs ms (k + 1) = if better s (bestT ts gs ms k) then some ((k : Int), s) else bestT ts gs ms k := by
  simp only [bestT, ht, hs]
theorem bestT_none {ts : List Tariff} {gs ms : List Int} {k : Nat} {t : Tariff} (ht : ts[k]? = some t) (hs : sumTo t gs ms gs.length = none) : bestT ts gs ms (k + 1) = bestT ts gs ms k := by
  simp only [bestT, ht, hs]
/-- the sum of the program: right as long as all carriers have a step -/
def SumOk (t : Tariff) (gs ms : List Int) (i : Nat) (b : Bool) (q : Int) : Prop := b = (sumTo t gs ms i).isSome ∧ (b = true → sumTo t gs ms i = some q)
def okT : SSt → Prop | none => True | some (b, l) => 0 ≤ b ∧ b ≤ 8 ∧ 0 ≤ l ∧ l ≤ 8844000000
theorem cost_in {xs : List Step} {h e g m : Int} (hv : validT ⟨xs, h, e⟩ = true) (m0 : 0 ≤ m) (m1 : m ≤ 20000) {c : Int} (hc : costOf xs h e g m false = some c) : 0 ≤ c ∧ c ≤ 221100000 := by
  obtain ⟨hss, _, _, h0, h1, e0, e1⟩ := validT_parts hv
  unfold costOf at hc
  obtain ⟨x, hx, rfl⟩ := Option.map_eq_some_iff.1 hc
  have := hss x (List.mem_of_find?_eq_some hx)
  exact whole_bound false this.2.1 this.2.2 h0 h1 e0 e1 m0 m1
theorem nums_at {gs ms : List Int} (h : numsT gs ms = true) : (∀ (i : Nat) (g : Int), gs[i]? = some g → 0 ≤ g ∧ g ≤ 5000) ∧ ∀ (i : Nat) (m : Int), ms[i]? = some m → 0 ≤ m ∧ m ≤ 20000 := by
  simp only [numsT, Bool.and_eq_true, List.all_eq_true, inR_iff] at h
  exact ⟨fun i g hg => h.1 g (List.mem_of_getElem? hg), fun i m hm => h.2 m (List.mem_of_getElem? hm)⟩
theorem any_not {α : Type} (p : α → Bool) (l : List α) : (l.any fun x => !p x) = !l.all p := by
  induction l with
  | nil => rfl
  | cons x l ih => simp only [List.any_cons, List.all_cons, ih, Bool.not_and]

theorem badT_any (A : Option Addr) (n c : Nat) (xs : List Step) (h e : Int) (w : World) (B : Nat) (hB : B ≤ w.heap.size) (hn : n ≤ 2000000) (hx : Sl w B 2 encStep A n xs) :
    Calls Try.prog 42 #[.agg #[.slice A n c, .int .i64 h, .int .i64 e]] w fun r w' => r = .returned (.bool (!validT ⟨xs, h, e⟩)) ∧ Below w.heap.size w w' := by
  have hv := ValidTariff_any A n c xs h e (w.alloc (.cells #[.slice A n c, .int .i64 h, .int .i64 e] 30)) B (by simp; omega) hn (hx.alloc hB _)
  clear hx
  go_enter Try.func42, Try.ntmps42
  go_wp2_with fail
  refine hv.mono ?_
  rintro r w1 ⟨rfl, b1⟩
  go_wp2_with fail
  go_ret
  exact ⟨rfl, ((Below.refl _ _).alloc (Nat.le_refl _) _).trans (b1.mono (by simp))⟩
theorem badIdx_any (A : Option Addr) (n c : Nat) (ts : List TRow) (w : World) (B : Nat) (hB : B ≤ w.heap.size) (hn : n + totT ts ≤ 2000000) (hx : SlT w B A n ts) :
    Calls Try.prog 61 #[.slice A n c, .func (.func 42) #[] #[]] w fun r w' => r = .returned (.int .i64 (findFrom (fun t => !validT t) 0 (tars ts))) ∧ Below w.heap.size w w' := by
  have hl := hx.len
  go_enter Try.func61, Try.ntmps61
  go_wp2
  go_loopw [8] (fun i w1 => ∃ k : Nat, k ≤ n ∧ i = .int .i64 k ∧ Hid (findFrom (fun t => !validT t) 0 (tars ts) = findFrom (fun t => !validT t) k ((tars ts).drop k)) ∧ Below w.heap.size w w1) (fun i _ => n - (intOf i).toNat)
  case atStart => exact ⟨0, Nat.zero_le _, rfl, hid rfl, Below.refl _ _⟩
  case round =>
    obtain ⟨k, hk, rfl, he, hb⟩ := hrel
    by_cases hlt : k < n
    · obtain ⟨Ai, ni, ci, xi, ah, ae, b, off, Hx, rfl, hbB, c0, c1, c2, hxi⟩ := (hx.below (hb.mono hB)).row hlt
      have hni := totT_mem (List.mem_of_getElem? Hx.out)
      simp only at hni
      have he2 := he.out
      rw [drop_at (tars_at Hx.out), findFrom] at he2
      have hcl := badT_any Ai ni ci xi ah ae wr B (Nat.le_trans hB hb.size) (by omega) hxi
      clear he hx hxi
      cases hr : validT ⟨xi, ah, ae⟩ with
      | false =>
        rw [hr] at he2 hcl
        have E : Hid (findFrom (fun t => !validT t) 0 (tars ts) = k) := by rw [Hid, he2]; simp
        clear he2 hr
        go_wp2_with fail
        refine hcl.mono ?_
        rintro r w1 ⟨rfl, b1⟩
        have b2 := hb.trans (b1.mono hb.size)
        clear b1 hcl
        go_wp2_with fail
        go_ret
        exact ⟨retI E.out.symm, b2⟩
      | true =>
        rw [hr] at he2 hcl
        have E : Hid (findFrom (fun t => !validT t) 0 (tars ts) = findFrom (fun t => !validT t) (k + 1) ((tars ts).drop (k + 1))) := by rw [Hid, he2]; simp
        clear he2 hr
        go_wp2_with fail
        refine hcl.mono ?_
        rintro r w1 ⟨rfl, b1⟩
        have b2 := hb.trans (b1.mono hb.size)
        clear b1 hcl
        go_wp2_with fail
        go_roundw
        all_goals first | exact ⟨k + 1, by omega, by go_num, E, b2⟩ | exact ⟨⟨k + 1, by omega, by go_num, E, b2⟩, by simp [intOf]; omega⟩ | (simp [intOf]; omega)
    · have : k = n := by omega
      subst this
      have E : Hid (findFrom (fun t => !validT t) 0 (tars ts) = -1) := by rw [Hid, he.out, List.drop_of_length_le (by rw [tars_len]; omega)]; rfl
      clear he hx
      go_wp2
      go_ret
      exact ⟨retI E.out.symm, hb⟩
theorem hasBad_any (A : Option Addr) (n c : Nat) (ts : List TRow) (w : World) (B : Nat) (hB : B ≤ w.heap.size) (hn : n + totT ts ≤ 2000000) (hx : SlT w B A n ts) :
    Calls Try.prog 41 #[.slice A n c, .func (.func 42) #[] #[]] w fun r w' => r = .returned (.bool (!(tars ts).all validT)) ∧ Below w.heap.size w w' := by
  have E := findFrom_any (fun t => !validT t) (tars ts) 0
  rw [any_not] at E
  have hi2 := badIdx_any A n c ts w B hB hn hx
  generalize findFrom (fun t => !validT t) 0 (tars ts) = z at E hi2
  have E2 := hid E
  clear E hx
  go_enter Try.func41, Try.ntmps41
  go_wp2_with (go_at_call 61; refine hi2.mono ?_; rintro r w2 ⟨rfl, b2⟩)
  go_ret
  exact ⟨retB E2.out, b2⟩
end Go.Proofs.Ytbgpdaclaknapaa
