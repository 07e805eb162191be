/-
  RS: texts RegL, SDelW, SList, SBy, SByS, SDrop, STubeGS, one behind the other. No condition but what each says.
-/
import Derived.Test.YtcgkcfmiabninaaGreatDoorRS09
import Derived.Deep.RegionHeld
import Derived.Deep.RegionHeld3
import Derived.Deep.RegionLaw
/-
  A region that draws its order and whose last operation waits for all the others: the others in whatever order, then the last one. No condition.
-/
namespace Go.Proofs.YtcgkcfmiabninaaGreatDoor
open Go.RowKit

section
variable {P : Program} {ops : Array Oper} {Q : Exit → Act → World → Prop} {md : Region.Mode} {n : Nat}

/-- what is left when all but the last operation have come up -/
def QLast (P : Program) (ops : Array Oper) (Q : Exit → Act → World → Prop) (n : Nat) (e : Exit) (a : Act) (w : World) : Prop :=
  match e with
  | .normal => wpOp P ops Q n (Q .normal) a w
  | e => Q e a w
def opOk (md : Region.Mode) (i : Nat) (o : Oper) : Bool := o.guard.isNone && o.after.all fun e => !Region.binds md e || decide (e.on < i)
/-- no guard; each waits for earlier ones alone; the last one for all -/
def lastB (md : Region.Mode) (ops : Array Oper) (n : Nat) : Bool :=
  decide (ops.size = n + 1) && (List.range (n + 1)).all (fun i => ((ops[i]?).map (opOk md i)).getD false) &&
    (List.range n).all fun j => ((ops[n]?).map fun o => o.after.any fun e => Region.binds md e && e.on == j).getD false

theorem lastB_size (h : lastB md ops n = true) : ops.size = n + 1 := by
  simp only [lastB, Bool.and_eq_true, decide_eq_true_eq] at h
  exact h.1.1
theorem lastB_op (h : lastB md ops n = true) {i : Nat} (hi : i < n + 1) : ∃ o, ops[i]? = some o ∧ o.guard = none ∧ ∀ e ∈ o.after, Region.binds md e = true → e.on < i := by
  simp only [lastB, Bool.and_eq_true, decide_eq_true_eq] at h
  have h1 := List.all_eq_true.1 h.1.2 i (List.mem_range.2 hi)
  cases ho : ops[i]? with
  | none => rw [ho] at h1; simp at h1
  | some o =>
    rw [ho] at h1
    simp only [Option.map_some, Option.getD_some, opOk, Bool.and_eq_true, Option.isNone_iff_eq_none] at h1
    refine ⟨o, rfl, h1.1, fun e he hb => ?_⟩
    have h2 := Array.all_eq_true_iff_forall_mem.1 h1.2 e he
    simp only [hb, Bool.not_true, Bool.false_or, decide_eq_true_eq] at h2
    exact h2
theorem lastB_wait (h : lastB md ops n = true) {j : Nat} (hj : j < n) {o : Oper} (ho : ops[n]? = some o) : ∃ e ∈ o.after, Region.binds md e = true ∧ e.on = j := by
  simp only [lastB, Bool.and_eq_true, decide_eq_true_eq] at h
  have h1 := List.all_eq_true.1 h.2 j (List.mem_range.2 hj)
  rw [ho] at h1
  simp only [Option.map_some, Option.getD_some] at h1
  obtain ⟨i, hi, h2⟩ := Array.any_eq_true.1 h1
  simp only [Bool.and_eq_true, beq_iff_eq] at h2
  exact ⟨o.after[i], Array.getElem_mem hi, h2.1, h2.2⟩
theorem pop_at (hs : ops.size = n + 1) {i : Nat} (hi : i < n) : ops.pop[i]? = ops[i]? := by
  rw [Array.getElem?_pop]
  simp [hs, hi]
theorem letsOut_last (h : LetsOut (QLast P ops Q n)) : LetsOut Q := h
theorem oper_last {o : Oper} {a : Act} {w : World} {K K' : Act → World → Prop} (hK : ∀ a w, K a w → K' a w) (h : o.wp P a w K (QLast P ops Q n)) : o.wp P a w K' Q := by
  unfold Oper.wp at *
  generalize (execOp a.eval o).run P w = r at *
  cases r with
  | ok x w' =>
    cases x <;> first
      | exact hK _ _ h
      | exact Calls.mono h (fun e w'' he => by cases e <;> first | exact hK _ _ he | exact he)
      | exact Rows.mono h (fun _ _ he => hK _ _ he)
      | exact h
  | halt x w' => cases x <;> exact h
theorem wpOp_last (hB : lastB md ops n = true) {i : Nat} (hi : i < n) {a : Act} {w : World} {K K' : Act → World → Prop} (hK : ∀ a w, K a w → K' a w)
    (h : wpOp P ops.pop (QLast P ops Q n) i K a w) : wpOp P ops Q i K' a w := by
  obtain ⟨o, ho, hg, _⟩ := lastB_op hB (Nat.lt_succ_of_lt hi)
  have hp := pop_at (lastB_size hB) hi
  unfold wpOp at *
  rw [hp, ho] at h
  rw [ho]
  simp only at h ⊢
  have w1 : ∀ f, Region.wanted o f = true := fun f => by simp only [Region.wanted, hg]
  rw [if_pos (w1 _)] at h ⊢
  exact h.imp (oper_last hK) id
theorem any_done : ∀ (fuel : Nat) {listed : Array Bool} {a : Act} {w : World}, Region.ready md ops listed = [] → Q .normal a w → wpAny P md ops Q fuel listed a w
  | 0, _, _, _, h, hq => ⟨h, hq⟩
  | _ + 1, _, _, _, h, hq => ⟨fun _ => hq, fun i hi => by rw [h] at hi; cases hi⟩
theorem first_open (listed : Array Bool) : ∀ m : Nat, (∀ j, j < m → listed.getD j false = true) ∨ ∃ j, j < m ∧ listed.getD j false = false ∧ ∀ i, i < j → listed.getD i false = true := by
  intro m
  induction m with
  | zero => exact .inl fun j hj => absurd hj (Nat.not_lt_zero j)
  | succ m ih =>
    rcases ih with h | ⟨j, hj, h1, h2⟩
    · cases hm : listed.getD m false with
      | true => exact .inl fun j hj => (Nat.lt_succ_iff_lt_or_eq.1 hj).elim (h j) (fun e => e ▸ hm)
      | false => exact .inr ⟨m, Nat.lt_succ_self m, hm, h⟩
    · exact .inr ⟨j, Nat.lt_succ_of_lt hj, h1, h2⟩
theorem getD_tf {l : Array Bool} {j : Nat} (hj : j < l.size) (b c : Bool) : l.getD j b = l.getD j c := by simp [hj]
theorem push_lt {l : Array Bool} {j : Nat} (hj : j < l.size) (b : Bool) : (l.push false).getD j b = l.getD j b := by
  simp [Array.getElem?_push, Nat.ne_of_lt hj]
theorem push_false {l : Array Bool} {j : Nat} : (l.push false).getD j false = l.getD j false := by
  rcases Nat.lt_or_ge j l.size with h | h
  · exact push_lt h false
  · rcases Nat.eq_or_lt_of_le h with h1 | h1
    · subst h1; simp
    · simp [Array.getElem?_push, Nat.ne_of_gt h1, Array.getElem?_eq_none h]
theorem ready_push (hB : lastB md ops n = true) {listed : Array Bool} (hl : listed.size = n) {i : Nat} (hi : i < n) : i ∈ Region.ready md ops (listed.push false) ↔ i ∈ Region.ready md ops.pop listed := by
  rw [mem_ready, mem_ready, pop_at (lastB_size hB) hi]
  simp only [push_false, push_lt (show i < listed.size by omega)]
theorem any_last (hB : lastB md ops n = true) : ∀ (fuel : Nat) (listed : Array Bool) (a : Act) (w : World), listed.size = n → wpAny P md ops.pop (QLast P ops Q n) fuel listed a w → wpAny P md ops Q (fuel + 1) (listed.push false) a w := by
  have hs := lastB_size hB
  obtain ⟨o, ho, _, hlt⟩ := lastB_op hB (Nat.lt_succ_self n)
  have lt_of : ∀ {l : Array Bool} {i : Nat}, i ∈ Region.ready md ops l → i < n + 1 := fun {l i} h => by
    obtain ⟨_, oj, hoj, _⟩ := mem_ready.1 h
    have := (Array.getElem?_eq_some_iff.1 hoj).1
    omega
  have lt_pop : ∀ {l : Array Bool} {i : Nat}, i ∈ Region.ready md ops.pop l → i < n := fun {l i} h => by
    obtain ⟨_, oj, hoj, _⟩ := mem_ready.1 h
    have := (Array.getElem?_eq_some_iff.1 hoj).1
    simp only [Array.size_pop] at this
    omega
  intro fuel
  induction fuel with
  | zero =>
    intro listed a w hl h
    rcases first_open listed n with hall | ⟨j, hj, h1, h2⟩
    · have hq : wpOp P ops Q n (Q .normal) a w := h.2
      have mem : n ∈ Region.ready md ops (listed.push false) := mem_ready.2 ⟨by subst hl; simp, o, ho, fun e he hb => by rw [push_false]; exact hall _ (hlt e he hb)⟩
      refine ⟨fun h0 => (by rw [h0] at mem; cases mem), fun i hi => ?_⟩
      have hin : i = n := by
        rcases Nat.lt_or_ge i n with hlt' | hge
        · have := (mem_ready.1 hi).1
          rw [push_lt (by omega), getD_tf (by omega) true false, hall i hlt'] at this
          cases this
        · have := lt_of hi; omega
      subst hin
      refine wpOp_mono (fun a' w' hq' => any_done 0 ?_ hq') hq
      refine List.eq_nil_iff_forall_not_mem.2 fun k hk => ?_
      have h3 := (mem_ready.1 hk).1
      have h4 := lt_of hk
      rcases Nat.lt_or_ge k i with hlt' | hge
      · rw [getD_set_ne true (by omega), push_lt (by omega), getD_tf (by omega) true false, hall k hlt'] at h3
        cases h3
      · obtain rfl : k = i := by omega
        subst hl
        simp at h3
    · obtain ⟨oj, hoj, _, hon⟩ := lastB_op hB (Nat.lt_succ_of_lt hj)
      have : j ∈ Region.ready md ops.pop listed := mem_ready.2 ⟨by rw [getD_tf (by omega) true false]; exact h1, oj, (pop_at hs hj).trans hoj, fun e he hb => h2 _ (hon e he hb)⟩
      rw [h.1] at this
      cases this
  | succ fuel ih =>
    intro listed a w hl h
    rcases first_open listed n with hall | ⟨j, hj, h1, h2⟩
    · have hr : Region.ready md ops.pop listed = [] := List.eq_nil_iff_forall_not_mem.2 fun k hk => by
        have h3 := (mem_ready.1 hk).1
        rw [getD_tf (by have := lt_pop hk; omega) true false, hall k (lt_pop hk)] at h3
        cases h3
      have hq : wpOp P ops Q n (Q .normal) a w := h.1 hr
      have mem : n ∈ Region.ready md ops (listed.push false) := mem_ready.2 ⟨by subst hl; simp, o, ho, fun e he hb => by rw [push_false]; exact hall _ (hlt e he hb)⟩
      refine ⟨fun h0 => (by rw [h0] at mem; cases mem), fun i hi => ?_⟩
      have hin : i = n := by
        rcases Nat.lt_or_ge i n with hlt' | hge
        · have := (mem_ready.1 hi).1
          rw [push_lt (by omega), getD_tf (by omega) true false, hall i hlt'] at this
          cases this
        · have := lt_of hi; omega
      subst hin
      refine wpOp_mono (fun a' w' hq' => any_done (fuel + 1) ?_ hq') hq
      refine List.eq_nil_iff_forall_not_mem.2 fun k hk => ?_
      have h3 := (mem_ready.1 hk).1
      have h4 := lt_of hk
      rcases Nat.lt_or_ge k i with hlt' | hge
      · rw [getD_set_ne true (by omega), push_lt (by omega), getD_tf (by omega) true false, hall k hlt'] at h3
        cases h3
      · obtain rfl : k = i := by omega
        subst hl
        simp at h3
    · obtain ⟨oj, hoj, _, hon⟩ := lastB_op hB (Nat.lt_succ_of_lt hj)
      have mj : j ∈ Region.ready md ops.pop listed := mem_ready.2 ⟨by rw [getD_tf (by omega) true false]; exact h1, oj, (pop_at hs hj).trans hoj, fun e he hb => h2 _ (hon e he hb)⟩
      refine ⟨fun h0 => ?_, fun i hi => ?_⟩
      · have := (ready_push hB hl hj).2 mj
        rw [h0] at this
        cases this
      · have hin : i < n := by
          rcases Nat.lt_or_ge i n with hlt' | hge
          · exact hlt'
          · obtain rfl : i = n := by have := lt_of hi; omega
            exfalso
            obtain ⟨_, o2, ho2, hall⟩ := mem_ready.1 hi
            obtain ⟨e, he, hb, e1⟩ := lastB_wait hB hj ho2
            have := hall e he hb
            rw [push_false, e1, h1] at this
            cases this
        refine wpOp_last hB hin (fun a' w' h3 => ?_) (h.2 i ((ready_push hB hl hin).1 hi))
        have := ih (listed.setIfInBounds i true) a' w' (by simpa using hl) h3
        rw [show (listed.push false).setIfInBounds i true = (listed.setIfInBounds i true).push false from ?_]
        · exact this
        · apply Array.ext_getElem?
          intro k
          simp only [Array.getElem?_setIfInBounds, Array.getElem?_push, Array.size_push, Array.size_setIfInBounds]
          by_cases h5 : i = k
          · subst h5
            rw [if_pos rfl, if_pos (by omega), if_neg (by omega), if_pos rfl, if_pos (by omega)]
          · rw [if_neg h5, if_neg h5]
theorem wp_region_last {id : Nat} {a : Act} {w : World} {S : World → Prop} (hm : P.follows .mixedOrders = true) (hB : lastB .any ops n = true) (hS : S w.drew)
    (h : S w.drew → wpAnyH P .any ops.pop (QLast P ops Q n) S n (Array.replicate n false) a w.drew) : (Code.region id ops true).wp P Q a w := by
  refine wp_region_any hm ?_
  have := any_last (P := P) (Q := Q) hB n (Array.replicate n false) a w.drew (by simp) (wpAny_of_held _ _ _ _ (h hS))
  rw [lastB_size hB]
  rw [Array.replicate_succ]
  exact this
/-- the last operation -/
theorem last_step {o : Oper} {a : Act} {w : World} (ho : ops[n]? = some o) (hg : o.guard = none) (h : ∀ K : Act → World → Prop, Shut (∀ a w, Q .normal a w → K a w) → Oper.wp P o a w K Q) : QLast P ops Q n .normal a w := by
  show wpOp P ops Q n (Q .normal) a w
  unfold wpOp
  rw [ho]
  simp only
  rw [if_pos (by simp only [Region.wanted, hg])]
  exact .inl (h _ (fun _ _ h => h))
end
end Go.Proofs.YtcgkcfmiabninaaGreatDoor
/-
  slices.Clone and slices.DeleteFunc over ways. No condition.
-/
namespace Go.Proofs.YtcgkcfmiabninaaGreatDoor
open Go.RowKit
set_option maxHeartbeats 400000

theorem run_clear_cells {P : Program} (w : World) (t e ty : TypeId) (z : Value) (ht : P.underlying t = some (.slice e)) (hv : ∀ w, (zeroValue e).run P w = .ok z w) (b o n c : Nat) (hn : 0 < n) (L : List Value) (hL : (Builtin.zeroCells z.cells n).toList = L) (h1 : ∀ v ∈ L, v.oneCell' = true)
    (hc : ∀ j, j < L.length → (w.cell? ⟨b, o + j, none⟩).isSome = true) (hf : ∀ j, j < L.length → w.frozen? ⟨b, o + j, none⟩ = false) :
    (Builtin.clear_ #[t] ty #[.slice (some ⟨b, o, none⟩) n c]).run P w = .ok (.tuple #[]) (w.setCells b o L) := by
  have hst := run_storeCells_cells (P := P) b o L 0 w (by simpa using hc) (by simpa using hf) h1
  simp only [Nat.add_zero] at hst
  obtain ⟨m, rfl⟩ : ∃ m, n = m + 1 := ⟨n - 1, by omega⟩
  simp [Builtin.clear_, run_underlying ht, hv, hL, hst]
/-- the zero cells of some ways -/
def zeroW (n : Nat) : List Value := (Builtin.zeroCells (Value.agg #[.string ByteArray.empty, .string ByteArray.empty, .int .i64 0]).cells n).toList
theorem zeroW_len (n : Nat) : (zeroW n).length = n * 3 := by simp [zeroW, Builtin.zeroCells, Value.cells]
theorem zeroW_one (n : Nat) : ∀ v ∈ zeroW n, v.oneCell' = true := by
  intro v hv
  simp [zeroW, Builtin.zeroCells, Value.cells] at hv
  obtain ⟨i, _, hi⟩ := hv
  have h3 : i % 3 = 0 ∨ i % 3 = 1 ∨ i % 3 = 2 := by omega
  rcases h3 with h | h | h <;> (simp [h] at hi; subst hi; rfl)
theorem news_of_ways {w : World} {B b off n : Nat} {xs : List Way} (hx : Sl w B 3 encWay (some ⟨b, off, none⟩) n xs) : ∀ (j : Nat) (u : Value), (xs.flatMap encWay)[j]? = some u → w.cell? ((⟨b, off, none⟩ : Addr).add j) = some u := by
  intro j u hj
  rw [Addr.add_lit]
  have hjl : j < xs.length * 3 := by have := (List.getElem?_eq_some_iff.1 hj).1; rwa [flatMap_len encWay_len] at this
  have hq : j / 3 < xs.length := by omega
  obtain ⟨b', off', e, _, hc⟩ := hx.2 (j / 3) xs[j / 3] (List.getElem?_eq_getElem hq)
  injection e with e
  injection e with e1 e2
  subst e1 e2
  have hm : j % 3 < (encWay xs[j / 3]).length := by rw [encWay_len]; omega
  have h2 := flatMap_get encWay_len xs (j / 3) (List.getElem?_eq_getElem hq) (List.getElem?_eq_getElem hm)
  rw [show j / 3 * 3 + j % 3 = j by omega, hj] at h2
  injection h2 with h2
  have := hc (j % 3) _ (List.getElem?_eq_getElem hm)
  rw [show off + j / 3 * 3 + j % 3 = off + j by omega] at this
  rw [this, h2]
theorem one_encWay (xs : List Way) : ∀ u ∈ xs.flatMap encWay, u.oneCell' = true := by
  intro u hu
  obtain ⟨x, _, hx⟩ := List.mem_flatMap.1 hu
  simp [encWay] at hx
  rcases hx with rfl | rfl | rfl <;> rfl
theorem Mid.keepW {p : Way → Bool} {xs : List Way} {m j : Nat} {f t : ByteArray} {z : Int} {l : List Value} (h : Mid encWay 3 p xs m j l) (hx : xs[j]? = some ⟨f, t, z⟩) (hp : p ⟨f, t, z⟩ = false) (hm : m < j) (hl : j * 3 + 2 < l.length) : Mid encWay 3 p xs (m + 1) (j + 1) (((l.set (m * 3) (.string f)).set (m * 3 + 1) (.string t)).set (m * 3 + 2) (.int .i64 z)) := by
  have e : stay p (xs.take (j + 1)) = stay p (xs.take j) ++ [⟨f, t, z⟩] := by rw [stay_snoc hx, hp]; simp
  have hlen : ((stay p (xs.take j)).flatMap encWay).length = m * 3 := by rw [flatMap_len encWay_len, h.num]
  refine ⟨?_, by rw [e]; simp [h.num], fun i hi => ?_⟩
  · rw [e, List.flatMap_append]
    have h1 := h.pre.push (j := m * 3) hlen.symm (by omega) (.string f)
    have h2 := h1.push (j := m * 3 + 1) (by simp [hlen]) (by simp; omega) (.string t)
    have h3 := h2.push (j := m * 3 + 2) (by simp [hlen]) (by simp; omega) (.int .i64 z)
    simpa [encWay] using h3
  · rw [List.getElem?_set_ne (by omega), List.getElem?_set_ne (by omega), List.getElem?_set_ne (by omega)]
    exact h.rest i (by omega)
end Go.Proofs.YtcgkcfmiabninaaGreatDoor
/-
  MetresOf, OneWays, WaysFromName: both sides. No condition.
-/
namespace Go.Proofs.YtcgkcfmiabninaaGreatDoor
open Go.RowKit
set_option maxHeartbeats 400000

def sumM (xs : List Way) : Int := (xs.map Way.metres).sum
theorem sumM_take {xs : List Way} {k : Nat} {y : Way} (h : xs[k]? = some y) : sumM (xs.take (k + 1)) = sumM (xs.take k) + y.metres := by
  rw [take_at h]; simp [sumM]
def metF (x : Sch) : Int × Int := if validX x then (sumM x.wy, 0) else (0, 1)
def oneP (x : Sch) (y : Way) : Bool := !hasW x.wy y.«to» y.fr
def oneF (x : Sch) : List Int × Int := if validX x then (idxF (oneP x) x.wy x.wy.length, 0) else ([], 1)
def fromP (z : ByteArray) (y : Way) : Bool := decide (y.fr = z)
def fromF (x : Sch) (z : ByteArray) : List Int × Int := if codeX x z = 0 then (idxF (fromP z) x.wy x.wy.length, 0) else ([], codeX x z)
theorem idxX_len {α : Type} (p : α → Bool) {x : Sch} {xs : List α} (h : xs.length ≤ x.wy.length) (HT : Hid (totX x ≤ 1048576)) : (idxF p xs xs.length).length ≤ 2000000 := by
  have := idxF_len p xs xs.length
  have := HT.out
  simp only [totX] at this
  omega
theorem oneF_len (x : Sch) (HT : Hid (totX x ≤ 1048576)) : (oneF x).1.length ≤ 2000000 := by
  unfold oneF
  split
  · exact idxX_len _ (Nat.le_refl _) HT
  · simp
theorem fromF_len (x : Sch) (z : ByteArray) (HT : Hid (totX x ≤ 1048576)) : (fromF x z).1.length ≤ 2000000 := by
  unfold fromF
  split
  · exact idxX_len _ (Nat.le_refl _) HT
  · simp
theorem codeX_zero {x : Sch} {z : ByteArray} (h : codeX x z = 0) : validX x = true ∧ hasS x.st z = true := by
  unfold codeX at h
  split at h
  · split at h
    · exact ⟨by assumption, by assumption⟩
    · cases h
  · cases h

end Go.Proofs.YtcgkcfmiabninaaGreatDoor
/-
  LonelyStations, DeadEnds: both sides. No condition.
-/
namespace Go.Proofs.YtcgkcfmiabninaaGreatDoor
open Go.RowKit
set_option maxHeartbeats 400000

/-- a list of names and a code -/
def SPost (w : World) (R : List ByteArray × Int) (r : Ending) (w' : World) : Prop :=
  ∃ A n c, r = .returned (.tuple #[.slice A n c, .int .i64 R.2]) ∧ w'.ownsRow w.heap.size 9 1 (.slice A n c) n (R.1.flatMap encS) ∧ Below w.heap.size w w'
theorem SPost.bad {w w' : World} {R : List ByteArray × Int} {z : Int} (hR : R = ([], z)) (hb : Below w.heap.size w w') : SPost w R (.returned (.tuple #[.slice none 0 0, .int .i64 z])) w' := by
  subst hR
  exact ⟨none, 0, 0, rfl, World.ownsRow_nil _ _ _ _, hb⟩
def leadsB (ws : List Way) (z : ByteArray) : Bool := ws.any fun y => decide (y.fr = z)
def comesB (ws : List Way) (z : ByteArray) : Bool := ws.any fun y => decide (y.«to» = z)
/-- is struck: leads or comes otherwise than asked -/
def strB (ws : List Way) (f t : Bool) (z : ByteArray) : Bool := (leadsB ws z != f) || (comesB ws z != t)
def byF (x : Sch) (f t : Bool) : List ByteArray × Int := if validX x then (stay (strB x.wy f t) x.st, 0) else ([], 1)
def lonelyF (x : Sch) : List ByteArray × Int := byF x false false
def deadF (x : Sch) : List ByteArray × Int := byF x false true
theorem byF_len (x : Sch) (f t : Bool) (HT : Hid (totX x ≤ 1048576)) : (byF x f t).1.length ≤ 2000000 := by
  unfold byF
  split
  · have := stay_len (strB x.wy f t) x.st
    have := HT.out
    simp only [totX] at this
    simp only
    omega
  · simp
theorem lonelyF_len (x : Sch) (HT : Hid (totX x ≤ 1048576)) : (lonelyF x).1.length ≤ 2000000 := byF_len x _ _ HT
theorem deadF_len (x : Sch) (HT : Hid (totX x ≤ 1048576)) : (deadF x).1.length ≤ 2000000 := byF_len x _ _ HT
end Go.Proofs.YtcgkcfmiabninaaGreatDoor
/-
  LonelyStations, DeadEnds: the reference's side. No condition.
-/
namespace Go.Proofs.YtcgkcfmiabninaaGreatDoor
open Go.RowKit
set_option maxHeartbeats 400000

def cntB (p : Way → Bool) (ws : List Way) : Nat := ws.countP p
theorem cntB_take {p : Way → Bool} {ws : List Way} {k : Nat} {y : Way} (h : ws[k]? = some y) : cntB p (ws.take (k + 1)) = if p y then cntB p (ws.take k) + 1 else cntB p (ws.take k) := by
  rw [take_at h, cntB, List.countP_append]
  cases hp : p y <;> simp [hp, cntB]
theorem cntB_le (p : Way → Bool) (ws : List Way) : cntB p ws ≤ ws.length := List.countP_le_length
theorem cntB_any (p : Way → Bool) (ws : List Way) : ws.any p = decide (0 < cntB p ws) := by
  rw [Bool.eq_iff_iff]
  simp only [List.any_eq_true, decide_eq_true_eq, cntB, List.countP_pos_iff]
theorem snocS (xs : List ByteArray) (z : ByteArray) : xs.flatMap encS ++ [.string z] = (xs ++ [z]).flatMap encS := by simp [encS]
end Go.Proofs.YtcgkcfmiabninaaGreatDoor
/-
  DropStation: the program's side. No condition.
-/
namespace Go.Proofs.YtcgkcfmiabninaaGreatDoor
open Go.RowKit
set_option maxHeartbeats 400000

def isS (z y : ByteArray) : Bool := decide (y = z)
def atW (z : ByteArray) (y : Way) : Bool := decide (y.fr = z) || decide (y.«to» = z)
def dropF (x : Sch) (z : ByteArray) : Sch × Int := if codeX x z = 0 then (⟨stay (isS z) x.st, stay (isS z) x.rm, stay (atW z) x.wy⟩, 0) else (⟨[], [], []⟩, codeX x z)
theorem dropF_len (x : Sch) (z : ByteArray) (HT : Hid (totX x ≤ 1048576)) : (dropF x z).1.st.length ≤ 2000000 ∧ (dropF x z).1.rm.length ≤ 2000000 ∧ (dropF x z).1.wy.length ≤ 2000000 ∧ lenX (dropF x z).1 ≤ 4000000 := by
  have h1 := stay_len (isS z) x.st
  have h2 := stay_len (isS z) x.rm
  have h3 := stay_len (atW z) x.wy
  have := HT.out
  simp only [totX] at this
  unfold dropF
  split
  · simp only [lenX]; omega
  · simp [lenX]
/-- a scheme and a code -/
def XPost (w : World) (R : Sch × Int) (r : Ending) (w' : World) : Prop :=
  ∃ s : SV, r = .returned (.tuple #[s.v, .int .i64 R.2]) ∧ OwnX w' w.heap.size s R.1 ∧ Below w.heap.size w w'
def obA (A : Option Addr) : Option Nat := A.map Addr.block
theorem own_ob (A : Option Addr) (n c : Nat) : (Value.slice A n c).ownBlock = obA A := by cases A <;> rfl
theorem keepO {w w' : World} {lo T k : Nat} {A A2 : Option Addr} {n c n2 c2 m : Nat} {l : List Value} (h : w.ownsRow lo T k (.slice A n c) m l) (hn : ∀ q, obA A2 = some q → obA A ≠ some q) (hg : w.grownBy w' (Value.slice A2 n2 c2).ownBlock) : w'.ownsRow lo T k (.slice A n c) m l :=
  own_keep h (v2 := .slice A2 n2 c2) (fun q h1 h2 => hn q (by rw [← own_ob A2 n2 c2]; exact h1) (by rw [← own_ob A n c]; exact h2)) hg
theorem keepP {w w' : World} {lo T k : Nat} {A A2 : Option Addr} {n c n2 c2 m : Nat} {l : List Value} (h : w.ownsRow lo T k (.slice A n c) m l) (hn : ∀ q, obA A = some q → obA A2 ≠ some q) (hg : w.grownBy w' (Value.slice A2 n2 c2).ownBlock) : w'.ownsRow lo T k (.slice A n c) m l :=
  keepO h (fun q h1 h2 => hn q h2 h1) hg
theorem far3 {w : World} {g : Nat} {a b c : Value} {p : Addr} (h : p.block ≠ g) : (((w.setCell ⟨g, 0, none⟩ a).setCell ⟨g, 1, none⟩ b).setCell ⟨g, 2, none⟩ c).cell? p = w.cell? p := by
  rw [cell_far (p := ⟨g, 2, none⟩) (Ne.symm h), cell_far (p := ⟨g, 1, none⟩) (Ne.symm h), cell_far (p := ⟨g, 0, none⟩) (Ne.symm h)]
theorem set3_0 {w : World} {g : Nat} {u : Value} (h : w.cell? ⟨g, 0, none⟩ = some u) (a b c : Value) : (((w.setCell ⟨g, 0, none⟩ a).setCell ⟨g, 1, none⟩ b).setCell ⟨g, 2, none⟩ c).cell? ⟨g, 0, none⟩ = some a :=
  (World.cell?_setCell_other _ _ _ _ (by simp)).trans ((World.cell?_setCell_other _ _ _ _ (by simp)).trans (World.cell?_setCell_same _ _ _ h))
theorem set3_1 {w : World} {g : Nat} {u : Value} (h : w.cell? ⟨g, 1, none⟩ = some u) (a b c : Value) : (((w.setCell ⟨g, 0, none⟩ a).setCell ⟨g, 1, none⟩ b).setCell ⟨g, 2, none⟩ c).cell? ⟨g, 1, none⟩ = some b :=
  (World.cell?_setCell_other _ _ _ _ (by simp)).trans (World.cell?_setCell_same _ _ _ ((World.cell?_setCell_other _ _ _ _ (by simp)).trans h))
theorem set3_2 {w : World} {g : Nat} {u : Value} (h : w.cell? ⟨g, 2, none⟩ = some u) (a b c : Value) : (((w.setCell ⟨g, 0, none⟩ a).setCell ⟨g, 1, none⟩ b).setCell ⟨g, 2, none⟩ c).cell? ⟨g, 2, none⟩ = some c :=
  World.cell?_setCell_same _ _ _ ((World.cell?_setCell_other _ _ _ _ (by simp)).trans ((World.cell?_setCell_other _ _ _ _ (by simp)).trans h))
theorem ow_set3 {w : World} {lo T k g : Nat} {v a b c : Value} {n : Nat} {l : List Value} (hp : v.ownBlock ≠ some g) (h : w.ownsRow lo T k v n l) : (((w.setCell ⟨g, 0, none⟩ a).setCell ⟨g, 1, none⟩ b).setCell ⟨g, 2, none⟩ c).ownsRow lo T k v n l := ow_set hp (ow_set hp (ow_set hp h))
theorem bl_set3 {B g : Nat} {a w : World} {u v x : Value} (hg : B ≤ g) (h : Below B a w) : Below B a (((w.setCell ⟨g, 0, none⟩ u).setCell ⟨g, 1, none⟩ v).setCell ⟨g, 2, none⟩ x) := bl_set hg (bl_set hg (bl_set hg h))
theorem apO {A A2 : Option Addr} {n c n2 c2 : Nat} (h : ∀ q, obA A = some q → obA A2 ≠ some q) : ∀ q, (Value.slice A n c).ownBlock = some q → (Value.slice A2 n2 c2).ownBlock ≠ some q := fun q h1 h2 => h q (by rw [← own_ob A n c]; exact h1) (by rw [← own_ob A2 n2 c2]; exact h2)
theorem freshO {w w' : World} {lo T k T2 k2 : Nat} {A A2 : Option Addr} {n c n2 c2 m m2 : Nat} {l l2 : List Value} (h : w'.ownsRow w.heap.size T k (.slice A n c) m l) (h2 : w.ownsRow lo T2 k2 (.slice A2 n2 c2) m2 l2) : ∀ q, obA A2 = some q → obA A ≠ some q := fun q h1 h3 => by
  have a1 := (h.lt q (by rw [own_ob]; exact h3)).1
  have a2 := (h2.lt q (by rw [own_ob]; exact h1)).2
  omega
end Go.Proofs.YtcgkcfmiabninaaGreatDoor
/-
  Schemes of one's own: a name, a way is added; where its lists lie then and what is kept. No condition.
-/
namespace Go.Proofs.YtcgkcfmiabninaaGreatDoor
open Go.RowKit
set_option maxHeartbeats 400000

set_option maxHeartbeats 4000000 in
set_option maxRecDepth 100000 in
theorem l21TubeG_any (gs lo B0 : Nat) (s : SV) (x : Sch) (f t : ByteArray) (m : Int) (w : World) (hg0 : B0 ≤ gs) (hlo : B0 ≤ lo) (hlw : lo ≤ w.heap.size) (hl : x.st.length ≤ 20) (hl3 : x.wy.length ≤ 60) (h : XAt w gs lo s x) :
    Calls Tryz.prog 61 #[.pointer (some ⟨gs, 0, none⟩), .agg #[.string f, .string t, .int .i64 m]] w (AddG gs lo B0 s w (wyF x.st x.wy ⟨f, t, m⟩) (addWy x ⟨f, t, m⟩)) := by
  obtain ⟨A1, n1, c1, A2, n2, c2, A3, n3, c3⟩ := s
  obtain ⟨ln1, ln2, ln3⟩ := h.len
  simp only at ln1 ln2 ln3
  obtain ⟨W0, hW0⟩ : ∃ W0, W0 = w.alloc (.cells #[.string f, .string t, .int .i64 m] 62) := ⟨_, rfl⟩
  have b0 : Below w.heap.size w W0 := by rw [hW0]; exact (Below.refl _ _).alloc (Nat.le_refl _) _
  have b0B : Below B0 w W0 := b0.mono (by omega)
  have d0 : W0.cell? ⟨w.heap.size, 0, none⟩ = some (.string f) := by rw [hW0]; go_simp
  have d1 : W0.cell? ⟨w.heap.size, 1, none⟩ = some (.string t) := by rw [hW0]; go_simp
  have d2 : W0.cell? ⟨w.heap.size, 2, none⟩ = some (.int .i64 m) := by rw [hW0]; go_simp
  have HW := hid hW0
  clear hW0
  have hlt := h.lt
  have hlr : Hid (∀ b, (Value.slice A3 n3 c3).ownBlock = some b → lo ≤ b ∧ b < w.heap.size) := h.own.wy.lt
  have h0 := h.below b0
  have z0 := b0.size
  have k0 := h0.k0
  have k2 := h0.k2
  simp only at k0 k2
  have hsl := h0.own.sl
  have g1 := fun z W h => l21Has_any A1 n1 c1 x.st z W W0.heap.size (by omega) h
  have g4 := fun W => l00In_any m 1 2000 W
  have g5 := fun W h k => l21Way_any gs A3 n3 c3 x.wy f t W W0.heap.size (by omega) h k
  have e5 : hasW x.wy f t = decide (0 ≤ findFrom (wayIs f t) 0 x.wy) := (findFrom_any _ _ _).symm
  have hsst := hsl.st
  have hswy := hsl.wy
  have HE5 := hid e5
  clear e5
  have q3 := bs_eq (x := f) (y := t)
  have E : Hid (wyF x.st x.wy ⟨f, t, m⟩ = if hasS x.st f then if hasS x.st t then if decide (f = t) then 7 else if inR m 1 2000 then if hasW x.wy f t then 5 else if n3 < 60 then 0 else 8 else 4 else 6 else 6) := by
    simp only [Hid, wyF, decide_eq_true_eq, ← ln3]
  have EA := hid (show addWy x ⟨f, t, m⟩ = if wyF x.st x.wy ⟨f, t, m⟩ = 0 then ⟨x.st, x.rm, x.wy ++ [⟨f, t, m⟩]⟩ else x from rfl)
  have Ln := hid ln3
  generalize hasS x.st = PS at g1 E
  obtain ⟨p1, hp1⟩ : ∃ p1, PS f = p1 := ⟨_, rfl⟩
  obtain ⟨p2, hp2⟩ : ∃ p2, PS t = p2 := ⟨_, rfl⟩
  rw [hp1, hp2] at E
  generalize decide (f = t) = p3 at q3 E
  generalize inR m 1 2000 = p4 at g4 E
  generalize hasW x.wy f t = p5 at HE5 E
  generalize findFrom (wayIs f t) 0 x.wy = v5 at g5 HE5
  obtain ⟨i0, hi, hz0, hz1, hz2⟩ := info_parts Way_info
  have hr := h0.own.wy
  simp only at hr
  have q9 : (Value.slice A3 n3 c3).ownBlock ≠ some gs := h0.o3
  have hn60 : n3 ≤ 60 := by omega
  have fz := h0.f2
  have lg := h0.lt
  have Hh := hid h0
  have HR := hid hr
  clear h h0 ln1 ln2 ln3 hsl hr
  cases p1 with
  | false =>
    go_enter Tryz.func61, Tryz.ntmps61
    go_wp2_with fail
    rw [← HW.out]
    go_quiet ((go_at_call 75; exact Calls.quiet_of_same (g1 _ _ hsst)))
    have b1 := below_drewN (Below.refl W0.heap.size W0) nq
    replace k2 := below_cell k2 b1
    replace d0 := below_cell d0 b1
    replace d1 := below_cell d1 b1
    replace d2 := below_cell d2 b1
    replace fz := below_frz (v := .slice A3 n3 c3) (p := ⟨gs, 2, none⟩) (Hh.out.k2) fz b1
    replace hswy := hswy.below b1
    have z1 := b1.size
    generalize W0.drewN nq = W1 at *
    go_wp2_with (first | (go_at_call 52; refine (g4 _).mono ?_; rintro r w1 ⟨rfl, e⟩; replace e := e.symm; subst e) | (go_at_call 77; refine (g5 _ hswy k2).mono ?_; rintro r w1 ⟨rfl, e⟩; replace e := e.symm; subst e))
    go_ret
    exact ⟨retI (by rw [E.out]; simp), ⟨_, (by rw [EA.out, if_neg (by rw [E.out]; simp)]; exact Hh.out.below b1), Kin.refl _ _⟩, b0B.trans (b1.mono (by omega)), FarB.of (b0.trans (b1.mono (by omega)))⟩
  | true =>
    cases p2 with
    | false =>
      go_enter Tryz.func61, Tryz.ntmps61
      go_wp2_with fail
      rw [← HW.out]
      go_quiet ((go_at_call 75; exact Calls.quiet_of_same (g1 _ _ hsst)))
      have b1 := below_drewN (Below.refl W0.heap.size W0) nq
      replace k2 := below_cell k2 b1
      replace d0 := below_cell d0 b1
      replace d1 := below_cell d1 b1
      replace d2 := below_cell d2 b1
      replace fz := below_frz (v := .slice A3 n3 c3) (p := ⟨gs, 2, none⟩) (Hh.out.k2) fz b1
      replace hswy := hswy.below b1
      have z1 := b1.size
      generalize W0.drewN nq = W1 at *
      go_wp2_with (first | (go_at_call 52; refine (g4 _).mono ?_; rintro r w1 ⟨rfl, e⟩; replace e := e.symm; subst e) | (go_at_call 77; refine (g5 _ hswy k2).mono ?_; rintro r w1 ⟨rfl, e⟩; replace e := e.symm; subst e))
      go_ret
      exact ⟨retI (by rw [E.out]; simp), ⟨_, (by rw [EA.out, if_neg (by rw [E.out]; simp)]; exact Hh.out.below b1), Kin.refl _ _⟩, b0B.trans (b1.mono (by omega)), FarB.of (b0.trans (b1.mono (by omega)))⟩
    | true =>
      cases p3 with
      | true =>
        go_enter Tryz.func61, Tryz.ntmps61
        go_wp2_with fail
        rw [← HW.out]
        go_quiet ((go_at_call 75; exact Calls.quiet_of_same (g1 _ _ hsst)))
        have b1 := below_drewN (Below.refl W0.heap.size W0) nq
        replace k2 := below_cell k2 b1
        replace d0 := below_cell d0 b1
        replace d1 := below_cell d1 b1
        replace d2 := below_cell d2 b1
        replace fz := below_frz (v := .slice A3 n3 c3) (p := ⟨gs, 2, none⟩) (Hh.out.k2) fz b1
        replace hswy := hswy.below b1
        have z1 := b1.size
        generalize W0.drewN nq = W1 at *
        go_wp2_with (first | (go_at_call 52; refine (g4 _).mono ?_; rintro r w1 ⟨rfl, e⟩; replace e := e.symm; subst e) | (go_at_call 77; refine (g5 _ hswy k2).mono ?_; rintro r w1 ⟨rfl, e⟩; replace e := e.symm; subst e))
        go_ret
        exact ⟨retI (by rw [E.out]; simp), ⟨_, (by rw [EA.out, if_neg (by rw [E.out]; simp)]; exact Hh.out.below b1), Kin.refl _ _⟩, b0B.trans (b1.mono (by omega)), FarB.of (b0.trans (b1.mono (by omega)))⟩
      | false =>
        cases p4 with
        | false =>
          go_enter Tryz.func61, Tryz.ntmps61
          go_wp2_with fail
          rw [← HW.out]
          go_quiet ((go_at_call 75; exact Calls.quiet_of_same (g1 _ _ hsst)))
          have b1 := below_drewN (Below.refl W0.heap.size W0) nq
          replace k2 := below_cell k2 b1
          replace d0 := below_cell d0 b1
          replace d1 := below_cell d1 b1
          replace d2 := below_cell d2 b1
          replace fz := below_frz (v := .slice A3 n3 c3) (p := ⟨gs, 2, none⟩) (Hh.out.k2) fz b1
          replace hswy := hswy.below b1
          have z1 := b1.size
          generalize W0.drewN nq = W1 at *
          go_wp2_with (first | (go_at_call 52; refine (g4 _).mono ?_; rintro r w1 ⟨rfl, e⟩; replace e := e.symm; subst e) | (go_at_call 77; refine (g5 _ hswy k2).mono ?_; rintro r w1 ⟨rfl, e⟩; replace e := e.symm; subst e))
          go_ret
          exact ⟨retI (by rw [E.out]; simp), ⟨_, (by rw [EA.out, if_neg (by rw [E.out]; simp)]; exact Hh.out.below b1), Kin.refl _ _⟩, b0B.trans (b1.mono (by omega)), FarB.of (b0.trans (b1.mono (by omega)))⟩
        | true =>
          cases p5 with
          | true =>
            have hv5 : 0 ≤ v5 := by have := HE5.out; simpa using this.symm
            go_enter Tryz.func61, Tryz.ntmps61
            go_wp2_with fail
            rw [← HW.out]
            go_quiet ((go_at_call 75; exact Calls.quiet_of_same (g1 _ _ hsst)))
            have b1 := below_drewN (Below.refl W0.heap.size W0) nq
            replace k2 := below_cell k2 b1
            replace d0 := below_cell d0 b1
            replace d1 := below_cell d1 b1
            replace d2 := below_cell d2 b1
            replace fz := below_frz (v := .slice A3 n3 c3) (p := ⟨gs, 2, none⟩) (Hh.out.k2) fz b1
            replace hswy := hswy.below b1
            have z1 := b1.size
            generalize W0.drewN nq = W1 at *
            go_wp2_with (first | (go_at_call 52; refine (g4 _).mono ?_; rintro r w1 ⟨rfl, e⟩; replace e := e.symm; subst e) | (go_at_call 77; refine (g5 _ hswy k2).mono ?_; rintro r w1 ⟨rfl, e⟩; replace e := e.symm; subst e))
            go_ret
            exact ⟨retI (by rw [E.out]; simp), ⟨_, (by rw [EA.out, if_neg (by rw [E.out]; simp)]; exact Hh.out.below b1), Kin.refl _ _⟩, b0B.trans (b1.mono (by omega)), FarB.of (b0.trans (b1.mono (by omega)))⟩
          | false =>
            have hv5 : ¬ 0 ≤ v5 := by have := HE5.out; simpa using this.symm
            by_cases hlt60 : n3 < 60
            · have hne : ((n3 : Int) == 60) = false := by simp; omega
              have E0 : Hid (wyF x.st x.wy ⟨f, t, m⟩ = 0) := by rw [Hid, E.out]; simp; omega
              have EX : Hid (addWy x ⟨f, t, m⟩ = ⟨x.st, x.rm, x.wy ++ [⟨f, t, m⟩]⟩) := by rw [Hid, EA.out, if_pos E0.out]
              clear E EA
              go_enter Tryz.func61, Tryz.ntmps61
              go_wp2_with fail
              rw [← HW.out]
              go_quiet ((go_at_call 75; exact Calls.quiet_of_same (g1 _ _ hsst)))
              have b1 := below_drewN (Below.refl W0.heap.size W0) nq
              replace k2 := below_cell k2 b1
              replace d0 := below_cell d0 b1
              replace d1 := below_cell d1 b1
              replace d2 := below_cell d2 b1
              replace fz := below_frz (v := .slice A3 n3 c3) (p := ⟨gs, 2, none⟩) (Hh.out.k2) fz b1
              replace hswy := hswy.below b1
              have z1 := b1.size
              generalize W0.drewN nq = W1 at *
              go_wp2_with (first | (go_at_call 52; refine (g4 _).mono ?_; rintro r w1 ⟨rfl, e⟩; replace e := e.symm; subst e) | (go_at_call 77; refine (g5 _ hswy k2).mono ?_; rintro r w1 ⟨rfl, e⟩; replace e := e.symm; subst e))
              have h5 := hid (Hh.out.below b1)
              have hr5 := own_below HR.out b1
              have l5 : gs < W1.heap.size := h5.out.lt
              have l6 : w.heap.size < W1.heap.size := World.block_lt_of_cell? _ _ d0
              go_region_law ((refine step_append_lies _ (by rfl) _ _ _ (by rfl) lo 62 i0 _ 3 40 Tryz.underlying23 hi hz0 hz1 hz2 rfl (by omega) (.slice A3 n3 c3) n3 (x.wy.flatMap encWay) (by rfl) ((ow_drew hr5).alloc _) ⟨W1.heap.size, 0, none⟩ 1 1 [.string f, .string t, .int .i64 m] (by rfl) (by rfl) (World.news_of_block (cs := #[.string f, .string t, .int .i64 m]) (t := 62) (fr := (0, 0)) (heap_alloc_new W1.drew _)) (by simp [Value.oneCell']) (by omega) (by simp only [maxLen]; omega) (by omega) (by simp; omega) (W1.heap.size + 1) (by simp) ?_; intro gg cap w3 ho3 hg3 hat3 hlt3; have hgg := (gr_alloc (gr_drew (World.grownBy.refl W1 _))).trans hg3; have f3 := (hgg.frozen_far ⟨gs, 2, none⟩ l5 (fun e => q9 e.symm)).trans fz; have k3 : ∃ v, w3.cell? ⟨gs, 2, none⟩ = some v := ⟨_, hgg.cell k2 (fun e => q9 e.symm)⟩; obtain ⟨v3, k3⟩ := k3))
              all_goals
                go_wp2_with fail
                go_ret
                refine ⟨retI E0.out.symm, ⟨⟨A1, n1, c1, A2, n2, c2, some ⟨gg, 0, none⟩, n3 + 1, cap⟩, ?_, Kin.put3 hat3 (by omega)⟩, ?_, fun b hb h1 h2 => ?_⟩
                · rw [EX.out]
                  exact h5.out.put3 (H := W1.heap.size + 1) hgg (by omega) hat3 (by simpa [encWay] using ho3)
                · refine bl_set hg0 ?_
                  exact ((b0B.trans (b1.mono (by omega))).drew.alloc (by simp; omega) _).grown hg3 (by simp; omega) (fun b hb => by have := (hlr.out b hb).1; omega)
                · exact (blk_far _ _ _ h1).trans ((hgg.block b (Nat.lt_of_lt_of_le hb (b0.trans (b1.mono (by omega))).size) (fun e => h2 (.inr (.inr e.symm)))).trans ((b0.trans (b1.mono (by omega))).block b hb))
            · have hne : ((n3 : Int) == 60) = true := by simp; omega
              have Hlt := hid hlt60
              go_enter Tryz.func61, Tryz.ntmps61
              go_wp2_with fail
              rw [← HW.out]
              go_quiet ((go_at_call 75; exact Calls.quiet_of_same (g1 _ _ hsst)))
              have b1 := below_drewN (Below.refl W0.heap.size W0) nq
              replace k2 := below_cell k2 b1
              replace d0 := below_cell d0 b1
              replace d1 := below_cell d1 b1
              replace d2 := below_cell d2 b1
              replace fz := below_frz (v := .slice A3 n3 c3) (p := ⟨gs, 2, none⟩) (Hh.out.k2) fz b1
              replace hswy := hswy.below b1
              have z1 := b1.size
              generalize W0.drewN nq = W1 at *
              go_wp2_with (first | (go_at_call 52; refine (g4 _).mono ?_; rintro r w1 ⟨rfl, e⟩; replace e := e.symm; subst e) | (go_at_call 77; refine (g5 _ hswy k2).mono ?_; rintro r w1 ⟨rfl, e⟩; replace e := e.symm; subst e))
              go_ret
              exact ⟨retI (by rw [E.out]; simp [Hlt.out]), ⟨_, (by rw [EA.out, if_neg (by rw [E.out]; simp [Hlt.out])]; exact Hh.out.below b1), Kin.refl _ _⟩, b0B.trans (b1.mono (by omega)), FarB.of (b0.trans (b1.mono (by omega)))⟩
end Go.Proofs.YtcgkcfmiabninaaGreatDoor
