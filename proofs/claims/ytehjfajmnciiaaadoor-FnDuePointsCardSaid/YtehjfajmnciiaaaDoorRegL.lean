/-
  A region that draws its order and whose last operation waits for all the others: the others in whatever order, then the last one. No condition.
-/
import Derived.Test.YtehjfajmnciiaaaDoorBase
import Derived.Deep.RegionHeld
namespace Go.Proofs.YtehjfajmnciiaaaDoor
open Go.RowKit

section
variable {P : Program} {ops : Array Oper} {Q : Exit → Act → World → Prop} {md : Region.Mode} {n : Nat}

/-- what is left when all but the last operation have come up -/
def QLast (P : Program) (ops : Array Oper) (Q : Exit → Act → World → Prop) (n : Nat) (e : Exit) (a : Act) (w : World) : Prop :=
  match e with
  | .normal => wpOp P ops Q n (Q .normal) a w
  | e => Q e a w
def opOk (md : Region.Mode) (i : Nat) (o : Oper) : Bool := o.guard.isNone && o.after.all fun e => !Region.binds md e || decide (e.on < i)
/-- no guard; each waits for earlier ones alone; the last one for all -/
def lastB (md : Region.Mode) (ops : Array Oper) (n : Nat) : Bool :=
  decide (ops.size = n + 1) && (List.range (n + 1)).all (fun i => ((ops[i]?).map (opOk md i)).getD false) &&
    (List.range n).all fun j => ((ops[n]?).map fun o => o.after.any fun e => Region.binds md e && e.on == j).getD false

theorem lastB_size (h : lastB md ops n = true) : ops.size = n + 1 := by
  simp only [lastB, Bool.and_eq_true, decide_eq_true_eq] at h
  exact h.1.1
theorem lastB_op (h : lastB md ops n = true) {i : Nat} (hi : i < n + 1) : ∃ o, ops[i]? = some o ∧ o.guard = none ∧ ∀ e ∈ o.after, Region.binds md e = true → e.on < i := by
  simp only [lastB, Bool.and_eq_true, decide_eq_true_eq] at h
  have h1 := List.all_eq_true.1 h.1.2 i (List.mem_range.2 hi)
  cases ho : ops[i]? with
  | none => rw [ho] at h1; simp at h1
  | some o =>
    rw [ho] at h1
    simp only [Option.map_some, Option.getD_some, opOk, Bool.and_eq_true, Option.isNone_iff_eq_none] at h1
    refine ⟨o, rfl, h1.1, fun e he hb => ?_⟩
    have h2 := Array.all_eq_true_iff_forall_mem.1 h1.2 e he
    simp only [hb, Bool.not_true, Bool.false_or, decide_eq_true_eq] at h2
    exact h2
theorem lastB_wait (h : lastB md ops n = true) {j : Nat} (hj : j < n) {o : Oper} (ho : ops[n]? = some o) : ∃ e ∈ o.after, Region.binds md e = true ∧ e.on = j := by
  simp only [lastB, Bool.and_eq_true, decide_eq_true_eq] at h
  have h1 := List.all_eq_true.1 h.2 j (List.mem_range.2 hj)
  rw [ho] at h1
  simp only [Option.map_some, Option.getD_some] at h1
  obtain ⟨i, hi, h2⟩ := Array.any_eq_true.1 h1
  simp only [Bool.and_eq_true, beq_iff_eq] at h2
  exact ⟨o.after[i], Array.getElem_mem hi, h2.1, h2.2⟩
theorem pop_at (hs : ops.size = n + 1) {i : Nat} (hi : i < n) : ops.pop[i]? = ops[i]? := by
  rw [Array.getElem?_pop]
  simp [hs, hi]
theorem letsOut_last (h : LetsOut (QLast P ops Q n)) : LetsOut Q := h
theorem oper_last {o : Oper} {a : Act} {w : World} {K K' : Act → World → Prop} (hK : ∀ a w, K a w → K' a w) (h : o.wp P a w K (QLast P ops Q n)) : o.wp P a w K' Q := by
  unfold Oper.wp at *
  generalize (execOp a.eval o).run P w = r at *
  cases r with
  | ok x w' =>
    cases x <;> first
      | exact hK _ _ h
      | exact Calls.mono h (fun e w'' he => by cases e <;> first | exact hK _ _ he | exact he)
      | exact Rows.mono h (fun _ _ he => hK _ _ he)
      | exact h
  | halt x w' => cases x <;> exact h
theorem wpOp_last (hB : lastB md ops n = true) {i : Nat} (hi : i < n) {a : Act} {w : World} {K K' : Act → World → Prop} (hK : ∀ a w, K a w → K' a w)
    (h : wpOp P ops.pop (QLast P ops Q n) i K a w) : wpOp P ops Q i K' a w := by
  obtain ⟨o, ho, hg, _⟩ := lastB_op hB (Nat.lt_succ_of_lt hi)
  have hp := pop_at (lastB_size hB) hi
  unfold wpOp at *
  rw [hp, ho] at h
  rw [ho]
  simp only at h ⊢
  have w1 : ∀ f, Region.wanted o f = true := fun f => by simp only [Region.wanted, hg]
  rw [if_pos (w1 _)] at h ⊢
  exact h.imp (oper_last hK) id
theorem any_done : ∀ (fuel : Nat) {listed : Array Bool} {a : Act} {w : World}, Region.ready md ops listed = [] → Q .normal a w → wpAny P md ops Q fuel listed a w
  | 0, _, _, _, h, hq => ⟨h, hq⟩
  | _ + 1, _, _, _, h, hq => ⟨fun _ => hq, fun i hi => by rw [h] at hi; cases hi⟩
theorem first_open (listed : Array Bool) : ∀ m : Nat, (∀ j, j < m → listed.getD j false = true) ∨ ∃ j, j < m ∧ listed.getD j false = false ∧ ∀ i, i < j → listed.getD i false = true := by
  intro m
  induction m with
  | zero => exact .inl fun j hj => absurd hj (Nat.not_lt_zero j)
  | succ m ih =>
    rcases ih with h | ⟨j, hj, h1, h2⟩
    · cases hm : listed.getD m false with
      | true => exact .inl fun j hj => (Nat.lt_succ_iff_lt_or_eq.1 hj).elim (h j) (fun e => e ▸ hm)
      | false => exact .inr ⟨m, Nat.lt_succ_self m, hm, h⟩
    · exact .inr ⟨j, Nat.lt_succ_of_lt hj, h1, h2⟩
theorem getD_tf {l : Array Bool} {j : Nat} (hj : j < l.size) (b c : Bool) : l.getD j b = l.getD j c := by simp [hj]
theorem push_lt {l : Array Bool} {j : Nat} (hj : j < l.size) (b : Bool) : (l.push false).getD j b = l.getD j b := by
  simp [Array.getElem?_push, Nat.ne_of_lt hj]
theorem push_false {l : Array Bool} {j : Nat} : (l.push false).getD j false = l.getD j false := by
  rcases Nat.lt_or_ge j l.size with h | h
  · exact push_lt h false
  · rcases Nat.eq_or_lt_of_le h with h1 | h1
    · subst h1; simp
    · simp [Array.getElem?_push, Nat.ne_of_gt h1, Array.getElem?_eq_none h]
theorem ready_push (hB : lastB md ops n = true) {listed : Array Bool} (hl : listed.size = n) {i : Nat} (hi : i < n) : i ∈ Region.ready md ops (listed.push false) ↔ i ∈ Region.ready md ops.pop listed := by
  rw [mem_ready, mem_ready, pop_at (lastB_size hB) hi]
  simp only [push_false, push_lt (show i < listed.size by omega)]
theorem any_last (hB : lastB md ops n = true) : ∀ (fuel : Nat) (listed : Array Bool) (a : Act) (w : World), listed.size = n → wpAny P md ops.pop (QLast P ops Q n) fuel listed a w → wpAny P md ops Q (fuel + 1) (listed.push false) a w := by
  have hs := lastB_size hB
  obtain ⟨o, ho, _, hlt⟩ := lastB_op hB (Nat.lt_succ_self n)
  have lt_of : ∀ {l : Array Bool} {i : Nat}, i ∈ Region.ready md ops l → i < n + 1 := fun {l i} h => by
    obtain ⟨_, oj, hoj, _⟩ := mem_ready.1 h
    have := (Array.getElem?_eq_some_iff.1 hoj).1
    omega
  have lt_pop : ∀ {l : Array Bool} {i : Nat}, i ∈ Region.ready md ops.pop l → i < n := fun {l i} h => by
    obtain ⟨_, oj, hoj, _⟩ := mem_ready.1 h
    have := (Array.getElem?_eq_some_iff.1 hoj).1
    simp only [Array.size_pop] at this
    omega
  intro fuel
  induction fuel with
  | zero =>
    intro listed a w hl h
    rcases first_open listed n with hall | ⟨j, hj, h1, h2⟩
    · have hq : wpOp P ops Q n (Q .normal) a w := h.2
      have mem : n ∈ Region.ready md ops (listed.push false) := mem_ready.2 ⟨by subst hl; simp, o, ho, fun e he hb => by rw [push_false]; exact hall _ (hlt e he hb)⟩
      refine ⟨fun h0 => (by rw [h0] at mem; cases mem), fun i hi => ?_⟩
      have hin : i = n := by
        rcases Nat.lt_or_ge i n with hlt' | hge
        · have := (mem_ready.1 hi).1
          rw [push_lt (by omega), getD_tf (by omega) true false, hall i hlt'] at this
          cases this
        · have := lt_of hi; omega
      subst hin
      refine wpOp_mono (fun a' w' hq' => any_done 0 ?_ hq') hq
      refine List.eq_nil_iff_forall_not_mem.2 fun k hk => ?_
      have h3 := (mem_ready.1 hk).1
      have h4 := lt_of hk
      rcases Nat.lt_or_ge k i with hlt' | hge
      · rw [getD_set_ne true (by omega), push_lt (by omega), getD_tf (by omega) true false, hall k hlt'] at h3
        cases h3
      · obtain rfl : k = i := by omega
        subst hl
        simp at h3
    · obtain ⟨oj, hoj, _, hon⟩ := lastB_op hB (Nat.lt_succ_of_lt hj)
      have : j ∈ Region.ready md ops.pop listed := mem_ready.2 ⟨by rw [getD_tf (by omega) true false]; exact h1, oj, (pop_at hs hj).trans hoj, fun e he hb => h2 _ (hon e he hb)⟩
      rw [h.1] at this
      cases this
  | succ fuel ih =>
    intro listed a w hl h
    rcases first_open listed n with hall | ⟨j, hj, h1, h2⟩
    · have hr : Region.ready md ops.pop listed = [] := List.eq_nil_iff_forall_not_mem.2 fun k hk => by
        have h3 := (mem_ready.1 hk).1
        rw [getD_tf (by have := lt_pop hk; omega) true false, hall k (lt_pop hk)] at h3
        cases h3
      have hq : wpOp P ops Q n (Q .normal) a w := h.1 hr
      have mem : n ∈ Region.ready md ops (listed.push false) := mem_ready.2 ⟨by subst hl; simp, o, ho, fun e he hb => by rw [push_false]; exact hall _ (hlt e he hb)⟩
      refine ⟨fun h0 => (by rw [h0] at mem; cases mem), fun i hi => ?_⟩
      have hin : i = n := by
        rcases Nat.lt_or_ge i n with hlt' | hge
        · have := (mem_ready.1 hi).1
          rw [push_lt (by omega), getD_tf (by omega) true false, hall i hlt'] at this
          cases this
        · have := lt_of hi; omega
      subst hin
      refine wpOp_mono (fun a' w' hq' => any_done (fuel + 1) ?_ hq') hq
      refine List.eq_nil_iff_forall_not_mem.2 fun k hk => ?_
      have h3 := (mem_ready.1 hk).1
      have h4 := lt_of hk
      rcases Nat.lt_or_ge k i with hlt' | hge
      · rw [getD_set_ne true (by omega), push_lt (by omega), getD_tf (by omega) true false, hall k hlt'] at h3
        cases h3
      · obtain rfl : k = i := by omega
        subst hl
        simp at h3
    · obtain ⟨oj, hoj, _, hon⟩ := lastB_op hB (Nat.lt_succ_of_lt hj)
      have mj : j ∈ Region.ready md ops.pop listed := mem_ready.2 ⟨by rw [getD_tf (by omega) true false]; exact h1, oj, (pop_at hs hj).trans hoj, fun e he hb => h2 _ (hon e he hb)⟩
      refine ⟨fun h0 => ?_, fun i hi => ?_⟩
      · have := (ready_push hB hl hj).2 mj
        rw [h0] at this
        cases this
      · have hin : i < n := by
          rcases Nat.lt_or_ge i n with hlt' | hge
          · exact hlt'
          · obtain rfl : i = n := by have := lt_of hi; omega
            exfalso
            obtain ⟨_, o2, ho2, hall⟩ := mem_ready.1 hi
            obtain ⟨e, he, hb, e1⟩ := lastB_wait hB hj ho2
            have := hall e he hb
            rw [push_false, e1, h1] at this
            cases this
        refine wpOp_last hB hin (fun a' w' h3 => ?_) (h.2 i ((ready_push hB hl hin).1 hi))
        have := ih (listed.setIfInBounds i true) a' w' (by simpa using hl) h3
        rw [show (listed.push false).setIfInBounds i true = (listed.setIfInBounds i true).push false from ?_]
        · exact this
        · apply Array.ext_getElem?
          intro k
          simp only [Array.getElem?_setIfInBounds, Array.getElem?_push, Array.size_push, Array.size_setIfInBounds]
          by_cases h5 : i = k
          · subst h5
            rw [if_pos rfl, if_pos (by omega), if_neg (by omega), if_pos rfl, if_pos (by omega)]
          · rw [if_neg h5, if_neg h5]
theorem wp_region_last {id : Nat} {a : Act} {w : World} {S : World → Prop} (hm : P.follows .mixedOrders = true) (hB : lastB .any ops n = true) (hS : S w.drew)
    (h : S w.drew → wpAnyH P .any ops.pop (QLast P ops Q n) S n (Array.replicate n false) a w.drew) : (Code.region id ops true).wp P Q a w := by
  refine wp_region_any hm ?_
  have := any_last (P := P) (Q := Q) hB n (Array.replicate n false) a w.drew (by simp) (wpAny_of_held _ _ _ _ (h hS))
  rw [lastB_size hB]
  rw [Array.replicate_succ]
  exact this
/-- the last operation -/
theorem last_step {o : Oper} {a : Act} {w : World} (ho : ops[n]? = some o) (hg : o.guard = none) (h : ∀ K : Act → World → Prop, Shut (∀ a w, Q .normal a w → K a w) → Oper.wp P o a w K Q) : QLast P ops Q n .normal a w := by
  show wpOp P ops Q n (Q .normal) a w
  unfold wpOp
  rw [ho]
  simp only
  rw [if_pos (by simp only [Region.wanted, hg])]
  exact .inl (h _ (fun _ _ h => h))
end
end Go.Proofs.YtehjfajmnciiaaaDoor
