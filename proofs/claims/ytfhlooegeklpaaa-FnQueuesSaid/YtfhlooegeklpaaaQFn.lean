/-
  Orders, starts and waits of a queue: the program's functions and the reference's return the same lists. No condition.
-/
import Derived.Test.YtfhlooegeklpaaaQServed
import Derived.Test.YtfhlooegeklpaaaItem2
namespace Go.Proofs.Ytfhlooegeklpaaa
open Go.RowKit
set_option maxHeartbeats 400000

theorem runQ_inv {xs : List Item} {age : Int} (hv : validQ xs = true) : ∀ (f : Nat) (o s : List Int) (t : Int), s.length = xs.length → o.length ≤ xs.length → 0 ≤ t → t ≤ 10000 + 1000 * o.length → (∀ z ∈ s, 0 ≤ z ∧ z ≤ 22000) →
    (runQ xs age f o s t).2.length = xs.length ∧ ∀ z ∈ (runQ xs age f o s t).2, 0 ≤ z ∧ z ≤ 22000 := by
  intro f
  induction f with
  | zero => intro o s t h1 _ _ _ h5; exact ⟨h1, h5⟩
  | succ f ih =>
    intro o s t h1 h2 h3 h4 h5
    have hl := validQ_len hv
    rw [runQ]
    split
    · rename_i hlt
      split
      · rename_i hk
        obtain ⟨j, b, e, hjn, hj, _, _, _⟩ := round_sent hlt hk
        have hb := validQ_item hv hj
        rw [e, Int.toNat_natCast, List.getD_eq_getElem?_getD, hj, Option.getD_some]
        refine ih _ _ _ (by simpa using h1) (by simp; omega) (by omega) (by simp; omega) fun z hz => ?_
        rcases List.mem_or_eq_of_mem_set hz with h | h
        · exact h5 z h
        · subst h; omega
      · rename_i hk
        have hi := round_idle hv hlt (Int.lt_of_not_ge hk)
        exact ih _ _ _ h1 h2 hi.1 (by omega) h5
    · exact ⟨h1, h5⟩
theorem startsQ_inv {xs : List Item} {age : Int} (hv : validQ xs = true) : (startsQ xs age).length = xs.length ∧ ∀ z ∈ startsQ xs age, 0 ≤ z ∧ z ≤ 22000 :=
  runQ_inv hv _ _ _ _ (by simp) (by simp) (by omega) (by simp) fun z hz => by have := List.eq_of_mem_replicate hz; omega

/-- a call that returns a list and a code -/
def IntsPost (w : World) (res : List Int) (code : Int) (e : Ending) (w' : World) : Prop :=
  ∃ A m c, e = .returned (.tuple #[.slice A m c, .int .i64 code]) ∧ w'.ownsRow w.heap.size 2 1 (.slice A m c) m (res.flatMap encI) ∧ Below w.heap.size w w'
theorem IntsPost.bad (w : World) (code : Int) {w' : World} (hb : Below w.heap.size w w') : IntsPost w [] code (.returned (.tuple #[.slice none 0 0, .int .i64 code])) w' :=
  ⟨none, 0, 0, rfl, World.ownsRow_nil _ _ _ _, hb⟩

def startsRes (xs : List Item) : List Int := if validQ xs then startsQ xs 0 else []
def orderRes (xs : List Item) : List Int := if validQ xs then orderQ xs 0 else []
def codeQ (xs : List Item) : Int := if validQ xs then 0 else 1
def agedRes (xs : List Item) (age : Int) : List Int := if validQ xs && inR age 1 10000 then orderQ xs age else []
def agedCode (xs : List Item) (age : Int) : Int := if validQ xs then (if inR age 1 10000 then 0 else 2) else 1

theorem implStartsOfQueue_any (A : Option Addr) (n c : Nat) (xs : List Item) (w : World) (B : Nat) (hB : B ≤ w.heap.size) (hn : n ≤ 2000000) (hx : Sl w B 3 encItem A n xs) :
    Calls Try.prog 14 #[.slice A n c] w (IntsPost w (startsRes xs) (codeQ xs)) := by
  have hc := ValidQueue_any A n c xs w B hB hn hx
  cases hv : validQ xs with
  | false =>
    have e1 : startsRes xs = [] := by simp [startsRes, hv]
    have e2 : codeQ xs = 1 := by simp [codeQ, hv]
    rw [e1, e2]
    rw [hv] at hc
    clear hv e1 e2 hx
    go_enter Try.func14, Try.ntmps14
    go_wp2_with (go_at_call 29; refine hc.mono ?_; rintro e w1 ⟨rfl, b1⟩)
    go_ret2
    exact IntsPost.bad w 1 b1
  | true =>
    have hr := fun W hB' hx' => served_any A n c xs 0 W B hB' hx' hv (by omega) (by omega)
    have e1 : startsRes xs = startsQ xs 0 := by simp [startsRes, hv]
    have e2 : codeQ xs = 0 := by simp [codeQ, hv]
    rw [e1, e2]
    rw [hv] at hc
    clear hv e1 e2
    go_enter Try.func14, Try.ntmps14
    go_wp2_with (first
      | (go_at_call 29; refine hc.mono ?_; rintro e w1 ⟨rfl, b1⟩)
      | (go_at_call 36; refine (hr _ (Nat.le_trans hB b1.size) (hx.below (b1.mono hB))).mono ?_; rintro e w2 ⟨Ao, co, As, cs, rfl, o1, o2, b2⟩))
    go_ret2
    exact ⟨As, n, cs, rfl, o2.mono b1.size, b1.trans (b2.mono b1.size)⟩
theorem implServedOrder_any (A : Option Addr) (n c : Nat) (xs : List Item) (w : World) (B : Nat) (hB : B ≤ w.heap.size) (hn : n ≤ 2000000) (hx : Sl w B 3 encItem A n xs) :
    Calls Try.prog 15 #[.slice A n c] w (IntsPost w (orderRes xs) (codeQ xs)) := by
  have hc := ValidQueue_any A n c xs w B hB hn hx
  cases hv : validQ xs with
  | false =>
    have e1 : orderRes xs = [] := by simp [orderRes, hv]
    have e2 : codeQ xs = 1 := by simp [codeQ, hv]
    rw [e1, e2]
    rw [hv] at hc
    clear hv e1 e2 hx
    go_enter Try.func15, Try.ntmps15
    go_wp2_with (go_at_call 29; refine hc.mono ?_; rintro e w1 ⟨rfl, b1⟩)
    go_ret2
    exact IntsPost.bad w 1 b1
  | true =>
    have hr := fun W hB' hx' => served_any A n c xs 0 W B hB' hx' hv (by omega) (by omega)
    have e1 : orderRes xs = orderQ xs 0 := by simp [orderRes, hv]
    have e2 : codeQ xs = 0 := by simp [codeQ, hv]
    rw [e1, e2]
    rw [hv] at hc
    clear hv e1 e2
    go_enter Try.func15, Try.ntmps15
    go_wp2_with (first
      | (go_at_call 29; refine hc.mono ?_; rintro e w1 ⟨rfl, b1⟩)
      | (go_at_call 36; refine (hr _ (Nat.le_trans hB b1.size) (hx.below (b1.mono hB))).mono ?_; rintro e w2 ⟨Ao, co, As, cs, rfl, o1, o2, b2⟩))
    go_ret2
    exact ⟨Ao, n, co, rfl, o1.mono b1.size, b1.trans (b2.mono b1.size)⟩
theorem implAgedOrder_any (A : Option Addr) (n c : Nat) (xs : List Item) (age : Int) (w : World) (B : Nat) (hB : B ≤ w.heap.size) (hn : n ≤ 2000000) (hx : Sl w B 3 encItem A n xs) :
    Calls Try.prog 20 #[.slice A n c, .int .i64 age] w (IntsPost w (agedRes xs age) (agedCode xs age)) := by
  have hc := ValidQueue_any A n c xs w B hB hn hx
  have hi := fun W => within_any age 1 10000 W
  cases hv : validQ xs with
  | false =>
    have e1 : agedRes xs age = [] := by simp [agedRes, hv]
    have e2 : agedCode xs age = 1 := by simp [agedCode, hv]
    rw [e1, e2]
    rw [hv] at hc
    clear hv e1 e2 hx
    go_enter Try.func20, Try.ntmps20
    go_wp2_with (go_at_call 29; refine hc.mono ?_; rintro e w1 ⟨rfl, b1⟩)
    go_ret2
    exact IntsPost.bad w 1 b1
  | true =>
    cases ha : inR age 1 10000 with
    | false =>
      have e1 : agedRes xs age = [] := by simp [agedRes, ha]
      have e2 : agedCode xs age = 2 := by simp [agedCode, hv, ha]
      rw [e1, e2]
      rw [hv] at hc
      rw [ha] at hi
      clear hv e1 e2 hx ha
      go_enter Try.func20, Try.ntmps20
      go_wp2_with (first
        | (go_at_call 29; refine hc.mono ?_; rintro e w1 ⟨rfl, b1⟩)
        | (go_at_call 30; refine (hi _).mono ?_; rintro e w2 ⟨rfl, rfl⟩))
      go_ret2
      exact IntsPost.bad w 2 b1
    | true =>
      have hab : 1 ≤ age ∧ age ≤ 10000 := by simpa [inR] using ha
      have hr := fun W hB' hx' => served_any A n c xs age W B hB' hx' hv (by omega) (by omega)
      have e1 : agedRes xs age = orderQ xs age := by simp [agedRes, hv, ha]
      have e2 : agedCode xs age = 0 := by simp [agedCode, hv, ha]
      rw [e1, e2]
      rw [hv] at hc
      rw [ha] at hi
      clear hv e1 e2 ha hab
      go_enter Try.func20, Try.ntmps20
      go_wp2_with (first
        | (go_at_call 29; refine hc.mono ?_; rintro e w1 ⟨rfl, b1⟩)
        | (go_at_call 30; refine (hi _).mono ?_; rintro e w2 ⟨rfl, rfl⟩)
        | (go_at_call 36; refine (hr _ (Nat.le_trans hB b1.size) (hx.below (b1.mono hB))).mono ?_; rintro e w2 ⟨Ao, co, As, cs, rfl, o1, o2, b2⟩))
      go_ret2
      exact ⟨Ao, n, co, rfl, o1.mono b1.size, b1.trans (b2.mono b1.size)⟩
end Go.Proofs.Ytfhlooegeklpaaa
