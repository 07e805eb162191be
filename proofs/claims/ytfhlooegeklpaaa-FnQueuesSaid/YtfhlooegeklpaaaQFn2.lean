/-
  Waits, idle ticks, the longest queue: the program's functions and the reference's. No condition.
-/
import Derived.Test.YtfhlooegeklpaaaQPlain2
namespace Go.Proofs.Ytfhlooegeklpaaa
open Go.RowKit
set_option maxHeartbeats 400000

/-- a call that returns a list of n numbers -/
def SlPost (w : World) (n : Nat) (res : List Int) (e : Ending) (w' : World) : Prop :=
  ∃ A c, e = .returned (.slice A n c) ∧ w'.ownsRow w.heap.size 2 1 (.slice A n c) n (res.flatMap encI) ∧ Below w.heap.size w w'
theorem waitsQ_at {xs : List Item} {k : Nat} {x : Item} {s : Int} (hx : xs[k]? = some x) (hs : (startsQ xs 0)[k]? = some s) : (waitsQ xs)[k]? = some (s - x.a) := by
  unfold waitsQ; rw [List.getElem?_map, pairsQ_at hx hs]; rfl
theorem waitsQ_len {xs : List Item} (hv : validQ xs = true) : (waitsQ xs).length = (startsQ xs 0).length := by simp [waitsQ, pairsQ_len hv, (startsQ_inv hv).1]
theorem starts_at {xs : List Item} (hv : validQ xs = true) {k : Nat} (hk : k < xs.length) : ∃ s, (startsQ xs 0)[k]? = some s ∧ 0 ≤ s ∧ s ≤ 22000 := by
  have h := startsQ_inv (age := 0) hv
  have hk2 : k < (startsQ xs 0).length := by omega
  exact ⟨_, List.getElem?_eq_getElem hk2, h.2 _ (List.getElem_mem hk2)⟩

theorem waits_any (A : Option Addr) (n c : Nat) (xs : List Item) (w : World) (B : Nat) (hB : B ≤ w.heap.size) (hx : Sl w B 3 encItem A n xs) (hv : validQ xs = true) :
    Calls Try.prog 31 #[.slice A n c] w (SlPost w n (waitsQ xs)) := by
  have hn : n ≤ 12 := by rw [← hx.len]; exact validQ_len hv
  have hol := hx.len
  have hr := served_any A n c xs 0 w B hB hx hv (by omega) (by omega)
  have Hv := hid hv
  clear hv
  go_enter Try.func31, Try.ntmps31
  go_wp2_with (go_at_call 36; refine hr.mono ?_; rintro e w2 ⟨Ao, co, As, cs, rfl, o1, o2, b2⟩)
  clear hr o1
  have o2' := o2
  rw [← mixQ_zero (waitsQ xs) (startsQ xs 0)] at o2'
  clear o2
  go_loopw [14] (fun i w1 => ∃ k : Nat, k ≤ n ∧ i = .int .i64 k ∧ w1.ownsRow w.heap.size 2 1 (.slice As n cs) n ((mixQ (waitsQ xs) (startsQ xs 0) k).flatMap encI) ∧ Below w.heap.size w w1) (fun i _ => n - (intOf i).toNat)
  case atStart => exact ⟨0, Nat.zero_le _, rfl, o2', b2⟩
  case round =>
    obtain ⟨k, hk, rfl, ho, hb⟩ := hrel
    clear o2' b2
    by_cases hlt : k < n
    · obtain ⟨x, y, z, b, off, Hx, rfl, hbB, c0, c1, c2⟩ := (hx.below (hb.mono hB)).item hlt
      obtain ⟨g, rfl, hg1, hg2⟩ := own_some ho (by omega)
      obtain ⟨s, hs, hs0, hs1⟩ := starts_at Hv.out (k := k) (by omega)
      have hvx := validQ_item Hv.out Hx.out
      simp only at hvx
      obtain ⟨v1, v2, _, _, _, _⟩ := hvx
      have hlw := waitsQ_len Hv.out
      have hls := (startsQ_inv (age := 0) Hv.out).1
      obtain ⟨e0, f0⟩ := own_int ho ((mixQ_at hlw (by omega)).trans hs)
      have st := (ho.stored k (.int .i64 (s - x))).1
      rw [set_encI, mixQ_set hlw (waitsQ_at Hx.out hs)] at st
      have St := hid st
      have lb : b < wr.heap.size := by have := hb.size; omega
      have k0 : (0 : Int) ≤ (k : Int) := by omega
      have k1 : (k : Int) < (n : Int) := by omega
      clear hx st hs hlw hls
      go_wp2
      go_region_with (fail)
      all_goals go_wp2
      all_goals go_roundw
      all_goals first
        | (refine ⟨k + 1, by omega, by go_num, ?_, ?_⟩
           · (repeat (first | with_reducible exact St.out | with_reducible refine ow_drew ?_ | with_reducible refine ow_drewN ?_ | with_reducible refine ow_alloc ?_ | ((with_reducible refine ow_set ?_ ?_); focus (first | (simp [Value.ownBlock]; done) | (simp [Value.ownBlock]; omega)))))
           · repeat (first | with_reducible assumption | with_reducible exact Below.refl _ _ | with_reducible refine bl_drew ?_ | with_reducible refine bl_drewN ?_ | ((with_reducible refine bl_set ?_ ?_); focus (first | (simp; done) | (simp; omega) | omega)) | ((with_reducible refine bl_alloc ?_ ?_); focus (first | (simp; done) | (simp; omega) | omega))))
        | (simp [intOf]; omega)
    · have : k = n := by omega
      subst this
      rw [mixQ_all (n := k) (by rw [waitsQ_len Hv.out, (startsQ_inv Hv.out).1]; omega) (by rw [(startsQ_inv Hv.out).1]; omega)] at ho
      go_wp2
      go_ret
      exact ⟨As, cs, rfl, ho, hb⟩
theorem l22Waits_any (A : Option Addr) (n c : Nat) (xs : List Item) (w : World) (B : Nat) (hB : B ≤ w.heap.size) (hx : Sl w B 3 encItem A n xs) (hv : validQ xs = true) :
    Calls Try.prog 26 #[.slice A n c] w (SlPost w n (waitsQ xs)) := by
  have hn : n ≤ 12 := by rw [← hx.len]; exact validQ_len hv
  have hol := hx.len
  have hr := l22Run_any A n c xs 0 w B hB hx hv (by omega) (by omega)
  have Hv := hid hv
  clear hv
  go_enter Try.func26, Try.ntmps26
  go_wp2_with (go_at_call 37; refine hr.mono ?_; rintro e w2 ⟨Ao, co, As, cs, rfl, o1, o2, b2⟩)
  clear hr o1
  have o2' := o2
  rw [← mixQ_zero (waitsQ xs) (startsQ xs 0)] at o2'
  clear o2
  go_loopw [5] (fun i w1 => ∃ k : Nat, k ≤ n ∧ i = .int .i64 k ∧ w1.ownsRow w.heap.size 2 1 (.slice As n cs) n ((mixQ (waitsQ xs) (startsQ xs 0) k).flatMap encI) ∧ Below w.heap.size w w1) (fun i _ => n - (intOf i).toNat)
  case atStart => exact ⟨0, Nat.zero_le _, rfl, o2', b2⟩
  case round =>
    obtain ⟨k, hk, rfl, ho, hb⟩ := hrel
    clear o2' b2
    by_cases hlt : k < n
    · obtain ⟨x, y, z, b, off, Hx, rfl, hbB, c0, c1, c2⟩ := (hx.below (hb.mono hB)).item hlt
      obtain ⟨g, rfl, hg1, hg2⟩ := own_some ho (by omega)
      obtain ⟨s, hs, hs0, hs1⟩ := starts_at Hv.out (k := k) (by omega)
      have hvx := validQ_item Hv.out Hx.out
      simp only at hvx
      obtain ⟨v1, v2, _, _, _, _⟩ := hvx
      have hlw := waitsQ_len Hv.out
      have hls := (startsQ_inv (age := 0) Hv.out).1
      obtain ⟨e0, f0⟩ := own_int ho ((mixQ_at hlw (by omega)).trans hs)
      have st := (ho.stored k (.int .i64 (s - x))).1
      rw [set_encI, mixQ_set hlw (waitsQ_at Hx.out hs)] at st
      have St := hid st
      have k0 : (0 : Int) ≤ (k : Int) := by omega
      have k1 : (k : Int) < (n : Int) := by omega
      clear hx st hs hlw hls
      go_wp2
      go_region_with (fail)
      all_goals go_wp2
      all_goals go_roundw
      all_goals first
        | (refine ⟨k + 1, by omega, by go_num, ?_, ?_⟩
           · (repeat (first | with_reducible exact St.out | with_reducible refine ow_drew ?_ | with_reducible refine ow_drewN ?_ | with_reducible refine ow_alloc ?_ | ((with_reducible refine ow_set ?_ ?_); focus (first | (simp [Value.ownBlock]; done) | (simp [Value.ownBlock]; omega)))))
           · repeat (first | with_reducible assumption | with_reducible exact Below.refl _ _ | with_reducible refine bl_drew ?_ | with_reducible refine bl_drewN ?_ | ((with_reducible refine bl_set ?_ ?_); focus (first | (simp; done) | (simp; omega) | omega)) | ((with_reducible refine bl_alloc ?_ ?_); focus (first | (simp; done) | (simp; omega) | omega))))
        | (refine ⟨⟨k + 1, by omega, by go_num, ?_, ?_⟩, by simp [intOf]; omega⟩
           · (repeat (first | with_reducible exact St.out | with_reducible refine ow_drew ?_ | with_reducible refine ow_drewN ?_ | with_reducible refine ow_alloc ?_ | ((with_reducible refine ow_set ?_ ?_); focus (first | (simp [Value.ownBlock]; done) | (simp [Value.ownBlock]; omega)))))
           · repeat (first | with_reducible assumption | with_reducible exact Below.refl _ _ | with_reducible refine bl_drew ?_ | with_reducible refine bl_drewN ?_ | ((with_reducible refine bl_set ?_ ?_); focus (first | (simp; done) | (simp; omega) | omega)) | ((with_reducible refine bl_alloc ?_ ?_); focus (first | (simp; done) | (simp; omega) | omega))))
        | (simp [intOf]; omega)
    · have : k = n := by omega
      subst this
      rw [mixQ_all (n := k) (by rw [waitsQ_len Hv.out, (startsQ_inv Hv.out).1]; omega) (by rw [(startsQ_inv Hv.out).1]; omega)] at ho
      go_wp2
      go_ret
      exact ⟨As, cs, rfl, ho, hb⟩
theorem implWaitsOfQueue_any (A : Option Addr) (n c : Nat) (xs : List Item) (w : World) (B : Nat) (hB : B ≤ w.heap.size) (hn : n ≤ 2000000) (hx : Sl w B 3 encItem A n xs) :
    Calls Try.prog 16 #[.slice A n c] w (IntsPost w (waitsRes xs) (codeQ xs)) := by
  have hc := ValidQueue_any A n c xs w B hB hn hx
  cases hv : validQ xs with
  | false =>
    have e1 : waitsRes xs = [] := by simp [waitsRes, hv]
    have e2 : codeQ xs = 1 := by simp [codeQ, hv]
    rw [e1, e2]
    rw [hv] at hc
    clear hv e1 e2 hx
    go_enter Try.func16, Try.ntmps16
    go_wp2_with (go_at_call 29; refine hc.mono ?_; rintro e w1 ⟨rfl, b1⟩)
    go_ret2
    exact IntsPost.bad w 1 b1
  | true =>
    have hr := fun W hB' hx' => waits_any A n c xs W B hB' hx' hv
    have e1 : waitsRes xs = waitsQ xs := by simp [waitsRes, hv]
    have e2 : codeQ xs = 0 := by simp [codeQ, hv]
    rw [e1, e2]
    rw [hv] at hc
    clear hv e1 e2
    go_enter Try.func16, Try.ntmps16
    go_wp2_with (first
      | (go_at_call 29; refine hc.mono ?_; rintro e w1 ⟨rfl, b1⟩)
      | (go_at_call 31; refine (hr _ (Nat.le_trans hB b1.size) (hx.below (b1.mono hB))).mono ?_; rintro e w2 ⟨A2, c2, rfl, o2, b2⟩))
    go_ret2
    exact ⟨A2, n, c2, rfl, o2.mono b1.size, b1.trans (b2.mono b1.size)⟩
end Go.Proofs.Ytfhlooegeklpaaa
