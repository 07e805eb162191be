/-
  How many later items overtake each one: the program's function and the reference's. No condition.
-/
import Derived.Test.YtfhlooegeklpaaaQFn3
namespace Go.Proofs.Ytfhlooegeklpaaa
open Go.RowKit
set_option maxHeartbeats 400000

theorem overQ_at {xs : List Item} {k : Nat} {x : Item} {s : Int} (hx : xs[k]? = some x) (hs : (startsQ xs 0)[k]? = some s) : (overQ xs)[k]? = some (overCnt x.a s 0 (pairsQ xs)) := by
  unfold overQ; rw [List.getElem?_map, pairsQ_at hx hs]; rfl
theorem overQ_len {xs : List Item} (hv : validQ xs = true) : (overQ xs).length = xs.length := by simp [overQ, pairsQ_len hv]
theorem set_same {l : List Int} {k : Nat} {z : Int} (h : l[k]? = some z) : l.set k z = l := by
  apply List.ext_getElem?
  intro i
  by_cases hi : i = k
  · subst hi
    rw [List.getElem?_set_self (List.getElem?_eq_some_iff.1 h).1, h]
  · rw [List.getElem?_set_ne (Ne.symm hi)]
/-- the list while place k is being counted -/
def overMid (xs : List Item) (k : Nat) (c : Int) : List Int := (mixQ (overQ xs) (List.replicate xs.length 0) k).set k c
theorem overMid_zero {xs : List Item} (hv : validQ xs = true) {k : Nat} (hk : k < xs.length) : overMid xs k 0 = mixQ (overQ xs) (List.replicate xs.length 0) k := by
  unfold overMid
  have h := mixQ_at (ws := overQ xs) (ss := List.replicate xs.length 0) (k := k) (by simp [overQ_len hv]) (by simpa using hk)
  rw [List.getElem?_replicate, if_pos hk] at h
  exact set_same h
theorem overMid_set (xs : List Item) (k : Nat) (c d : Int) : (overMid xs k c).set k d = overMid xs k d := by unfold overMid; rw [List.set_set]
theorem overMid_at {xs : List Item} (hv : validQ xs = true) {k : Nat} (hk : k < xs.length) (c : Int) : (overMid xs k c)[k]? = some c := by
  unfold overMid; rw [List.getElem?_set_self]
  simp [mixQ, overQ_len hv]; omega
theorem overMid_done {xs : List Item} (hv : validQ xs = true) {k : Nat} {x : Item} {s : Int} (hx : xs[k]? = some x) (hs : (startsQ xs 0)[k]? = some s) : overMid xs k (overCnt x.a s 0 (pairsQ xs)) = mixQ (overQ xs) (List.replicate xs.length 0) (k + 1) := by
  unfold overMid; exact mixQ_set (by simp [overQ_len hv]) (overQ_at hx hs)
theorem ov_set {w : World} {lo T b n : Nat} {xs : List Item} {k : Nat} {c d : Int} (h : w.ownsRow lo T 1 (.slice (some ⟨b, 0, none⟩) n n) n ((overMid xs k c).flatMap encI)) :
    (w.setCell ⟨b, k, none⟩ (.int .i64 d)).ownsRow lo T 1 (.slice (some ⟨b, 0, none⟩) n n) n ((overMid xs k d).flatMap encI) := by
  have st := h.stored k (.int .i64 d)
  rw [set_encI, overMid_set] at st
  simpa using st.1

set_option maxHeartbeats 2000000 in
theorem implOvertaken_any (A : Option Addr) (n c : Nat) (xs : List Item) (w : World) (B : Nat) (hB : B ≤ w.heap.size) (hn : n ≤ 2000000) (hx : Sl w B 3 encItem A n xs) :
    Calls Try.prog 18 #[.slice A n c] w (IntsPost w (overRes xs) (codeQ xs)) := by
  have hc := ValidQueue_any A n c xs w B hB hn hx
  cases hv : validQ xs with
  | false =>
    have e1 : overRes xs = [] := by simp [overRes, hv]
    have e2 : codeQ xs = 1 := by simp [codeQ, hv]
    rw [e1, e2]
    rw [hv] at hc
    clear hv e1 e2 hx
    go_enter Try.func18, Try.ntmps18
    go_wp2_with (go_at_call 29; refine hc.mono ?_; rintro e w1 ⟨rfl, b1⟩)
    go_ret2
    exact IntsPost.bad w 1 b1
  | true =>
    have hn12 : n ≤ 12 := by rw [← hx.len]; exact validQ_len hv
    have hol := hx.len
    have hr := fun W hB' hx' => served_any A n c xs 0 W B hB' hx' hv (by omega) (by omega)
    have e1 : overRes xs = overQ xs := by simp [overRes, hv]
    have e2 : codeQ xs = 0 := by simp [codeQ, hv]
    rw [e1, e2]
    rw [hv] at hc
    have Hv := hid hv
    have hmk := make_ints n (by omega)
    clear hv e1 e2
    go_enter Try.func18, Try.ntmps18
    go_wp2_with (first
      | (go_at_call 29; refine hc.mono ?_; rintro e w1 ⟨rfl, b1⟩)
      | (go_at_call 36; refine (hr _ (Nat.le_trans hB b1.size) (hx.below (b1.mono hB))).mono ?_; rintro e w2 ⟨Ao, co, As, cs, rfl, o1, o2, b2⟩))
    have hS := (own_sl encI_len (by omega) o2).alloc (Nat.le_refl _) (.cells (madeCells #[.int .i64 0] n) 2)
    have b12 := b1.trans (b2.mono b1.size)
    have hx2 := (hx.below (b12.mono hB)).alloc (Nat.le_trans hB b12.size) (.cells (madeCells #[.int .i64 0] n) 2)
    have o3 := World.ownsRow_lit (base := w.heap.size) (e := 2) (size := 1) w2 (madeCells #[.int .i64 0] n) n b12.size (by simp only [maxLen]; omega) (by rw [size_madeCells]; omega)
    have e9 : (madeCells #[.int .i64 0] n).toList = (mixQ (overQ xs) (List.replicate xs.length 0) 0).flatMap encI := by rw [made_ints, mixQ_zero, hol]
    rw [e9] at o3
    clear hr hc o1 o2 hx hmk e9
    go_loopw [24] (fun i w1 => ∃ k : Nat, k ≤ n ∧ i = .int .i64 k ∧ w1.ownsRow w.heap.size 2 1 (.slice (some ⟨w2.heap.size, 0, none⟩) n n) n ((mixQ (overQ xs) (List.replicate xs.length 0) k).flatMap encI) ∧ Below w2.heap.size w2 w1) (fun i _ => n - (intOf i).toNat)
    case atStart => exact ⟨0, Nat.zero_le _, rfl, o3, (Below.refl _ _).alloc (Nat.le_refl _) _⟩
    case round =>
      obtain ⟨k, hk, rfl, ho, hb⟩ := hrel
      clear o3
      have hx3 : Sl wr B 3 encItem A n xs := hx2.keep fun p hp => by rw [hb.cell (p := p) (by have := b12.size; omega), World.cell?_alloc_lt w2 _ p (by have := b12.size; omega)]
      have hS3 : Sl wr w2.heap.size 1 encI As n (startsQ xs 0) := hS.keep fun p hp => by rw [hb.cell (p := p) hp, World.cell?_alloc_lt w2 _ p hp]
      clear hx2 hS
      by_cases hlt : k < n
      · obtain ⟨x, y, z, b, off, Hx, rfl, hbB, c0, c1, c2⟩ := hx3.item hlt
        obtain ⟨s, bs, offs, Hs, rfl, hbs, cS⟩ := hS3.int hlt
        rw [← overMid_zero Hv.out (by omega)] at ho
        obtain ⟨wo, rfl⟩ : ∃ wo : World, wo = wr := ⟨_, rfl⟩
        have hz9 := b12.size
        have hz8 := hb.size
        have hzg := (own_lt ho).2
        have lb : b < wo.heap.size := by omega
        have lbs : bs < wo.heap.size := by omega
        have Ho := hid ho
        clear ho
        go_wp2_with fail
        go_loopw [31] (fun i w1 => ∃ (k2 : Nat) (cv : Int), k2 ≤ n ∧ i = .int .i64 (k2 : Nat) ∧ 0 ≤ cv ∧ cv ≤ (k2 : Nat) ∧ Hid (overCnt x s 0 (pairsQ xs) = overCnt x s cv ((pairsQ xs).drop k2)) ∧
            w1.ownsRow w.heap.size 2 1 (.slice (some ⟨w2.heap.size, 0, none⟩) n n) n ((overMid xs k cv).flatMap encI) ∧ (wo.alloc (.cells #[.int .i64 x, .int .i64 y, .int .i64 z] 43)).grownBy w1 (some w2.heap.size)) (fun i _ => n - (intOf i).toNat)
        case atStart => exact ⟨0, 0, Nat.zero_le _, rfl, by omega, by omega, hid rfl, Ho.out.alloc _, World.grownBy.refl _ _⟩
        case round =>
          obtain ⟨k2, cv, hk2, rfl, h1, h2, hc2, ho, hg⟩ := hrel
          have hnb : some b ≠ some w2.heap.size := by intro e; injection e with e; omega
          have hnbs : some bs ≠ some w2.heap.size := by intro e; injection e with e; omega
          have lbr : b < wr.heap.size := by have := hg.size; (try simp at this); omega
          have lbsr : bs < wr.heap.size := by have := hg.size; (try simp at this); omega
          have lor : w2.heap.size < wr.heap.size := (own_lt ho).2
          have cx : wr.cell? ⟨wo.heap.size, 0, none⟩ = some (.int .i64 x) := hg.cell ((World.cell?_alloc_at _ _ _ _ rfl).trans rfl) (by intro e; injection e with e; simp only at e; omega)
          have lbo : wo.heap.size < wr.heap.size := World.block_lt_of_cell? _ _ cx
          have cSk : wr.cell? ⟨bs, offs + k, none⟩ = some (.int .i64 s) := hg.cell (below_cell cS ((Below.refl _ _).alloc (Nat.le_refl _) _)) hnbs
          by_cases hlt2 : k2 < n
          · obtain ⟨x', y', z', b', off', Hx', e', hbB', d0, d1, d2⟩ := hx3.item hlt2
            injection e' with e'
            injection e' with e1 e2
            subst e1 e2
            obtain ⟨s', bs', offs', Hs', e', hbs', dS⟩ := hS3.int hlt2
            injection e' with e'
            injection e' with e1 e2
            subst e1 e2
            have c0' : wr.cell? ⟨b, off + k2 * 3, none⟩ = some (.int .i64 x') := hg.cell (below_cell d0 ((Below.refl _ _).alloc (Nat.le_refl _) _)) hnb
            have c1' : wr.cell? ⟨b, off + k2 * 3 + 1, none⟩ = some (.int .i64 y') := hg.cell (below_cell d1 ((Below.refl _ _).alloc (Nat.le_refl _) _)) hnb
            have c2' : wr.cell? ⟨b, off + k2 * 3 + 2, none⟩ = some (.int .i64 z') := hg.cell (below_cell d2 ((Below.refl _ _).alloc (Nat.le_refl _) _)) hnb
            have cS' : wr.cell? ⟨bs, offs + k2, none⟩ = some (.int .i64 s') := hg.cell (below_cell dS ((Below.refl _ _).alloc (Nat.le_refl _) _)) hnbs
            obtain ⟨e0, f0⟩ := own_int ho (overMid_at Hv.out (by omega) cv)
            have he2 := hc2.out
            rw [drop_at (pairsQ_at Hx'.out Hs'.out), overCnt] at he2
            simp only at he2
            have k0 : (0 : Int) ≤ (k2 : Int) := by omega
            have k1 : (k2 : Int) < (n : Int) := by omega
            have j0 : (0 : Int) ≤ (k : Int) := by omega
            have j1 : (k : Int) < (n : Int) := by omega
            clear hc2 hx3 hS3 c0 c1 c2 d0 d1 d2 cS dS Ho
            by_cases q1 : x < x'
            · have dq1 : decide (x < x') = true := by simpa using q1
              by_cases q2 : s' < s
              · rw [if_pos ⟨q1, q2⟩] at he2
                have He3 := hid he2
                clear he2
                go_wp2
                go_quiet (fail)
                go_wp2
                go_roundw
                all_goals first
                  | (refine ⟨k2 + 1, cv + 1, by omega, by go_num, by omega, by omega, He3, ?_, ?_⟩
                     · refine ov_set (c := cv) ?_
                       (repeat (first | with_reducible exact ho | with_reducible refine ow_drew ?_ | with_reducible refine ow_drewN ?_ | with_reducible refine ow_alloc ?_ | ((with_reducible refine ow_set ?_ ?_); focus (first | (simp [Value.ownBlock]; done) | (simp [Value.ownBlock]; omega)))))
                     · (repeat (first | with_reducible exact hg | with_reducible refine gr_drew ?_ | with_reducible refine gr_drewN ?_ | with_reducible refine gr_alloc ?_ | with_reducible refine gr_set ?_)))
                  | (refine ⟨⟨k2 + 1, cv + 1, by omega, by go_num, by omega, by omega, He3, ?_, ?_⟩, by simp [intOf]; omega⟩
                     · refine ov_set (c := cv) ?_
                       (repeat (first | with_reducible exact ho | with_reducible refine ow_drew ?_ | with_reducible refine ow_drewN ?_ | with_reducible refine ow_alloc ?_ | ((with_reducible refine ow_set ?_ ?_); focus (first | (simp [Value.ownBlock]; done) | (simp [Value.ownBlock]; omega)))))
                     · (repeat (first | with_reducible exact hg | with_reducible refine gr_drew ?_ | with_reducible refine gr_drewN ?_ | with_reducible refine gr_alloc ?_ | with_reducible refine gr_set ?_)))
                  | (simp [intOf]; omega)
              · rw [if_neg (by omega)] at he2
                have He3 := hid he2
                clear he2
                go_wp2
                go_quiet (fail)
                go_wp2
                go_roundw
                all_goals first
                  | (refine ⟨k2 + 1, cv, by omega, by go_num, by omega, by omega, He3, ?_, ?_⟩
                     · (repeat (first | with_reducible exact ho | with_reducible refine ow_drew ?_ | with_reducible refine ow_drewN ?_ | with_reducible refine ow_alloc ?_ | ((with_reducible refine ow_set ?_ ?_); focus (first | (simp [Value.ownBlock]; done) | (simp [Value.ownBlock]; omega)))))
                     · (repeat (first | with_reducible exact hg | with_reducible refine gr_drew ?_ | with_reducible refine gr_drewN ?_ | with_reducible refine gr_alloc ?_ | with_reducible refine gr_set ?_)))
                  | (refine ⟨⟨k2 + 1, cv, by omega, by go_num, by omega, by omega, He3, ?_, ?_⟩, by simp [intOf]; omega⟩
                     · (repeat (first | with_reducible exact ho | with_reducible refine ow_drew ?_ | with_reducible refine ow_drewN ?_ | with_reducible refine ow_alloc ?_ | ((with_reducible refine ow_set ?_ ?_); focus (first | (simp [Value.ownBlock]; done) | (simp [Value.ownBlock]; omega)))))
                     · (repeat (first | with_reducible exact hg | with_reducible refine gr_drew ?_ | with_reducible refine gr_drewN ?_ | with_reducible refine gr_alloc ?_ | with_reducible refine gr_set ?_)))
                  | (simp [intOf]; omega)
            · rw [if_neg (by omega)] at he2
              have dq1 : decide (x < x') = false := by simpa using q1
              have He3 := hid he2
              clear he2
              go_wp2
              go_quiet (fail)
              go_wp2
              go_roundw
              all_goals first
                | (refine ⟨k2 + 1, cv, by omega, by go_num, by omega, by omega, He3, ?_, ?_⟩
                   · (repeat (first | with_reducible exact ho | with_reducible refine ow_drew ?_ | with_reducible refine ow_drewN ?_ | with_reducible refine ow_alloc ?_ | ((with_reducible refine ow_set ?_ ?_); focus (first | (simp [Value.ownBlock]; done) | (simp [Value.ownBlock]; omega)))))
                   · (repeat (first | with_reducible exact hg | with_reducible refine gr_drew ?_ | with_reducible refine gr_drewN ?_ | with_reducible refine gr_alloc ?_ | with_reducible refine gr_set ?_)))
                | (refine ⟨⟨k2 + 1, cv, by omega, by go_num, by omega, by omega, He3, ?_, ?_⟩, by simp [intOf]; omega⟩
                   · (repeat (first | with_reducible exact ho | with_reducible refine ow_drew ?_ | with_reducible refine ow_drewN ?_ | with_reducible refine ow_alloc ?_ | ((with_reducible refine ow_set ?_ ?_); focus (first | (simp [Value.ownBlock]; done) | (simp [Value.ownBlock]; omega)))))
                   · (repeat (first | with_reducible exact hg | with_reducible refine gr_drew ?_ | with_reducible refine gr_drewN ?_ | with_reducible refine gr_alloc ?_ | with_reducible refine gr_set ?_)))
                | (simp [intOf]; omega)
          · have : k2 = n := by omega
            subst this
            have he2 := hc2.out
            rw [List.drop_of_length_le (by rw [pairsQ_len Hv.out]; omega), overCnt] at he2
            rw [← he2, overMid_done Hv.out Hx.out Hs.out] at ho
            have hb4 : Below w2.heap.size w2 wr := (hb.alloc hb.size _).grown hg (by (try simp); omega) (fun q hq => by injection hq with hq; omega)
            have Ho2 := hid ho
            clear hc2 he2 Ho hx3 hS3 ho hg c0 c1 c2 cS
            go_wp2
            go_roundw
            all_goals first
              | exact ⟨k + 1, by omega, by go_num, Ho2.out, hb4⟩
              | exact ⟨⟨k + 1, by omega, by go_num, Ho2.out, hb4⟩, by simp [intOf]; omega⟩
              | (simp [intOf]; omega)
      · have : k = n := by omega
        subst this
        rw [mixQ_all (n := k) (by rw [overQ_len Hv.out]; omega) (by simp; omega)] at ho
        clear hx3 hS3
        go_wp2
        go_ret2
        exact ⟨_, k, k, rfl, ho, b12.trans (hb.mono b12.size)⟩

end Go.Proofs.Ytfhlooegeklpaaa
