/-
  The program's orders: all orders of some numbers, each handed on. No condition.
-/
import Derived.Test.YteckfjnglmkenaaPShortP
import Derived.Test.YteckfjnglmkenaaClI
namespace Go.Proofs.Yteckfjnglmkenaa
open Go.RowKit
set_option maxHeartbeats 400000

theorem Span.cell {lo hi : Nat} {a w : World} {p : Addr} {v : Value} (h : Span lo hi a w) (hp : ¬ (lo ≤ p.block ∧ p.block < hi)) (hc : a.cell? p = some v) : w.cell? p = some v :=
  (World.cell?_of_block (h.block p.block (World.block_lt_of_cell? _ _ hc) hp)).trans hc
theorem marks0_mem {n : Nat} {x : Int} (h : x ∈ marks 0 n) : 0 ≤ x ∧ x < n := by
  simp only [marks, List.mem_map, List.mem_range] at h
  obtain ⟨i, hi, rfl⟩ := h
  omega
theorem marks0_nodup (n : Nat) : (marks 0 n).Nodup := by
  unfold marks
  refine List.Pairwise.map _ ?_ List.nodup_range
  intro a b h e
  exact h (by omega)
theorem leftI_app (a b rd : List Int) : leftI (a ++ b) rd = leftI a rd ++ leftI b rd := by unfold leftI; rw [List.filter_append]
def ordN (leaf : List Int → RSt → RSt) (m n : Nat) (rd : List Int) (st : RSt) (k : Nat) : RSt :=
  (leftI (marks 0 k) rd).foldl (fun st x => ordG leaf m ((leftI (marks 0 n) rd).erase x) (rd ++ [x]) st) st
theorem ordN_skip {leaf : List Int → RSt → RSt} {m n : Nat} {rd : List Int} {st : RSt} {k : Nat} (h : hasI rd (k : Int) = true) : ordN leaf m n rd st (k + 1) = ordN leaf m n rd st k := by
  unfold ordN
  rw [marks_succ, leftI_app]
  simp [h, leftI]
theorem ordN_take {leaf : List Int → RSt → RSt} {m n : Nat} {rd : List Int} {st : RSt} {k : Nat} (h : hasI rd (k : Int) = false) : ordN leaf m n rd st (k + 1) = ordG leaf m (leftI (marks 0 n) (rd ++ [(k : Int)])) (rd ++ [(k : Int)]) (ordN leaf m n rd st k) := by
  unfold ordN
  rw [marks_succ, leftI_snoc (marks0_nodup n), leftI_app]
  simp [h, leftI]
theorem ordN_all (leaf : List Int → RSt → RSt) (m n : Nat) (rd : List Int) (st : RSt) : ordN leaf m n rd st n = ordG leaf (m + 1) (leftI (marks 0 n) rd) rd st := rfl

theorem IndexI_any (A : Option Addr) (n c : Nat) (xs : List Int) (z : Int) (w : World) (B : Nat) (hn : n ≤ 2000000) (hx : Sl w B 1 encI A n xs) :
    Calls Try.prog 53 #[.slice A n c, .int .i64 z] w fun r w' => r = .returned (.int .i64 (findFrom (fun y => y == z) 0 xs)) ∧ w' = w := by
  go_enter Try.func53, Try.ntmps53
  go_wp2
  go_loop [5, 8] (fun _ i => ∃ k : Nat, k ≤ n ∧ i = .int .i64 k ∧ Hid (findFrom (fun y => y == z) 0 xs = findFrom (fun y => y == z) k (xs.drop k))) (fun _ i => n - (intOf i).toNat)
  case atStart => exact ⟨0, Nat.zero_le _, rfl, hid rfl⟩
  case round =>
    obtain ⟨k, hk, rfl, he⟩ := hrel
    by_cases hlt : k < n
    · obtain ⟨y, b, off, Hy, rfl, hbB, c0⟩ := hx.int hlt
      have he2 := he.out
      rw [drop_at Hy.out, findFrom] at he2
      clear he hx
      by_cases q : y = z
      · rw [if_pos (by simpa using q)] at he2
        have He2 := hid he2
        subst q
        clear he2
        go_wp2
        go_ret
        exact ⟨retI He2.out.symm, rfl⟩
      · have q1 : (y == z) = false := by simpa using q
        have q2 : (z == y) = false := by simpa using (Ne.symm q)
        rw [if_neg (by simp [q1])] at he2
        have He2 := hid he2
        clear he2 q
        go_wp2
        go_round
        case rel => exact ⟨k + 1, by omega, by go_num, He2⟩
        case measure => simp [intOf]; omega
    · have : k = n := by omega
      subst this
      have he2 := he.out
      rw [List.drop_of_length_le (by rw [hx.len]; omega), findFrom] at he2
      have He2 := hid he2
      clear he he2
      go_wp2
      go_ret
      exact ⟨retI He2.out.symm, rfl⟩
theorem ContainsI_any (A : Option Addr) (n c : Nat) (xs : List Int) (z : Int) (w : World) (B : Nat) (hn : n ≤ 2000000) (hx : Sl w B 1 encI A n xs) :
    Calls Try.prog 47 #[.slice A n c, .int .i64 z] w fun r w' => r = .returned (.bool (hasI xs z)) ∧ w' = w := by
  unfold hasI
  rw [← findFrom_any _ xs 0]
  have hc := IndexI_any A n c xs z w B hn hx
  generalize findFrom (fun y => y == z) 0 xs = r at hc
  clear hx
  go_enter Try.func47, Try.ntmps47
  go_wp2_with (go_at_call 53; refine hc.mono ?_; rintro e w' ⟨rfl, rfl⟩)
  go_ret
  exact ⟨rfl, rfl⟩
set_option maxHeartbeats 4000000 in
set_option maxRecDepth 100000 in
theorem orders_any (fy : Nat) (caps : Array Value) (eg : ∀ args w, (callFunc fy args).run Try.prog w = .ok (.enter fy args) w) (leaf : List Int → RSt → RSt) (n gb : Nat) (hn : n ≤ 30) (K : World → RSt → Prop)
    (hK : ∀ W W' st, K W st → Below W.heap.size W W' → K W' st)
    (HY : ∀ (W : World) (A' : Option Addr) (c' : Nat) (rd : List Int) (st : RSt), K W st → Sl W W.heap.size 1 encI A' n rd → inQ n rd → Calls Try.prog fy (#[.slice A' n c'] ++ caps) W fun r w' => r = .returned (.tuple #[]) ∧ K w' (leaf rd st) ∧ Span gb (gb + 2) W w') :
    ∀ (m : Nat) (rd : List Int) (Ap : Option Addr) (d cp : Nat) (st : RSt) (w : World), rd.length = d → d + m = n → inQ n rd → gb + 2 ≤ w.heap.size → (∀ a : Addr, Ap = some a → ¬ (gb ≤ a.block ∧ a.block < gb + 2)) → Sl w w.heap.size 1 encI Ap d rd → K w st →
      Calls Try.prog 28 #[.int .i64 n, .slice Ap d cp, .func (.func fy) #[] caps] w fun r w' => r = .returned (.tuple #[]) ∧ K w' (ordG leaf m (leftI (marks 0 n) rd) rd st) ∧ Span gb (gb + 2) w w' := by
  intro m
  induction m with
  | zero =>
    intro rd Ap d cp st w hl hd hq hgb hap hy hk
    obtain rfl : d = n := by omega
    have hc := HY w Ap cp rd st hk hy hq
    have E : Hid (ordG leaf 0 (leftI (marks 0 d) rd) rd st = leaf rd st) := rfl
    generalize leaf rd st = st' at hc E
    clear HY hy hl
    go_enter Try.func28, Try.ntmps28
    go_wp2_with (go_at_fn fy; refine hc.mono ?_; rintro r w1 ⟨rfl, k1, s1⟩)
    refine bodyPost_ret (results_none rfl _ _ _) rfl ?_
    rw [E.out]
    exact ⟨rfl, k1, s1⟩
  | succ m ih =>
    intro rd Ap d cp st w hl hd hq hgb hap hy hk
    have E : Hid (ordG leaf (m + 1) (leftI (marks 0 n) rd) rd st = ordN leaf m n rd st n) := rfl
    have hne : ((d : Int) == (n : Int)) = false := by simp; omega
    have hcl := fun W h => cloneI_any Ap d cp rd W W.heap.size (Nat.le_refl _) (by omega) h
    have hco := fun z W h => ContainsI_any Ap d cp rd z W W.heap.size (by omega) h
    have Hl := hid hl
    have hq0 := hid hq
    clear hl hq
    go_enter Try.func28, Try.ntmps28
    go_wp2
    have hyr0 := hid hap
    go_loopw [6, 15] (fun _ i wl => ∃ k : Nat, k ≤ n ∧ i = .int .i64 k ∧ Hid (K wl (ordN leaf m n rd st k)) ∧ Span gb (gb + 2) w wl) (fun _ i _ => n - (intOf i).toNat)
    case atStart => exact ⟨0, Nat.zero_le _, rfl, hk, Span.refl _ _ _⟩
    case round =>
      obtain ⟨k, hkn, rfl, hK2, hs⟩ := hrel
      by_cases hlt : k < n
      · have hz := hs.size
        have hyr : Sl wr wr.heap.size 1 encI Ap d rd := ⟨hy.1, fun i x hxx => by
          obtain ⟨b, off, e, hb, hc⟩ := hy.2 i x hxx
          exact ⟨b, off, e, by omega, fun j u hu => Span.cell hs (fun hh => hyr0.out ⟨b, off, none⟩ e hh) (hc j u hu)⟩⟩
        have hcc := hco (k : Int) wr hyr
        cases hq : hasI rd (k : Int) with
        | true =>
          have E2 : Hid (K wr (ordN leaf m n rd st (k + 1))) := by rw [Hid, ordN_skip hq]; exact hK2.out
          rw [hq] at hcc
          clear hy hyr hq hap HY hK ih hco hcl hK2
          go_wp2_with (go_at_call 47; refine hcc.mono ?_; rintro r w1 ⟨rfl, e⟩; replace e := e.symm; subst e)
          go_roundw
          all_goals first | exact ⟨k + 1, by omega, by go_num, E2, hs⟩ | exact ⟨⟨k + 1, by omega, by go_num, E2, hs⟩, by simp [intOf]; omega⟩ | (simp [intOf]; omega)
        | false =>
          have E2 : Hid (ordN leaf m n rd st (k + 1) = ordG leaf m (leftI (marks 0 n) (rd ++ [(k : Int)])) (rd ++ [(k : Int)]) (ordN leaf m n rd st k)) := ordN_take hq
          rw [hq] at hcc
          have ih2 : ∀ (g c1 : Nat) (W : World), Below wr.heap.size wr W → W.ownsRow wr.heap.size 2 1 (.slice (some ⟨g, 0, none⟩) (d + 1) c1) (d + 1) (rd.flatMap encI ++ [.int .i64 (k : Int)]) →
              Calls Try.prog 28 #[.int .i64 n, .slice (some ⟨g, 0, none⟩) (d + 1) c1, .func (.func fy) #[] caps] W fun r w' => r = .returned (.tuple #[]) ∧ K w' (ordG leaf m (leftI (marks 0 n) (rd ++ [(k : Int)])) (rd ++ [(k : Int)]) (ordN leaf m n rd st k)) ∧ Span gb (gb + 2) W w' := by
            intro g c1 W hW hoW
            rw [show rd.flatMap encI ++ [.int .i64 (k : Int)] = (rd ++ [(k : Int)]).flatMap encI by simp [encI]] at hoW
            have hWz := hW.size
            exact ih (rd ++ [(k : Int)]) (some ⟨g, 0, none⟩) (d + 1) c1 _ W (by simp [Hl.out]) (by omega) (inQ_snoc hq0.out ⟨by omega, by omega⟩) (by omega) (fun a ha => by
              injection ha with ha
              subst ha
              have := (own_lt hoW).1
              simp only
              omega) (own_sl encI_len (by omega) hoW) (hK _ _ _ hK2.out hW)
          have hcl2 := hcl wr hyr
          obtain ⟨ii, hi, hz0, hz1, hz2⟩ := info_parts int_info
          have hlo : gb + 2 ≤ wr.heap.size := by omega
          clear hy hyr hq hap HY hK ih hco hcl hK2
          go_wp2_with (first
            | (go_at_call 47; refine hcc.mono ?_; rintro r w1 ⟨rfl, e⟩; replace e := e.symm; subst e)
            | (go_at_call 32; refine hcl2.mono ?_; rintro r w5 ⟨A5, c5, rfl, o5, b5⟩
               have lo5 : ∀ q, (Value.slice A5 d c5).ownBlock = some q → wr.heap.size ≤ q := fun q hq => (o5.lt q hq).1)
            | (at_builtin; refine wpList_append_lies _ rfl _ _ 23 rfl wr.heap.size 2 ii (.int .i64 0) 1 8 Try.underlying23 hi hz0 hz1 hz2 rfl (by omega) (.slice A5 d c5) d (rd.flatMap encI) rfl (o5.alloc _) ⟨w5.heap.size, 0, none⟩ 1 1 [.int .i64 (k : Int)] rfl rfl (World.news_of_block (cs := #[.int .i64 (k : Int)]) (t := 2) (fr := (0, 0)) (heap_alloc_new w5 _)) (by simp [Value.oneCell']) (by omega) (by simp only [maxLen]; omega) (by omega) (by simp; have := b5.size; omega) (w5.heap.size + 1) (by simp) ?_
               intro gg cap w3 ho3 hg3 hat3 hlt3
               have bw3 : Below wr.heap.size wr w3 := (b5.alloc b5.size _).grown hg3 (by simp; have := b5.size; omega) (fun q hq => lo5 q hq))
            | (go_at_call 28; refine (ih2 gg cap w3 bw3 ho3).mono ?_; rintro r w4 ⟨rfl, T4, S4⟩
               have hs4 := (hs.trans (Span.ofBelow bw3)).trans S4
               rw [← E2.out] at T4
               have T5 := hid T4
               clear T4))
          go_roundw
          all_goals first | exact ⟨k + 1, by omega, by go_num, T5, hs4⟩ | exact ⟨⟨k + 1, by omega, by go_num, T5, hs4⟩, by simp [intOf]; omega⟩ | (simp [intOf]; omega)
      · have : k = n := by omega
        subst this
        have hK3 : Hid (K wr (ordG leaf (m + 1) (leftI (marks 0 k) rd) rd st)) := by rw [E.out]; exact hK2.out
        clear hy hap HY hK ih hco hcl hK2
        go_wp2
        exact bodyPost_end (results_none rfl _ _ _) rfl ⟨rfl, hK3.out, hs⟩
end Go.Proofs.Yteckfjnglmkenaa
