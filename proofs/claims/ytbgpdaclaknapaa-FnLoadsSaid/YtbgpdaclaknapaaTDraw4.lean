/-
  The draw of CheapestTariff. No condition.
-/
import Derived.Test.YtbgpdaclaknapaaTDraw3
import Derived.Test.YtbgpdaclaknapaaTCheapP
namespace Go.Proofs.Ytbgpdaclaknapaa
open Go.RowKit
set_option maxHeartbeats 400000

theorem own_apart {w w' : World} {lo T k n : Nat} {v : Value} {l : List Value} {row : Option Nat} (h : w.ownsRow lo T k v n l) (hg : w.grownBy w' row) (hn : ∀ b, row = some b → v.ownBlock ≠ some b) : w'.ownsRow lo T k v n l := by
  cases row with
  | none => exact own_keep (v2 := .slice none 0 0) h (fun b hb => by simp [Value.ownBlock] at hb) hg
  | some b => exact own_keep (v2 := .slice (some ⟨b, 0, none⟩) 0 0) h (fun q hq => by simp [Value.ownBlock] at hq; subst hq; exact hn _ rfl) hg
/-- tariffs under way: their row, each with a row of steps -/
structure MadeT (w : World) (gs : Nat) (A : Option Addr) (c : Nat) (ts : List TRow) : Prop where
  top : w.ownsRow (gs + 1) 30 3 (.slice A ts.length c) ts.length (ts.flatMap encTR)
  row : ∀ r ∈ ts, w.ownsRow (gs + 1) 56 2 (.slice r.A r.n r.c) r.n (r.xs.flatMap encStep)
  apart : ∀ r ∈ ts, ∀ b, (Value.slice r.A r.n r.c).ownBlock = some b → (Value.slice A ts.length c).ownBlock ≠ some b
namespace MadeT
variable {w w' : World} {gs : Nat} {A : Option Addr} {c : Nat} {ts : List TRow}
theorem src (h : MadeT w gs A c ts) (hg : w.grownBy w' (some gs)) : MadeT w' gs A c ts :=
  ⟨own_src h.top hg (Nat.lt_succ_self gs), fun r hr => own_src (h.row r hr) hg (Nat.lt_succ_self gs), h.apart⟩
theorem below (h : MadeT w gs A c ts) (hb : Below w.heap.size w w') : MadeT w' gs A c ts := ⟨own_below h.top hb, fun r hr => own_below (h.row r hr) hb, h.apart⟩
theorem alloc (h : MadeT w gs A c ts) (o : Obj) : MadeT (w.alloc o) gs A c ts := h.below ((Below.refl _ _).alloc (Nat.le_refl _) o)
theorem far {row : Option Nat} {hi : Nat} (h : MadeT w gs A c ts) (hg : w.grownBy w' row) (hb : ∀ b, (Value.slice A ts.length c).ownBlock = some b → b < hi) (hr : ∀ r ∈ ts, ∀ b, (Value.slice r.A r.n r.c).ownBlock = some b → b < hi) (hrow : ∀ b, row = some b → hi ≤ b) : MadeT w' gs A c ts :=
  ⟨own_apart h.top hg (fun b e q => by have := hb b q; have := hrow b e; omega), fun r hm => own_apart (h.row r hm) hg (fun b e q => by have := hr r hm b q; have := hrow b e; omega), h.apart⟩
theorem snoc {g cap : Nat} {r : TRow} (h : MadeT w gs A c ts) (ho : w'.ownsRow (gs + 1) 30 3 (.slice (some ⟨g, 0, none⟩) (ts.length + 1) cap) (ts.length + 1) (ts.flatMap encTR ++ [.slice r.A r.n r.c, .int .i64 r.h, .int .i64 r.e]))
    (hg : w.grownBy w' (Value.slice A ts.length c).ownBlock) (hat : (Value.slice A ts.length c).ownBlock = some g ∨ w.heap.size ≤ g) (hr : w.ownsRow (gs + 1) 56 2 (.slice r.A r.n r.c) r.n (r.xs.flatMap encStep))
    (hap : ∀ b, (Value.slice r.A r.n r.c).ownBlock = some b → (Value.slice A ts.length c).ownBlock ≠ some b) : MadeT w' gs (some ⟨g, 0, none⟩) cap (ts ++ [r]) := by
  have hall : ∀ q ∈ ts ++ [r], w.ownsRow (gs + 1) 56 2 (.slice q.A q.n q.c) q.n (q.xs.flatMap encStep) ∧ ∀ b, (Value.slice q.A q.n q.c).ownBlock = some b → (Value.slice A ts.length c).ownBlock ≠ some b := by
    intro q hq
    rcases List.mem_append.1 hq with hq | hq
    · exact ⟨h.row q hq, h.apart q hq⟩
    · obtain rfl := List.mem_singleton.1 hq
      exact ⟨hr, hap⟩
  refine ⟨?_, fun q hq => ?_, fun q hq b hb e => ?_⟩
  · simpa [encTR] using ho
  · obtain ⟨h1, h2⟩ := hall q hq
    exact own_keep h1 (fun b hb e => h2 b e hb) hg
  · obtain ⟨h1, h2⟩ := hall q hq
    have hg2 : g = b := by simpa [Value.ownBlock] using e
    subst hg2
    rcases hat with h3 | h3
    · exact h2 g hb h3
    · have := (h1.lt g hb).2
      omega
theorem slT (h : MadeT w gs A c ts) : SlT w w.heap.size A ts.length ts := ⟨own_sl encTR_len (by omega) h.top, fun r hr => own_sl encStep_len (by omega) (h.row r hr)⟩
end MadeT
theorem totT_of {m : Nat} : ∀ (ts : List TRow), (∀ r ∈ ts, r.n ≤ m) → totT ts ≤ m * ts.length
  | [], _ => by simp [totT]
  | r :: ts, h => by
    have h1 := totT_of ts (fun q hq => h q (List.mem_cons_of_mem _ hq))
    have h2 := h r List.mem_cons_self
    simp only [totT, List.map_cons, List.sum_cons, List.length_cons] at h1 ⊢
    rw [Nat.mul_succ]
    omega
theorem set_encI' : ∀ (xs : List Int) (m : Nat) (z : Int), (xs.set m z).flatMap encI = (xs.flatMap encI).set m (.int .i64 z)
  | [], m, z => by simp
  | x :: xs, 0, z => by simp [encI]
  | x :: xs, m + 1, z => by simp only [List.set_cons_succ, List.flatMap_cons, set_encI' xs m z, encI]; rfl
/-- what a draw of tariffs and carriers leaves -/
def DrawC (w : World) (r : Ending) (w' : World) : Prop :=
  ∃ (A : Option Addr) (c : Nat) (ts : List TRow) (Ag : Option Addr) (cg : Nat) (ga : List Int) (Am : Option Addr) (cm : Nat) (ma : List Int), r = .returned (.tuple #[.slice A ts.length c, .slice Ag ga.length cg, .slice Am ma.length cm]) ∧
    ts.length ≤ 9 ∧ totT ts ≤ 81 ∧ ga.length ≤ 50 ∧ ma.length ≤ 50 ∧ Hid (SlT w' w'.heap.size A ts.length ts) ∧ Hid (Sl w' w'.heap.size 1 encI Ag ga.length ga) ∧ Hid (Sl w' w'.heap.size 1 encI Am ma.length ma) ∧ Below w.heap.size w w'
set_option maxHeartbeats 60000000 in
set_option maxRecDepth 100000 in
theorem DrawCheapestTariff_any (v : Value) (w : World) (hv : Bytes w w.heap.size 5000 v) : Calls Try.prog 19 #[v] w (DrawC w) := by
  obtain ⟨i0, hi, hz0, hz1, hz2⟩ := info_parts int_info
  obtain ⟨i1, hi1, hy0, hy1, hy2⟩ := info_parts Tariff_info
  have hf := l00From_any v w hv
  obtain ⟨gs, hgs⟩ : ∃ gs, gs = w.heap.size := ⟨_, rfl⟩
  rw [← hgs] at hf
  have hgs1 : gs ≤ w.heap.size := by omega
  have hgs2 : w.heap.size ≤ gs := by omega
  clear hv hgs
  go_enter Try.func19, Try.ntmps19
  go_wp2_with fail
  refine hf.mono ?_
  rintro r w1 ⟨rfl, hs, hb, hl⟩
  have o0 : (w1.alloc (.cells #[] 30)).ownsRow (gs + 1) 30 3 (.slice (some ⟨w1.heap.size, 0, none⟩) 0 0) 0 [] := World.ownsRow_lit w1 #[] 0 (by omega) (by simp only [maxLen]; omega) rfl
  have M1 : Hid (MadeT (w1.alloc (.cells #[] 30)) gs (some ⟨w1.heap.size, 0, none⟩) 0 []) := ⟨o0, fun r hr => by simp at hr, fun r hr => by simp at hr⟩
  have S1 := hid (hs.alloc (.cells #[] 30))
  have b1 := hb.alloc (by omega) (.cells #[] 30)
  clear hf o0 hs hb
  go_wp2_with fail
  refine (pick_any gs 0 4 _ S1.out (by omega) (by omega)).mono ?_
  rintro r w2 ⟨n, rfl, n0, n1, hs2, hg2⟩
  have M2 := hid (M1.out.src hg2)
  have S2 := hid hs2
  have b2 := below_src b1 hg2 (by omega) (by simp; omega)
  have n3 : n ≤ 3 := by omega
  have l2 := hs2.lt
  clear M1 S1 b1 hs2 hg2 n1
  go_wp2_with fail
  refine (one_any gs _ 20 _ S2.out (by omega) (by omega)).mono ?_
  rintro r w3 ⟨b, rfl, hs3, hg3⟩
  have M3 := hid (M2.out.src hg3)
  have S3 := hid hs3
  have b3 := below_src b2 hg3 (by omega) (by omega)
  have l3 := hs3.lt
  clear M2 S2 b2 hs3 hg3
  cases b with
  | true =>
    go_wp2_with fail
    refine (pick_any gs _ 2 _ S3.out (by omega) (by omega)).mono ?_
    rintro r w4 ⟨n', rfl, n0', n1', hs4, hg4⟩
    have M4 := hid (M3.out.src hg4)
    have S4 := hid hs4
    have b4 := below_src b3 hg4 (by omega) (by omega)
    have n8 : n' ≤ 1 := by omega
    have l4 := hs4.lt
    clear M3 S3 b3 hs4 hg4 n1' l3
    go_wp2_with fail
    go_loopw [6, 8] (fun vl vk wl => ∃ (A : Option Addr) (c : Nat) (ts : List TRow) (z : Int), vl = .slice A ts.length c ∧ vk = .int .i64 z ∧ 0 ≤ z ∧ z + ts.length ≤ 9 ∧ Hid (∀ r ∈ ts, r.n ≤ 9) ∧ Hid (MadeT wl gs A c ts) ∧ Hid (SrcAt wl gs (6 + 90 * ts.length)) ∧ Below gs w wl ∧ gs < wl.heap.size) (fun _ vk _ => (intOf vk).toNat)
    case atStart => exact ⟨_, _, [], (8 + n'), rfl, rfl, by omega, by simp; omega, hid (fun r hr => by simp at hr), M4, hid (S4.out.mono (by simp)), b4, l4⟩
    case round =>
      clear M4 S4 b4 l4
      obtain ⟨A, c, ts, z, rfl, rfl, z0, z1, hN, hM, hSr, hb, hgl⟩ := hrel
      by_cases hz : 0 < z
      · go_wp2_with fail
        refine (one_any gs _ 8 _ hSr.out (by omega) (by omega)).mono ?_
        rintro r w2 ⟨b, rfl, hs2, hg2⟩
        have z12 := hg2.size
        cases b with
        | true =>
          have hd := l23Bent_any gs _ w2 hs2 (by omega)
          clear hs2
          go_wp2_with fail
          refine hd.mono ?_
          rintro r w3 ⟨A', c', xs, hh, ee, rfl, _, h9, hO, hS, hG⟩
          clear hd
          have hrow := hO.mono (show gs + 1 ≤ _ by omega)
          have HM := hid (hM.out.src hg2)
          have HM2 := hid (HM.out.src hG)
          have HMa := hid (HM2.out.alloc (.cells #[.slice A' xs.length c', .int .i64 hh, .int .i64 ee] 30))
          have htop := HM.out.top.lt
          have hnew : ∀ b, (Value.slice A' xs.length c').ownBlock = some b → (Value.slice A ts.length c).ownBlock ≠ some b := fun b hb e => by
            have h1 := (hO.lt b hb).1
            have h2 := (htop b e).2
            omega
          have S3 := hid (hS.alloc (.cells #[.slice A' xs.length c', .int .i64 hh, .int .i64 ee] 30))
          have b3 := (below_src (below_src hb hg2 (by omega) (by omega)) hG (by omega) (by omega)).alloc (by have := hG.size; omega) (.cells #[.slice A' xs.length c', .int .i64 hh, .int .i64 ee] 30)
          have hlo := HMa.out.top.lt
          have ROW := hid (hrow.alloc (.cells #[.slice A' xs.length c', .int .i64 hh, .int .i64 ee] 30))
          have HNEW := hid hnew
          have z23 := hG.size
          clear hM hSr hG hg2 hS hO HM HM2 hrow hnew htop hb
          go_wp2_with (at_builtin; refine wpList_append_lies _ rfl _ _ 39 rfl (gs + 1) 30 i1 (.agg #[.slice none 0 0, .int .i64 0, .int .i64 0]) 3 40 Try.underlying39 hi1 hy0 hy1 hy2 rfl (by omega) (.slice A ts.length c) ts.length (ts.flatMap encTR) rfl HMa.out.top ⟨w3.heap.size, 0, none⟩ 1 1 [.slice A' xs.length c', .int .i64 hh, .int .i64 ee] rfl rfl (World.news_of_block (cs := #[.slice A' xs.length c', .int .i64 hh, .int .i64 ee]) (t := 30) (fr := (0, 0)) (heap_alloc_new _ _)) (by simp [Value.oneCell']) (by omega) (by simp only [maxLen]; omega) (by omega) (by simp; omega) (w3.heap.size + 1) (by simp) ?_; intro gg cap w4 ho4 hg4 hat4 hlt4)
          have hM4 := hid (HMa.out.snoc (r := ⟨A', xs.length, c', xs, hh, ee⟩) (by simpa [encTR] using ho4) hg4 (hat4.imp id (fun e => by simp; omega)) ROW.out HNEW.out)
          have S4 := hid ((S3.out.grown hg4 (fun b hb => by have := (hlo b hb).1; omega)).mono (show _ ≤ 6 + 90 * (ts ++ [(⟨A', xs.length, c', xs, hh, ee⟩ : TRow)]).length by simp; omega))
          have b4 := grown_below b3 hg4 (by simp; omega) (fun b hb => by have := (hlo b hb).1; omega)
          have N4 : Hid (∀ r ∈ ts ++ [(⟨A', xs.length, c', xs, hh, ee⟩ : TRow)], r.n ≤ 9) := fun r hr => by
            rcases List.mem_append.1 hr with hr | hr
            · exact hN.out r hr
            · obtain rfl := List.mem_singleton.1 hr
              exact h9
          have hl4 := S4.out.lt
          clear HMa S3 b3 ho4 hg4 ROW HNEW hlo hN
          go_roundw
          all_goals first | exact ⟨_, _, ts ++ [⟨A', xs.length, c', xs, hh, ee⟩], z - 1, (by rw [List.length_append, List.length_singleton]), rfl, by omega, (by rw [List.length_append, List.length_singleton]; omega), N4, hM4, S4, b4, hl4⟩ | exact ⟨⟨_, _, ts ++ [⟨A', xs.length, c', xs, hh, ee⟩], z - 1, (by rw [List.length_append, List.length_singleton]), rfl, by omega, (by rw [List.length_append, List.length_singleton]; omega), N4, hM4, S4, b4, hl4⟩, by simp [intOf]; omega⟩ | (simp [intOf]; omega)
        | false =>
          have hd := l23Draw_any gs _ w2 hs2 (by omega)
          clear hs2
          go_wp2_with fail
          refine hd.mono ?_
          rintro r w3 ⟨A', c', xs, hh, ee, rfl, _, h9, hO, hS, hG⟩
          clear hd
          have hrow := hO.mono (show gs + 1 ≤ _ by omega)
          have HM := hid (hM.out.src hg2)
          have HM2 := hid (HM.out.src hG)
          have HMa := hid (HM2.out.alloc (.cells #[.slice A' xs.length c', .int .i64 hh, .int .i64 ee] 30))
          have htop := HM.out.top.lt
          have hnew : ∀ b, (Value.slice A' xs.length c').ownBlock = some b → (Value.slice A ts.length c).ownBlock ≠ some b := fun b hb e => by
            have h1 := (hO.lt b hb).1
            have h2 := (htop b e).2
            omega
          have S3 := hid (hS.alloc (.cells #[.slice A' xs.length c', .int .i64 hh, .int .i64 ee] 30))
          have b3 := (below_src (below_src hb hg2 (by omega) (by omega)) hG (by omega) (by omega)).alloc (by have := hG.size; omega) (.cells #[.slice A' xs.length c', .int .i64 hh, .int .i64 ee] 30)
          have hlo := HMa.out.top.lt
          have ROW := hid (hrow.alloc (.cells #[.slice A' xs.length c', .int .i64 hh, .int .i64 ee] 30))
          have HNEW := hid hnew
          have z23 := hG.size
          clear hM hSr hG hg2 hS hO HM HM2 hrow hnew htop hb
          go_wp2_with (at_builtin; refine wpList_append_lies _ rfl _ _ 39 rfl (gs + 1) 30 i1 (.agg #[.slice none 0 0, .int .i64 0, .int .i64 0]) 3 40 Try.underlying39 hi1 hy0 hy1 hy2 rfl (by omega) (.slice A ts.length c) ts.length (ts.flatMap encTR) rfl HMa.out.top ⟨w3.heap.size, 0, none⟩ 1 1 [.slice A' xs.length c', .int .i64 hh, .int .i64 ee] rfl rfl (World.news_of_block (cs := #[.slice A' xs.length c', .int .i64 hh, .int .i64 ee]) (t := 30) (fr := (0, 0)) (heap_alloc_new _ _)) (by simp [Value.oneCell']) (by omega) (by simp only [maxLen]; omega) (by omega) (by simp; omega) (w3.heap.size + 1) (by simp) ?_; intro gg cap w4 ho4 hg4 hat4 hlt4)
          have hM4 := hid (HMa.out.snoc (r := ⟨A', xs.length, c', xs, hh, ee⟩) (by simpa [encTR] using ho4) hg4 (hat4.imp id (fun e => by simp; omega)) ROW.out HNEW.out)
          have S4 := hid ((S3.out.grown hg4 (fun b hb => by have := (hlo b hb).1; omega)).mono (show _ ≤ 6 + 90 * (ts ++ [(⟨A', xs.length, c', xs, hh, ee⟩ : TRow)]).length by simp; omega))
          have b4 := grown_below b3 hg4 (by simp; omega) (fun b hb => by have := (hlo b hb).1; omega)
          have N4 : Hid (∀ r ∈ ts ++ [(⟨A', xs.length, c', xs, hh, ee⟩ : TRow)], r.n ≤ 9) := fun r hr => by
            rcases List.mem_append.1 hr with hr | hr
            · exact hN.out r hr
            · obtain rfl := List.mem_singleton.1 hr
              exact h9
          have hl4 := S4.out.lt
          clear HMa S3 b3 ho4 hg4 ROW HNEW hlo hN
          go_roundw
          all_goals first | exact ⟨_, _, ts ++ [⟨A', xs.length, c', xs, hh, ee⟩], z - 1, (by rw [List.length_append, List.length_singleton]), rfl, by omega, (by rw [List.length_append, List.length_singleton]; omega), N4, hM4, S4, b4, hl4⟩ | exact ⟨⟨_, _, ts ++ [⟨A', xs.length, c', xs, hh, ee⟩], z - 1, (by rw [List.length_append, List.length_singleton]), rfl, by omega, (by rw [List.length_append, List.length_singleton]; omega), N4, hM4, S4, b4, hl4⟩, by simp [intOf]; omega⟩ | (simp [intOf]; omega)
      · skip
        have hz0' : z = 0 := by omega
        have htop := hM.out.top.lt
        have hrows := fun r (hr : r ∈ ts) => (hM.out.row r hr).lt
        obtain ⟨wo, rfl⟩ : ∃ wo : World, wo = wr := ⟨_, rfl⟩
        have og : (wo.alloc (.cells #[] 2)).ownsRow (gs + 1) 2 1 (.slice (some ⟨wo.heap.size, 0, none⟩) 0 0) 0 [] := World.ownsRow_lit wo #[] 0 (by omega) (by simp only [maxLen]; omega) rfl
        have om : ((wo.alloc (.cells #[] 2)).alloc (.cells #[] 2)).ownsRow (gs + 1) 2 1 (.slice (some ⟨wo.heap.size + 1, 0, none⟩) 0 0) 0 [] := by
          have := World.ownsRow_lit (base := gs + 1) (e := 2) (size := 1) (wo.alloc (.cells #[] 2)) #[] 0 (by simp; omega) (by simp only [maxLen]; omega) rfl
          simpa using this
        have HT := hid (fun b (hb : (Value.slice A ts.length c).ownBlock = some b) => (htop b hb).2)
        have HR := hid (fun r (hr : r ∈ ts) b (hb : (Value.slice r.A r.n r.c).ownBlock = some b) => (hrows r hr b hb).2)
        have OG := hid (og.alloc (.cells #[] 2))
        have OM := hid om
        have MT := hid ((hM.out.alloc (.cells #[] 2)).alloc (.cells #[] 2))
        have SR := hid ((hSr.out.alloc (.cells #[] 2)).alloc (.cells #[] 2))
        have bw := (hb.alloc (by omega) (.cells #[] 2)).alloc (by simp; omega) (.cells #[] 2)
        clear og om htop hrows hM hSr hb
        go_wp2_with fail
        refine (pick_any gs _ 6 _ SR.out (by omega) (by omega)).mono ?_
        rintro r w5 ⟨m, rfl, m0, m1, hs5, hg5⟩
        have OG5 := hid (own_src OG.out hg5 (Nat.lt_succ_self gs))
        have OM5 := hid (own_src OM.out hg5 (Nat.lt_succ_self gs))
        have MT5 := hid (MT.out.src hg5)
        have SR5 := hid hs5
        have b5 := below_src bw hg5 (by omega) (by simp; omega)
        have m5 : m ≤ 5 := by omega
        have zs5 : wo.heap.size + 2 ≤ w5.heap.size := by have := hg5.size; simp at this; omega
        clear OG OM MT SR bw hs5 hg5 m1
        go_wp2_with fail
        refine (one_any gs _ 20 _ SR5.out (by omega) (by omega)).mono ?_
        rintro r w6 ⟨b, rfl, hs6, hg6⟩
        have OG6 := hid (own_src OG5.out hg6 (Nat.lt_succ_self gs))
        have OM6 := hid (own_src OM5.out hg6 (Nat.lt_succ_self gs))
        have MT6 := hid (MT5.out.src hg6)
        have SR6 := hid hs6
        have b6 := below_src b5 hg6 (by omega) (by omega)
        have zs6 : wo.heap.size + 2 ≤ w6.heap.size := by have := hg6.size; omega
        clear OG5 OM5 MT5 SR5 b5 hs6 hg6
        cases b with
        | true =>
          go_wp2_with fail
          refine (pick_any gs _ 2 _ SR6.out (by omega) (by omega)).mono ?_
          rintro r w7 ⟨y, rfl, y0, y1, hs7, hg7⟩
          have OG7 := hid (own_src OG6.out hg7 (Nat.lt_succ_self gs))
          have OM7 := hid (own_src OM6.out hg7 (Nat.lt_succ_self gs))
          have MT7 := hid (MT6.out.src hg7)
          have SR7 := hid hs7
          have b7 := below_src b6 hg7 (by omega) (by omega)
          have zs7 : wo.heap.size + 2 ≤ w7.heap.size := by have := hg7.size; omega
          have y1' : y ≤ 1 := by omega
          clear OG6 OM6 MT6 SR6 b6 hs7 hg7 y1
          go_wp2_with fail
          go_loopw [9, 10, 12] (fun vg vm vk wl => ∃ (Ag : Option Addr) (cg : Nat) (ga : List Int) (Am : Option Addr) (cm : Nat) (ma : List Int) (z : Int), vg = .slice Ag ga.length cg ∧ vm = .slice Am ma.length cm ∧ vk = .int .i64 z ∧ 0 ≤ z ∧ z + ga.length = (40 + y) ∧ ma.length = ga.length ∧
            Hid (wl.ownsRow (gs + 1) 2 1 (.slice Ag ga.length cg) ga.length (ga.flatMap encI)) ∧ Hid (wl.ownsRow (gs + 1) 2 1 (.slice Am ma.length cm) ma.length (ma.flatMap encI)) ∧ Hid (∀ b, (Value.slice Ag ga.length cg).ownBlock = some b → wo.heap.size ≤ b ∧ (Value.slice Am ma.length cm).ownBlock ≠ some b) ∧ Hid (∀ b, (Value.slice Am ma.length cm).ownBlock = some b → wo.heap.size ≤ b) ∧ Hid (MadeT wl gs A c ts) ∧ Hid (SrcAt wl gs (2000 + 10 * ga.length)) ∧ Below gs w wl ∧ wo.heap.size < wl.heap.size) (fun _ _ vk _ => (intOf vk).toNat)
          case atStart => exact ⟨_, _, [], _, _, [], (40 + y), rfl, rfl, rfl, by omega, by simp, rfl, OG7, OM7, hid (fun b hb => by simp [Value.ownBlock] at hb ⊢; omega), hid (fun b hb => by simp [Value.ownBlock] at hb; omega), MT7, hid (SR7.out.mono (by simp; omega)), b7, by omega⟩
          case round =>
            clear OG7 OM7 MT7 SR7 b7
            obtain ⟨Ag, cg, ga, Am, cm, ma, z', rfl, rfl, rfl, z0', z1', hml, hOg, hOm, hag, ham, hMt, hSr, hb, hwl⟩ := hrel
            have gl : ga.length ≤ 41 := by omega
            have ml1 : ma.length ≤ ga.length := by omega
            have ml2 : ga.length ≤ ma.length := by omega
            have z1a : z' + ga.length ≤ (40 + y) := by omega
            have z1b : (40 + y) ≤ z' + ga.length := by omega
            clear hml z1'
            by_cases hz' : 0 < z'
            · go_wp2_with fail
              refine (pick_any gs _ 300 _ hSr.out (by omega) (by omega)).mono ?_
              rintro r w8 ⟨x, rfl, x0, x1, hs8, hg8⟩
              have O8 := hid (own_src hOg.out hg8 (Nat.lt_succ_self gs))
              have P8 := hid (own_src hOm.out hg8 (Nat.lt_succ_self gs))
              have M8 := hid (hMt.out.src hg8)
              have S8 := hid hs8
              have b8 := below_src hb hg8 (by omega) (by omega)
              have zw8 := hg8.size
              have hlo := O8.out.lt
              have hlp := P8.out.lt
              clear hOg hOm hMt hSr hb hs8 hg8 x1
              go_wp2_with (at_builtin; refine wpList_append_lies _ rfl _ _ 35 rfl (gs + 1) 2 i0 (.int .i64 0) 1 8 Try.underlying35 hi hz0 hz1 hz2 rfl (by omega) (.slice Ag ga.length cg) ga.length (ga.flatMap encI) rfl (O8.out.alloc _) ⟨w8.heap.size, 0, none⟩ 1 1 [.int .i64 x] rfl rfl (World.news_of_block (cs := #[.int .i64 x]) (t := 2) (fr := (0, 0)) (heap_alloc_new _ _)) (by simp [Value.oneCell']) (by omega) (by simp only [maxLen]; omega) (by omega) (by simp; omega) (w8.heap.size + 1) (by simp) ?_; intro gg9 cap9 w9 ho9 hg9 hat9 hlt9)
              have O9 : Hid (w9.ownsRow (gs + 1) 2 1 (.slice (some ⟨gg9, 0, none⟩) (ga ++ [x]).length cap9) (ga ++ [x]).length ((ga ++ [x]).flatMap encI)) := by simpa [Hid, encI] using ho9
              have P9 := hid (own_apart (ow_alloc (o := .cells #[.int .i64 x] 2) P8.out) hg9 (fun b hb => (hag.out b hb).2))
              have M9 := hid ((M8.out.alloc (.cells #[.int .i64 x] 2)).far hg9 HT.out HR.out (fun b hb => (hag.out b hb).1))
              have S9 := hid ((S8.out.alloc (.cells #[.int .i64 x] 2)).grown hg9 (fun b hb => by have := (hlo b hb).1; omega))
              have b9 := grown_below (b8.alloc (by omega) (.cells #[.int .i64 x] 2)) hg9 (by simp; omega) (fun b hb => by have := (hlo b hb).1; omega)
              have zw9 := hg9.size
              rw [World.size_alloc] at zw9
              have A9 : Hid (wo.heap.size ≤ gg9 ∧ (Value.slice Am ma.length cm).ownBlock ≠ some gg9) := by
                rcases hat9 with h | h
                · exact hag.out _ h
                · exact ⟨by omega, fun e => by have := (hlp _ e).2; omega⟩
              clear O8 P8 M8 S8 b8 ho9 hg9 hat9 hlo hlp hag
              refine (pick_any gs _ 900 _ S9.out (by omega) (by omega)).mono ?_
              rintro r w10 ⟨y', rfl, y0', y1', hs10, hg10⟩
              have O10 := hid (own_src O9.out hg10 (Nat.lt_succ_self gs))
              have P10 := hid (own_src P9.out hg10 (Nat.lt_succ_self gs))
              have M10 := hid (M9.out.src hg10)
              have S10 := hid hs10
              have b10 := below_src b9 hg10 (by omega) (by omega)
              have zw10 := hg10.size
              have hlp := P10.out.lt
              have hlo := O10.out.lt
              clear O9 P9 M9 S9 b9 hs10 hg10 y1'
              go_wp2_with (at_builtin; refine wpList_append_lies _ rfl _ _ 35 rfl (gs + 1) 2 i0 (.int .i64 0) 1 8 Try.underlying35 hi hz0 hz1 hz2 rfl (by omega) (.slice Am ma.length cm) ma.length (ma.flatMap encI) rfl (P10.out.alloc _) ⟨w10.heap.size, 0, none⟩ 1 1 [.int .i64 y'] rfl rfl (World.news_of_block (cs := #[.int .i64 y']) (t := 2) (fr := (0, 0)) (heap_alloc_new _ _)) (by simp [Value.oneCell']) (by omega) (by simp only [maxLen]; omega) (by omega) (by simp; omega) (w10.heap.size + 1) (by simp) ?_; intro gg11 cap11 w11 ho11 hg11 hat11 hlt11)
              have P11 : Hid (w11.ownsRow (gs + 1) 2 1 (.slice (some ⟨gg11, 0, none⟩) (ma ++ [y']).length cap11) (ma ++ [y']).length ((ma ++ [y']).flatMap encI)) := by simpa [Hid, encI] using ho11
              have O11 := hid (own_apart (ow_alloc (o := .cells #[.int .i64 y'] 2) O10.out) hg11 (fun b hb e => by
                have e2 : gg9 = b := by simpa [Value.ownBlock] using e
                exact A9.out.2 (by rw [e2]; exact hb)))
              have M11 := hid ((M10.out.alloc (.cells #[.int .i64 y'] 2)).far hg11 HT.out HR.out (fun b hb => ham.out b hb))
              have S11 := hid (((S10.out.alloc (.cells #[.int .i64 y'] 2)).grown hg11 (fun b hb => by have := (hlp b hb).1; omega)).mono (show _ ≤ 2000 + 10 * (ga ++ [x]).length by simp; omega))
              have b11 := grown_below (b10.alloc (by omega) (.cells #[.int .i64 y'] 2)) hg11 (by simp; omega) (fun b hb => by have := (hlp b hb).1; omega)
              have zw11 := hg11.size
              rw [World.size_alloc] at zw11
              have hg9' := (hlo gg9 rfl).2
              have A11 : Hid (∀ b, (Value.slice (some ⟨gg9, 0, none⟩) (ga ++ [x]).length cap9).ownBlock = some b → wo.heap.size ≤ b ∧ (Value.slice (some ⟨gg11, 0, none⟩) (ma ++ [y']).length cap11).ownBlock ≠ some b) := fun b hb => by
                have e : gg9 = b := by simpa [Value.ownBlock] using hb
                subst e
                refine ⟨A9.out.1, fun e => ?_⟩
                have e2 : gg11 = gg9 := by simpa [Value.ownBlock] using e
                rcases hat11 with h | h
                · rw [e2] at h; exact A9.out.2 h
                · omega
              have B11 : Hid (∀ b, (Value.slice (some ⟨gg11, 0, none⟩) (ma ++ [y']).length cap11).ownBlock = some b → wo.heap.size ≤ b) := fun b hb => by
                have e : gg11 = b := by simpa [Value.ownBlock] using hb
                subst e
                rcases hat11 with h | h
                · exact ham.out _ h
                · omega
              have hlen1 : (ga ++ [x]).length = ga.length + 1 := by simp
              have hlen2 : (ma ++ [y']).length = ma.length + 1 := by simp
              have hwl2 : wo.heap.size < w11.heap.size := by omega
              clear O10 P10 M10 S10 b10 ho11 hg11 hat11 A9 ham hlo hlp
              go_roundw
              all_goals first | exact ⟨_, _, ga ++ [x], _, _, ma ++ [y'], z' - 1, (by rw [List.length_append, List.length_singleton]), (by rw [List.length_append, List.length_singleton]), rfl, by omega, by omega, by omega, O11, P11, A11, B11, M11, S11, b11, hwl2⟩ | exact ⟨⟨_, _, ga ++ [x], _, _, ma ++ [y'], z' - 1, (by rw [List.length_append, List.length_singleton]), (by rw [List.length_append, List.length_singleton]), rfl, by omega, by omega, by omega, O11, P11, A11, B11, M11, S11, b11, hwl2⟩, by simp [intOf]; omega⟩ | (simp [intOf]; omega)
            · go_wp2_with fail
              refine (pick_any gs _ 16 _ hSr.out (by omega) (by omega)).mono ?_
              rintro r w8 ⟨x, rfl, x0, x1, hs8, hg8⟩
              have O8 := hid (own_src hOg.out hg8 (Nat.lt_succ_self gs))
              have P8 := hid (own_src hOm.out hg8 (Nat.lt_succ_self gs))
              have M8 := hid (hMt.out.src hg8)
              have S8 := hid hs8
              have b8 := below_src hb hg8 (by omega) (by omega)
              have zw8 := hg8.size
              have hlo := O8.out.lt
              have hlp := P8.out.lt
              clear hOg hOm hMt hSr hb hs8 hg8 x1
              by_cases q0 : x = 0
              · subst q0
                go_wp2_with (at_builtin; refine wpList_append_lies _ rfl _ _ 35 rfl (gs + 1) 2 i0 (.int .i64 0) 1 8 Try.underlying35 hi hz0 hz1 hz2 rfl (by omega) (.slice Ag ga.length cg) ga.length (ga.flatMap encI) rfl (O8.out.alloc _) ⟨w8.heap.size, 0, none⟩ 1 1 [.int .i64 5] rfl rfl (World.news_of_block (cs := #[.int .i64 5]) (t := 2) (fr := (0, 0)) (heap_alloc_new _ _)) (by simp [Value.oneCell']) (by omega) (by simp only [maxLen]; omega) (by omega) (by simp; omega) (w8.heap.size + 1) (by simp) ?_; intro gg9 cap9 w9 ho9 hg9 hat9 hlt9)
                have O9 : Hid (w9.ownsRow (gs + 1) 2 1 (.slice (some ⟨gg9, 0, none⟩) (ga ++ [(5 : Int)]).length cap9) (ga ++ [(5 : Int)]).length ((ga ++ [(5 : Int)]).flatMap encI)) := by simpa [Hid, encI] using ho9
                have P9 := hid (own_apart (ow_alloc (o := .cells #[.int .i64 5] 2) P8.out) hg9 (fun b hb => (hag.out b hb).2))
                have M9 := hid ((M8.out.alloc (.cells #[.int .i64 5] 2)).far hg9 HT.out HR.out (fun b hb => (hag.out b hb).1))
                have b9 := grown_below (b8.alloc (by omega) (.cells #[.int .i64 5] 2)) hg9 (by simp; omega) (fun b hb => by have := (hlo b hb).1; omega)
                have hlen1 : (ga ++ [(5 : Int)]).length = ga.length + 1 := by simp
                have t9 : totT ts ≤ 81 := by have := totT_of ts hN.out; omega
                have RT := hid M9.out.slT
                have RG := hid (own_sl encI_len (by omega) O9.out)
                have RM := hid (own_sl encI_len (by omega) P9.out)
                have ha9 : ts.length ≤ 9 := by omega
                clear O8 P8 M8 S8 b8 ho9 hg9 hat9 hlo hlp hag ham O9 P9 M9 hN
                go_ret3
                exact ⟨A, c, ts, some ⟨gg9, 0, none⟩, cap9, ga ++ [5], Am, cm, ma, by rw [List.length_append, List.length_singleton]; rfl, ha9, t9, by omega, by omega, RT, RG, RM, b9.mono hgs2⟩
              · have nq0 : (x == 0) = false := by rw [beq_eq_false_iff_ne]; exact q0
                by_cases q1 : x = 1
                · subst q1
                  by_cases hm0 : 0 < (40 + y)
                  · obtain ⟨gm, rfl, hgm, _⟩ := own_some P8.out (by omega : 0 < ma.length)
                    have hd := l23DrawMetres_any gs _ w8 S8.out (by omega)
                    clear S8
                    go_wp2_with fail
                    refine hd.mono ?_
                    rintro r w9 ⟨xm, rfl, hs9, hg9⟩
                    have O9 := hid (own_src O8.out hg9 (Nat.lt_succ_self gs))
                    have P9 := own_src P8.out hg9 (Nat.lt_succ_self gs)
                    have M9 := hid (M8.out.src hg9)
                    have b9 := below_src b8 hg9 (by omega) (by omega)
                    obtain ⟨⟨u, e0⟩, f0⟩ := own_at P9 (Below.refl _ _) 0 (by omega)
                    have hst := (P9.stored 0 (.int .i64 xm)).1
                    have hsg := (P9.stored 0 (.int .i64 xm)).2
                    rw [← set_encI'] at hst
                    have P10 : Hid (Sl (w9.setCell ⟨gm, 0, none⟩ (.int .i64 xm)) (w9.setCell ⟨gm, 0, none⟩ (.int .i64 xm)).heap.size 1 encI (some ⟨gm, 0, none⟩) (ma.set 0 xm).length (ma.set 0 xm)) := by
                      have := own_sl encI_len (by omega) hst
                      rw [List.length_set]; exact this
                    have O10 := hid (own_sl encI_len (by omega) (own_apart O9.out hsg (fun b hb e => (hag.out b e).2 hb)))
                    have M10 := hid (M9.out.far hsg HT.out HR.out (fun b hb => ham.out b hb)).slT
                    have b10 := bl_set (p := ⟨gm, 0, none⟩) (u := .int .i64 xm) (by simp only; omega) b9
                    have t9 : totT ts ≤ 81 := by have := totT_of ts hN.out; omega
                    have ha9 : ts.length ≤ 9 := by omega
                    clear O8 P8 M8 b8 hs9 hg9 hlo hlp hag ham O9 P9 M9 hN hst hsg hd b9
                    go_wp2_with fail
                    go_ret3
                    exact ⟨A, c, ts, Ag, cg, ga, some ⟨gm, 0, none⟩, cm, ma.set 0 xm, by rw [List.length_set]; rfl, ha9, t9, by omega, by rw [List.length_set]; omega, M10, O10, P10, b10.mono hgs2⟩
                  · exfalso; omega
                · have nq1 : (x == 1) = false := by rw [beq_eq_false_iff_ne]; exact q1
                  have t9 : totT ts ≤ 81 := by have := totT_of ts hN.out; omega
                  have RT := hid M8.out.slT
                  have RG := hid (own_sl encI_len (by omega) O8.out)
                  have RM := hid (own_sl encI_len (by omega) P8.out)
                  have ha9 : ts.length ≤ 9 := by omega
                  clear O8 P8 M8 S8 hlo hlp hag ham hN
                  go_wp2_with fail
                  go_ret3
                  exact ⟨_, _, ts, _, _, ga, _, _, ma, rfl, ha9, t9, by omega, by omega, RT, RG, RM, b8.mono hgs2⟩
        | false =>
          go_wp2_with fail
          go_loopw [9, 10, 12] (fun vg vm vk wl => ∃ (Ag : Option Addr) (cg : Nat) (ga : List Int) (Am : Option Addr) (cm : Nat) (ma : List Int) (z : Int), vg = .slice Ag ga.length cg ∧ vm = .slice Am ma.length cm ∧ vk = .int .i64 z ∧ 0 ≤ z ∧ z + ga.length = m ∧ ma.length = ga.length ∧
            Hid (wl.ownsRow (gs + 1) 2 1 (.slice Ag ga.length cg) ga.length (ga.flatMap encI)) ∧ Hid (wl.ownsRow (gs + 1) 2 1 (.slice Am ma.length cm) ma.length (ma.flatMap encI)) ∧ Hid (∀ b, (Value.slice Ag ga.length cg).ownBlock = some b → wo.heap.size ≤ b ∧ (Value.slice Am ma.length cm).ownBlock ≠ some b) ∧ Hid (∀ b, (Value.slice Am ma.length cm).ownBlock = some b → wo.heap.size ≤ b) ∧ Hid (MadeT wl gs A c ts) ∧ Hid (SrcAt wl gs (2000 + 10 * ga.length)) ∧ Below gs w wl ∧ wo.heap.size < wl.heap.size) (fun _ _ vk _ => (intOf vk).toNat)
          case atStart => exact ⟨_, _, [], _, _, [], m, rfl, rfl, rfl, by omega, by simp, rfl, OG6, OM6, hid (fun b hb => by simp [Value.ownBlock] at hb ⊢; omega), hid (fun b hb => by simp [Value.ownBlock] at hb; omega), MT6, hid (SR6.out.mono (by simp; omega)), b6, by omega⟩
          case round =>
            clear OG6 OM6 MT6 SR6 b6
            obtain ⟨Ag, cg, ga, Am, cm, ma, z', rfl, rfl, rfl, z0', z1', hml, hOg, hOm, hag, ham, hMt, hSr, hb, hwl⟩ := hrel
            have gl : ga.length ≤ 41 := by omega
            have ml1 : ma.length ≤ ga.length := by omega
            have ml2 : ga.length ≤ ma.length := by omega
            have z1a : z' + ga.length ≤ m := by omega
            have z1b : m ≤ z' + ga.length := by omega
            clear hml z1'
            by_cases hz' : 0 < z'
            · go_wp2_with fail
              refine (pick_any gs _ 300 _ hSr.out (by omega) (by omega)).mono ?_
              rintro r w8 ⟨x, rfl, x0, x1, hs8, hg8⟩
              have O8 := hid (own_src hOg.out hg8 (Nat.lt_succ_self gs))
              have P8 := hid (own_src hOm.out hg8 (Nat.lt_succ_self gs))
              have M8 := hid (hMt.out.src hg8)
              have S8 := hid hs8
              have b8 := below_src hb hg8 (by omega) (by omega)
              have zw8 := hg8.size
              have hlo := O8.out.lt
              have hlp := P8.out.lt
              clear hOg hOm hMt hSr hb hs8 hg8 x1
              go_wp2_with (at_builtin; refine wpList_append_lies _ rfl _ _ 35 rfl (gs + 1) 2 i0 (.int .i64 0) 1 8 Try.underlying35 hi hz0 hz1 hz2 rfl (by omega) (.slice Ag ga.length cg) ga.length (ga.flatMap encI) rfl (O8.out.alloc _) ⟨w8.heap.size, 0, none⟩ 1 1 [.int .i64 x] rfl rfl (World.news_of_block (cs := #[.int .i64 x]) (t := 2) (fr := (0, 0)) (heap_alloc_new _ _)) (by simp [Value.oneCell']) (by omega) (by simp only [maxLen]; omega) (by omega) (by simp; omega) (w8.heap.size + 1) (by simp) ?_; intro gg9 cap9 w9 ho9 hg9 hat9 hlt9)
              have O9 : Hid (w9.ownsRow (gs + 1) 2 1 (.slice (some ⟨gg9, 0, none⟩) (ga ++ [x]).length cap9) (ga ++ [x]).length ((ga ++ [x]).flatMap encI)) := by simpa [Hid, encI] using ho9
              have P9 := hid (own_apart (ow_alloc (o := .cells #[.int .i64 x] 2) P8.out) hg9 (fun b hb => (hag.out b hb).2))
              have M9 := hid ((M8.out.alloc (.cells #[.int .i64 x] 2)).far hg9 HT.out HR.out (fun b hb => (hag.out b hb).1))
              have S9 := hid ((S8.out.alloc (.cells #[.int .i64 x] 2)).grown hg9 (fun b hb => by have := (hlo b hb).1; omega))
              have b9 := grown_below (b8.alloc (by omega) (.cells #[.int .i64 x] 2)) hg9 (by simp; omega) (fun b hb => by have := (hlo b hb).1; omega)
              have zw9 := hg9.size
              rw [World.size_alloc] at zw9
              have A9 : Hid (wo.heap.size ≤ gg9 ∧ (Value.slice Am ma.length cm).ownBlock ≠ some gg9) := by
                rcases hat9 with h | h
                · exact hag.out _ h
                · exact ⟨by omega, fun e => by have := (hlp _ e).2; omega⟩
              clear O8 P8 M8 S8 b8 ho9 hg9 hat9 hlo hlp hag
              refine (pick_any gs _ 900 _ S9.out (by omega) (by omega)).mono ?_
              rintro r w10 ⟨y', rfl, y0', y1', hs10, hg10⟩
              have O10 := hid (own_src O9.out hg10 (Nat.lt_succ_self gs))
              have P10 := hid (own_src P9.out hg10 (Nat.lt_succ_self gs))
              have M10 := hid (M9.out.src hg10)
              have S10 := hid hs10
              have b10 := below_src b9 hg10 (by omega) (by omega)
              have zw10 := hg10.size
              have hlp := P10.out.lt
              have hlo := O10.out.lt
              clear O9 P9 M9 S9 b9 hs10 hg10 y1'
              go_wp2_with (at_builtin; refine wpList_append_lies _ rfl _ _ 35 rfl (gs + 1) 2 i0 (.int .i64 0) 1 8 Try.underlying35 hi hz0 hz1 hz2 rfl (by omega) (.slice Am ma.length cm) ma.length (ma.flatMap encI) rfl (P10.out.alloc _) ⟨w10.heap.size, 0, none⟩ 1 1 [.int .i64 y'] rfl rfl (World.news_of_block (cs := #[.int .i64 y']) (t := 2) (fr := (0, 0)) (heap_alloc_new _ _)) (by simp [Value.oneCell']) (by omega) (by simp only [maxLen]; omega) (by omega) (by simp; omega) (w10.heap.size + 1) (by simp) ?_; intro gg11 cap11 w11 ho11 hg11 hat11 hlt11)
              have P11 : Hid (w11.ownsRow (gs + 1) 2 1 (.slice (some ⟨gg11, 0, none⟩) (ma ++ [y']).length cap11) (ma ++ [y']).length ((ma ++ [y']).flatMap encI)) := by simpa [Hid, encI] using ho11
              have O11 := hid (own_apart (ow_alloc (o := .cells #[.int .i64 y'] 2) O10.out) hg11 (fun b hb e => by
                have e2 : gg9 = b := by simpa [Value.ownBlock] using e
                exact A9.out.2 (by rw [e2]; exact hb)))
              have M11 := hid ((M10.out.alloc (.cells #[.int .i64 y'] 2)).far hg11 HT.out HR.out (fun b hb => ham.out b hb))
              have S11 := hid (((S10.out.alloc (.cells #[.int .i64 y'] 2)).grown hg11 (fun b hb => by have := (hlp b hb).1; omega)).mono (show _ ≤ 2000 + 10 * (ga ++ [x]).length by simp; omega))
              have b11 := grown_below (b10.alloc (by omega) (.cells #[.int .i64 y'] 2)) hg11 (by simp; omega) (fun b hb => by have := (hlp b hb).1; omega)
              have zw11 := hg11.size
              rw [World.size_alloc] at zw11
              have hg9' := (hlo gg9 rfl).2
              have A11 : Hid (∀ b, (Value.slice (some ⟨gg9, 0, none⟩) (ga ++ [x]).length cap9).ownBlock = some b → wo.heap.size ≤ b ∧ (Value.slice (some ⟨gg11, 0, none⟩) (ma ++ [y']).length cap11).ownBlock ≠ some b) := fun b hb => by
                have e : gg9 = b := by simpa [Value.ownBlock] using hb
                subst e
                refine ⟨A9.out.1, fun e => ?_⟩
                have e2 : gg11 = gg9 := by simpa [Value.ownBlock] using e
                rcases hat11 with h | h
                · rw [e2] at h; exact A9.out.2 h
                · omega
              have B11 : Hid (∀ b, (Value.slice (some ⟨gg11, 0, none⟩) (ma ++ [y']).length cap11).ownBlock = some b → wo.heap.size ≤ b) := fun b hb => by
                have e : gg11 = b := by simpa [Value.ownBlock] using hb
                subst e
                rcases hat11 with h | h
                · exact ham.out _ h
                · omega
              have hlen1 : (ga ++ [x]).length = ga.length + 1 := by simp
              have hlen2 : (ma ++ [y']).length = ma.length + 1 := by simp
              have hwl2 : wo.heap.size < w11.heap.size := by omega
              clear O10 P10 M10 S10 b10 ho11 hg11 hat11 A9 ham hlo hlp
              go_roundw
              all_goals first | exact ⟨_, _, ga ++ [x], _, _, ma ++ [y'], z' - 1, (by rw [List.length_append, List.length_singleton]), (by rw [List.length_append, List.length_singleton]), rfl, by omega, by omega, by omega, O11, P11, A11, B11, M11, S11, b11, hwl2⟩ | exact ⟨⟨_, _, ga ++ [x], _, _, ma ++ [y'], z' - 1, (by rw [List.length_append, List.length_singleton]), (by rw [List.length_append, List.length_singleton]), rfl, by omega, by omega, by omega, O11, P11, A11, B11, M11, S11, b11, hwl2⟩, by simp [intOf]; omega⟩ | (simp [intOf]; omega)
            · go_wp2_with fail
              refine (pick_any gs _ 16 _ hSr.out (by omega) (by omega)).mono ?_
              rintro r w8 ⟨x, rfl, x0, x1, hs8, hg8⟩
              have O8 := hid (own_src hOg.out hg8 (Nat.lt_succ_self gs))
              have P8 := hid (own_src hOm.out hg8 (Nat.lt_succ_self gs))
              have M8 := hid (hMt.out.src hg8)
              have S8 := hid hs8
              have b8 := below_src hb hg8 (by omega) (by omega)
              have zw8 := hg8.size
              have hlo := O8.out.lt
              have hlp := P8.out.lt
              clear hOg hOm hMt hSr hb hs8 hg8 x1
              by_cases q0 : x = 0
              · subst q0
                go_wp2_with (at_builtin; refine wpList_append_lies _ rfl _ _ 35 rfl (gs + 1) 2 i0 (.int .i64 0) 1 8 Try.underlying35 hi hz0 hz1 hz2 rfl (by omega) (.slice Ag ga.length cg) ga.length (ga.flatMap encI) rfl (O8.out.alloc _) ⟨w8.heap.size, 0, none⟩ 1 1 [.int .i64 5] rfl rfl (World.news_of_block (cs := #[.int .i64 5]) (t := 2) (fr := (0, 0)) (heap_alloc_new _ _)) (by simp [Value.oneCell']) (by omega) (by simp only [maxLen]; omega) (by omega) (by simp; omega) (w8.heap.size + 1) (by simp) ?_; intro gg9 cap9 w9 ho9 hg9 hat9 hlt9)
                have O9 : Hid (w9.ownsRow (gs + 1) 2 1 (.slice (some ⟨gg9, 0, none⟩) (ga ++ [(5 : Int)]).length cap9) (ga ++ [(5 : Int)]).length ((ga ++ [(5 : Int)]).flatMap encI)) := by simpa [Hid, encI] using ho9
                have P9 := hid (own_apart (ow_alloc (o := .cells #[.int .i64 5] 2) P8.out) hg9 (fun b hb => (hag.out b hb).2))
                have M9 := hid ((M8.out.alloc (.cells #[.int .i64 5] 2)).far hg9 HT.out HR.out (fun b hb => (hag.out b hb).1))
                have b9 := grown_below (b8.alloc (by omega) (.cells #[.int .i64 5] 2)) hg9 (by simp; omega) (fun b hb => by have := (hlo b hb).1; omega)
                have hlen1 : (ga ++ [(5 : Int)]).length = ga.length + 1 := by simp
                have t9 : totT ts ≤ 81 := by have := totT_of ts hN.out; omega
                have RT := hid M9.out.slT
                have RG := hid (own_sl encI_len (by omega) O9.out)
                have RM := hid (own_sl encI_len (by omega) P9.out)
                have ha9 : ts.length ≤ 9 := by omega
                clear O8 P8 M8 S8 b8 ho9 hg9 hat9 hlo hlp hag ham O9 P9 M9 hN
                go_ret3
                exact ⟨A, c, ts, some ⟨gg9, 0, none⟩, cap9, ga ++ [5], Am, cm, ma, by rw [List.length_append, List.length_singleton]; rfl, ha9, t9, by omega, by omega, RT, RG, RM, b9.mono hgs2⟩
              · have nq0 : (x == 0) = false := by rw [beq_eq_false_iff_ne]; exact q0
                by_cases q1 : x = 1
                · subst q1
                  by_cases hm0 : 0 < m
                  · obtain ⟨gm, rfl, hgm, _⟩ := own_some P8.out (by omega : 0 < ma.length)
                    have hd := l23DrawMetres_any gs _ w8 S8.out (by omega)
                    clear S8
                    go_wp2_with fail
                    refine hd.mono ?_
                    rintro r w9 ⟨xm, rfl, hs9, hg9⟩
                    have O9 := hid (own_src O8.out hg9 (Nat.lt_succ_self gs))
                    have P9 := own_src P8.out hg9 (Nat.lt_succ_self gs)
                    have M9 := hid (M8.out.src hg9)
                    have b9 := below_src b8 hg9 (by omega) (by omega)
                    obtain ⟨⟨u, e0⟩, f0⟩ := own_at P9 (Below.refl _ _) 0 (by omega)
                    have hst := (P9.stored 0 (.int .i64 xm)).1
                    have hsg := (P9.stored 0 (.int .i64 xm)).2
                    rw [← set_encI'] at hst
                    have P10 : Hid (Sl (w9.setCell ⟨gm, 0, none⟩ (.int .i64 xm)) (w9.setCell ⟨gm, 0, none⟩ (.int .i64 xm)).heap.size 1 encI (some ⟨gm, 0, none⟩) (ma.set 0 xm).length (ma.set 0 xm)) := by
                      have := own_sl encI_len (by omega) hst
                      rw [List.length_set]; exact this
                    have O10 := hid (own_sl encI_len (by omega) (own_apart O9.out hsg (fun b hb e => (hag.out b e).2 hb)))
                    have M10 := hid (M9.out.far hsg HT.out HR.out (fun b hb => ham.out b hb)).slT
                    have b10 := bl_set (p := ⟨gm, 0, none⟩) (u := .int .i64 xm) (by simp only; omega) b9
                    have t9 : totT ts ≤ 81 := by have := totT_of ts hN.out; omega
                    have ha9 : ts.length ≤ 9 := by omega
                    clear O8 P8 M8 b8 hs9 hg9 hlo hlp hag ham O9 P9 M9 hN hst hsg hd b9
                    go_wp2_with fail
                    go_ret3
                    exact ⟨A, c, ts, Ag, cg, ga, some ⟨gm, 0, none⟩, cm, ma.set 0 xm, by rw [List.length_set]; rfl, ha9, t9, by omega, by rw [List.length_set]; omega, M10, O10, P10, b10.mono hgs2⟩
                  · have t9 : totT ts ≤ 81 := by have := totT_of ts hN.out; omega
                    have RT := hid M8.out.slT
                    have RG := hid (own_sl encI_len (by omega) O8.out)
                    have RM := hid (own_sl encI_len (by omega) P8.out)
                    have ha9 : ts.length ≤ 9 := by omega
                    clear O8 P8 M8 S8 hlo hlp hag ham hN
                    go_wp2_with fail
                    go_ret3
                    exact ⟨_, _, ts, _, _, ga, _, _, ma, rfl, ha9, t9, by omega, by omega, RT, RG, RM, b8.mono hgs2⟩
                · have nq1 : (x == 1) = false := by rw [beq_eq_false_iff_ne]; exact q1
                  have t9 : totT ts ≤ 81 := by have := totT_of ts hN.out; omega
                  have RT := hid M8.out.slT
                  have RG := hid (own_sl encI_len (by omega) O8.out)
                  have RM := hid (own_sl encI_len (by omega) P8.out)
                  have ha9 : ts.length ≤ 9 := by omega
                  clear O8 P8 M8 S8 hlo hlp hag ham hN
                  go_wp2_with fail
                  go_ret3
                  exact ⟨_, _, ts, _, _, ga, _, _, ma, rfl, ha9, t9, by omega, by omega, RT, RG, RM, b8.mono hgs2⟩
  | false =>
    go_wp2_with fail
    go_loopw [6, 8] (fun vl vk wl => ∃ (A : Option Addr) (c : Nat) (ts : List TRow) (z : Int), vl = .slice A ts.length c ∧ vk = .int .i64 z ∧ 0 ≤ z ∧ z + ts.length ≤ 9 ∧ Hid (∀ r ∈ ts, r.n ≤ 9) ∧ Hid (MadeT wl gs A c ts) ∧ Hid (SrcAt wl gs (6 + 90 * ts.length)) ∧ Below gs w wl ∧ gs < wl.heap.size) (fun _ vk _ => (intOf vk).toNat)
    case atStart => exact ⟨_, _, [], n, rfl, rfl, by omega, by simp; omega, hid (fun r hr => by simp at hr), M3, hid (S3.out.mono (by simp)), b3, l3⟩
    case round =>
      clear M3 S3 b3 l3
      obtain ⟨A, c, ts, z, rfl, rfl, z0, z1, hN, hM, hSr, hb, hgl⟩ := hrel
      by_cases hz : 0 < z
      · go_wp2_with fail
        refine (one_any gs _ 8 _ hSr.out (by omega) (by omega)).mono ?_
        rintro r w2 ⟨b, rfl, hs2, hg2⟩
        have z12 := hg2.size
        cases b with
        | true =>
          have hd := l23Bent_any gs _ w2 hs2 (by omega)
          clear hs2
          go_wp2_with fail
          refine hd.mono ?_
          rintro r w3 ⟨A', c', xs, hh, ee, rfl, _, h9, hO, hS, hG⟩
          clear hd
          have hrow := hO.mono (show gs + 1 ≤ _ by omega)
          have HM := hid (hM.out.src hg2)
          have HM2 := hid (HM.out.src hG)
          have HMa := hid (HM2.out.alloc (.cells #[.slice A' xs.length c', .int .i64 hh, .int .i64 ee] 30))
          have htop := HM.out.top.lt
          have hnew : ∀ b, (Value.slice A' xs.length c').ownBlock = some b → (Value.slice A ts.length c).ownBlock ≠ some b := fun b hb e => by
            have h1 := (hO.lt b hb).1
            have h2 := (htop b e).2
            omega
          have S3 := hid (hS.alloc (.cells #[.slice A' xs.length c', .int .i64 hh, .int .i64 ee] 30))
          have b3 := (below_src (below_src hb hg2 (by omega) (by omega)) hG (by omega) (by omega)).alloc (by have := hG.size; omega) (.cells #[.slice A' xs.length c', .int .i64 hh, .int .i64 ee] 30)
          have hlo := HMa.out.top.lt
          have ROW := hid (hrow.alloc (.cells #[.slice A' xs.length c', .int .i64 hh, .int .i64 ee] 30))
          have HNEW := hid hnew
          have z23 := hG.size
          clear hM hSr hG hg2 hS hO HM HM2 hrow hnew htop hb
          go_wp2_with (at_builtin; refine wpList_append_lies _ rfl _ _ 39 rfl (gs + 1) 30 i1 (.agg #[.slice none 0 0, .int .i64 0, .int .i64 0]) 3 40 Try.underlying39 hi1 hy0 hy1 hy2 rfl (by omega) (.slice A ts.length c) ts.length (ts.flatMap encTR) rfl HMa.out.top ⟨w3.heap.size, 0, none⟩ 1 1 [.slice A' xs.length c', .int .i64 hh, .int .i64 ee] rfl rfl (World.news_of_block (cs := #[.slice A' xs.length c', .int .i64 hh, .int .i64 ee]) (t := 30) (fr := (0, 0)) (heap_alloc_new _ _)) (by simp [Value.oneCell']) (by omega) (by simp only [maxLen]; omega) (by omega) (by simp; omega) (w3.heap.size + 1) (by simp) ?_; intro gg cap w4 ho4 hg4 hat4 hlt4)
          have hM4 := hid (HMa.out.snoc (r := ⟨A', xs.length, c', xs, hh, ee⟩) (by simpa [encTR] using ho4) hg4 (hat4.imp id (fun e => by simp; omega)) ROW.out HNEW.out)
          have S4 := hid ((S3.out.grown hg4 (fun b hb => by have := (hlo b hb).1; omega)).mono (show _ ≤ 6 + 90 * (ts ++ [(⟨A', xs.length, c', xs, hh, ee⟩ : TRow)]).length by simp; omega))
          have b4 := grown_below b3 hg4 (by simp; omega) (fun b hb => by have := (hlo b hb).1; omega)
          have N4 : Hid (∀ r ∈ ts ++ [(⟨A', xs.length, c', xs, hh, ee⟩ : TRow)], r.n ≤ 9) := fun r hr => by
            rcases List.mem_append.1 hr with hr | hr
            · exact hN.out r hr
            · obtain rfl := List.mem_singleton.1 hr
              exact h9
          have hl4 := S4.out.lt
          clear HMa S3 b3 ho4 hg4 ROW HNEW hlo hN
          go_roundw
          all_goals first | exact ⟨_, _, ts ++ [⟨A', xs.length, c', xs, hh, ee⟩], z - 1, (by rw [List.length_append, List.length_singleton]), rfl, by omega, (by rw [List.length_append, List.length_singleton]; omega), N4, hM4, S4, b4, hl4⟩ | exact ⟨⟨_, _, ts ++ [⟨A', xs.length, c', xs, hh, ee⟩], z - 1, (by rw [List.length_append, List.length_singleton]), rfl, by omega, (by rw [List.length_append, List.length_singleton]; omega), N4, hM4, S4, b4, hl4⟩, by simp [intOf]; omega⟩ | (simp [intOf]; omega)
        | false =>
          have hd := l23Draw_any gs _ w2 hs2 (by omega)
          clear hs2
          go_wp2_with fail
          refine hd.mono ?_
          rintro r w3 ⟨A', c', xs, hh, ee, rfl, _, h9, hO, hS, hG⟩
          clear hd
          have hrow := hO.mono (show gs + 1 ≤ _ by omega)
          have HM := hid (hM.out.src hg2)
          have HM2 := hid (HM.out.src hG)
          have HMa := hid (HM2.out.alloc (.cells #[.slice A' xs.length c', .int .i64 hh, .int .i64 ee] 30))
          have htop := HM.out.top.lt
          have hnew : ∀ b, (Value.slice A' xs.length c').ownBlock = some b → (Value.slice A ts.length c).ownBlock ≠ some b := fun b hb e => by
            have h1 := (hO.lt b hb).1
            have h2 := (htop b e).2
            omega
          have S3 := hid (hS.alloc (.cells #[.slice A' xs.length c', .int .i64 hh, .int .i64 ee] 30))
          have b3 := (below_src (below_src hb hg2 (by omega) (by omega)) hG (by omega) (by omega)).alloc (by have := hG.size; omega) (.cells #[.slice A' xs.length c', .int .i64 hh, .int .i64 ee] 30)
          have hlo := HMa.out.top.lt
          have ROW := hid (hrow.alloc (.cells #[.slice A' xs.length c', .int .i64 hh, .int .i64 ee] 30))
          have HNEW := hid hnew
          have z23 := hG.size
          clear hM hSr hG hg2 hS hO HM HM2 hrow hnew htop hb
          go_wp2_with (at_builtin; refine wpList_append_lies _ rfl _ _ 39 rfl (gs + 1) 30 i1 (.agg #[.slice none 0 0, .int .i64 0, .int .i64 0]) 3 40 Try.underlying39 hi1 hy0 hy1 hy2 rfl (by omega) (.slice A ts.length c) ts.length (ts.flatMap encTR) rfl HMa.out.top ⟨w3.heap.size, 0, none⟩ 1 1 [.slice A' xs.length c', .int .i64 hh, .int .i64 ee] rfl rfl (World.news_of_block (cs := #[.slice A' xs.length c', .int .i64 hh, .int .i64 ee]) (t := 30) (fr := (0, 0)) (heap_alloc_new _ _)) (by simp [Value.oneCell']) (by omega) (by simp only [maxLen]; omega) (by omega) (by simp; omega) (w3.heap.size + 1) (by simp) ?_; intro gg cap w4 ho4 hg4 hat4 hlt4)
          have hM4 := hid (HMa.out.snoc (r := ⟨A', xs.length, c', xs, hh, ee⟩) (by simpa [encTR] using ho4) hg4 (hat4.imp id (fun e => by simp; omega)) ROW.out HNEW.out)
          have S4 := hid ((S3.out.grown hg4 (fun b hb => by have := (hlo b hb).1; omega)).mono (show _ ≤ 6 + 90 * (ts ++ [(⟨A', xs.length, c', xs, hh, ee⟩ : TRow)]).length by simp; omega))
          have b4 := grown_below b3 hg4 (by simp; omega) (fun b hb => by have := (hlo b hb).1; omega)
          have N4 : Hid (∀ r ∈ ts ++ [(⟨A', xs.length, c', xs, hh, ee⟩ : TRow)], r.n ≤ 9) := fun r hr => by
            rcases List.mem_append.1 hr with hr | hr
            · exact hN.out r hr
            · obtain rfl := List.mem_singleton.1 hr
              exact h9
          have hl4 := S4.out.lt
          clear HMa S3 b3 ho4 hg4 ROW HNEW hlo hN
          go_roundw
          all_goals first | exact ⟨_, _, ts ++ [⟨A', xs.length, c', xs, hh, ee⟩], z - 1, (by rw [List.length_append, List.length_singleton]), rfl, by omega, (by rw [List.length_append, List.length_singleton]; omega), N4, hM4, S4, b4, hl4⟩ | exact ⟨⟨_, _, ts ++ [⟨A', xs.length, c', xs, hh, ee⟩], z - 1, (by rw [List.length_append, List.length_singleton]), rfl, by omega, (by rw [List.length_append, List.length_singleton]; omega), N4, hM4, S4, b4, hl4⟩, by simp [intOf]; omega⟩ | (simp [intOf]; omega)
      · skip
        have hz0' : z = 0 := by omega
        have htop := hM.out.top.lt
        have hrows := fun r (hr : r ∈ ts) => (hM.out.row r hr).lt
        obtain ⟨wo, rfl⟩ : ∃ wo : World, wo = wr := ⟨_, rfl⟩
        have og : (wo.alloc (.cells #[] 2)).ownsRow (gs + 1) 2 1 (.slice (some ⟨wo.heap.size, 0, none⟩) 0 0) 0 [] := World.ownsRow_lit wo #[] 0 (by omega) (by simp only [maxLen]; omega) rfl
        have om : ((wo.alloc (.cells #[] 2)).alloc (.cells #[] 2)).ownsRow (gs + 1) 2 1 (.slice (some ⟨wo.heap.size + 1, 0, none⟩) 0 0) 0 [] := by
          have := World.ownsRow_lit (base := gs + 1) (e := 2) (size := 1) (wo.alloc (.cells #[] 2)) #[] 0 (by simp; omega) (by simp only [maxLen]; omega) rfl
          simpa using this
        have HT := hid (fun b (hb : (Value.slice A ts.length c).ownBlock = some b) => (htop b hb).2)
        have HR := hid (fun r (hr : r ∈ ts) b (hb : (Value.slice r.A r.n r.c).ownBlock = some b) => (hrows r hr b hb).2)
        have OG := hid (og.alloc (.cells #[] 2))
        have OM := hid om
        have MT := hid ((hM.out.alloc (.cells #[] 2)).alloc (.cells #[] 2))
        have SR := hid ((hSr.out.alloc (.cells #[] 2)).alloc (.cells #[] 2))
        have bw := (hb.alloc (by omega) (.cells #[] 2)).alloc (by simp; omega) (.cells #[] 2)
        clear og om htop hrows hM hSr hb
        go_wp2_with fail
        refine (pick_any gs _ 6 _ SR.out (by omega) (by omega)).mono ?_
        rintro r w5 ⟨m, rfl, m0, m1, hs5, hg5⟩
        have OG5 := hid (own_src OG.out hg5 (Nat.lt_succ_self gs))
        have OM5 := hid (own_src OM.out hg5 (Nat.lt_succ_self gs))
        have MT5 := hid (MT.out.src hg5)
        have SR5 := hid hs5
        have b5 := below_src bw hg5 (by omega) (by simp; omega)
        have m5 : m ≤ 5 := by omega
        have zs5 : wo.heap.size + 2 ≤ w5.heap.size := by have := hg5.size; simp at this; omega
        clear OG OM MT SR bw hs5 hg5 m1
        go_wp2_with fail
        refine (one_any gs _ 20 _ SR5.out (by omega) (by omega)).mono ?_
        rintro r w6 ⟨b, rfl, hs6, hg6⟩
        have OG6 := hid (own_src OG5.out hg6 (Nat.lt_succ_self gs))
        have OM6 := hid (own_src OM5.out hg6 (Nat.lt_succ_self gs))
        have MT6 := hid (MT5.out.src hg6)
        have SR6 := hid hs6
        have b6 := below_src b5 hg6 (by omega) (by omega)
        have zs6 : wo.heap.size + 2 ≤ w6.heap.size := by have := hg6.size; omega
        clear OG5 OM5 MT5 SR5 b5 hs6 hg6
        cases b with
        | true =>
          go_wp2_with fail
          refine (pick_any gs _ 2 _ SR6.out (by omega) (by omega)).mono ?_
          rintro r w7 ⟨y, rfl, y0, y1, hs7, hg7⟩
          have OG7 := hid (own_src OG6.out hg7 (Nat.lt_succ_self gs))
          have OM7 := hid (own_src OM6.out hg7 (Nat.lt_succ_self gs))
          have MT7 := hid (MT6.out.src hg7)
          have SR7 := hid hs7
          have b7 := below_src b6 hg7 (by omega) (by omega)
          have zs7 : wo.heap.size + 2 ≤ w7.heap.size := by have := hg7.size; omega
          have y1' : y ≤ 1 := by omega
          clear OG6 OM6 MT6 SR6 b6 hs7 hg7 y1
          go_wp2_with fail
          go_loopw [9, 10, 12] (fun vg vm vk wl => ∃ (Ag : Option Addr) (cg : Nat) (ga : List Int) (Am : Option Addr) (cm : Nat) (ma : List Int) (z : Int), vg = .slice Ag ga.length cg ∧ vm = .slice Am ma.length cm ∧ vk = .int .i64 z ∧ 0 ≤ z ∧ z + ga.length = (40 + y) ∧ ma.length = ga.length ∧
            Hid (wl.ownsRow (gs + 1) 2 1 (.slice Ag ga.length cg) ga.length (ga.flatMap encI)) ∧ Hid (wl.ownsRow (gs + 1) 2 1 (.slice Am ma.length cm) ma.length (ma.flatMap encI)) ∧ Hid (∀ b, (Value.slice Ag ga.length cg).ownBlock = some b → wo.heap.size ≤ b ∧ (Value.slice Am ma.length cm).ownBlock ≠ some b) ∧ Hid (∀ b, (Value.slice Am ma.length cm).ownBlock = some b → wo.heap.size ≤ b) ∧ Hid (MadeT wl gs A c ts) ∧ Hid (SrcAt wl gs (2000 + 10 * ga.length)) ∧ Below gs w wl ∧ wo.heap.size < wl.heap.size) (fun _ _ vk _ => (intOf vk).toNat)
          case atStart => exact ⟨_, _, [], _, _, [], (40 + y), rfl, rfl, rfl, by omega, by simp, rfl, OG7, OM7, hid (fun b hb => by simp [Value.ownBlock] at hb ⊢; omega), hid (fun b hb => by simp [Value.ownBlock] at hb; omega), MT7, hid (SR7.out.mono (by simp; omega)), b7, by omega⟩
          case round =>
            clear OG7 OM7 MT7 SR7 b7
            obtain ⟨Ag, cg, ga, Am, cm, ma, z', rfl, rfl, rfl, z0', z1', hml, hOg, hOm, hag, ham, hMt, hSr, hb, hwl⟩ := hrel
            have gl : ga.length ≤ 41 := by omega
            have ml1 : ma.length ≤ ga.length := by omega
            have ml2 : ga.length ≤ ma.length := by omega
            have z1a : z' + ga.length ≤ (40 + y) := by omega
            have z1b : (40 + y) ≤ z' + ga.length := by omega
            clear hml z1'
            by_cases hz' : 0 < z'
            · go_wp2_with fail
              refine (pick_any gs _ 300 _ hSr.out (by omega) (by omega)).mono ?_
              rintro r w8 ⟨x, rfl, x0, x1, hs8, hg8⟩
              have O8 := hid (own_src hOg.out hg8 (Nat.lt_succ_self gs))
              have P8 := hid (own_src hOm.out hg8 (Nat.lt_succ_self gs))
              have M8 := hid (hMt.out.src hg8)
              have S8 := hid hs8
              have b8 := below_src hb hg8 (by omega) (by omega)
              have zw8 := hg8.size
              have hlo := O8.out.lt
              have hlp := P8.out.lt
              clear hOg hOm hMt hSr hb hs8 hg8 x1
              go_wp2_with (at_builtin; refine wpList_append_lies _ rfl _ _ 35 rfl (gs + 1) 2 i0 (.int .i64 0) 1 8 Try.underlying35 hi hz0 hz1 hz2 rfl (by omega) (.slice Ag ga.length cg) ga.length (ga.flatMap encI) rfl (O8.out.alloc _) ⟨w8.heap.size, 0, none⟩ 1 1 [.int .i64 x] rfl rfl (World.news_of_block (cs := #[.int .i64 x]) (t := 2) (fr := (0, 0)) (heap_alloc_new _ _)) (by simp [Value.oneCell']) (by omega) (by simp only [maxLen]; omega) (by omega) (by simp; omega) (w8.heap.size + 1) (by simp) ?_; intro gg9 cap9 w9 ho9 hg9 hat9 hlt9)
              have O9 : Hid (w9.ownsRow (gs + 1) 2 1 (.slice (some ⟨gg9, 0, none⟩) (ga ++ [x]).length cap9) (ga ++ [x]).length ((ga ++ [x]).flatMap encI)) := by simpa [Hid, encI] using ho9
              have P9 := hid (own_apart (ow_alloc (o := .cells #[.int .i64 x] 2) P8.out) hg9 (fun b hb => (hag.out b hb).2))
              have M9 := hid ((M8.out.alloc (.cells #[.int .i64 x] 2)).far hg9 HT.out HR.out (fun b hb => (hag.out b hb).1))
              have S9 := hid ((S8.out.alloc (.cells #[.int .i64 x] 2)).grown hg9 (fun b hb => by have := (hlo b hb).1; omega))
              have b9 := grown_below (b8.alloc (by omega) (.cells #[.int .i64 x] 2)) hg9 (by simp; omega) (fun b hb => by have := (hlo b hb).1; omega)
              have zw9 := hg9.size
              rw [World.size_alloc] at zw9
              have A9 : Hid (wo.heap.size ≤ gg9 ∧ (Value.slice Am ma.length cm).ownBlock ≠ some gg9) := by
                rcases hat9 with h | h
                · exact hag.out _ h
                · exact ⟨by omega, fun e => by have := (hlp _ e).2; omega⟩
              clear O8 P8 M8 S8 b8 ho9 hg9 hat9 hlo hlp hag
              refine (pick_any gs _ 900 _ S9.out (by omega) (by omega)).mono ?_
              rintro r w10 ⟨y', rfl, y0', y1', hs10, hg10⟩
              have O10 := hid (own_src O9.out hg10 (Nat.lt_succ_self gs))
              have P10 := hid (own_src P9.out hg10 (Nat.lt_succ_self gs))
              have M10 := hid (M9.out.src hg10)
              have S10 := hid hs10
              have b10 := below_src b9 hg10 (by omega) (by omega)
              have zw10 := hg10.size
              have hlp := P10.out.lt
              have hlo := O10.out.lt
              clear O9 P9 M9 S9 b9 hs10 hg10 y1'
              go_wp2_with (at_builtin; refine wpList_append_lies _ rfl _ _ 35 rfl (gs + 1) 2 i0 (.int .i64 0) 1 8 Try.underlying35 hi hz0 hz1 hz2 rfl (by omega) (.slice Am ma.length cm) ma.length (ma.flatMap encI) rfl (P10.out.alloc _) ⟨w10.heap.size, 0, none⟩ 1 1 [.int .i64 y'] rfl rfl (World.news_of_block (cs := #[.int .i64 y']) (t := 2) (fr := (0, 0)) (heap_alloc_new _ _)) (by simp [Value.oneCell']) (by omega) (by simp only [maxLen]; omega) (by omega) (by simp; omega) (w10.heap.size + 1) (by simp) ?_; intro gg11 cap11 w11 ho11 hg11 hat11 hlt11)
              have P11 : Hid (w11.ownsRow (gs + 1) 2 1 (.slice (some ⟨gg11, 0, none⟩) (ma ++ [y']).length cap11) (ma ++ [y']).length ((ma ++ [y']).flatMap encI)) := by simpa [Hid, encI] using ho11
              have O11 := hid (own_apart (ow_alloc (o := .cells #[.int .i64 y'] 2) O10.out) hg11 (fun b hb e => by
                have e2 : gg9 = b := by simpa [Value.ownBlock] using e
                exact A9.out.2 (by rw [e2]; exact hb)))
              have M11 := hid ((M10.out.alloc (.cells #[.int .i64 y'] 2)).far hg11 HT.out HR.out (fun b hb => ham.out b hb))
              have S11 := hid (((S10.out.alloc (.cells #[.int .i64 y'] 2)).grown hg11 (fun b hb => by have := (hlp b hb).1; omega)).mono (show _ ≤ 2000 + 10 * (ga ++ [x]).length by simp; omega))
              have b11 := grown_below (b10.alloc (by omega) (.cells #[.int .i64 y'] 2)) hg11 (by simp; omega) (fun b hb => by have := (hlp b hb).1; omega)
              have zw11 := hg11.size
              rw [World.size_alloc] at zw11
              have hg9' := (hlo gg9 rfl).2
              have A11 : Hid (∀ b, (Value.slice (some ⟨gg9, 0, none⟩) (ga ++ [x]).length cap9).ownBlock = some b → wo.heap.size ≤ b ∧ (Value.slice (some ⟨gg11, 0, none⟩) (ma ++ [y']).length cap11).ownBlock ≠ some b) := fun b hb => by
                have e : gg9 = b := by simpa [Value.ownBlock] using hb
                subst e
                refine ⟨A9.out.1, fun e => ?_⟩
                have e2 : gg11 = gg9 := by simpa [Value.ownBlock] using e
                rcases hat11 with h | h
                · rw [e2] at h; exact A9.out.2 h
                · omega
              have B11 : Hid (∀ b, (Value.slice (some ⟨gg11, 0, none⟩) (ma ++ [y']).length cap11).ownBlock = some b → wo.heap.size ≤ b) := fun b hb => by
                have e : gg11 = b := by simpa [Value.ownBlock] using hb
                subst e
                rcases hat11 with h | h
                · exact ham.out _ h
                · omega
              have hlen1 : (ga ++ [x]).length = ga.length + 1 := by simp
              have hlen2 : (ma ++ [y']).length = ma.length + 1 := by simp
              have hwl2 : wo.heap.size < w11.heap.size := by omega
              clear O10 P10 M10 S10 b10 ho11 hg11 hat11 A9 ham hlo hlp
              go_roundw
              all_goals first | exact ⟨_, _, ga ++ [x], _, _, ma ++ [y'], z' - 1, (by rw [List.length_append, List.length_singleton]), (by rw [List.length_append, List.length_singleton]), rfl, by omega, by omega, by omega, O11, P11, A11, B11, M11, S11, b11, hwl2⟩ | exact ⟨⟨_, _, ga ++ [x], _, _, ma ++ [y'], z' - 1, (by rw [List.length_append, List.length_singleton]), (by rw [List.length_append, List.length_singleton]), rfl, by omega, by omega, by omega, O11, P11, A11, B11, M11, S11, b11, hwl2⟩, by simp [intOf]; omega⟩ | (simp [intOf]; omega)
            · go_wp2_with fail
              refine (pick_any gs _ 16 _ hSr.out (by omega) (by omega)).mono ?_
              rintro r w8 ⟨x, rfl, x0, x1, hs8, hg8⟩
              have O8 := hid (own_src hOg.out hg8 (Nat.lt_succ_self gs))
              have P8 := hid (own_src hOm.out hg8 (Nat.lt_succ_self gs))
              have M8 := hid (hMt.out.src hg8)
              have S8 := hid hs8
              have b8 := below_src hb hg8 (by omega) (by omega)
              have zw8 := hg8.size
              have hlo := O8.out.lt
              have hlp := P8.out.lt
              clear hOg hOm hMt hSr hb hs8 hg8 x1
              by_cases q0 : x = 0
              · subst q0
                go_wp2_with (at_builtin; refine wpList_append_lies _ rfl _ _ 35 rfl (gs + 1) 2 i0 (.int .i64 0) 1 8 Try.underlying35 hi hz0 hz1 hz2 rfl (by omega) (.slice Ag ga.length cg) ga.length (ga.flatMap encI) rfl (O8.out.alloc _) ⟨w8.heap.size, 0, none⟩ 1 1 [.int .i64 5] rfl rfl (World.news_of_block (cs := #[.int .i64 5]) (t := 2) (fr := (0, 0)) (heap_alloc_new _ _)) (by simp [Value.oneCell']) (by omega) (by simp only [maxLen]; omega) (by omega) (by simp; omega) (w8.heap.size + 1) (by simp) ?_; intro gg9 cap9 w9 ho9 hg9 hat9 hlt9)
                have O9 : Hid (w9.ownsRow (gs + 1) 2 1 (.slice (some ⟨gg9, 0, none⟩) (ga ++ [(5 : Int)]).length cap9) (ga ++ [(5 : Int)]).length ((ga ++ [(5 : Int)]).flatMap encI)) := by simpa [Hid, encI] using ho9
                have P9 := hid (own_apart (ow_alloc (o := .cells #[.int .i64 5] 2) P8.out) hg9 (fun b hb => (hag.out b hb).2))
                have M9 := hid ((M8.out.alloc (.cells #[.int .i64 5] 2)).far hg9 HT.out HR.out (fun b hb => (hag.out b hb).1))
                have b9 := grown_below (b8.alloc (by omega) (.cells #[.int .i64 5] 2)) hg9 (by simp; omega) (fun b hb => by have := (hlo b hb).1; omega)
                have hlen1 : (ga ++ [(5 : Int)]).length = ga.length + 1 := by simp
                have t9 : totT ts ≤ 81 := by have := totT_of ts hN.out; omega
                have RT := hid M9.out.slT
                have RG := hid (own_sl encI_len (by omega) O9.out)
                have RM := hid (own_sl encI_len (by omega) P9.out)
                have ha9 : ts.length ≤ 9 := by omega
                clear O8 P8 M8 S8 b8 ho9 hg9 hat9 hlo hlp hag ham O9 P9 M9 hN
                go_ret3
                exact ⟨A, c, ts, some ⟨gg9, 0, none⟩, cap9, ga ++ [5], Am, cm, ma, by rw [List.length_append, List.length_singleton]; rfl, ha9, t9, by omega, by omega, RT, RG, RM, b9.mono hgs2⟩
              · have nq0 : (x == 0) = false := by rw [beq_eq_false_iff_ne]; exact q0
                by_cases q1 : x = 1
                · subst q1
                  by_cases hm0 : 0 < (40 + y)
                  · obtain ⟨gm, rfl, hgm, _⟩ := own_some P8.out (by omega : 0 < ma.length)
                    have hd := l23DrawMetres_any gs _ w8 S8.out (by omega)
                    clear S8
                    go_wp2_with fail
                    refine hd.mono ?_
                    rintro r w9 ⟨xm, rfl, hs9, hg9⟩
                    have O9 := hid (own_src O8.out hg9 (Nat.lt_succ_self gs))
                    have P9 := own_src P8.out hg9 (Nat.lt_succ_self gs)
                    have M9 := hid (M8.out.src hg9)
                    have b9 := below_src b8 hg9 (by omega) (by omega)
                    obtain ⟨⟨u, e0⟩, f0⟩ := own_at P9 (Below.refl _ _) 0 (by omega)
                    have hst := (P9.stored 0 (.int .i64 xm)).1
                    have hsg := (P9.stored 0 (.int .i64 xm)).2
                    rw [← set_encI'] at hst
                    have P10 : Hid (Sl (w9.setCell ⟨gm, 0, none⟩ (.int .i64 xm)) (w9.setCell ⟨gm, 0, none⟩ (.int .i64 xm)).heap.size 1 encI (some ⟨gm, 0, none⟩) (ma.set 0 xm).length (ma.set 0 xm)) := by
                      have := own_sl encI_len (by omega) hst
                      rw [List.length_set]; exact this
                    have O10 := hid (own_sl encI_len (by omega) (own_apart O9.out hsg (fun b hb e => (hag.out b e).2 hb)))
                    have M10 := hid (M9.out.far hsg HT.out HR.out (fun b hb => ham.out b hb)).slT
                    have b10 := bl_set (p := ⟨gm, 0, none⟩) (u := .int .i64 xm) (by simp only; omega) b9
                    have t9 : totT ts ≤ 81 := by have := totT_of ts hN.out; omega
                    have ha9 : ts.length ≤ 9 := by omega
                    clear O8 P8 M8 b8 hs9 hg9 hlo hlp hag ham O9 P9 M9 hN hst hsg hd b9
                    go_wp2_with fail
                    go_ret3
                    exact ⟨A, c, ts, Ag, cg, ga, some ⟨gm, 0, none⟩, cm, ma.set 0 xm, by rw [List.length_set]; rfl, ha9, t9, by omega, by rw [List.length_set]; omega, M10, O10, P10, b10.mono hgs2⟩
                  · exfalso; omega
                · have nq1 : (x == 1) = false := by rw [beq_eq_false_iff_ne]; exact q1
                  have t9 : totT ts ≤ 81 := by have := totT_of ts hN.out; omega
                  have RT := hid M8.out.slT
                  have RG := hid (own_sl encI_len (by omega) O8.out)
                  have RM := hid (own_sl encI_len (by omega) P8.out)
                  have ha9 : ts.length ≤ 9 := by omega
                  clear O8 P8 M8 S8 hlo hlp hag ham hN
                  go_wp2_with fail
                  go_ret3
                  exact ⟨_, _, ts, _, _, ga, _, _, ma, rfl, ha9, t9, by omega, by omega, RT, RG, RM, b8.mono hgs2⟩
        | false =>
          go_wp2_with fail
          go_loopw [9, 10, 12] (fun vg vm vk wl => ∃ (Ag : Option Addr) (cg : Nat) (ga : List Int) (Am : Option Addr) (cm : Nat) (ma : List Int) (z : Int), vg = .slice Ag ga.length cg ∧ vm = .slice Am ma.length cm ∧ vk = .int .i64 z ∧ 0 ≤ z ∧ z + ga.length = m ∧ ma.length = ga.length ∧
            Hid (wl.ownsRow (gs + 1) 2 1 (.slice Ag ga.length cg) ga.length (ga.flatMap encI)) ∧ Hid (wl.ownsRow (gs + 1) 2 1 (.slice Am ma.length cm) ma.length (ma.flatMap encI)) ∧ Hid (∀ b, (Value.slice Ag ga.length cg).ownBlock = some b → wo.heap.size ≤ b ∧ (Value.slice Am ma.length cm).ownBlock ≠ some b) ∧ Hid (∀ b, (Value.slice Am ma.length cm).ownBlock = some b → wo.heap.size ≤ b) ∧ Hid (MadeT wl gs A c ts) ∧ Hid (SrcAt wl gs (2000 + 10 * ga.length)) ∧ Below gs w wl ∧ wo.heap.size < wl.heap.size) (fun _ _ vk _ => (intOf vk).toNat)
          case atStart => exact ⟨_, _, [], _, _, [], m, rfl, rfl, rfl, by omega, by simp, rfl, OG6, OM6, hid (fun b hb => by simp [Value.ownBlock] at hb ⊢; omega), hid (fun b hb => by simp [Value.ownBlock] at hb; omega), MT6, hid (SR6.out.mono (by simp; omega)), b6, by omega⟩
          case round =>
            clear OG6 OM6 MT6 SR6 b6
            obtain ⟨Ag, cg, ga, Am, cm, ma, z', rfl, rfl, rfl, z0', z1', hml, hOg, hOm, hag, ham, hMt, hSr, hb, hwl⟩ := hrel
            have gl : ga.length ≤ 41 := by omega
            have ml1 : ma.length ≤ ga.length := by omega
            have ml2 : ga.length ≤ ma.length := by omega
            have z1a : z' + ga.length ≤ m := by omega
            have z1b : m ≤ z' + ga.length := by omega
            clear hml z1'
            by_cases hz' : 0 < z'
            · go_wp2_with fail
              refine (pick_any gs _ 300 _ hSr.out (by omega) (by omega)).mono ?_
              rintro r w8 ⟨x, rfl, x0, x1, hs8, hg8⟩
              have O8 := hid (own_src hOg.out hg8 (Nat.lt_succ_self gs))
              have P8 := hid (own_src hOm.out hg8 (Nat.lt_succ_self gs))
              have M8 := hid (hMt.out.src hg8)
              have S8 := hid hs8
              have b8 := below_src hb hg8 (by omega) (by omega)
              have zw8 := hg8.size
              have hlo := O8.out.lt
              have hlp := P8.out.lt
              clear hOg hOm hMt hSr hb hs8 hg8 x1
              go_wp2_with (at_builtin; refine wpList_append_lies _ rfl _ _ 35 rfl (gs + 1) 2 i0 (.int .i64 0) 1 8 Try.underlying35 hi hz0 hz1 hz2 rfl (by omega) (.slice Ag ga.length cg) ga.length (ga.flatMap encI) rfl (O8.out.alloc _) ⟨w8.heap.size, 0, none⟩ 1 1 [.int .i64 x] rfl rfl (World.news_of_block (cs := #[.int .i64 x]) (t := 2) (fr := (0, 0)) (heap_alloc_new _ _)) (by simp [Value.oneCell']) (by omega) (by simp only [maxLen]; omega) (by omega) (by simp; omega) (w8.heap.size + 1) (by simp) ?_; intro gg9 cap9 w9 ho9 hg9 hat9 hlt9)
              have O9 : Hid (w9.ownsRow (gs + 1) 2 1 (.slice (some ⟨gg9, 0, none⟩) (ga ++ [x]).length cap9) (ga ++ [x]).length ((ga ++ [x]).flatMap encI)) := by simpa [Hid, encI] using ho9
              have P9 := hid (own_apart (ow_alloc (o := .cells #[.int .i64 x] 2) P8.out) hg9 (fun b hb => (hag.out b hb).2))
              have M9 := hid ((M8.out.alloc (.cells #[.int .i64 x] 2)).far hg9 HT.out HR.out (fun b hb => (hag.out b hb).1))
              have S9 := hid ((S8.out.alloc (.cells #[.int .i64 x] 2)).grown hg9 (fun b hb => by have := (hlo b hb).1; omega))
              have b9 := grown_below (b8.alloc (by omega) (.cells #[.int .i64 x] 2)) hg9 (by simp; omega) (fun b hb => by have := (hlo b hb).1; omega)
              have zw9 := hg9.size
              rw [World.size_alloc] at zw9
              have A9 : Hid (wo.heap.size ≤ gg9 ∧ (Value.slice Am ma.length cm).ownBlock ≠ some gg9) := by
                rcases hat9 with h | h
                · exact hag.out _ h
                · exact ⟨by omega, fun e => by have := (hlp _ e).2; omega⟩
              clear O8 P8 M8 S8 b8 ho9 hg9 hat9 hlo hlp hag
              refine (pick_any gs _ 900 _ S9.out (by omega) (by omega)).mono ?_
              rintro r w10 ⟨y', rfl, y0', y1', hs10, hg10⟩
              have O10 := hid (own_src O9.out hg10 (Nat.lt_succ_self gs))
              have P10 := hid (own_src P9.out hg10 (Nat.lt_succ_self gs))
              have M10 := hid (M9.out.src hg10)
              have S10 := hid hs10
              have b10 := below_src b9 hg10 (by omega) (by omega)
              have zw10 := hg10.size
              have hlp := P10.out.lt
              have hlo := O10.out.lt
              clear O9 P9 M9 S9 b9 hs10 hg10 y1'
              go_wp2_with (at_builtin; refine wpList_append_lies _ rfl _ _ 35 rfl (gs + 1) 2 i0 (.int .i64 0) 1 8 Try.underlying35 hi hz0 hz1 hz2 rfl (by omega) (.slice Am ma.length cm) ma.length (ma.flatMap encI) rfl (P10.out.alloc _) ⟨w10.heap.size, 0, none⟩ 1 1 [.int .i64 y'] rfl rfl (World.news_of_block (cs := #[.int .i64 y']) (t := 2) (fr := (0, 0)) (heap_alloc_new _ _)) (by simp [Value.oneCell']) (by omega) (by simp only [maxLen]; omega) (by omega) (by simp; omega) (w10.heap.size + 1) (by simp) ?_; intro gg11 cap11 w11 ho11 hg11 hat11 hlt11)
              have P11 : Hid (w11.ownsRow (gs + 1) 2 1 (.slice (some ⟨gg11, 0, none⟩) (ma ++ [y']).length cap11) (ma ++ [y']).length ((ma ++ [y']).flatMap encI)) := by simpa [Hid, encI] using ho11
              have O11 := hid (own_apart (ow_alloc (o := .cells #[.int .i64 y'] 2) O10.out) hg11 (fun b hb e => by
                have e2 : gg9 = b := by simpa [Value.ownBlock] using e
                exact A9.out.2 (by rw [e2]; exact hb)))
              have M11 := hid ((M10.out.alloc (.cells #[.int .i64 y'] 2)).far hg11 HT.out HR.out (fun b hb => ham.out b hb))
              have S11 := hid (((S10.out.alloc (.cells #[.int .i64 y'] 2)).grown hg11 (fun b hb => by have := (hlp b hb).1; omega)).mono (show _ ≤ 2000 + 10 * (ga ++ [x]).length by simp; omega))
              have b11 := grown_below (b10.alloc (by omega) (.cells #[.int .i64 y'] 2)) hg11 (by simp; omega) (fun b hb => by have := (hlp b hb).1; omega)
              have zw11 := hg11.size
              rw [World.size_alloc] at zw11
              have hg9' := (hlo gg9 rfl).2
              have A11 : Hid (∀ b, (Value.slice (some ⟨gg9, 0, none⟩) (ga ++ [x]).length cap9).ownBlock = some b → wo.heap.size ≤ b ∧ (Value.slice (some ⟨gg11, 0, none⟩) (ma ++ [y']).length cap11).ownBlock ≠ some b) := fun b hb => by
                have e : gg9 = b := by simpa [Value.ownBlock] using hb
                subst e
                refine ⟨A9.out.1, fun e => ?_⟩
                have e2 : gg11 = gg9 := by simpa [Value.ownBlock] using e
                rcases hat11 with h | h
                · rw [e2] at h; exact A9.out.2 h
                · omega
              have B11 : Hid (∀ b, (Value.slice (some ⟨gg11, 0, none⟩) (ma ++ [y']).length cap11).ownBlock = some b → wo.heap.size ≤ b) := fun b hb => by
                have e : gg11 = b := by simpa [Value.ownBlock] using hb
                subst e
                rcases hat11 with h | h
                · exact ham.out _ h
                · omega
              have hlen1 : (ga ++ [x]).length = ga.length + 1 := by simp
              have hlen2 : (ma ++ [y']).length = ma.length + 1 := by simp
              have hwl2 : wo.heap.size < w11.heap.size := by omega
              clear O10 P10 M10 S10 b10 ho11 hg11 hat11 A9 ham hlo hlp
              go_roundw
              all_goals first | exact ⟨_, _, ga ++ [x], _, _, ma ++ [y'], z' - 1, (by rw [List.length_append, List.length_singleton]), (by rw [List.length_append, List.length_singleton]), rfl, by omega, by omega, by omega, O11, P11, A11, B11, M11, S11, b11, hwl2⟩ | exact ⟨⟨_, _, ga ++ [x], _, _, ma ++ [y'], z' - 1, (by rw [List.length_append, List.length_singleton]), (by rw [List.length_append, List.length_singleton]), rfl, by omega, by omega, by omega, O11, P11, A11, B11, M11, S11, b11, hwl2⟩, by simp [intOf]; omega⟩ | (simp [intOf]; omega)
            · go_wp2_with fail
              refine (pick_any gs _ 16 _ hSr.out (by omega) (by omega)).mono ?_
              rintro r w8 ⟨x, rfl, x0, x1, hs8, hg8⟩
              have O8 := hid (own_src hOg.out hg8 (Nat.lt_succ_self gs))
              have P8 := hid (own_src hOm.out hg8 (Nat.lt_succ_self gs))
              have M8 := hid (hMt.out.src hg8)
              have S8 := hid hs8
              have b8 := below_src hb hg8 (by omega) (by omega)
              have zw8 := hg8.size
              have hlo := O8.out.lt
              have hlp := P8.out.lt
              clear hOg hOm hMt hSr hb hs8 hg8 x1
              by_cases q0 : x = 0
              · subst q0
                go_wp2_with (at_builtin; refine wpList_append_lies _ rfl _ _ 35 rfl (gs + 1) 2 i0 (.int .i64 0) 1 8 Try.underlying35 hi hz0 hz1 hz2 rfl (by omega) (.slice Ag ga.length cg) ga.length (ga.flatMap encI) rfl (O8.out.alloc _) ⟨w8.heap.size, 0, none⟩ 1 1 [.int .i64 5] rfl rfl (World.news_of_block (cs := #[.int .i64 5]) (t := 2) (fr := (0, 0)) (heap_alloc_new _ _)) (by simp [Value.oneCell']) (by omega) (by simp only [maxLen]; omega) (by omega) (by simp; omega) (w8.heap.size + 1) (by simp) ?_; intro gg9 cap9 w9 ho9 hg9 hat9 hlt9)
                have O9 : Hid (w9.ownsRow (gs + 1) 2 1 (.slice (some ⟨gg9, 0, none⟩) (ga ++ [(5 : Int)]).length cap9) (ga ++ [(5 : Int)]).length ((ga ++ [(5 : Int)]).flatMap encI)) := by simpa [Hid, encI] using ho9
                have P9 := hid (own_apart (ow_alloc (o := .cells #[.int .i64 5] 2) P8.out) hg9 (fun b hb => (hag.out b hb).2))
                have M9 := hid ((M8.out.alloc (.cells #[.int .i64 5] 2)).far hg9 HT.out HR.out (fun b hb => (hag.out b hb).1))
                have b9 := grown_below (b8.alloc (by omega) (.cells #[.int .i64 5] 2)) hg9 (by simp; omega) (fun b hb => by have := (hlo b hb).1; omega)
                have hlen1 : (ga ++ [(5 : Int)]).length = ga.length + 1 := by simp
                have t9 : totT ts ≤ 81 := by have := totT_of ts hN.out; omega
                have RT := hid M9.out.slT
                have RG := hid (own_sl encI_len (by omega) O9.out)
                have RM := hid (own_sl encI_len (by omega) P9.out)
                have ha9 : ts.length ≤ 9 := by omega
                clear O8 P8 M8 S8 b8 ho9 hg9 hat9 hlo hlp hag ham O9 P9 M9 hN
                go_ret3
                exact ⟨A, c, ts, some ⟨gg9, 0, none⟩, cap9, ga ++ [5], Am, cm, ma, by rw [List.length_append, List.length_singleton]; rfl, ha9, t9, by omega, by omega, RT, RG, RM, b9.mono hgs2⟩
              · have nq0 : (x == 0) = false := by rw [beq_eq_false_iff_ne]; exact q0
                by_cases q1 : x = 1
                · subst q1
                  by_cases hm0 : 0 < m
                  · obtain ⟨gm, rfl, hgm, _⟩ := own_some P8.out (by omega : 0 < ma.length)
                    have hd := l23DrawMetres_any gs _ w8 S8.out (by omega)
                    clear S8
                    go_wp2_with fail
                    refine hd.mono ?_
                    rintro r w9 ⟨xm, rfl, hs9, hg9⟩
                    have O9 := hid (own_src O8.out hg9 (Nat.lt_succ_self gs))
                    have P9 := own_src P8.out hg9 (Nat.lt_succ_self gs)
                    have M9 := hid (M8.out.src hg9)
                    have b9 := below_src b8 hg9 (by omega) (by omega)
                    obtain ⟨⟨u, e0⟩, f0⟩ := own_at P9 (Below.refl _ _) 0 (by omega)
                    have hst := (P9.stored 0 (.int .i64 xm)).1
                    have hsg := (P9.stored 0 (.int .i64 xm)).2
                    rw [← set_encI'] at hst
                    have P10 : Hid (Sl (w9.setCell ⟨gm, 0, none⟩ (.int .i64 xm)) (w9.setCell ⟨gm, 0, none⟩ (.int .i64 xm)).heap.size 1 encI (some ⟨gm, 0, none⟩) (ma.set 0 xm).length (ma.set 0 xm)) := by
                      have := own_sl encI_len (by omega) hst
                      rw [List.length_set]; exact this
                    have O10 := hid (own_sl encI_len (by omega) (own_apart O9.out hsg (fun b hb e => (hag.out b e).2 hb)))
                    have M10 := hid (M9.out.far hsg HT.out HR.out (fun b hb => ham.out b hb)).slT
                    have b10 := bl_set (p := ⟨gm, 0, none⟩) (u := .int .i64 xm) (by simp only; omega) b9
                    have t9 : totT ts ≤ 81 := by have := totT_of ts hN.out; omega
                    have ha9 : ts.length ≤ 9 := by omega
                    clear O8 P8 M8 b8 hs9 hg9 hlo hlp hag ham O9 P9 M9 hN hst hsg hd b9
                    go_wp2_with fail
                    go_ret3
                    exact ⟨A, c, ts, Ag, cg, ga, some ⟨gm, 0, none⟩, cm, ma.set 0 xm, by rw [List.length_set]; rfl, ha9, t9, by omega, by rw [List.length_set]; omega, M10, O10, P10, b10.mono hgs2⟩
                  · have t9 : totT ts ≤ 81 := by have := totT_of ts hN.out; omega
                    have RT := hid M8.out.slT
                    have RG := hid (own_sl encI_len (by omega) O8.out)
                    have RM := hid (own_sl encI_len (by omega) P8.out)
                    have ha9 : ts.length ≤ 9 := by omega
                    clear O8 P8 M8 S8 hlo hlp hag ham hN
                    go_wp2_with fail
                    go_ret3
                    exact ⟨_, _, ts, _, _, ga, _, _, ma, rfl, ha9, t9, by omega, by omega, RT, RG, RM, b8.mono hgs2⟩
                · have nq1 : (x == 1) = false := by rw [beq_eq_false_iff_ne]; exact q1
                  have t9 : totT ts ≤ 81 := by have := totT_of ts hN.out; omega
                  have RT := hid M8.out.slT
                  have RG := hid (own_sl encI_len (by omega) O8.out)
                  have RM := hid (own_sl encI_len (by omega) P8.out)
                  have ha9 : ts.length ≤ 9 := by omega
                  clear O8 P8 M8 S8 hlo hlp hag ham hN
                  go_wp2_with fail
                  go_ret3
                  exact ⟨_, _, ts, _, _, ga, _, _, ma, rfl, ha9, t9, by omega, by omega, RT, RG, RM, b8.mono hgs2⟩
end Go.Proofs.Ytbgpdaclaknapaa
