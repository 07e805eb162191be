/-
  The draw of SameTariff. No condition.
-/
import Derived.Test.YtngfhpklakhehaaGreatDoorTDraw5
namespace Go.Proofs.YtngfhpklakhehaaGreatDoor
open Go.RowKit
set_option maxHeartbeats 400000

theorem news_of_steps {w : World} {B b off n : Nat} {xs : List Step} (hx : Sl w B 2 encStep (some ⟨b, off, none⟩) n xs) : ∀ (j : Nat) (u : Value), (xs.flatMap encStep)[j]? = some u → w.cell? ((⟨b, off, none⟩ : Addr).add j) = some u := by
  intro j u hj
  rw [Addr.add_lit]
  have hjl : j < xs.length * 2 := by have := (List.getElem?_eq_some_iff.1 hj).1; rwa [flatMap_len encStep_len] at this
  obtain ⟨⟨x0, x1⟩, hx1⟩ : ∃ x, xs[j / 2]? = some x := ⟨_, List.getElem?_eq_getElem (by omega)⟩
  obtain ⟨c0, c1⟩ := hx.inStep hx1
  have hj2 : j = j / 2 * 2 ∨ j = j / 2 * 2 + 1 := by omega
  rcases hj2 with h | h
  · have := flatMap_get encStep_len (j := 0) (u := .int .i64 x0) xs (j / 2) hx1 rfl
    rw [Nat.add_zero, ← h, hj] at this
    injection this with this
    rw [this, h]; exact c0
  · have := flatMap_get encStep_len (j := 1) (u := .int .i64 x1) xs (j / 2) hx1 rfl
    rw [← h, hj] at this
    injection this with this
    rw [this, h]; exact c1
theorem one_encStep (xs : List Step) : ∀ u ∈ xs.flatMap encStep, u.oneCell' = true := by
  intro u hu
  obtain ⟨x, _, hx⟩ := List.mem_flatMap.1 hu
  simp [encStep] at hx
  rcases hx with rfl | rfl <;> rfl
theorem tar_store {w : World} {lo gb gg cap : Nat} {xs : List Step} {hh ee : Int} {u0 u1 u2 : Value} (p0 : w.cell? ⟨gb, 0, none⟩ = some u0) (p1 : w.cell? ⟨gb, 1, none⟩ = some u1) (p2 : w.cell? ⟨gb, 2, none⟩ = some u2)
    (f0 : w.frozen? ⟨gb, 0, none⟩ = false) (f1 : w.frozen? ⟨gb, 1, none⟩ = false) (f2 : w.frozen? ⟨gb, 2, none⟩ = false) (ho : w.ownsRow lo 57 2 (.slice (some ⟨gg, 0, none⟩) xs.length cap) xs.length (xs.flatMap encStep)) (hne : gg ≠ gb) :
    TarAt (((w.setCell ⟨gb, 0, none⟩ (.slice (some ⟨gg, 0, none⟩) xs.length cap)).setCell ⟨gb, 1, none⟩ (.int .i64 hh)).setCell ⟨gb, 2, none⟩ (.int .i64 ee)) lo gb (some ⟨gg, 0, none⟩) cap xs hh ee := by
  have hn : ∀ j, (Value.slice (some ⟨gg, 0, none⟩) xs.length cap).ownBlock ≠ some (⟨gb, j, none⟩ : Addr).block := fun j e => by simp [Value.ownBlock] at e; exact hne e
  refine ⟨ow_set (hn 2) (ow_set (hn 1) (ow_set (hn 0) ho)), fun b hb => by simp [Value.ownBlock] at hb; omega, ?_, ?_, ?_, ?_, ?_, ?_⟩
  · exact (World.cell?_setCell_other _ _ _ _ (by simp)).trans ((World.cell?_setCell_other _ _ _ _ (by simp)).trans (World.cell?_setCell_same _ _ _ p0))
  · exact (World.cell?_setCell_other _ _ _ _ (by simp)).trans (World.cell?_setCell_same _ _ _ ((World.cell?_setCell_other _ _ _ _ (by simp)).trans p1))
  · exact World.cell?_setCell_same _ _ _ ((World.cell?_setCell_other _ _ _ _ (by simp)).trans ((World.cell?_setCell_other _ _ _ _ (by simp)).trans p2))
  · rw [World.frozen?_setCell, World.frozen?_setCell, World.frozen?_setCell]; exact f0
  · rw [World.frozen?_setCell, World.frozen?_setCell, World.frozen?_setCell]; exact f1
  · rw [World.frozen?_setCell, World.frozen?_setCell, World.frozen?_setCell]; exact f2
theorem own_apartT {w w' : World} {lo T k n : Nat} {v : Value} {l : List Value} {row : Option Nat} (h : w.ownsRow lo T k v n l) (hg : w.grownBy w' row) (hn : ∀ b, row = some b → v.ownBlock ≠ some b) : w'.ownsRow lo T k v n l := by
  cases row with
  | none => exact own_keep (v2 := .slice none 0 0) h (fun b hb => by simp [Value.ownBlock] at hb) hg
  | some b => exact own_keep (v2 := .slice (some ⟨b, 0, none⟩) 0 0) h (fun q hq => by simp [Value.ownBlock] at hq; subst hq; exact hn _ rfl) hg
theorem TarAt.grow {w w' : World} {lo gt : Nat} {A : Option Addr} {c : Nat} {xs : List Step} {h e : Int} {row : Option Nat} (t : TarAt w lo gt A c xs h e) (hg : w.grownBy w' row) (hr : ∀ b, row = some b → b ≠ gt ∧ (Value.slice A xs.length c).ownBlock ≠ some b) : TarAt w' lo gt A c xs h e := by
  have hl := t.lt
  have hn : some gt ≠ row := fun q => (hr gt q.symm).1 rfl
  exact ⟨own_apartT t.own hg (fun b hb => (hr b hb).2), t.ne, hg.cell t.c0 hn, hg.cell t.c1 hn, hg.cell t.c2 hn, (hg.frozen_far ⟨gt, 0, none⟩ hl hn).trans t.f0, (hg.frozen_far ⟨gt, 1, none⟩ hl hn).trans t.f1, (hg.frozen_far ⟨gt, 2, none⟩ hl hn).trans t.f2⟩
/-- what a draw of two tariffs leaves -/
def DrawTT (w : World) (r : Ending) (w' : World) : Prop :=
  ∃ (A : Option Addr) (c : Nat) (xs : List Step) (h e : Int) (A1 : Option Addr) (c1 : Nat) (ys : List Step) (h1 e1 : Int), r = .returned (.tuple #[.agg #[.slice A xs.length c, .int .i64 h, .int .i64 e], .agg #[.slice A1 ys.length c1, .int .i64 h1, .int .i64 e1]]) ∧ xs.length ≤ 9 ∧ ys.length ≤ 10 ∧ Hid (Sl w' w'.heap.size 2 encStep A xs.length xs) ∧ Hid (Sl w' w'.heap.size 2 encStep A1 ys.length ys) ∧ Below w.heap.size w w'
set_option maxHeartbeats 8000000 in
set_option maxRecDepth 100000 in
theorem DrawSameTariff_any (v : Value) (w : World) (hv : Bytes w w.heap.size 5000 v) : Calls Tryz.prog 19 #[v] w (DrawTT w) := by
  obtain ⟨i0, hi, hz0, hz1, hz2⟩ := info_parts stepT_info
  obtain ⟨W0, hW0⟩ : ∃ W, W = (w.alloc (.cells #[.slice none 0 0, .int .i64 0, .int .i64 0] 26)).alloc (.cells #[.slice none 0 0, .int .i64 0, .int .i64 0] 26) := ⟨_, rfl⟩
  have ra : Res3 W0 w.heap.size (.slice none 0 0) (.int .i64 0) (.int .i64 0) := by rw [hW0]; exact ⟨by go_simp, by go_simp, by go_simp, by go_simp, by go_simp, by go_simp⟩
  have rb : Res3 W0 (w.heap.size + 1) (.slice none 0 0) (.int .i64 0) (.int .i64 0) := by rw [hW0]; exact ⟨by go_simp, by go_simp, by go_simp, by go_simp, by go_simp, by go_simp⟩
  have b0 : Below w.heap.size w W0 := by rw [hW0]; exact ((Below.refl _ _).alloc (Nat.le_refl _) _).alloc (by simp) _
  have hf := l00From_any v W0 (hv.lift (Nat.le_refl _) b0)
  have hsz : W0.heap.size = w.heap.size + 2 := by rw [hW0]; simp
  rw [hsz] at hf
  have RA := hid ra
  have RB := hid rb
  have HW := hid hW0
  clear hv ra rb hW0
  go_enter Tryz.func19, Tryz.ntmps19
  go_wp2_with fail
  rw [← HW.out]
  refine hf.mono ?_
  rintro r w1 ⟨rfl, hs, hb, hl⟩
  replace RA := hid (RA.out.below (hb.mono (by omega)))
  replace RB := hid (RB.out.below (hb.mono (by omega)))
  have b1 : Below w.heap.size w w1 := b0.trans (hb.mono (by omega))
  have hd := l23Draw_any (w.heap.size + 2) 0 w1 hs (by omega)
  have lr := RB.out.lt
  clear hf hs hb b0 HW
  go_wp2_with fail
  refine hd.mono ?_
  rintro r w2 ⟨A, c, xs, hh, ee, rfl, hm1, hm9, hO, hS, hG⟩
  clear hd
  have z12 := hG.size
  obtain ⟨W3, hW3⟩ : ∃ W, W = w2.alloc (.cells #[.slice A xs.length c, .int .i64 hh, .int .i64 ee] 26) := ⟨_, rfl⟩
  obtain ⟨gt, hgt⟩ : ∃ g, g = w2.heap.size := ⟨_, rfl⟩
  have z3 : gt < W3.heap.size := by rw [hW3, hgt]; simp
  have gt1 : w1.heap.size ≤ gt := by omega
  have RA3 : Res3 W3 w.heap.size (.slice none 0 0) (.int .i64 0) (.int .i64 0) := by rw [hW3]; exact (RA.out.grow hG (by simp)).alloc _
  have RB3 : Res3 W3 (w.heap.size + 1) (.slice none 0 0) (.int .i64 0) (.int .i64 0) := by rw [hW3]; exact (RB.out.grow hG (by simp)).alloc _
  have T3 : Hid (TarAt W3 (w1.heap.size + 1) gt A c xs hh ee) := by
    rw [hW3, hgt]
    exact ⟨hO.alloc _, fun q hq => by have := (hO.lt q hq).2; omega, (World.cell?_alloc_at _ _ _ _ rfl).trans rfl, (World.cell?_alloc_at _ _ _ _ rfl).trans rfl, (World.cell?_alloc_at _ _ _ _ rfl).trans rfl, by go_simp, by go_simp, by go_simp⟩
  have S3 : Hid (SrcAt W3 (w.heap.size + 2) 40) := by rw [hW3]; exact hid (hS.alloc _)
  have b3 : Below w.heap.size w W3 := by rw [hW3]; exact (below_src b1 hG (by omega) (by omega)).alloc (by omega) _
  have HLA := hid (fun b hb => (T3.out.own.lt b hb))
  have HQ : Hid (∀ b, (Value.slice A xs.length c).ownBlock = some b → b < gt) := fun b hb => by have := (hO.lt b hb).2; omega
  replace RA := hid RA3
  replace RB := hid RB3
  have HW3 := hid hW3
  have HGT := hid hgt
  clear hW3 hgt hO hS hG b1 RA3 RB3 hsz
  obtain ⟨x0, x1, bb, off, Hx, rfl, hb0, _⟩ := (own_sl encStep_len (by omega) T3.out.own).atStep (i := 0) (by omega)
  have hn0 : 0 < xs.length := by omega
  have hn1 : (0 : Int) < (xs.length : Int) := by omega
  have hlen0 : (xs.flatMap encStep).length = xs.length * 2 := flatMap_len encStep_len xs
  -- region
  have E1 := World.ownsRow_lit (base := W3.heap.size) (e := 57) (size := 2) W3 #[] 0 (Nat.le_refl _) (by simp [maxLen]) (by simp)
  have E3 := World.ownsRow_lit (base := W3.heap.size) (e := 57) (size := 2) (W3.alloc (.cells #[.slice none 0 0, .int .i64 0, .int .i64 0] 26)) #[] 0 (by simp) (by simp [maxLen]) (by simp)
  rw [World.size_alloc] at E3
  have OE1 : Hid ((W3.alloc (.cells #[] 57)).drew.ownsRow W3.heap.size 57 2 (.slice (some ⟨W3.heap.size, 0, none⟩) 0 0) 0 []) := ow_drew E1
  have OE2 : Hid (((W3.alloc (.cells #[] 57)).alloc (.cells #[.slice none 0 0, .int .i64 0, .int .i64 0] 26)).drew.ownsRow W3.heap.size 57 2 (.slice (some ⟨W3.heap.size, 0, none⟩) 0 0) 0 []) := ow_drew (World.ownsRow.alloc E1 (.cells #[.slice none 0 0, .int .i64 0, .int .i64 0] 26))
  have OE3 : Hid (((W3.alloc (.cells #[.slice none 0 0, .int .i64 0, .int .i64 0] 26)).alloc (.cells #[] 57)).drew.ownsRow W3.heap.size 57 2 (.slice (some ⟨W3.heap.size + 1, 0, none⟩) 0 0) 0 []) := ow_drew E3
  have hnew1 := news_of_steps (own_sl encStep_len (by omega) (ow_drew (T3.out.own.alloc (.cells #[] 57))))
  have hnew2 := news_of_steps (own_sl encStep_len (by omega) (ow_drew ((T3.out.own.alloc (.cells #[] 57)).alloc (.cells #[.slice none 0 0, .int .i64 0, .int .i64 0] 26))))
  have hnew3 := news_of_steps (own_sl encStep_len (by omega) (ow_drew ((T3.out.own.alloc (.cells #[.slice none 0 0, .int .i64 0, .int .i64 0] 26)).alloc (.cells #[] 57))))
  have HN1 := hid hnew1
  have HN2 := hid hnew2
  have HN3 := hid hnew3
  have t0 := T3.out.c0
  have t1 := T3.out.c1
  have t2 := T3.out.c2
  have lt := T3.out.lt
  have hsb := HQ.out bb rfl
  have q1 : Below W3.heap.size W3 (W3.alloc (.cells #[] 57)).drew := ((Below.refl _ _).alloc (Nat.le_refl _) _).drew
  have q2 : Below W3.heap.size W3 ((W3.alloc (.cells #[] 57)).alloc (.cells #[.slice none 0 0, .int .i64 0, .int .i64 0] 26)).drew := (((Below.refl _ _).alloc (Nat.le_refl _) _).alloc (by simp) _).drew
  have q3 : Below W3.heap.size W3 ((W3.alloc (.cells #[.slice none 0 0, .int .i64 0, .int .i64 0] 26)).alloc (.cells #[] 57)).drew := (((Below.refl _ _).alloc (Nat.le_refl _) _).alloc (by simp) _).drew
  have Q1 := hid q1
  have Q2 := hid q2
  have Q3 := hid q3
  clear E1 E3 Hx hb0 hnew1 hnew2 hnew3 q1 q2 q3
  go_wp2_with fail
  rw [← HW3.out, ← HGT.out]
  clear HW3 HGT
  refine wp_region_held_drew (S := (fun W => W.cell? ⟨gt, 0, none⟩ = some (.slice (some ⟨bb, off, none⟩) xs.length c) ∧ W.cell? ⟨gt, 1, none⟩ = some (.int .i64 hh) ∧ W.cell? ⟨gt, 2, none⟩ = some (.int .i64 ee))) (by kernel_rfl) ?_ (fun hHeld => ?_)
  · (try dsimp only); exact ⟨t0, t1, t2⟩
  refine wpAnyH_take (i := 1) (oi := ⟨some 12, Go.Op.fieldAddr 26 (Go.Operand.tmp 5) 0, 0, "l23_tariffs.go:309", #[], none⟩) (v := ?_) rfl (by kernel_rfl) (by kernel_rfl) (by kernel_rfl) (fun _ _ _ h => h) (Or.inl ⟨by rfl, ?_⟩) (by assumption) ?_
  rotate_left
  · intro w hSw; (try dsimp only at hSw); go_split_ands; go_simp; first | done | with_reducible rfl
  (try simp only [Act.put, List.setIfInBounds_toArray, List.set_cons_zero, List.set_cons_succ])
  refine wpAnyH_take (i := 2) (oi := ⟨some 13, Go.Op.load 24 (Go.Operand.tmp 12), 24, "l23_tariffs.go:309", #[⟨1, Go.Ground.data⟩], none⟩) (v := ?_) rfl (by kernel_rfl) (by kernel_rfl) (by kernel_rfl) (fun _ _ _ h => h) (Or.inl ⟨by rfl, ?_⟩) (by assumption) ?_
  rotate_left
  · intro w hSw; (try dsimp only at hSw); go_split_ands; go_simp; first | done | with_reducible rfl
  (try simp only [Act.put, List.setIfInBounds_toArray, List.set_cons_zero, List.set_cons_succ])
  refine wpAnyH_take (i := 4) (oi := ⟨some 15, Go.Op.fieldAddr 26 (Go.Operand.tmp 5) 1, 0, "l23_tariffs.go:309", #[], none⟩) (v := ?_) rfl (by kernel_rfl) (by kernel_rfl) (by kernel_rfl) (fun _ _ _ h => h) (Or.inl ⟨by rfl, ?_⟩) (by assumption) ?_
  rotate_left
  · intro w hSw; (try dsimp only at hSw); go_split_ands; go_simp; first | done | with_reducible rfl
  (try simp only [Act.put, List.setIfInBounds_toArray, List.set_cons_zero, List.set_cons_succ])
  refine wpAnyH_take (i := 5) (oi := ⟨some 16, Go.Op.load 2 (Go.Operand.tmp 15), 2, "l23_tariffs.go:309", #[⟨4, Go.Ground.data⟩], none⟩) (v := ?_) rfl (by kernel_rfl) (by kernel_rfl) (by kernel_rfl) (fun _ _ _ h => h) (Or.inl ⟨by rfl, ?_⟩) (by assumption) ?_
  rotate_left
  · intro w hSw; (try dsimp only at hSw); go_split_ands; go_simp; first | done | with_reducible rfl
  (try simp only [Act.put, List.setIfInBounds_toArray, List.set_cons_zero, List.set_cons_succ])
  refine wpAnyH_take (i := 6) (oi := ⟨some 17, Go.Op.fieldAddr 26 (Go.Operand.tmp 5) 2, 0, "l23_tariffs.go:309", #[], none⟩) (v := ?_) rfl (by kernel_rfl) (by kernel_rfl) (by kernel_rfl) (fun _ _ _ h => h) (Or.inl ⟨by rfl, ?_⟩) (by assumption) ?_
  rotate_left
  · intro w hSw; (try dsimp only at hSw); go_split_ands; go_simp; first | done | with_reducible rfl
  (try simp only [Act.put, List.setIfInBounds_toArray, List.set_cons_zero, List.set_cons_succ])
  refine wpAnyH_take (i := 7) (oi := ⟨some 18, Go.Op.load 2 (Go.Operand.tmp 17), 2, "l23_tariffs.go:309", #[⟨6, Go.Ground.data⟩], none⟩) (v := ?_) rfl (by kernel_rfl) (by kernel_rfl) (by kernel_rfl) (fun _ _ _ h => h) (Or.inl ⟨by rfl, ?_⟩) (by assumption) ?_
  rotate_left
  · intro w hSw; (try dsimp only at hSw); go_split_ands; go_simp; first | done | with_reducible rfl
  (try simp only [Act.put, List.setIfInBounds_toArray, List.set_cons_zero, List.set_cons_succ])
  refine wpAnyH_ready (rs := [0, 9]) (by kernel_rfl) (by simp) ?_
  refine AllReadyH.cons rfl (fun K hK => ?_) ?_
  · skip
    go_simp
    refine hK.out _ _ ?_ (fun hH2 => ?_)
    · (try dsimp only); exact ⟨below_cell hHeld.1 ((Below.refl _ _).alloc (Nat.le_refl _) _), below_cell hHeld.2.1 ((Below.refl _ _).alloc (Nat.le_refl _) _), below_cell hHeld.2.2 ((Below.refl _ _).alloc (Nat.le_refl _) _)⟩
    clear hK K hHeld; have hHeld := hH2; clear hH2
    refine wpAnyH_ready (rs := [3, 9]) (by kernel_rfl) (by simp) ?_
    refine AllReadyH.cons rfl (fun K hK => ?_) ?_
    · skip
      refine step_append_lies _ rfl _ _ 24 rfl W3.heap.size 57 i0 (.agg #[.int .i64 0, .int .i64 0]) 2 16 Tryz.underlying24 hi hz0 hz1 hz2 rfl (by omega) (.slice (some ⟨W3.heap.size, 0, none⟩) 0 0) 0 [] rfl OE1.out ⟨bb, off, none⟩ xs.length c (xs.flatMap encStep) rfl hlen0 HN1.out (one_encStep xs) hn0 (by simp only [maxLen]; omega) (by omega) (by first | (simp; done) | (simp; omega)) (W3.heap.size + 1) (by simp) ?_
      intro gg cap w4 ho4 hg4 hat4 hlt4
      have ne4 : some gt ≠ (Value.slice (some ⟨W3.heap.size, 0, none⟩) 0 0).ownBlock := by simp [Value.ownBlock]; omega
      have q4 : Below W3.heap.size W3 w4 := Q1.out.grown hg4 (by first | (simp; done) | (simp; omega)) (fun q hq => by simp [Value.ownBlock] at hq; omega)
      have z4 : W3.heap.size < w4.heap.size := by have := hg4.size; simp at this; omega
      have u0 := hg4.cell hHeld.1 ne4
      have u1 := hg4.cell hHeld.2.1 ne4
      have u2 := hg4.cell hHeld.2.2 ne4
      have hgg := ho4.lt gg rfl
      refine hK.out _ _ ?_ (fun hH2 => ?_)
      · (try dsimp only); exact ⟨u0, u1, u2⟩
      clear hK K hHeld; have hHeld := hH2; clear hH2
      refine wpAnyH_take (i := 8) (oi := ⟨some 19, Go.Op.build 26 #[(0, Go.Operand.tmp 14), (1, Go.Operand.tmp 16), (2, Go.Operand.tmp 18)], 26, "l23_tariffs.go:309", #[⟨3, Go.Ground.data⟩, ⟨5, Go.Ground.data⟩, ⟨7, Go.Ground.data⟩], none⟩) (v := ?_) rfl (by kernel_rfl) (by kernel_rfl) (by kernel_rfl) (fun _ _ _ h => h) (Or.inl ⟨by rfl, ?_⟩) (by assumption) ?_
      rotate_left
      · intro w hSw; (try dsimp only at hSw); go_split_ands; go_simp; first | done | with_reducible rfl
      (try simp only [Act.put, List.setIfInBounds_toArray, List.set_cons_zero, List.set_cons_succ])
      refine wpAnyH_ready (rs := [9]) (by kernel_rfl) (by simp) ?_
      refine AllReadyH.cons rfl (fun K hK => ?_) ?_
      · skip
        go_simp
        refine hK.out _ _ ?_ (fun hH2 => ?_)
        · (try dsimp only); exact ⟨below_cell hHeld.1 ((Below.refl _ _).alloc (Nat.le_refl _) _), below_cell hHeld.2.1 ((Below.refl _ _).alloc (Nat.le_refl _) _), below_cell hHeld.2.2 ((Below.refl _ _).alloc (Nat.le_refl _) _)⟩
        clear hK K hHeld; have hHeld := hH2; clear hH2
        refine wpAnyH_ready (rs := [10]) (by kernel_rfl) (by simp) ?_
        refine AllReadyH.cons rfl (fun K hK => ?_) ?_
        · skip
          go_simp
          refine hK.out _ _ ?_ (fun hH2 => ?_)
          · (try dsimp only); exact ⟨below_cell u0 ((Below.refl _ _).alloc (Nat.le_refl _) _), below_cell u1 ((Below.refl _ _).alloc (Nat.le_refl _) _), below_cell u2 ((Below.refl _ _).alloc (Nat.le_refl _) _)⟩
          clear hK K hHeld; have hHeld := hH2; clear hH2
          refine wpAnyH_done (by kernel_rfl) ?_ _
          rw [List.nil_append] at ho4
          simp only [Nat.zero_add] at ho4
          obtain ⟨W6, hW6⟩ : ∃ W, W = w4.alloc (.cells #[.slice (some ⟨gg, 0, none⟩) xs.length cap, .int .i64 hh, .int .i64 ee] 26) := ⟨_, rfl⟩
          have TB : TarAt W6 W3.heap.size w4.heap.size (some ⟨gg, 0, none⟩) cap xs hh ee := by
            rw [hW6]
            exact ⟨ho4.alloc _, fun q hq => by simp [Value.ownBlock] at hq; omega, (World.cell?_alloc_at _ _ _ _ rfl).trans rfl, (World.cell?_alloc_at _ _ _ _ rfl).trans rfl, (World.cell?_alloc_at _ _ _ _ rfl).trans rfl, by go_simp, by go_simp, by go_simp⟩
          have BW : Below W3.heap.size W3 W6 := by rw [hW6]; exact q4.alloc (by omega) _
          rw [← hW6]
          obtain ⟨gb, hgbe⟩ : ∃ g, g = w4.heap.size := ⟨_, rfl⟩
          rw [← hgbe] at TB ⊢
          have gbl : W3.heap.size ≤ gb := by omega
          clear hW6 hgbe ho4 hg4 hat4 hlt4 u0 u1 u2 q4 ne4 hHeld hgg z4
          have TA6 := hid (T3.out.below BW)
          have TB6 := hid TB
          have RA6 := hid (RA.out.below (BW.mono (Nat.le_refl _)))
          have RB6 := hid (RB.out.below (BW.mono (Nat.le_refl _)))
          have S6 := hid (S3.out.below (BW.mono (by omega)))
          have b6 := b3.trans (BW.mono b3.size)
          have z6 := BW.size
          clear T3 TB RA RB S3 BW b3 OE1 OE2 OE3 HN1 HN2 HN3 Q1 Q2 Q3 t0 t1 t2
          go_wp2_with fail
          refine (pick_any _ _ 5 _ S6.out (by omega) (by omega)).mono ?_
          rintro r w7 ⟨q, rfl, q0, q1, hs7, hg7⟩
          have TA7 := hid (TA6.out.src hg7 (by omega) (by omega))
          have TB7 := hid (TB6.out.src hg7 (by omega) (by omega))
          have RA7 := hid (RA6.out.grow hg7 (by simp))
          have RB7 := hid (RB6.out.grow hg7 (by simp))
          have b7 := below_src b6 hg7 (by omega) (by omega)
          have z7 := hg7.size
          have gbt : gb ≠ gt := by omega
          clear TA6 TB6 RA6 RB6 S6 b6 hs7 hg7
          by_cases h0 : q = 0
          · subst h0
            have k1 := TB7.out.c1
            have y1 := TB7.out.f1
            have TB := hid (TB7.out.put1 (wrap64 (hh + 1)))
            have GG : w7.grownBy (w7.setCell ⟨gb, 1, none⟩ (.int .i64 (wrap64 (hh + 1)))) (some gb) := gr_set (World.grownBy.refl _ _)
            have TA := hid (TA7.out.grow GG (fun b hb => by injection hb with hb; subst hb; exact ⟨gbt, fun e => by have := HQ.out _ e; omega⟩))
            have RA := hid (RA7.out.grow GG (by simp; omega))
            have RB := hid (RB7.out.grow GG (by simp; omega))
            have b8 := b7.setCell (p := ⟨gb, 1, none⟩) (by simp only; omega) (.int .i64 (wrap64 (hh + 1)))
            have hy10 : xs.length ≤ 10 := by omega
            clear TA7 TB7 RA7 RB7 GG b7 q1 q0
            obtain ⟨WF, hWF⟩ : ∃ W, W = (w7.setCell ⟨gb, 1, none⟩ (.int .i64 (wrap64 (hh + 1)))) := ⟨_, rfl⟩
            rw [← hWF] at TA TB RA RB b8
            have HWF := hid hWF
            clear hWF
            go_wp2_with fail
            rw [← HWF.out]
            clear HWF
            have t0 := TA.out.c0
            have t1 := TA.out.c1
            have t2 := TA.out.c2
            have s0 := TB.out.c0
            have s1 := TB.out.c1
            have s2 := TB.out.c2
            have d0 := RA.out.c0
            have d1 := RA.out.c1
            have d2 := RA.out.c2
            have d3 := RB.out.c0
            have d4 := RB.out.c1
            have d5 := RB.out.c2
            have e0 := RA.out.f0
            have e1 := RA.out.f1
            have e2 := RA.out.f2
            have e3 := RB.out.f0
            have e4 := RB.out.f1
            have e5 := RB.out.f2
            have HOA := hid TA.out.own
            have HOB := hid TB.out.own
            have hla := HOA.out.lt
            have hlb := HOB.out.lt
            have HLA2 := hid hla
            have HLB2 := hid hlb
            clear TA TB RA RB hla hlb z6 z7
            refine wp_region_held_drew (S := (fun W => W.cell? ⟨gt, 0, none⟩ = some (.slice (some ⟨bb, off, none⟩) xs.length c) ∧ W.cell? ⟨gt, 1, none⟩ = some (.int .i64 hh) ∧ W.cell? ⟨gt, 2, none⟩ = some (.int .i64 ee) ∧ W.cell? ⟨gb, 0, none⟩ = some (.slice (some ⟨gg, 0, none⟩) xs.length cap) ∧ W.cell? ⟨gb, 1, none⟩ = some (.int .i64 (wrap64 (hh + 1))) ∧ W.cell? ⟨gb, 2, none⟩ = some (.int .i64 (ee)))) (by kernel_rfl) ?_ (fun hHeld => ?_)
            · (try dsimp only); exact ⟨t0, t1, t2, s0, s1, s2⟩
            refine wpAnyH_take (i := 0) (oi := ⟨some 52, Go.Op.load 26 (Go.Operand.tmp 5), 26, "l23_tariffs.go:320", #[], none⟩) (v := ?_) rfl (by kernel_rfl) (by kernel_rfl) (by kernel_rfl) (fun _ _ _ h => h) (Or.inl ⟨by rfl, ?_⟩) (by assumption) ?_
            rotate_left
            · intro w hSw; (try dsimp only at hSw); go_split_ands; go_simp; first | done | with_reducible rfl
            (try simp only [Act.put, List.setIfInBounds_toArray, List.set_cons_zero, List.set_cons_succ])
            refine wpAnyH_take (i := 1) (oi := ⟨some 53, Go.Op.load 26 (Go.Operand.tmp 6), 26, "l23_tariffs.go:320", #[⟨2, Go.Ground.gcOnly Go.Departure.lateStores⟩], none⟩) (v := ?_) rfl (by kernel_rfl) (by kernel_rfl) (by kernel_rfl) (fun _ _ _ h => h) (Or.inl ⟨by rfl, ?_⟩) (by assumption) ?_
            rotate_left
            · intro w hSw; (try dsimp only at hSw); go_split_ands; go_simp; first | done | with_reducible rfl
            (try simp only [Act.put, List.setIfInBounds_toArray, List.set_cons_zero, List.set_cons_succ])
            refine wpAnyH_ready (rs := [2]) (by kernel_rfl) (by simp) ?_
            refine AllReadyH.cons rfl (fun K hK => ?_) ?_
            · skip
              go_simp
              refine hK.out _ _ ?_ (fun hH2 => ?_)
              · (try dsimp only); (try simp only [World.cell?_drew] at hHeld); (try simp only [World.cell?_drew]); exact ⟨(cell_far (by simp only; omega)).trans ((cell_far (by simp only; omega)).trans ((cell_far (by simp only; omega)).trans hHeld.1)), (cell_far (by simp only; omega)).trans ((cell_far (by simp only; omega)).trans ((cell_far (by simp only; omega)).trans hHeld.2.1)), (cell_far (by simp only; omega)).trans ((cell_far (by simp only; omega)).trans ((cell_far (by simp only; omega)).trans hHeld.2.2.1)), (cell_far (by simp only; omega)).trans ((cell_far (by simp only; omega)).trans ((cell_far (by simp only; omega)).trans hHeld.2.2.2.1)), (cell_far (by simp only; omega)).trans ((cell_far (by simp only; omega)).trans ((cell_far (by simp only; omega)).trans hHeld.2.2.2.2.1)), (cell_far (by simp only; omega)).trans ((cell_far (by simp only; omega)).trans ((cell_far (by simp only; omega)).trans hHeld.2.2.2.2.2))⟩
              clear hK K hHeld; have hHeld := hH2; clear hH2
              refine wpAnyH_ready (rs := [3]) (by kernel_rfl) (by simp) ?_
              refine AllReadyH.cons rfl (fun K hK => ?_) ?_
              · skip
                go_simp
                refine hK.out _ _ ?_ (fun hH2 => ?_)
                · (try dsimp only); simp only [World.cell?_drew] at hHeld ⊢; exact ⟨(cell_far (by simp only; omega)).trans ((cell_far (by simp only; omega)).trans ((cell_far (by simp only; omega)).trans hHeld.1)), (cell_far (by simp only; omega)).trans ((cell_far (by simp only; omega)).trans ((cell_far (by simp only; omega)).trans hHeld.2.1)), (cell_far (by simp only; omega)).trans ((cell_far (by simp only; omega)).trans ((cell_far (by simp only; omega)).trans hHeld.2.2.1)), (cell_far (by simp only; omega)).trans ((cell_far (by simp only; omega)).trans ((cell_far (by simp only; omega)).trans hHeld.2.2.2.1)), (cell_far (by simp only; omega)).trans ((cell_far (by simp only; omega)).trans ((cell_far (by simp only; omega)).trans hHeld.2.2.2.2.1)), (cell_far (by simp only; omega)).trans ((cell_far (by simp only; omega)).trans ((cell_far (by simp only; omega)).trans hHeld.2.2.2.2.2))⟩
                clear hK K hHeld; have hHeld := hH2; clear hH2
                refine wpAnyH_done (by kernel_rfl) ?_ _
                have z0 : (WF.setCell ⟨w.heap.size, 0, none⟩ (.slice (some ⟨bb, off, none⟩) xs.length c)).cell? ⟨w.heap.size, 0, none⟩ = some (.slice (some ⟨bb, off, none⟩) xs.length c) := World.cell?_setCell_same _ _ _ (d0)
                have z1 : ((WF.setCell ⟨w.heap.size, 0, none⟩ (.slice (some ⟨bb, off, none⟩) xs.length c)).setCell ⟨w.heap.size, 1, none⟩ (.int .i64 hh)).cell? ⟨w.heap.size, 1, none⟩ = some (.int .i64 hh) := World.cell?_setCell_same _ _ _ ((World.cell?_setCell_other _ _ _ _ (by simp)).trans (d1))
                have z2 : (((WF.setCell ⟨w.heap.size, 0, none⟩ (.slice (some ⟨bb, off, none⟩) xs.length c)).setCell ⟨w.heap.size, 1, none⟩ (.int .i64 hh)).setCell ⟨w.heap.size, 2, none⟩ (.int .i64 ee)).cell? ⟨w.heap.size, 2, none⟩ = some (.int .i64 ee) := World.cell?_setCell_same _ _ _ ((World.cell?_setCell_other _ _ _ _ (by simp)).trans ((World.cell?_setCell_other _ _ _ _ (by simp)).trans (d2)))
                have z3 : ((((WF.setCell ⟨w.heap.size, 0, none⟩ (.slice (some ⟨bb, off, none⟩) xs.length c)).setCell ⟨w.heap.size, 1, none⟩ (.int .i64 hh)).setCell ⟨w.heap.size, 2, none⟩ (.int .i64 ee)).setCell ⟨w.heap.size + 1, 0, none⟩ (.slice (some ⟨gg, 0, none⟩) xs.length cap)).cell? ⟨w.heap.size + 1, 0, none⟩ = some (.slice (some ⟨gg, 0, none⟩) xs.length cap) := World.cell?_setCell_same _ _ _ ((cell_far (by first | (simp only; omega) | fail)).trans ((cell_far (by first | (simp only; omega) | fail)).trans ((cell_far (by first | (simp only; omega) | fail)).trans (d3))))
                have z4 : (((((WF.setCell ⟨w.heap.size, 0, none⟩ (.slice (some ⟨bb, off, none⟩) xs.length c)).setCell ⟨w.heap.size, 1, none⟩ (.int .i64 hh)).setCell ⟨w.heap.size, 2, none⟩ (.int .i64 ee)).setCell ⟨w.heap.size + 1, 0, none⟩ (.slice (some ⟨gg, 0, none⟩) xs.length cap)).setCell ⟨w.heap.size + 1, 1, none⟩ (.int .i64 (wrap64 (hh + 1)))).cell? ⟨w.heap.size + 1, 1, none⟩ = some (.int .i64 (wrap64 (hh + 1))) := World.cell?_setCell_same _ _ _ ((World.cell?_setCell_other _ _ _ _ (by simp)).trans ((cell_far (by first | (simp only; omega) | fail)).trans ((cell_far (by first | (simp only; omega) | fail)).trans ((cell_far (by first | (simp only; omega) | fail)).trans (d4)))))
                have z5 : ((((((WF.setCell ⟨w.heap.size, 0, none⟩ (.slice (some ⟨bb, off, none⟩) xs.length c)).setCell ⟨w.heap.size, 1, none⟩ (.int .i64 hh)).setCell ⟨w.heap.size, 2, none⟩ (.int .i64 ee)).setCell ⟨w.heap.size + 1, 0, none⟩ (.slice (some ⟨gg, 0, none⟩) xs.length cap)).setCell ⟨w.heap.size + 1, 1, none⟩ (.int .i64 (wrap64 (hh + 1)))).setCell ⟨w.heap.size + 1, 2, none⟩ (.int .i64 (ee))).cell? ⟨w.heap.size + 1, 2, none⟩ = some (.int .i64 (ee)) := World.cell?_setCell_same _ _ _ ((World.cell?_setCell_other _ _ _ _ (by simp)).trans ((World.cell?_setCell_other _ _ _ _ (by simp)).trans ((cell_far (by first | (simp only; omega) | fail)).trans ((cell_far (by first | (simp only; omega) | fail)).trans ((cell_far (by first | (simp only; omega) | fail)).trans (d5))))))
                clear hHeld t0 t1 t2 s0 s1 s2 d0 d1 d2 d3 d4 d5 e0 e1 e2 e3 e4 e5
                go_wp2_with fail
                refine bodyPost_ret (v := .tuple #[.agg #[(.slice (some ⟨bb, off, none⟩) xs.length c), .int .i64 hh, .int .i64 ee], .agg #[(.slice (some ⟨gg, 0, none⟩) xs.length cap), .int .i64 (wrap64 (hh + 1)), .int .i64 (ee)]]) (by simp [results, Tryz.results19, go_sem, z0, z1, z2, z3, z4, z5]) rfl ⟨_, c, xs, hh, ee, _, cap, xs, wrap64 (hh + 1), ee, rfl, hm9, hy10, ?_, ?_, ?_⟩
                · have hn0 : ∀ j, (Value.slice (some ⟨bb, off, none⟩) xs.length c).ownBlock ≠ some (⟨w.heap.size, j, none⟩ : Addr).block := fun j e => by have := (HLA2.out _ e).1; simp only at this; omega
                  have hn1 : ∀ j, (Value.slice (some ⟨bb, off, none⟩) xs.length c).ownBlock ≠ some (⟨w.heap.size + 1, j, none⟩ : Addr).block := fun j e => by have := (HLA2.out _ e).1; simp only at this; omega
                  exact own_sl encStep_len (by omega) (ow_drew (ow_set (hn1 2) (ow_set (hn1 1) (ow_set (hn1 0) (ow_set (hn0 2) (ow_set (hn0 1) (ow_set (hn0 0) HOA.out)))))))
                · have hn0 : ∀ j, (Value.slice (some ⟨gg, 0, none⟩) xs.length cap).ownBlock ≠ some (⟨w.heap.size, j, none⟩ : Addr).block := fun j e => by have := (HLB2.out _ e).1; simp only at this; omega
                  have hn1 : ∀ j, (Value.slice (some ⟨gg, 0, none⟩) xs.length cap).ownBlock ≠ some (⟨w.heap.size + 1, j, none⟩ : Addr).block := fun j e => by have := (HLB2.out _ e).1; simp only at this; omega
                  exact own_sl encStep_len (by omega) (ow_drew (ow_set (hn1 2) (ow_set (hn1 1) (ow_set (hn1 0) (ow_set (hn0 2) (ow_set (hn0 1) (ow_set (hn0 0) HOB.out)))))))
                · exact (bl_set (by simp only; omega) (bl_set (by simp only; omega) (bl_set (by simp only; omega) (bl_set (by simp only; omega) (bl_set (by simp only; omega) (bl_set (by simp only; omega) b8)))))).drew
              exact AllReadyH.nil
            exact AllReadyH.nil
          · by_cases h1 : q = 1
            · subst h1
              have k1 := TB7.out.c2
              have y1 := TB7.out.f2
              have TB := hid (TB7.out.put2 (wrap64 (ee + 1)))
              have GG : w7.grownBy (w7.setCell ⟨gb, 2, none⟩ (.int .i64 (wrap64 (ee + 1)))) (some gb) := gr_set (World.grownBy.refl _ _)
              have TA := hid (TA7.out.grow GG (fun b hb => by injection hb with hb; subst hb; exact ⟨gbt, fun e => by have := HQ.out _ e; omega⟩))
              have RA := hid (RA7.out.grow GG (by simp; omega))
              have RB := hid (RB7.out.grow GG (by simp; omega))
              have b8 := b7.setCell (p := ⟨gb, 2, none⟩) (by simp only; omega) (.int .i64 (wrap64 (ee + 1)))
              have hy10 : xs.length ≤ 10 := by omega
              clear TA7 TB7 RA7 RB7 GG b7 q1 q0 h0
              obtain ⟨WF, hWF⟩ : ∃ W, W = (w7.setCell ⟨gb, 2, none⟩ (.int .i64 (wrap64 (ee + 1)))) := ⟨_, rfl⟩
              rw [← hWF] at TA TB RA RB b8
              have HWF := hid hWF
              clear hWF
              go_wp2_with fail
              rw [← HWF.out]
              clear HWF
              have t0 := TA.out.c0
              have t1 := TA.out.c1
              have t2 := TA.out.c2
              have s0 := TB.out.c0
              have s1 := TB.out.c1
              have s2 := TB.out.c2
              have d0 := RA.out.c0
              have d1 := RA.out.c1
              have d2 := RA.out.c2
              have d3 := RB.out.c0
              have d4 := RB.out.c1
              have d5 := RB.out.c2
              have e0 := RA.out.f0
              have e1 := RA.out.f1
              have e2 := RA.out.f2
              have e3 := RB.out.f0
              have e4 := RB.out.f1
              have e5 := RB.out.f2
              have HOA := hid TA.out.own
              have HOB := hid TB.out.own
              have hla := HOA.out.lt
              have hlb := HOB.out.lt
              have HLA2 := hid hla
              have HLB2 := hid hlb
              clear TA TB RA RB hla hlb z6 z7
              refine wp_region_held_drew (S := (fun W => W.cell? ⟨gt, 0, none⟩ = some (.slice (some ⟨bb, off, none⟩) xs.length c) ∧ W.cell? ⟨gt, 1, none⟩ = some (.int .i64 hh) ∧ W.cell? ⟨gt, 2, none⟩ = some (.int .i64 ee) ∧ W.cell? ⟨gb, 0, none⟩ = some (.slice (some ⟨gg, 0, none⟩) xs.length cap) ∧ W.cell? ⟨gb, 1, none⟩ = some (.int .i64 (hh)) ∧ W.cell? ⟨gb, 2, none⟩ = some (.int .i64 (wrap64 (ee + 1))))) (by kernel_rfl) ?_ (fun hHeld => ?_)
              · (try dsimp only); exact ⟨t0, t1, t2, s0, s1, s2⟩
              refine wpAnyH_take (i := 0) (oi := ⟨some 52, Go.Op.load 26 (Go.Operand.tmp 5), 26, "l23_tariffs.go:320", #[], none⟩) (v := ?_) rfl (by kernel_rfl) (by kernel_rfl) (by kernel_rfl) (fun _ _ _ h => h) (Or.inl ⟨by rfl, ?_⟩) (by assumption) ?_
              rotate_left
              · intro w hSw; (try dsimp only at hSw); go_split_ands; go_simp; first | done | with_reducible rfl
              (try simp only [Act.put, List.setIfInBounds_toArray, List.set_cons_zero, List.set_cons_succ])
              refine wpAnyH_take (i := 1) (oi := ⟨some 53, Go.Op.load 26 (Go.Operand.tmp 6), 26, "l23_tariffs.go:320", #[⟨2, Go.Ground.gcOnly Go.Departure.lateStores⟩], none⟩) (v := ?_) rfl (by kernel_rfl) (by kernel_rfl) (by kernel_rfl) (fun _ _ _ h => h) (Or.inl ⟨by rfl, ?_⟩) (by assumption) ?_
              rotate_left
              · intro w hSw; (try dsimp only at hSw); go_split_ands; go_simp; first | done | with_reducible rfl
              (try simp only [Act.put, List.setIfInBounds_toArray, List.set_cons_zero, List.set_cons_succ])
              refine wpAnyH_ready (rs := [2]) (by kernel_rfl) (by simp) ?_
              refine AllReadyH.cons rfl (fun K hK => ?_) ?_
              · skip
                go_simp
                refine hK.out _ _ ?_ (fun hH2 => ?_)
                · (try dsimp only); (try simp only [World.cell?_drew] at hHeld); (try simp only [World.cell?_drew]); exact ⟨(cell_far (by simp only; omega)).trans ((cell_far (by simp only; omega)).trans ((cell_far (by simp only; omega)).trans hHeld.1)), (cell_far (by simp only; omega)).trans ((cell_far (by simp only; omega)).trans ((cell_far (by simp only; omega)).trans hHeld.2.1)), (cell_far (by simp only; omega)).trans ((cell_far (by simp only; omega)).trans ((cell_far (by simp only; omega)).trans hHeld.2.2.1)), (cell_far (by simp only; omega)).trans ((cell_far (by simp only; omega)).trans ((cell_far (by simp only; omega)).trans hHeld.2.2.2.1)), (cell_far (by simp only; omega)).trans ((cell_far (by simp only; omega)).trans ((cell_far (by simp only; omega)).trans hHeld.2.2.2.2.1)), (cell_far (by simp only; omega)).trans ((cell_far (by simp only; omega)).trans ((cell_far (by simp only; omega)).trans hHeld.2.2.2.2.2))⟩
                clear hK K hHeld; have hHeld := hH2; clear hH2
                refine wpAnyH_ready (rs := [3]) (by kernel_rfl) (by simp) ?_
                refine AllReadyH.cons rfl (fun K hK => ?_) ?_
                · skip
                  go_simp
                  refine hK.out _ _ ?_ (fun hH2 => ?_)
                  · (try dsimp only); simp only [World.cell?_drew] at hHeld ⊢; exact ⟨(cell_far (by simp only; omega)).trans ((cell_far (by simp only; omega)).trans ((cell_far (by simp only; omega)).trans hHeld.1)), (cell_far (by simp only; omega)).trans ((cell_far (by simp only; omega)).trans ((cell_far (by simp only; omega)).trans hHeld.2.1)), (cell_far (by simp only; omega)).trans ((cell_far (by simp only; omega)).trans ((cell_far (by simp only; omega)).trans hHeld.2.2.1)), (cell_far (by simp only; omega)).trans ((cell_far (by simp only; omega)).trans ((cell_far (by simp only; omega)).trans hHeld.2.2.2.1)), (cell_far (by simp only; omega)).trans ((cell_far (by simp only; omega)).trans ((cell_far (by simp only; omega)).trans hHeld.2.2.2.2.1)), (cell_far (by simp only; omega)).trans ((cell_far (by simp only; omega)).trans ((cell_far (by simp only; omega)).trans hHeld.2.2.2.2.2))⟩
                  clear hK K hHeld; have hHeld := hH2; clear hH2
                  refine wpAnyH_done (by kernel_rfl) ?_ _
                  have z0 : (WF.setCell ⟨w.heap.size, 0, none⟩ (.slice (some ⟨bb, off, none⟩) xs.length c)).cell? ⟨w.heap.size, 0, none⟩ = some (.slice (some ⟨bb, off, none⟩) xs.length c) := World.cell?_setCell_same _ _ _ (d0)
                  have z1 : ((WF.setCell ⟨w.heap.size, 0, none⟩ (.slice (some ⟨bb, off, none⟩) xs.length c)).setCell ⟨w.heap.size, 1, none⟩ (.int .i64 hh)).cell? ⟨w.heap.size, 1, none⟩ = some (.int .i64 hh) := World.cell?_setCell_same _ _ _ ((World.cell?_setCell_other _ _ _ _ (by simp)).trans (d1))
                  have z2 : (((WF.setCell ⟨w.heap.size, 0, none⟩ (.slice (some ⟨bb, off, none⟩) xs.length c)).setCell ⟨w.heap.size, 1, none⟩ (.int .i64 hh)).setCell ⟨w.heap.size, 2, none⟩ (.int .i64 ee)).cell? ⟨w.heap.size, 2, none⟩ = some (.int .i64 ee) := World.cell?_setCell_same _ _ _ ((World.cell?_setCell_other _ _ _ _ (by simp)).trans ((World.cell?_setCell_other _ _ _ _ (by simp)).trans (d2)))
                  have z3 : ((((WF.setCell ⟨w.heap.size, 0, none⟩ (.slice (some ⟨bb, off, none⟩) xs.length c)).setCell ⟨w.heap.size, 1, none⟩ (.int .i64 hh)).setCell ⟨w.heap.size, 2, none⟩ (.int .i64 ee)).setCell ⟨w.heap.size + 1, 0, none⟩ (.slice (some ⟨gg, 0, none⟩) xs.length cap)).cell? ⟨w.heap.size + 1, 0, none⟩ = some (.slice (some ⟨gg, 0, none⟩) xs.length cap) := World.cell?_setCell_same _ _ _ ((cell_far (by first | (simp only; omega) | fail)).trans ((cell_far (by first | (simp only; omega) | fail)).trans ((cell_far (by first | (simp only; omega) | fail)).trans (d3))))
                  have z4 : (((((WF.setCell ⟨w.heap.size, 0, none⟩ (.slice (some ⟨bb, off, none⟩) xs.length c)).setCell ⟨w.heap.size, 1, none⟩ (.int .i64 hh)).setCell ⟨w.heap.size, 2, none⟩ (.int .i64 ee)).setCell ⟨w.heap.size + 1, 0, none⟩ (.slice (some ⟨gg, 0, none⟩) xs.length cap)).setCell ⟨w.heap.size + 1, 1, none⟩ (.int .i64 (hh))).cell? ⟨w.heap.size + 1, 1, none⟩ = some (.int .i64 (hh)) := World.cell?_setCell_same _ _ _ ((World.cell?_setCell_other _ _ _ _ (by simp)).trans ((cell_far (by first | (simp only; omega) | fail)).trans ((cell_far (by first | (simp only; omega) | fail)).trans ((cell_far (by first | (simp only; omega) | fail)).trans (d4)))))
                  have z5 : ((((((WF.setCell ⟨w.heap.size, 0, none⟩ (.slice (some ⟨bb, off, none⟩) xs.length c)).setCell ⟨w.heap.size, 1, none⟩ (.int .i64 hh)).setCell ⟨w.heap.size, 2, none⟩ (.int .i64 ee)).setCell ⟨w.heap.size + 1, 0, none⟩ (.slice (some ⟨gg, 0, none⟩) xs.length cap)).setCell ⟨w.heap.size + 1, 1, none⟩ (.int .i64 (hh))).setCell ⟨w.heap.size + 1, 2, none⟩ (.int .i64 (wrap64 (ee + 1)))).cell? ⟨w.heap.size + 1, 2, none⟩ = some (.int .i64 (wrap64 (ee + 1))) := World.cell?_setCell_same _ _ _ ((World.cell?_setCell_other _ _ _ _ (by simp)).trans ((World.cell?_setCell_other _ _ _ _ (by simp)).trans ((cell_far (by first | (simp only; omega) | fail)).trans ((cell_far (by first | (simp only; omega) | fail)).trans ((cell_far (by first | (simp only; omega) | fail)).trans (d5))))))
                  clear hHeld t0 t1 t2 s0 s1 s2 d0 d1 d2 d3 d4 d5 e0 e1 e2 e3 e4 e5
                  go_wp2_with fail
                  refine bodyPost_ret (v := .tuple #[.agg #[(.slice (some ⟨bb, off, none⟩) xs.length c), .int .i64 hh, .int .i64 ee], .agg #[(.slice (some ⟨gg, 0, none⟩) xs.length cap), .int .i64 (hh), .int .i64 (wrap64 (ee + 1))]]) (by simp [results, Tryz.results19, go_sem, z0, z1, z2, z3, z4, z5]) rfl ⟨_, c, xs, hh, ee, _, cap, xs, hh, wrap64 (ee + 1), rfl, hm9, hy10, ?_, ?_, ?_⟩
                  · have hn0 : ∀ j, (Value.slice (some ⟨bb, off, none⟩) xs.length c).ownBlock ≠ some (⟨w.heap.size, j, none⟩ : Addr).block := fun j e => by have := (HLA2.out _ e).1; simp only at this; omega
                    have hn1 : ∀ j, (Value.slice (some ⟨bb, off, none⟩) xs.length c).ownBlock ≠ some (⟨w.heap.size + 1, j, none⟩ : Addr).block := fun j e => by have := (HLA2.out _ e).1; simp only at this; omega
                    exact own_sl encStep_len (by omega) (ow_drew (ow_set (hn1 2) (ow_set (hn1 1) (ow_set (hn1 0) (ow_set (hn0 2) (ow_set (hn0 1) (ow_set (hn0 0) HOA.out)))))))
                  · have hn0 : ∀ j, (Value.slice (some ⟨gg, 0, none⟩) xs.length cap).ownBlock ≠ some (⟨w.heap.size, j, none⟩ : Addr).block := fun j e => by have := (HLB2.out _ e).1; simp only at this; omega
                    have hn1 : ∀ j, (Value.slice (some ⟨gg, 0, none⟩) xs.length cap).ownBlock ≠ some (⟨w.heap.size + 1, j, none⟩ : Addr).block := fun j e => by have := (HLB2.out _ e).1; simp only at this; omega
                    exact own_sl encStep_len (by omega) (ow_drew (ow_set (hn1 2) (ow_set (hn1 1) (ow_set (hn1 0) (ow_set (hn0 2) (ow_set (hn0 1) (ow_set (hn0 0) HOB.out)))))))
                  · exact (bl_set (by simp only; omega) (bl_set (by simp only; omega) (bl_set (by simp only; omega) (bl_set (by simp only; omega) (bl_set (by simp only; omega) (bl_set (by simp only; omega) b8)))))).drew
                exact AllReadyH.nil
              exact AllReadyH.nil
            · by_cases h2 : q = 2
              · subst h2
                have k1 := TB7.out.c0
                have y1 := TB7.out.f0
                have OB := hid TB7.out.own
                have hlo := TB7.out.own.lt
                have HLO := hid hlo
                clear hlo q1 q0 h0 h1
                go_wp2_with (at_builtin; refine wpList_append_lies _ rfl _ _ 24 rfl W3.heap.size 57 i0 (.agg #[.int .i64 0, .int .i64 0]) 2 16 Tryz.underlying24 hi hz0 hz1 hz2 rfl (by omega) (.slice (some ⟨gg, 0, none⟩) xs.length cap) xs.length (xs.flatMap encStep) rfl (OB.out.alloc _) ⟨w7.heap.size, 0, none⟩ 1 1 [.int .i64 0, .int .i64 0] rfl rfl (World.news_of_block (cs := #[.int .i64 0, .int .i64 0]) (t := 57) (fr := (0, 0)) (heap_alloc_new _ _)) (by simp [Value.oneCell']) (by omega) (by simp only [maxLen]; omega) (by omega) (by simp; omega) (w7.heap.size + 1) (by simp) ?_; intro g8 cap8 w8 ho8 hg8 hat8 hlt8; have y8 := (hg8.frozen_far ⟨gb, 0, none⟩ (by have := TB7.out.lt; simp; omega) (by simp [Value.ownBlock]; have := TB7.out.ne gg rfl; omega)).trans ((((Below.refl _ _).alloc (Nat.le_refl _) (.cells #[.int .i64 0, .int .i64 0] 57)).frozen (p := ⟨gb, 0, none⟩) TB7.out.lt).trans y1); have k8 := hg8.cell (a := ⟨gb, 0, none⟩) (below_cell k1 ((Below.refl _ _).alloc (Nat.le_refl _) (.cells #[.int .i64 0, .int .i64 0] 57))) (by simp [Value.ownBlock]; have := TB7.out.ne gg rfl; omega))
                have tb := (TB7.out.alloc (.cells #[.int .i64 0, .int .i64 0] 57)).snoc (z := ⟨0, 0⟩) (by simpa [encStep] using ho8) hg8 (hat8.imp id (fun e => by simp; omega))
                have hgg := HLO.out gg rfl
                have hne := TB7.out.ne gg rfl
                have ta := (TA7.out.alloc (.cells #[.int .i64 0, .int .i64 0] 57)).grow hg8 (fun b hb => by simp [Value.ownBlock] at hb; subst hb; exact ⟨by omega, fun e => by have := HQ.out _ e; omega⟩)
                have GG : w8.grownBy (w8.setCell ⟨gb, 0, none⟩ (.slice (some ⟨g8, 0, none⟩) (xs.length + 1) cap8)) (some gb) := gr_set (World.grownBy.refl _ _)
                have TA := hid (ta.grow GG (fun b hb => by injection hb with hb; subst hb; exact ⟨gbt, fun e => by have := HQ.out _ e; omega⟩))
                have RA := hid (((RA7.out.alloc (.cells #[.int .i64 0, .int .i64 0] 57)).grow hg8 (by simp [Value.ownBlock]; omega)).grow GG (by simp; omega))
                have RB := hid (((RB7.out.alloc (.cells #[.int .i64 0, .int .i64 0] 57)).grow hg8 (by simp [Value.ownBlock]; omega)).grow GG (by simp; omega))
                have b8 := ((b7.alloc (by omega) (.cells #[.int .i64 0, .int .i64 0] 57)).grown hg8 (by simp; omega) (fun q hq => by simp [Value.ownBlock] at hq; omega)).setCell (p := ⟨gb, 0, none⟩) (by simp only; omega) (.slice (some ⟨g8, 0, none⟩) (xs.length + 1) cap8)
                obtain ⟨ys, hys⟩ : ∃ ys, ys = xs ++ [(⟨0, 0⟩ : Step)] := ⟨_, rfl⟩
                rw [← hys] at tb
                have TB := hid tb
                have hy10 : ys.length ≤ 10 := by rw [hys, List.length_append]; simp; omega
                clear TA7 TB7 RA7 RB7 GG b7 ta tb hys ho8 hg8 hat8 hlt8 k8 y8 k1 y1 OB HLO
                obtain ⟨WF, hWF⟩ : ∃ W, W = (w8.setCell ⟨gb, 0, none⟩ (.slice (some ⟨g8, 0, none⟩) (xs.length + 1) cap8)) := ⟨_, rfl⟩
                rw [← hWF] at TA TB RA RB b8
                have HWF := hid hWF
                clear hWF
                rw [← HWF.out]
                clear HWF
                have t0 := TA.out.c0
                have t1 := TA.out.c1
                have t2 := TA.out.c2
                have s0 := TB.out.c0
                have s1 := TB.out.c1
                have s2 := TB.out.c2
                have d0 := RA.out.c0
                have d1 := RA.out.c1
                have d2 := RA.out.c2
                have d3 := RB.out.c0
                have d4 := RB.out.c1
                have d5 := RB.out.c2
                have e0 := RA.out.f0
                have e1 := RA.out.f1
                have e2 := RA.out.f2
                have e3 := RB.out.f0
                have e4 := RB.out.f1
                have e5 := RB.out.f2
                have HOA := hid TA.out.own
                have HOB := hid TB.out.own
                have hla := HOA.out.lt
                have hlb := HOB.out.lt
                have HLA2 := hid hla
                have HLB2 := hid hlb
                clear TA TB RA RB hla hlb z6 z7
                refine wp_region_held_drew (S := (fun W => W.cell? ⟨gt, 0, none⟩ = some (.slice (some ⟨bb, off, none⟩) xs.length c) ∧ W.cell? ⟨gt, 1, none⟩ = some (.int .i64 hh) ∧ W.cell? ⟨gt, 2, none⟩ = some (.int .i64 ee) ∧ W.cell? ⟨gb, 0, none⟩ = some (.slice (some ⟨g8, 0, none⟩) ys.length cap8) ∧ W.cell? ⟨gb, 1, none⟩ = some (.int .i64 (hh)) ∧ W.cell? ⟨gb, 2, none⟩ = some (.int .i64 (ee)))) (by kernel_rfl) ?_ (fun hHeld => ?_)
                · (try dsimp only); exact ⟨t0, t1, t2, s0, s1, s2⟩
                refine wpAnyH_take (i := 0) (oi := ⟨some 52, Go.Op.load 26 (Go.Operand.tmp 5), 26, "l23_tariffs.go:320", #[], none⟩) (v := ?_) rfl (by kernel_rfl) (by kernel_rfl) (by kernel_rfl) (fun _ _ _ h => h) (Or.inl ⟨by rfl, ?_⟩) (by assumption) ?_
                rotate_left
                · intro w hSw; (try dsimp only at hSw); go_split_ands; go_simp; first | done | with_reducible rfl
                (try simp only [Act.put, List.setIfInBounds_toArray, List.set_cons_zero, List.set_cons_succ])
                refine wpAnyH_take (i := 1) (oi := ⟨some 53, Go.Op.load 26 (Go.Operand.tmp 6), 26, "l23_tariffs.go:320", #[⟨2, Go.Ground.gcOnly Go.Departure.lateStores⟩], none⟩) (v := ?_) rfl (by kernel_rfl) (by kernel_rfl) (by kernel_rfl) (fun _ _ _ h => h) (Or.inl ⟨by rfl, ?_⟩) (by assumption) ?_
                rotate_left
                · intro w hSw; (try dsimp only at hSw); go_split_ands; go_simp; first | done | with_reducible rfl
                (try simp only [Act.put, List.setIfInBounds_toArray, List.set_cons_zero, List.set_cons_succ])
                refine wpAnyH_ready (rs := [2]) (by kernel_rfl) (by simp) ?_
                refine AllReadyH.cons rfl (fun K hK => ?_) ?_
                · skip
                  go_simp
                  refine hK.out _ _ ?_ (fun hH2 => ?_)
                  · (try dsimp only); (try simp only [World.cell?_drew] at hHeld); (try simp only [World.cell?_drew]); exact ⟨(cell_far (by simp only; omega)).trans ((cell_far (by simp only; omega)).trans ((cell_far (by simp only; omega)).trans hHeld.1)), (cell_far (by simp only; omega)).trans ((cell_far (by simp only; omega)).trans ((cell_far (by simp only; omega)).trans hHeld.2.1)), (cell_far (by simp only; omega)).trans ((cell_far (by simp only; omega)).trans ((cell_far (by simp only; omega)).trans hHeld.2.2.1)), (cell_far (by simp only; omega)).trans ((cell_far (by simp only; omega)).trans ((cell_far (by simp only; omega)).trans hHeld.2.2.2.1)), (cell_far (by simp only; omega)).trans ((cell_far (by simp only; omega)).trans ((cell_far (by simp only; omega)).trans hHeld.2.2.2.2.1)), (cell_far (by simp only; omega)).trans ((cell_far (by simp only; omega)).trans ((cell_far (by simp only; omega)).trans hHeld.2.2.2.2.2))⟩
                  clear hK K hHeld; have hHeld := hH2; clear hH2
                  refine wpAnyH_ready (rs := [3]) (by kernel_rfl) (by simp) ?_
                  refine AllReadyH.cons rfl (fun K hK => ?_) ?_
                  · skip
                    go_simp
                    refine hK.out _ _ ?_ (fun hH2 => ?_)
                    · (try dsimp only); simp only [World.cell?_drew] at hHeld ⊢; exact ⟨(cell_far (by simp only; omega)).trans ((cell_far (by simp only; omega)).trans ((cell_far (by simp only; omega)).trans hHeld.1)), (cell_far (by simp only; omega)).trans ((cell_far (by simp only; omega)).trans ((cell_far (by simp only; omega)).trans hHeld.2.1)), (cell_far (by simp only; omega)).trans ((cell_far (by simp only; omega)).trans ((cell_far (by simp only; omega)).trans hHeld.2.2.1)), (cell_far (by simp only; omega)).trans ((cell_far (by simp only; omega)).trans ((cell_far (by simp only; omega)).trans hHeld.2.2.2.1)), (cell_far (by simp only; omega)).trans ((cell_far (by simp only; omega)).trans ((cell_far (by simp only; omega)).trans hHeld.2.2.2.2.1)), (cell_far (by simp only; omega)).trans ((cell_far (by simp only; omega)).trans ((cell_far (by simp only; omega)).trans hHeld.2.2.2.2.2))⟩
                    clear hK K hHeld; have hHeld := hH2; clear hH2
                    refine wpAnyH_done (by kernel_rfl) ?_ _
                    have z0 : (WF.setCell ⟨w.heap.size, 0, none⟩ (.slice (some ⟨bb, off, none⟩) xs.length c)).cell? ⟨w.heap.size, 0, none⟩ = some (.slice (some ⟨bb, off, none⟩) xs.length c) := World.cell?_setCell_same _ _ _ (d0)
                    have z1 : ((WF.setCell ⟨w.heap.size, 0, none⟩ (.slice (some ⟨bb, off, none⟩) xs.length c)).setCell ⟨w.heap.size, 1, none⟩ (.int .i64 hh)).cell? ⟨w.heap.size, 1, none⟩ = some (.int .i64 hh) := World.cell?_setCell_same _ _ _ ((World.cell?_setCell_other _ _ _ _ (by simp)).trans (d1))
                    have z2 : (((WF.setCell ⟨w.heap.size, 0, none⟩ (.slice (some ⟨bb, off, none⟩) xs.length c)).setCell ⟨w.heap.size, 1, none⟩ (.int .i64 hh)).setCell ⟨w.heap.size, 2, none⟩ (.int .i64 ee)).cell? ⟨w.heap.size, 2, none⟩ = some (.int .i64 ee) := World.cell?_setCell_same _ _ _ ((World.cell?_setCell_other _ _ _ _ (by simp)).trans ((World.cell?_setCell_other _ _ _ _ (by simp)).trans (d2)))
                    have z3 : ((((WF.setCell ⟨w.heap.size, 0, none⟩ (.slice (some ⟨bb, off, none⟩) xs.length c)).setCell ⟨w.heap.size, 1, none⟩ (.int .i64 hh)).setCell ⟨w.heap.size, 2, none⟩ (.int .i64 ee)).setCell ⟨w.heap.size + 1, 0, none⟩ (.slice (some ⟨g8, 0, none⟩) ys.length cap8)).cell? ⟨w.heap.size + 1, 0, none⟩ = some (.slice (some ⟨g8, 0, none⟩) ys.length cap8) := World.cell?_setCell_same _ _ _ ((cell_far (by first | (simp only; omega) | fail)).trans ((cell_far (by first | (simp only; omega) | fail)).trans ((cell_far (by first | (simp only; omega) | fail)).trans (d3))))
                    have z4 : (((((WF.setCell ⟨w.heap.size, 0, none⟩ (.slice (some ⟨bb, off, none⟩) xs.length c)).setCell ⟨w.heap.size, 1, none⟩ (.int .i64 hh)).setCell ⟨w.heap.size, 2, none⟩ (.int .i64 ee)).setCell ⟨w.heap.size + 1, 0, none⟩ (.slice (some ⟨g8, 0, none⟩) ys.length cap8)).setCell ⟨w.heap.size + 1, 1, none⟩ (.int .i64 (hh))).cell? ⟨w.heap.size + 1, 1, none⟩ = some (.int .i64 (hh)) := World.cell?_setCell_same _ _ _ ((World.cell?_setCell_other _ _ _ _ (by simp)).trans ((cell_far (by first | (simp only; omega) | fail)).trans ((cell_far (by first | (simp only; omega) | fail)).trans ((cell_far (by first | (simp only; omega) | fail)).trans (d4)))))
                    have z5 : ((((((WF.setCell ⟨w.heap.size, 0, none⟩ (.slice (some ⟨bb, off, none⟩) xs.length c)).setCell ⟨w.heap.size, 1, none⟩ (.int .i64 hh)).setCell ⟨w.heap.size, 2, none⟩ (.int .i64 ee)).setCell ⟨w.heap.size + 1, 0, none⟩ (.slice (some ⟨g8, 0, none⟩) ys.length cap8)).setCell ⟨w.heap.size + 1, 1, none⟩ (.int .i64 (hh))).setCell ⟨w.heap.size + 1, 2, none⟩ (.int .i64 (ee))).cell? ⟨w.heap.size + 1, 2, none⟩ = some (.int .i64 (ee)) := World.cell?_setCell_same _ _ _ ((World.cell?_setCell_other _ _ _ _ (by simp)).trans ((World.cell?_setCell_other _ _ _ _ (by simp)).trans ((cell_far (by first | (simp only; omega) | fail)).trans ((cell_far (by first | (simp only; omega) | fail)).trans ((cell_far (by first | (simp only; omega) | fail)).trans (d5))))))
                    clear hHeld t0 t1 t2 s0 s1 s2 d0 d1 d2 d3 d4 d5 e0 e1 e2 e3 e4 e5
                    go_wp2_with fail
                    refine bodyPost_ret (v := .tuple #[.agg #[(.slice (some ⟨bb, off, none⟩) xs.length c), .int .i64 hh, .int .i64 ee], .agg #[(.slice (some ⟨g8, 0, none⟩) ys.length cap8), .int .i64 (hh), .int .i64 (ee)]]) (by simp [results, Tryz.results19, go_sem, z0, z1, z2, z3, z4, z5]) rfl ⟨_, c, xs, hh, ee, _, cap8, ys, hh, ee, rfl, hm9, hy10, ?_, ?_, ?_⟩
                    · have hn0 : ∀ j, (Value.slice (some ⟨bb, off, none⟩) xs.length c).ownBlock ≠ some (⟨w.heap.size, j, none⟩ : Addr).block := fun j e => by have := (HLA2.out _ e).1; simp only at this; omega
                      have hn1 : ∀ j, (Value.slice (some ⟨bb, off, none⟩) xs.length c).ownBlock ≠ some (⟨w.heap.size + 1, j, none⟩ : Addr).block := fun j e => by have := (HLA2.out _ e).1; simp only at this; omega
                      exact own_sl encStep_len (by omega) (ow_drew (ow_set (hn1 2) (ow_set (hn1 1) (ow_set (hn1 0) (ow_set (hn0 2) (ow_set (hn0 1) (ow_set (hn0 0) HOA.out)))))))
                    · have hn0 : ∀ j, (Value.slice (some ⟨g8, 0, none⟩) ys.length cap8).ownBlock ≠ some (⟨w.heap.size, j, none⟩ : Addr).block := fun j e => by have := (HLB2.out _ e).1; simp only at this; omega
                      have hn1 : ∀ j, (Value.slice (some ⟨g8, 0, none⟩) ys.length cap8).ownBlock ≠ some (⟨w.heap.size + 1, j, none⟩ : Addr).block := fun j e => by have := (HLB2.out _ e).1; simp only at this; omega
                      exact own_sl encStep_len (by omega) (ow_drew (ow_set (hn1 2) (ow_set (hn1 1) (ow_set (hn1 0) (ow_set (hn0 2) (ow_set (hn0 1) (ow_set (hn0 0) HOB.out)))))))
                    · exact (bl_set (by simp only; omega) (bl_set (by simp only; omega) (bl_set (by simp only; omega) (bl_set (by simp only; omega) (bl_set (by simp only; omega) (bl_set (by simp only; omega) b8)))))).drew
                  exact AllReadyH.nil
                exact AllReadyH.nil
              · by_cases h3 : q = 3
                · subst h3
                  have k0 := TB7.out.c0
                  obtain ⟨p0, p1, b', o', Hy, e', _, _, k1⟩ := (own_sl encStep_len (by omega) TB7.out.own).atStep (i := 0) hn0
                  injection e' with e'
                  injection e' with e1 e2
                  subst e1 e2
                  simp only [Nat.zero_mul, Nat.zero_add] at k1
                  have y1 := (own_at TB7.out.own (Below.refl _ _) 1 (by omega)).2
                  have hgg := TB7.out.own.lt gg rfl
                  have hne := TB7.out.ne gg rfl
                  obtain ⟨ys, hyl, tb⟩ := TB7.out.step 1 (wrap64 (p1 + 1))
                  have TB := hid tb
                  have HYL := hid hyl
                  have GG : w7.grownBy (w7.setCell ⟨gg, 1, none⟩ (.int .i64 (wrap64 (p1 + 1)))) (some gg) := gr_set (World.grownBy.refl _ _)
                  have TA := hid (TA7.out.grow GG (fun b hb => by injection hb with hb; subst hb; exact ⟨by omega, fun e => by have := HQ.out _ e; omega⟩))
                  have RA := hid (RA7.out.grow GG (by simp; omega))
                  have RB := hid (RB7.out.grow GG (by simp; omega))
                  have b8 := b7.setCell (p := ⟨gg, 1, none⟩) (by simp only; omega) (.int .i64 (wrap64 (p1 + 1)))
                  have hy10 : ys.length ≤ 10 := by rw [hyl]; omega
                  clear TA7 TB7 RA7 RB7 GG b7 q1 q0 h0 h1 h2 Hy tb hyl
                  obtain ⟨WF, hWF⟩ : ∃ W, W = (w7.setCell ⟨gg, 1, none⟩ (.int .i64 (wrap64 (p1 + 1)))) := ⟨_, rfl⟩
                  rw [← hWF] at TA TB RA RB b8
                  have HWF := hid hWF
                  clear hWF
                  go_wp2_with fail
                  rw [← HWF.out]
                  clear HWF
                  have t0 := TA.out.c0
                  have t1 := TA.out.c1
                  have t2 := TA.out.c2
                  have s0 := TB.out.c0
                  have s1 := TB.out.c1
                  have s2 := TB.out.c2
                  have d0 := RA.out.c0
                  have d1 := RA.out.c1
                  have d2 := RA.out.c2
                  have d3 := RB.out.c0
                  have d4 := RB.out.c1
                  have d5 := RB.out.c2
                  have e0 := RA.out.f0
                  have e1 := RA.out.f1
                  have e2 := RA.out.f2
                  have e3 := RB.out.f0
                  have e4 := RB.out.f1
                  have e5 := RB.out.f2
                  have HOA := hid TA.out.own
                  have HOB := hid TB.out.own
                  have hla := HOA.out.lt
                  have hlb := HOB.out.lt
                  have HLA2 := hid hla
                  have HLB2 := hid hlb
                  clear TA TB RA RB hla hlb z6 z7
                  refine wp_region_held_drew (S := (fun W => W.cell? ⟨gt, 0, none⟩ = some (.slice (some ⟨bb, off, none⟩) xs.length c) ∧ W.cell? ⟨gt, 1, none⟩ = some (.int .i64 hh) ∧ W.cell? ⟨gt, 2, none⟩ = some (.int .i64 ee) ∧ W.cell? ⟨gb, 0, none⟩ = some (.slice (some ⟨gg, 0, none⟩) ys.length cap) ∧ W.cell? ⟨gb, 1, none⟩ = some (.int .i64 (hh)) ∧ W.cell? ⟨gb, 2, none⟩ = some (.int .i64 (ee)))) (by kernel_rfl) ?_ (fun hHeld => ?_)
                  · (try dsimp only); exact ⟨t0, t1, t2, s0, s1, s2⟩
                  refine wpAnyH_take (i := 0) (oi := ⟨some 52, Go.Op.load 26 (Go.Operand.tmp 5), 26, "l23_tariffs.go:320", #[], none⟩) (v := ?_) rfl (by kernel_rfl) (by kernel_rfl) (by kernel_rfl) (fun _ _ _ h => h) (Or.inl ⟨by rfl, ?_⟩) (by assumption) ?_
                  rotate_left
                  · intro w hSw; (try dsimp only at hSw); go_split_ands; go_simp; first | done | with_reducible rfl
                  (try simp only [Act.put, List.setIfInBounds_toArray, List.set_cons_zero, List.set_cons_succ])
                  refine wpAnyH_take (i := 1) (oi := ⟨some 53, Go.Op.load 26 (Go.Operand.tmp 6), 26, "l23_tariffs.go:320", #[⟨2, Go.Ground.gcOnly Go.Departure.lateStores⟩], none⟩) (v := ?_) rfl (by kernel_rfl) (by kernel_rfl) (by kernel_rfl) (fun _ _ _ h => h) (Or.inl ⟨by rfl, ?_⟩) (by assumption) ?_
                  rotate_left
                  · intro w hSw; (try dsimp only at hSw); go_split_ands; go_simp; first | done | with_reducible rfl
                  (try simp only [Act.put, List.setIfInBounds_toArray, List.set_cons_zero, List.set_cons_succ])
                  refine wpAnyH_ready (rs := [2]) (by kernel_rfl) (by simp) ?_
                  refine AllReadyH.cons rfl (fun K hK => ?_) ?_
                  · skip
                    go_simp
                    refine hK.out _ _ ?_ (fun hH2 => ?_)
                    · (try dsimp only); (try simp only [World.cell?_drew] at hHeld); (try simp only [World.cell?_drew]); exact ⟨(cell_far (by simp only; omega)).trans ((cell_far (by simp only; omega)).trans ((cell_far (by simp only; omega)).trans hHeld.1)), (cell_far (by simp only; omega)).trans ((cell_far (by simp only; omega)).trans ((cell_far (by simp only; omega)).trans hHeld.2.1)), (cell_far (by simp only; omega)).trans ((cell_far (by simp only; omega)).trans ((cell_far (by simp only; omega)).trans hHeld.2.2.1)), (cell_far (by simp only; omega)).trans ((cell_far (by simp only; omega)).trans ((cell_far (by simp only; omega)).trans hHeld.2.2.2.1)), (cell_far (by simp only; omega)).trans ((cell_far (by simp only; omega)).trans ((cell_far (by simp only; omega)).trans hHeld.2.2.2.2.1)), (cell_far (by simp only; omega)).trans ((cell_far (by simp only; omega)).trans ((cell_far (by simp only; omega)).trans hHeld.2.2.2.2.2))⟩
                    clear hK K hHeld; have hHeld := hH2; clear hH2
                    refine wpAnyH_ready (rs := [3]) (by kernel_rfl) (by simp) ?_
                    refine AllReadyH.cons rfl (fun K hK => ?_) ?_
                    · skip
                      go_simp
                      refine hK.out _ _ ?_ (fun hH2 => ?_)
                      · (try dsimp only); simp only [World.cell?_drew] at hHeld ⊢; exact ⟨(cell_far (by simp only; omega)).trans ((cell_far (by simp only; omega)).trans ((cell_far (by simp only; omega)).trans hHeld.1)), (cell_far (by simp only; omega)).trans ((cell_far (by simp only; omega)).trans ((cell_far (by simp only; omega)).trans hHeld.2.1)), (cell_far (by simp only; omega)).trans ((cell_far (by simp only; omega)).trans ((cell_far (by simp only; omega)).trans hHeld.2.2.1)), (cell_far (by simp only; omega)).trans ((cell_far (by simp only; omega)).trans ((cell_far (by simp only; omega)).trans hHeld.2.2.2.1)), (cell_far (by simp only; omega)).trans ((cell_far (by simp only; omega)).trans ((cell_far (by simp only; omega)).trans hHeld.2.2.2.2.1)), (cell_far (by simp only; omega)).trans ((cell_far (by simp only; omega)).trans ((cell_far (by simp only; omega)).trans hHeld.2.2.2.2.2))⟩
                      clear hK K hHeld; have hHeld := hH2; clear hH2
                      refine wpAnyH_done (by kernel_rfl) ?_ _
                      have z0 : (WF.setCell ⟨w.heap.size, 0, none⟩ (.slice (some ⟨bb, off, none⟩) xs.length c)).cell? ⟨w.heap.size, 0, none⟩ = some (.slice (some ⟨bb, off, none⟩) xs.length c) := World.cell?_setCell_same _ _ _ (d0)
                      have z1 : ((WF.setCell ⟨w.heap.size, 0, none⟩ (.slice (some ⟨bb, off, none⟩) xs.length c)).setCell ⟨w.heap.size, 1, none⟩ (.int .i64 hh)).cell? ⟨w.heap.size, 1, none⟩ = some (.int .i64 hh) := World.cell?_setCell_same _ _ _ ((World.cell?_setCell_other _ _ _ _ (by simp)).trans (d1))
                      have z2 : (((WF.setCell ⟨w.heap.size, 0, none⟩ (.slice (some ⟨bb, off, none⟩) xs.length c)).setCell ⟨w.heap.size, 1, none⟩ (.int .i64 hh)).setCell ⟨w.heap.size, 2, none⟩ (.int .i64 ee)).cell? ⟨w.heap.size, 2, none⟩ = some (.int .i64 ee) := World.cell?_setCell_same _ _ _ ((World.cell?_setCell_other _ _ _ _ (by simp)).trans ((World.cell?_setCell_other _ _ _ _ (by simp)).trans (d2)))
                      have z3 : ((((WF.setCell ⟨w.heap.size, 0, none⟩ (.slice (some ⟨bb, off, none⟩) xs.length c)).setCell ⟨w.heap.size, 1, none⟩ (.int .i64 hh)).setCell ⟨w.heap.size, 2, none⟩ (.int .i64 ee)).setCell ⟨w.heap.size + 1, 0, none⟩ (.slice (some ⟨gg, 0, none⟩) ys.length cap)).cell? ⟨w.heap.size + 1, 0, none⟩ = some (.slice (some ⟨gg, 0, none⟩) ys.length cap) := World.cell?_setCell_same _ _ _ ((cell_far (by first | (simp only; omega) | fail)).trans ((cell_far (by first | (simp only; omega) | fail)).trans ((cell_far (by first | (simp only; omega) | fail)).trans (d3))))
                      have z4 : (((((WF.setCell ⟨w.heap.size, 0, none⟩ (.slice (some ⟨bb, off, none⟩) xs.length c)).setCell ⟨w.heap.size, 1, none⟩ (.int .i64 hh)).setCell ⟨w.heap.size, 2, none⟩ (.int .i64 ee)).setCell ⟨w.heap.size + 1, 0, none⟩ (.slice (some ⟨gg, 0, none⟩) ys.length cap)).setCell ⟨w.heap.size + 1, 1, none⟩ (.int .i64 (hh))).cell? ⟨w.heap.size + 1, 1, none⟩ = some (.int .i64 (hh)) := World.cell?_setCell_same _ _ _ ((World.cell?_setCell_other _ _ _ _ (by simp)).trans ((cell_far (by first | (simp only; omega) | fail)).trans ((cell_far (by first | (simp only; omega) | fail)).trans ((cell_far (by first | (simp only; omega) | fail)).trans (d4)))))
                      have z5 : ((((((WF.setCell ⟨w.heap.size, 0, none⟩ (.slice (some ⟨bb, off, none⟩) xs.length c)).setCell ⟨w.heap.size, 1, none⟩ (.int .i64 hh)).setCell ⟨w.heap.size, 2, none⟩ (.int .i64 ee)).setCell ⟨w.heap.size + 1, 0, none⟩ (.slice (some ⟨gg, 0, none⟩) ys.length cap)).setCell ⟨w.heap.size + 1, 1, none⟩ (.int .i64 (hh))).setCell ⟨w.heap.size + 1, 2, none⟩ (.int .i64 (ee))).cell? ⟨w.heap.size + 1, 2, none⟩ = some (.int .i64 (ee)) := World.cell?_setCell_same _ _ _ ((World.cell?_setCell_other _ _ _ _ (by simp)).trans ((World.cell?_setCell_other _ _ _ _ (by simp)).trans ((cell_far (by first | (simp only; omega) | fail)).trans ((cell_far (by first | (simp only; omega) | fail)).trans ((cell_far (by first | (simp only; omega) | fail)).trans (d5))))))
                      clear hHeld t0 t1 t2 s0 s1 s2 d0 d1 d2 d3 d4 d5 e0 e1 e2 e3 e4 e5
                      go_wp2_with fail
                      refine bodyPost_ret (v := .tuple #[.agg #[(.slice (some ⟨bb, off, none⟩) xs.length c), .int .i64 hh, .int .i64 ee], .agg #[(.slice (some ⟨gg, 0, none⟩) ys.length cap), .int .i64 (hh), .int .i64 (ee)]]) (by simp [results, Tryz.results19, go_sem, z0, z1, z2, z3, z4, z5]) rfl ⟨_, c, xs, hh, ee, _, cap, ys, hh, ee, rfl, hm9, hy10, ?_, ?_, ?_⟩
                      · have hn0 : ∀ j, (Value.slice (some ⟨bb, off, none⟩) xs.length c).ownBlock ≠ some (⟨w.heap.size, j, none⟩ : Addr).block := fun j e => by have := (HLA2.out _ e).1; simp only at this; omega
                        have hn1 : ∀ j, (Value.slice (some ⟨bb, off, none⟩) xs.length c).ownBlock ≠ some (⟨w.heap.size + 1, j, none⟩ : Addr).block := fun j e => by have := (HLA2.out _ e).1; simp only at this; omega
                        exact own_sl encStep_len (by omega) (ow_drew (ow_set (hn1 2) (ow_set (hn1 1) (ow_set (hn1 0) (ow_set (hn0 2) (ow_set (hn0 1) (ow_set (hn0 0) HOA.out)))))))
                      · have hn0 : ∀ j, (Value.slice (some ⟨gg, 0, none⟩) ys.length cap).ownBlock ≠ some (⟨w.heap.size, j, none⟩ : Addr).block := fun j e => by have := (HLB2.out _ e).1; simp only at this; omega
                        have hn1 : ∀ j, (Value.slice (some ⟨gg, 0, none⟩) ys.length cap).ownBlock ≠ some (⟨w.heap.size + 1, j, none⟩ : Addr).block := fun j e => by have := (HLB2.out _ e).1; simp only at this; omega
                        exact own_sl encStep_len (by omega) (ow_drew (ow_set (hn1 2) (ow_set (hn1 1) (ow_set (hn1 0) (ow_set (hn0 2) (ow_set (hn0 1) (ow_set (hn0 0) HOB.out)))))))
                      · exact (bl_set (by simp only; omega) (bl_set (by simp only; omega) (bl_set (by simp only; omega) (bl_set (by simp only; omega) (bl_set (by simp only; omega) (bl_set (by simp only; omega) b8)))))).drew
                    exact AllReadyH.nil
                  exact AllReadyH.nil
                · have TA := TA7
                  have TB := TB7
                  have RA := RA7
                  have RB := RB7
                  have b8 := b7
                  have n0 : (q == 0) = false := by simpa using h0
                  have n1 : (q == 1) = false := by simpa using h1
                  have n2 : (q == 2) = false := by simpa using h2
                  have n3 : (q == 3) = false := by simpa using h3
                  have hy10 : xs.length ≤ 10 := by omega
                  clear TA7 TB7 RA7 RB7 h0 h1 h2 h3 q1 b7
                  obtain ⟨WF, hWF⟩ : ∃ W, W = w7 := ⟨_, rfl⟩
                  rw [← hWF] at TA TB RA RB b8
                  have HWF := hid hWF
                  clear hWF
                  go_wp2_with fail
                  rw [← HWF.out]
                  clear HWF
                  have t0 := TA.out.c0
                  have t1 := TA.out.c1
                  have t2 := TA.out.c2
                  have s0 := TB.out.c0
                  have s1 := TB.out.c1
                  have s2 := TB.out.c2
                  have d0 := RA.out.c0
                  have d1 := RA.out.c1
                  have d2 := RA.out.c2
                  have d3 := RB.out.c0
                  have d4 := RB.out.c1
                  have d5 := RB.out.c2
                  have e0 := RA.out.f0
                  have e1 := RA.out.f1
                  have e2 := RA.out.f2
                  have e3 := RB.out.f0
                  have e4 := RB.out.f1
                  have e5 := RB.out.f2
                  have HOA := hid TA.out.own
                  have HOB := hid TB.out.own
                  have hla := HOA.out.lt
                  have hlb := HOB.out.lt
                  have HLA2 := hid hla
                  have HLB2 := hid hlb
                  clear TA TB RA RB hla hlb z6 z7
                  refine wp_region_held_drew (S := (fun W => W.cell? ⟨gt, 0, none⟩ = some (.slice (some ⟨bb, off, none⟩) xs.length c) ∧ W.cell? ⟨gt, 1, none⟩ = some (.int .i64 hh) ∧ W.cell? ⟨gt, 2, none⟩ = some (.int .i64 ee) ∧ W.cell? ⟨gb, 0, none⟩ = some (.slice (some ⟨gg, 0, none⟩) xs.length cap) ∧ W.cell? ⟨gb, 1, none⟩ = some (.int .i64 (hh)) ∧ W.cell? ⟨gb, 2, none⟩ = some (.int .i64 (ee)))) (by kernel_rfl) ?_ (fun hHeld => ?_)
                  · (try dsimp only); exact ⟨t0, t1, t2, s0, s1, s2⟩
                  refine wpAnyH_take (i := 0) (oi := ⟨some 52, Go.Op.load 26 (Go.Operand.tmp 5), 26, "l23_tariffs.go:320", #[], none⟩) (v := ?_) rfl (by kernel_rfl) (by kernel_rfl) (by kernel_rfl) (fun _ _ _ h => h) (Or.inl ⟨by rfl, ?_⟩) (by assumption) ?_
                  rotate_left
                  · intro w hSw; (try dsimp only at hSw); go_split_ands; go_simp; first | done | with_reducible rfl
                  (try simp only [Act.put, List.setIfInBounds_toArray, List.set_cons_zero, List.set_cons_succ])
                  refine wpAnyH_take (i := 1) (oi := ⟨some 53, Go.Op.load 26 (Go.Operand.tmp 6), 26, "l23_tariffs.go:320", #[⟨2, Go.Ground.gcOnly Go.Departure.lateStores⟩], none⟩) (v := ?_) rfl (by kernel_rfl) (by kernel_rfl) (by kernel_rfl) (fun _ _ _ h => h) (Or.inl ⟨by rfl, ?_⟩) (by assumption) ?_
                  rotate_left
                  · intro w hSw; (try dsimp only at hSw); go_split_ands; go_simp; first | done | with_reducible rfl
                  (try simp only [Act.put, List.setIfInBounds_toArray, List.set_cons_zero, List.set_cons_succ])
                  refine wpAnyH_ready (rs := [2]) (by kernel_rfl) (by simp) ?_
                  refine AllReadyH.cons rfl (fun K hK => ?_) ?_
                  · skip
                    go_simp
                    refine hK.out _ _ ?_ (fun hH2 => ?_)
                    · (try dsimp only); (try simp only [World.cell?_drew] at hHeld); (try simp only [World.cell?_drew]); exact ⟨(cell_far (by simp only; omega)).trans ((cell_far (by simp only; omega)).trans ((cell_far (by simp only; omega)).trans hHeld.1)), (cell_far (by simp only; omega)).trans ((cell_far (by simp only; omega)).trans ((cell_far (by simp only; omega)).trans hHeld.2.1)), (cell_far (by simp only; omega)).trans ((cell_far (by simp only; omega)).trans ((cell_far (by simp only; omega)).trans hHeld.2.2.1)), (cell_far (by simp only; omega)).trans ((cell_far (by simp only; omega)).trans ((cell_far (by simp only; omega)).trans hHeld.2.2.2.1)), (cell_far (by simp only; omega)).trans ((cell_far (by simp only; omega)).trans ((cell_far (by simp only; omega)).trans hHeld.2.2.2.2.1)), (cell_far (by simp only; omega)).trans ((cell_far (by simp only; omega)).trans ((cell_far (by simp only; omega)).trans hHeld.2.2.2.2.2))⟩
                    clear hK K hHeld; have hHeld := hH2; clear hH2
                    refine wpAnyH_ready (rs := [3]) (by kernel_rfl) (by simp) ?_
                    refine AllReadyH.cons rfl (fun K hK => ?_) ?_
                    · skip
                      go_simp
                      refine hK.out _ _ ?_ (fun hH2 => ?_)
                      · (try dsimp only); simp only [World.cell?_drew] at hHeld ⊢; exact ⟨(cell_far (by simp only; omega)).trans ((cell_far (by simp only; omega)).trans ((cell_far (by simp only; omega)).trans hHeld.1)), (cell_far (by simp only; omega)).trans ((cell_far (by simp only; omega)).trans ((cell_far (by simp only; omega)).trans hHeld.2.1)), (cell_far (by simp only; omega)).trans ((cell_far (by simp only; omega)).trans ((cell_far (by simp only; omega)).trans hHeld.2.2.1)), (cell_far (by simp only; omega)).trans ((cell_far (by simp only; omega)).trans ((cell_far (by simp only; omega)).trans hHeld.2.2.2.1)), (cell_far (by simp only; omega)).trans ((cell_far (by simp only; omega)).trans ((cell_far (by simp only; omega)).trans hHeld.2.2.2.2.1)), (cell_far (by simp only; omega)).trans ((cell_far (by simp only; omega)).trans ((cell_far (by simp only; omega)).trans hHeld.2.2.2.2.2))⟩
                      clear hK K hHeld; have hHeld := hH2; clear hH2
                      refine wpAnyH_done (by kernel_rfl) ?_ _
                      have z0 : (WF.setCell ⟨w.heap.size, 0, none⟩ (.slice (some ⟨bb, off, none⟩) xs.length c)).cell? ⟨w.heap.size, 0, none⟩ = some (.slice (some ⟨bb, off, none⟩) xs.length c) := World.cell?_setCell_same _ _ _ (d0)
                      have z1 : ((WF.setCell ⟨w.heap.size, 0, none⟩ (.slice (some ⟨bb, off, none⟩) xs.length c)).setCell ⟨w.heap.size, 1, none⟩ (.int .i64 hh)).cell? ⟨w.heap.size, 1, none⟩ = some (.int .i64 hh) := World.cell?_setCell_same _ _ _ ((World.cell?_setCell_other _ _ _ _ (by simp)).trans (d1))
                      have z2 : (((WF.setCell ⟨w.heap.size, 0, none⟩ (.slice (some ⟨bb, off, none⟩) xs.length c)).setCell ⟨w.heap.size, 1, none⟩ (.int .i64 hh)).setCell ⟨w.heap.size, 2, none⟩ (.int .i64 ee)).cell? ⟨w.heap.size, 2, none⟩ = some (.int .i64 ee) := World.cell?_setCell_same _ _ _ ((World.cell?_setCell_other _ _ _ _ (by simp)).trans ((World.cell?_setCell_other _ _ _ _ (by simp)).trans (d2)))
                      have z3 : ((((WF.setCell ⟨w.heap.size, 0, none⟩ (.slice (some ⟨bb, off, none⟩) xs.length c)).setCell ⟨w.heap.size, 1, none⟩ (.int .i64 hh)).setCell ⟨w.heap.size, 2, none⟩ (.int .i64 ee)).setCell ⟨w.heap.size + 1, 0, none⟩ (.slice (some ⟨gg, 0, none⟩) xs.length cap)).cell? ⟨w.heap.size + 1, 0, none⟩ = some (.slice (some ⟨gg, 0, none⟩) xs.length cap) := World.cell?_setCell_same _ _ _ ((cell_far (by first | (simp only; omega) | fail)).trans ((cell_far (by first | (simp only; omega) | fail)).trans ((cell_far (by first | (simp only; omega) | fail)).trans (d3))))
                      have z4 : (((((WF.setCell ⟨w.heap.size, 0, none⟩ (.slice (some ⟨bb, off, none⟩) xs.length c)).setCell ⟨w.heap.size, 1, none⟩ (.int .i64 hh)).setCell ⟨w.heap.size, 2, none⟩ (.int .i64 ee)).setCell ⟨w.heap.size + 1, 0, none⟩ (.slice (some ⟨gg, 0, none⟩) xs.length cap)).setCell ⟨w.heap.size + 1, 1, none⟩ (.int .i64 (hh))).cell? ⟨w.heap.size + 1, 1, none⟩ = some (.int .i64 (hh)) := World.cell?_setCell_same _ _ _ ((World.cell?_setCell_other _ _ _ _ (by simp)).trans ((cell_far (by first | (simp only; omega) | fail)).trans ((cell_far (by first | (simp only; omega) | fail)).trans ((cell_far (by first | (simp only; omega) | fail)).trans (d4)))))
                      have z5 : ((((((WF.setCell ⟨w.heap.size, 0, none⟩ (.slice (some ⟨bb, off, none⟩) xs.length c)).setCell ⟨w.heap.size, 1, none⟩ (.int .i64 hh)).setCell ⟨w.heap.size, 2, none⟩ (.int .i64 ee)).setCell ⟨w.heap.size + 1, 0, none⟩ (.slice (some ⟨gg, 0, none⟩) xs.length cap)).setCell ⟨w.heap.size + 1, 1, none⟩ (.int .i64 (hh))).setCell ⟨w.heap.size + 1, 2, none⟩ (.int .i64 (ee))).cell? ⟨w.heap.size + 1, 2, none⟩ = some (.int .i64 (ee)) := World.cell?_setCell_same _ _ _ ((World.cell?_setCell_other _ _ _ _ (by simp)).trans ((World.cell?_setCell_other _ _ _ _ (by simp)).trans ((cell_far (by first | (simp only; omega) | fail)).trans ((cell_far (by first | (simp only; omega) | fail)).trans ((cell_far (by first | (simp only; omega) | fail)).trans (d5))))))
                      clear hHeld t0 t1 t2 s0 s1 s2 d0 d1 d2 d3 d4 d5 e0 e1 e2 e3 e4 e5
                      go_wp2_with fail
                      refine bodyPost_ret (v := .tuple #[.agg #[(.slice (some ⟨bb, off, none⟩) xs.length c), .int .i64 hh, .int .i64 ee], .agg #[(.slice (some ⟨gg, 0, none⟩) xs.length cap), .int .i64 (hh), .int .i64 (ee)]]) (by simp [results, Tryz.results19, go_sem, z0, z1, z2, z3, z4, z5]) rfl ⟨_, c, xs, hh, ee, _, cap, xs, hh, ee, rfl, hm9, hy10, ?_, ?_, ?_⟩
                      · have hn0 : ∀ j, (Value.slice (some ⟨bb, off, none⟩) xs.length c).ownBlock ≠ some (⟨w.heap.size, j, none⟩ : Addr).block := fun j e => by have := (HLA2.out _ e).1; simp only at this; omega
                        have hn1 : ∀ j, (Value.slice (some ⟨bb, off, none⟩) xs.length c).ownBlock ≠ some (⟨w.heap.size + 1, j, none⟩ : Addr).block := fun j e => by have := (HLA2.out _ e).1; simp only at this; omega
                        exact own_sl encStep_len (by omega) (ow_drew (ow_set (hn1 2) (ow_set (hn1 1) (ow_set (hn1 0) (ow_set (hn0 2) (ow_set (hn0 1) (ow_set (hn0 0) HOA.out)))))))
                      · have hn0 : ∀ j, (Value.slice (some ⟨gg, 0, none⟩) xs.length cap).ownBlock ≠ some (⟨w.heap.size, j, none⟩ : Addr).block := fun j e => by have := (HLB2.out _ e).1; simp only at this; omega
                        have hn1 : ∀ j, (Value.slice (some ⟨gg, 0, none⟩) xs.length cap).ownBlock ≠ some (⟨w.heap.size + 1, j, none⟩ : Addr).block := fun j e => by have := (HLB2.out _ e).1; simp only at this; omega
                        exact own_sl encStep_len (by omega) (ow_drew (ow_set (hn1 2) (ow_set (hn1 1) (ow_set (hn1 0) (ow_set (hn0 2) (ow_set (hn0 1) (ow_set (hn0 0) HOB.out)))))))
                      · exact (bl_set (by simp only; omega) (bl_set (by simp only; omega) (bl_set (by simp only; omega) (bl_set (by simp only; omega) (bl_set (by simp only; omega) (bl_set (by simp only; omega) b8)))))).drew
                    exact AllReadyH.nil
                  exact AllReadyH.nil
        exact AllReadyH.nil
      exact AllReadyH.nil
    refine AllReadyH.cons rfl (fun K hK => ?_) ?_
    · skip
      go_simp
      refine hK.out _ _ ?_ (fun hH2 => ?_)
      · (try dsimp only); exact ⟨below_cell hHeld.1 ((Below.refl _ _).alloc (Nat.le_refl _) _), below_cell hHeld.2.1 ((Below.refl _ _).alloc (Nat.le_refl _) _), below_cell hHeld.2.2 ((Below.refl _ _).alloc (Nat.le_refl _) _)⟩
      clear hK K hHeld; have hHeld := hH2; clear hH2
      refine wpAnyH_ready (rs := [3]) (by kernel_rfl) (by simp) ?_
      refine AllReadyH.cons rfl (fun K hK => ?_) ?_
      · skip
        refine step_append_lies _ rfl _ _ 24 rfl W3.heap.size 57 i0 (.agg #[.int .i64 0, .int .i64 0]) 2 16 Tryz.underlying24 hi hz0 hz1 hz2 rfl (by omega) (.slice (some ⟨W3.heap.size, 0, none⟩) 0 0) 0 [] rfl OE2.out ⟨bb, off, none⟩ xs.length c (xs.flatMap encStep) rfl hlen0 HN2.out (one_encStep xs) hn0 (by simp only [maxLen]; omega) (by omega) (by first | (simp; done) | (simp; omega)) (W3.heap.size + 2) (by simp) ?_
        intro gg cap w4 ho4 hg4 hat4 hlt4
        have ne4 : some gt ≠ (Value.slice (some ⟨W3.heap.size, 0, none⟩) 0 0).ownBlock := by simp [Value.ownBlock]; omega
        have q4 : Below W3.heap.size W3 w4 := Q2.out.grown hg4 (by first | (simp; done) | (simp; omega)) (fun q hq => by simp [Value.ownBlock] at hq; omega)
        have z4 : W3.heap.size < w4.heap.size := by have := hg4.size; simp at this; omega
        have u0 := hg4.cell hHeld.1 ne4
        have u1 := hg4.cell hHeld.2.1 ne4
        have u2 := hg4.cell hHeld.2.2 ne4
        have hgg := ho4.lt gg rfl
        have neb : some (W3.heap.size + 1) ≠ (Value.slice (some ⟨W3.heap.size, 0, none⟩) 0 0).ownBlock := by simp [Value.ownBlock]
        have lb : W3.heap.size + 1 < ((W3.alloc (.cells #[] 57)).alloc (.cells #[.slice none 0 0, .int .i64 0, .int .i64 0] 26)).drew.heap.size := by first | (simp; done) | (simp; omega)
        have p0 : w4.cell? ⟨W3.heap.size + 1, 0, none⟩ = some (.slice none 0 0) := hg4.cell (by go_simp) neb
        have p1 : w4.cell? ⟨W3.heap.size + 1, 1, none⟩ = some (.int .i64 0) := hg4.cell (by go_simp) neb
        have p2 : w4.cell? ⟨W3.heap.size + 1, 2, none⟩ = some (.int .i64 0) := hg4.cell (by go_simp) neb
        have pf0 : w4.frozen? ⟨W3.heap.size + 1, 0, none⟩ = false := (hg4.frozen_far ⟨W3.heap.size + 1, 0, none⟩ lb neb).trans (by go_simp)
        have pf1 : w4.frozen? ⟨W3.heap.size + 1, 1, none⟩ = false := (hg4.frozen_far ⟨W3.heap.size + 1, 1, none⟩ lb neb).trans (by go_simp)
        have pf2 : w4.frozen? ⟨W3.heap.size + 1, 2, none⟩ = false := (hg4.frozen_far ⟨W3.heap.size + 1, 2, none⟩ lb neb).trans (by go_simp)
        have hgb : gg ≠ W3.heap.size + 1 := by
          rcases hat4 with q | q
          · simp [Value.ownBlock] at q; omega
          · omega
        refine hK.out _ _ ?_ (fun hH2 => ?_)
        · (try dsimp only); exact ⟨u0, u1, u2⟩
        clear hK K hHeld; have hHeld := hH2; clear hH2
        refine wpAnyH_take (i := 8) (oi := ⟨some 19, Go.Op.build 26 #[(0, Go.Operand.tmp 14), (1, Go.Operand.tmp 16), (2, Go.Operand.tmp 18)], 26, "l23_tariffs.go:309", #[⟨3, Go.Ground.data⟩, ⟨5, Go.Ground.data⟩, ⟨7, Go.Ground.data⟩], none⟩) (v := ?_) rfl (by kernel_rfl) (by kernel_rfl) (by kernel_rfl) (fun _ _ _ h => h) (Or.inl ⟨by rfl, ?_⟩) (by assumption) ?_
        rotate_left
        · intro w hSw; (try dsimp only at hSw); go_split_ands; go_simp; first | done | with_reducible rfl
        (try simp only [Act.put, List.setIfInBounds_toArray, List.set_cons_zero, List.set_cons_succ])
        refine wpAnyH_ready (rs := [10]) (by kernel_rfl) (by simp) ?_
        refine AllReadyH.cons rfl (fun K hK => ?_) ?_
        · skip
          go_simp
          refine hK.out _ _ ?_ (fun hH2 => ?_)
          · (try dsimp only); exact ⟨(cell_far (by simp only; omega)).trans ((cell_far (by simp only; omega)).trans ((cell_far (by simp only; omega)).trans hHeld.1)), (cell_far (by simp only; omega)).trans ((cell_far (by simp only; omega)).trans ((cell_far (by simp only; omega)).trans hHeld.2.1)), (cell_far (by simp only; omega)).trans ((cell_far (by simp only; omega)).trans ((cell_far (by simp only; omega)).trans hHeld.2.2))⟩
          clear hK K hHeld; have hHeld := hH2; clear hH2
          refine wpAnyH_done (by kernel_rfl) ?_ _
          rw [List.nil_append] at ho4
          simp only [Nat.zero_add] at ho4
          obtain ⟨W6, hW6⟩ : ∃ W, W = ((w4.setCell ⟨(W3.heap.size + 1), 0, none⟩ (.slice (some ⟨gg, 0, none⟩) xs.length cap)).setCell ⟨(W3.heap.size + 1), 1, none⟩ (.int .i64 hh)).setCell ⟨(W3.heap.size + 1), 2, none⟩ (.int .i64 ee) := ⟨_, rfl⟩
          have BW : Below W3.heap.size W3 W6 := by rw [hW6]; exact ((q4.setCell (p := ⟨(W3.heap.size + 1), 0, none⟩) (by simp only; omega) _).setCell (p := ⟨(W3.heap.size + 1), 1, none⟩) (by simp only; omega) _).setCell (p := ⟨(W3.heap.size + 1), 2, none⟩) (by simp only; omega) _
          rw [← hW6]
          obtain ⟨gb, hgbe⟩ : ∃ g, g = (W3.heap.size + 1) := ⟨_, rfl⟩
          have TB : TarAt W6 W3.heap.size gb (some ⟨gg, 0, none⟩) cap xs hh ee := by rw [hW6, hgbe]; exact tar_store p0 p1 p2 pf0 pf1 pf2 ho4 hgb
          rw [← hgbe]
          have gbl : W3.heap.size ≤ gb := by omega
          clear p0 p1 p2 pf0 pf1 pf2 hgb neb lb
          clear hW6 hgbe ho4 hg4 hat4 hlt4 u0 u1 u2 q4 ne4 hHeld hgg z4
          have TA6 := hid (T3.out.below BW)
          have TB6 := hid TB
          have RA6 := hid (RA.out.below (BW.mono (Nat.le_refl _)))
          have RB6 := hid (RB.out.below (BW.mono (Nat.le_refl _)))
          have S6 := hid (S3.out.below (BW.mono (by omega)))
          have b6 := b3.trans (BW.mono b3.size)
          have z6 := BW.size
          clear T3 TB RA RB S3 BW b3 OE1 OE2 OE3 HN1 HN2 HN3 Q1 Q2 Q3 t0 t1 t2
          go_wp2_with fail
          refine (pick_any _ _ 5 _ S6.out (by omega) (by omega)).mono ?_
          rintro r w7 ⟨q, rfl, q0, q1, hs7, hg7⟩
          have TA7 := hid (TA6.out.src hg7 (by omega) (by omega))
          have TB7 := hid (TB6.out.src hg7 (by omega) (by omega))
          have RA7 := hid (RA6.out.grow hg7 (by simp))
          have RB7 := hid (RB6.out.grow hg7 (by simp))
          have b7 := below_src b6 hg7 (by omega) (by omega)
          have z7 := hg7.size
          have gbt : gb ≠ gt := by omega
          clear TA6 TB6 RA6 RB6 S6 b6 hs7 hg7
          by_cases h0 : q = 0
          · subst h0
            have k1 := TB7.out.c1
            have y1 := TB7.out.f1
            have TB := hid (TB7.out.put1 (wrap64 (hh + 1)))
            have GG : w7.grownBy (w7.setCell ⟨gb, 1, none⟩ (.int .i64 (wrap64 (hh + 1)))) (some gb) := gr_set (World.grownBy.refl _ _)
            have TA := hid (TA7.out.grow GG (fun b hb => by injection hb with hb; subst hb; exact ⟨gbt, fun e => by have := HQ.out _ e; omega⟩))
            have RA := hid (RA7.out.grow GG (by simp; omega))
            have RB := hid (RB7.out.grow GG (by simp; omega))
            have b8 := b7.setCell (p := ⟨gb, 1, none⟩) (by simp only; omega) (.int .i64 (wrap64 (hh + 1)))
            have hy10 : xs.length ≤ 10 := by omega
            clear TA7 TB7 RA7 RB7 GG b7 q1 q0
            obtain ⟨WF, hWF⟩ : ∃ W, W = (w7.setCell ⟨gb, 1, none⟩ (.int .i64 (wrap64 (hh + 1)))) := ⟨_, rfl⟩
            rw [← hWF] at TA TB RA RB b8
            have HWF := hid hWF
            clear hWF
            go_wp2_with fail
            rw [← HWF.out]
            clear HWF
            have t0 := TA.out.c0
            have t1 := TA.out.c1
            have t2 := TA.out.c2
            have s0 := TB.out.c0
            have s1 := TB.out.c1
            have s2 := TB.out.c2
            have d0 := RA.out.c0
            have d1 := RA.out.c1
            have d2 := RA.out.c2
            have d3 := RB.out.c0
            have d4 := RB.out.c1
            have d5 := RB.out.c2
            have e0 := RA.out.f0
            have e1 := RA.out.f1
            have e2 := RA.out.f2
            have e3 := RB.out.f0
            have e4 := RB.out.f1
            have e5 := RB.out.f2
            have HOA := hid TA.out.own
            have HOB := hid TB.out.own
            have hla := HOA.out.lt
            have hlb := HOB.out.lt
            have HLA2 := hid hla
            have HLB2 := hid hlb
            clear TA TB RA RB hla hlb z6 z7
            refine wp_region_held_drew (S := (fun W => W.cell? ⟨gt, 0, none⟩ = some (.slice (some ⟨bb, off, none⟩) xs.length c) ∧ W.cell? ⟨gt, 1, none⟩ = some (.int .i64 hh) ∧ W.cell? ⟨gt, 2, none⟩ = some (.int .i64 ee) ∧ W.cell? ⟨gb, 0, none⟩ = some (.slice (some ⟨gg, 0, none⟩) xs.length cap) ∧ W.cell? ⟨gb, 1, none⟩ = some (.int .i64 (wrap64 (hh + 1))) ∧ W.cell? ⟨gb, 2, none⟩ = some (.int .i64 (ee)))) (by kernel_rfl) ?_ (fun hHeld => ?_)
            · (try dsimp only); exact ⟨t0, t1, t2, s0, s1, s2⟩
            refine wpAnyH_take (i := 0) (oi := ⟨some 52, Go.Op.load 26 (Go.Operand.tmp 5), 26, "l23_tariffs.go:320", #[], none⟩) (v := ?_) rfl (by kernel_rfl) (by kernel_rfl) (by kernel_rfl) (fun _ _ _ h => h) (Or.inl ⟨by rfl, ?_⟩) (by assumption) ?_
            rotate_left
            · intro w hSw; (try dsimp only at hSw); go_split_ands; go_simp; first | done | with_reducible rfl
            (try simp only [Act.put, List.setIfInBounds_toArray, List.set_cons_zero, List.set_cons_succ])
            refine wpAnyH_take (i := 1) (oi := ⟨some 53, Go.Op.load 26 (Go.Operand.tmp 6), 26, "l23_tariffs.go:320", #[⟨2, Go.Ground.gcOnly Go.Departure.lateStores⟩], none⟩) (v := ?_) rfl (by kernel_rfl) (by kernel_rfl) (by kernel_rfl) (fun _ _ _ h => h) (Or.inl ⟨by rfl, ?_⟩) (by assumption) ?_
            rotate_left
            · intro w hSw; (try dsimp only at hSw); go_split_ands; go_simp; first | done | with_reducible rfl
            (try simp only [Act.put, List.setIfInBounds_toArray, List.set_cons_zero, List.set_cons_succ])
            refine wpAnyH_ready (rs := [2]) (by kernel_rfl) (by simp) ?_
            refine AllReadyH.cons rfl (fun K hK => ?_) ?_
            · skip
              go_simp
              refine hK.out _ _ ?_ (fun hH2 => ?_)
              · (try dsimp only); (try simp only [World.cell?_drew] at hHeld); (try simp only [World.cell?_drew]); exact ⟨(cell_far (by simp only; omega)).trans ((cell_far (by simp only; omega)).trans ((cell_far (by simp only; omega)).trans hHeld.1)), (cell_far (by simp only; omega)).trans ((cell_far (by simp only; omega)).trans ((cell_far (by simp only; omega)).trans hHeld.2.1)), (cell_far (by simp only; omega)).trans ((cell_far (by simp only; omega)).trans ((cell_far (by simp only; omega)).trans hHeld.2.2.1)), (cell_far (by simp only; omega)).trans ((cell_far (by simp only; omega)).trans ((cell_far (by simp only; omega)).trans hHeld.2.2.2.1)), (cell_far (by simp only; omega)).trans ((cell_far (by simp only; omega)).trans ((cell_far (by simp only; omega)).trans hHeld.2.2.2.2.1)), (cell_far (by simp only; omega)).trans ((cell_far (by simp only; omega)).trans ((cell_far (by simp only; omega)).trans hHeld.2.2.2.2.2))⟩
              clear hK K hHeld; have hHeld := hH2; clear hH2
              refine wpAnyH_ready (rs := [3]) (by kernel_rfl) (by simp) ?_
              refine AllReadyH.cons rfl (fun K hK => ?_) ?_
              · skip
                go_simp
                refine hK.out _ _ ?_ (fun hH2 => ?_)
                · (try dsimp only); simp only [World.cell?_drew] at hHeld ⊢; exact ⟨(cell_far (by simp only; omega)).trans ((cell_far (by simp only; omega)).trans ((cell_far (by simp only; omega)).trans hHeld.1)), (cell_far (by simp only; omega)).trans ((cell_far (by simp only; omega)).trans ((cell_far (by simp only; omega)).trans hHeld.2.1)), (cell_far (by simp only; omega)).trans ((cell_far (by simp only; omega)).trans ((cell_far (by simp only; omega)).trans hHeld.2.2.1)), (cell_far (by simp only; omega)).trans ((cell_far (by simp only; omega)).trans ((cell_far (by simp only; omega)).trans hHeld.2.2.2.1)), (cell_far (by simp only; omega)).trans ((cell_far (by simp only; omega)).trans ((cell_far (by simp only; omega)).trans hHeld.2.2.2.2.1)), (cell_far (by simp only; omega)).trans ((cell_far (by simp only; omega)).trans ((cell_far (by simp only; omega)).trans hHeld.2.2.2.2.2))⟩
                clear hK K hHeld; have hHeld := hH2; clear hH2
                refine wpAnyH_done (by kernel_rfl) ?_ _
                have z0 : (WF.setCell ⟨w.heap.size, 0, none⟩ (.slice (some ⟨bb, off, none⟩) xs.length c)).cell? ⟨w.heap.size, 0, none⟩ = some (.slice (some ⟨bb, off, none⟩) xs.length c) := World.cell?_setCell_same _ _ _ (d0)
                have z1 : ((WF.setCell ⟨w.heap.size, 0, none⟩ (.slice (some ⟨bb, off, none⟩) xs.length c)).setCell ⟨w.heap.size, 1, none⟩ (.int .i64 hh)).cell? ⟨w.heap.size, 1, none⟩ = some (.int .i64 hh) := World.cell?_setCell_same _ _ _ ((World.cell?_setCell_other _ _ _ _ (by simp)).trans (d1))
                have z2 : (((WF.setCell ⟨w.heap.size, 0, none⟩ (.slice (some ⟨bb, off, none⟩) xs.length c)).setCell ⟨w.heap.size, 1, none⟩ (.int .i64 hh)).setCell ⟨w.heap.size, 2, none⟩ (.int .i64 ee)).cell? ⟨w.heap.size, 2, none⟩ = some (.int .i64 ee) := World.cell?_setCell_same _ _ _ ((World.cell?_setCell_other _ _ _ _ (by simp)).trans ((World.cell?_setCell_other _ _ _ _ (by simp)).trans (d2)))
                have z3 : ((((WF.setCell ⟨w.heap.size, 0, none⟩ (.slice (some ⟨bb, off, none⟩) xs.length c)).setCell ⟨w.heap.size, 1, none⟩ (.int .i64 hh)).setCell ⟨w.heap.size, 2, none⟩ (.int .i64 ee)).setCell ⟨w.heap.size + 1, 0, none⟩ (.slice (some ⟨gg, 0, none⟩) xs.length cap)).cell? ⟨w.heap.size + 1, 0, none⟩ = some (.slice (some ⟨gg, 0, none⟩) xs.length cap) := World.cell?_setCell_same _ _ _ ((cell_far (by first | (simp only; omega) | fail)).trans ((cell_far (by first | (simp only; omega) | fail)).trans ((cell_far (by first | (simp only; omega) | fail)).trans (d3))))
                have z4 : (((((WF.setCell ⟨w.heap.size, 0, none⟩ (.slice (some ⟨bb, off, none⟩) xs.length c)).setCell ⟨w.heap.size, 1, none⟩ (.int .i64 hh)).setCell ⟨w.heap.size, 2, none⟩ (.int .i64 ee)).setCell ⟨w.heap.size + 1, 0, none⟩ (.slice (some ⟨gg, 0, none⟩) xs.length cap)).setCell ⟨w.heap.size + 1, 1, none⟩ (.int .i64 (wrap64 (hh + 1)))).cell? ⟨w.heap.size + 1, 1, none⟩ = some (.int .i64 (wrap64 (hh + 1))) := World.cell?_setCell_same _ _ _ ((World.cell?_setCell_other _ _ _ _ (by simp)).trans ((cell_far (by first | (simp only; omega) | fail)).trans ((cell_far (by first | (simp only; omega) | fail)).trans ((cell_far (by first | (simp only; omega) | fail)).trans (d4)))))
                have z5 : ((((((WF.setCell ⟨w.heap.size, 0, none⟩ (.slice (some ⟨bb, off, none⟩) xs.length c)).setCell ⟨w.heap.size, 1, none⟩ (.int .i64 hh)).setCell ⟨w.heap.size, 2, none⟩ (.int .i64 ee)).setCell ⟨w.heap.size + 1, 0, none⟩ (.slice (some ⟨gg, 0, none⟩) xs.length cap)).setCell ⟨w.heap.size + 1, 1, none⟩ (.int .i64 (wrap64 (hh + 1)))).setCell ⟨w.heap.size + 1, 2, none⟩ (.int .i64 (ee))).cell? ⟨w.heap.size + 1, 2, none⟩ = some (.int .i64 (ee)) := World.cell?_setCell_same _ _ _ ((World.cell?_setCell_other _ _ _ _ (by simp)).trans ((World.cell?_setCell_other _ _ _ _ (by simp)).trans ((cell_far (by first | (simp only; omega) | fail)).trans ((cell_far (by first | (simp only; omega) | fail)).trans ((cell_far (by first | (simp only; omega) | fail)).trans (d5))))))
                clear hHeld t0 t1 t2 s0 s1 s2 d0 d1 d2 d3 d4 d5 e0 e1 e2 e3 e4 e5
                go_wp2_with fail
                refine bodyPost_ret (v := .tuple #[.agg #[(.slice (some ⟨bb, off, none⟩) xs.length c), .int .i64 hh, .int .i64 ee], .agg #[(.slice (some ⟨gg, 0, none⟩) xs.length cap), .int .i64 (wrap64 (hh + 1)), .int .i64 (ee)]]) (by simp [results, Tryz.results19, go_sem, z0, z1, z2, z3, z4, z5]) rfl ⟨_, c, xs, hh, ee, _, cap, xs, wrap64 (hh + 1), ee, rfl, hm9, hy10, ?_, ?_, ?_⟩
                · have hn0 : ∀ j, (Value.slice (some ⟨bb, off, none⟩) xs.length c).ownBlock ≠ some (⟨w.heap.size, j, none⟩ : Addr).block := fun j e => by have := (HLA2.out _ e).1; simp only at this; omega
                  have hn1 : ∀ j, (Value.slice (some ⟨bb, off, none⟩) xs.length c).ownBlock ≠ some (⟨w.heap.size + 1, j, none⟩ : Addr).block := fun j e => by have := (HLA2.out _ e).1; simp only at this; omega
                  exact own_sl encStep_len (by omega) (ow_drew (ow_set (hn1 2) (ow_set (hn1 1) (ow_set (hn1 0) (ow_set (hn0 2) (ow_set (hn0 1) (ow_set (hn0 0) HOA.out)))))))
                · have hn0 : ∀ j, (Value.slice (some ⟨gg, 0, none⟩) xs.length cap).ownBlock ≠ some (⟨w.heap.size, j, none⟩ : Addr).block := fun j e => by have := (HLB2.out _ e).1; simp only at this; omega
                  have hn1 : ∀ j, (Value.slice (some ⟨gg, 0, none⟩) xs.length cap).ownBlock ≠ some (⟨w.heap.size + 1, j, none⟩ : Addr).block := fun j e => by have := (HLB2.out _ e).1; simp only at this; omega
                  exact own_sl encStep_len (by omega) (ow_drew (ow_set (hn1 2) (ow_set (hn1 1) (ow_set (hn1 0) (ow_set (hn0 2) (ow_set (hn0 1) (ow_set (hn0 0) HOB.out)))))))
                · exact (bl_set (by simp only; omega) (bl_set (by simp only; omega) (bl_set (by simp only; omega) (bl_set (by simp only; omega) (bl_set (by simp only; omega) (bl_set (by simp only; omega) b8)))))).drew
              exact AllReadyH.nil
            exact AllReadyH.nil
          · by_cases h1 : q = 1
            · subst h1
              have k1 := TB7.out.c2
              have y1 := TB7.out.f2
              have TB := hid (TB7.out.put2 (wrap64 (ee + 1)))
              have GG : w7.grownBy (w7.setCell ⟨gb, 2, none⟩ (.int .i64 (wrap64 (ee + 1)))) (some gb) := gr_set (World.grownBy.refl _ _)
              have TA := hid (TA7.out.grow GG (fun b hb => by injection hb with hb; subst hb; exact ⟨gbt, fun e => by have := HQ.out _ e; omega⟩))
              have RA := hid (RA7.out.grow GG (by simp; omega))
              have RB := hid (RB7.out.grow GG (by simp; omega))
              have b8 := b7.setCell (p := ⟨gb, 2, none⟩) (by simp only; omega) (.int .i64 (wrap64 (ee + 1)))
              have hy10 : xs.length ≤ 10 := by omega
              clear TA7 TB7 RA7 RB7 GG b7 q1 q0 h0
              obtain ⟨WF, hWF⟩ : ∃ W, W = (w7.setCell ⟨gb, 2, none⟩ (.int .i64 (wrap64 (ee + 1)))) := ⟨_, rfl⟩
              rw [← hWF] at TA TB RA RB b8
              have HWF := hid hWF
              clear hWF
              go_wp2_with fail
              rw [← HWF.out]
              clear HWF
              have t0 := TA.out.c0
              have t1 := TA.out.c1
              have t2 := TA.out.c2
              have s0 := TB.out.c0
              have s1 := TB.out.c1
              have s2 := TB.out.c2
              have d0 := RA.out.c0
              have d1 := RA.out.c1
              have d2 := RA.out.c2
              have d3 := RB.out.c0
              have d4 := RB.out.c1
              have d5 := RB.out.c2
              have e0 := RA.out.f0
              have e1 := RA.out.f1
              have e2 := RA.out.f2
              have e3 := RB.out.f0
              have e4 := RB.out.f1
              have e5 := RB.out.f2
              have HOA := hid TA.out.own
              have HOB := hid TB.out.own
              have hla := HOA.out.lt
              have hlb := HOB.out.lt
              have HLA2 := hid hla
              have HLB2 := hid hlb
              clear TA TB RA RB hla hlb z6 z7
              refine wp_region_held_drew (S := (fun W => W.cell? ⟨gt, 0, none⟩ = some (.slice (some ⟨bb, off, none⟩) xs.length c) ∧ W.cell? ⟨gt, 1, none⟩ = some (.int .i64 hh) ∧ W.cell? ⟨gt, 2, none⟩ = some (.int .i64 ee) ∧ W.cell? ⟨gb, 0, none⟩ = some (.slice (some ⟨gg, 0, none⟩) xs.length cap) ∧ W.cell? ⟨gb, 1, none⟩ = some (.int .i64 (hh)) ∧ W.cell? ⟨gb, 2, none⟩ = some (.int .i64 (wrap64 (ee + 1))))) (by kernel_rfl) ?_ (fun hHeld => ?_)
              · (try dsimp only); exact ⟨t0, t1, t2, s0, s1, s2⟩
              refine wpAnyH_take (i := 0) (oi := ⟨some 52, Go.Op.load 26 (Go.Operand.tmp 5), 26, "l23_tariffs.go:320", #[], none⟩) (v := ?_) rfl (by kernel_rfl) (by kernel_rfl) (by kernel_rfl) (fun _ _ _ h => h) (Or.inl ⟨by rfl, ?_⟩) (by assumption) ?_
              rotate_left
              · intro w hSw; (try dsimp only at hSw); go_split_ands; go_simp; first | done | with_reducible rfl
              (try simp only [Act.put, List.setIfInBounds_toArray, List.set_cons_zero, List.set_cons_succ])
              refine wpAnyH_take (i := 1) (oi := ⟨some 53, Go.Op.load 26 (Go.Operand.tmp 6), 26, "l23_tariffs.go:320", #[⟨2, Go.Ground.gcOnly Go.Departure.lateStores⟩], none⟩) (v := ?_) rfl (by kernel_rfl) (by kernel_rfl) (by kernel_rfl) (fun _ _ _ h => h) (Or.inl ⟨by rfl, ?_⟩) (by assumption) ?_
              rotate_left
              · intro w hSw; (try dsimp only at hSw); go_split_ands; go_simp; first | done | with_reducible rfl
              (try simp only [Act.put, List.setIfInBounds_toArray, List.set_cons_zero, List.set_cons_succ])
              refine wpAnyH_ready (rs := [2]) (by kernel_rfl) (by simp) ?_
              refine AllReadyH.cons rfl (fun K hK => ?_) ?_
              · skip
                go_simp
                refine hK.out _ _ ?_ (fun hH2 => ?_)
                · (try dsimp only); (try simp only [World.cell?_drew] at hHeld); (try simp only [World.cell?_drew]); exact ⟨(cell_far (by simp only; omega)).trans ((cell_far (by simp only; omega)).trans ((cell_far (by simp only; omega)).trans hHeld.1)), (cell_far (by simp only; omega)).trans ((cell_far (by simp only; omega)).trans ((cell_far (by simp only; omega)).trans hHeld.2.1)), (cell_far (by simp only; omega)).trans ((cell_far (by simp only; omega)).trans ((cell_far (by simp only; omega)).trans hHeld.2.2.1)), (cell_far (by simp only; omega)).trans ((cell_far (by simp only; omega)).trans ((cell_far (by simp only; omega)).trans hHeld.2.2.2.1)), (cell_far (by simp only; omega)).trans ((cell_far (by simp only; omega)).trans ((cell_far (by simp only; omega)).trans hHeld.2.2.2.2.1)), (cell_far (by simp only; omega)).trans ((cell_far (by simp only; omega)).trans ((cell_far (by simp only; omega)).trans hHeld.2.2.2.2.2))⟩
                clear hK K hHeld; have hHeld := hH2; clear hH2
                refine wpAnyH_ready (rs := [3]) (by kernel_rfl) (by simp) ?_
                refine AllReadyH.cons rfl (fun K hK => ?_) ?_
                · skip
                  go_simp
                  refine hK.out _ _ ?_ (fun hH2 => ?_)
                  · (try dsimp only); simp only [World.cell?_drew] at hHeld ⊢; exact ⟨(cell_far (by simp only; omega)).trans ((cell_far (by simp only; omega)).trans ((cell_far (by simp only; omega)).trans hHeld.1)), (cell_far (by simp only; omega)).trans ((cell_far (by simp only; omega)).trans ((cell_far (by simp only; omega)).trans hHeld.2.1)), (cell_far (by simp only; omega)).trans ((cell_far (by simp only; omega)).trans ((cell_far (by simp only; omega)).trans hHeld.2.2.1)), (cell_far (by simp only; omega)).trans ((cell_far (by simp only; omega)).trans ((cell_far (by simp only; omega)).trans hHeld.2.2.2.1)), (cell_far (by simp only; omega)).trans ((cell_far (by simp only; omega)).trans ((cell_far (by simp only; omega)).trans hHeld.2.2.2.2.1)), (cell_far (by simp only; omega)).trans ((cell_far (by simp only; omega)).trans ((cell_far (by simp only; omega)).trans hHeld.2.2.2.2.2))⟩
                  clear hK K hHeld; have hHeld := hH2; clear hH2
                  refine wpAnyH_done (by kernel_rfl) ?_ _
                  have z0 : (WF.setCell ⟨w.heap.size, 0, none⟩ (.slice (some ⟨bb, off, none⟩) xs.length c)).cell? ⟨w.heap.size, 0, none⟩ = some (.slice (some ⟨bb, off, none⟩) xs.length c) := World.cell?_setCell_same _ _ _ (d0)
                  have z1 : ((WF.setCell ⟨w.heap.size, 0, none⟩ (.slice (some ⟨bb, off, none⟩) xs.length c)).setCell ⟨w.heap.size, 1, none⟩ (.int .i64 hh)).cell? ⟨w.heap.size, 1, none⟩ = some (.int .i64 hh) := World.cell?_setCell_same _ _ _ ((World.cell?_setCell_other _ _ _ _ (by simp)).trans (d1))
                  have z2 : (((WF.setCell ⟨w.heap.size, 0, none⟩ (.slice (some ⟨bb, off, none⟩) xs.length c)).setCell ⟨w.heap.size, 1, none⟩ (.int .i64 hh)).setCell ⟨w.heap.size, 2, none⟩ (.int .i64 ee)).cell? ⟨w.heap.size, 2, none⟩ = some (.int .i64 ee) := World.cell?_setCell_same _ _ _ ((World.cell?_setCell_other _ _ _ _ (by simp)).trans ((World.cell?_setCell_other _ _ _ _ (by simp)).trans (d2)))
                  have z3 : ((((WF.setCell ⟨w.heap.size, 0, none⟩ (.slice (some ⟨bb, off, none⟩) xs.length c)).setCell ⟨w.heap.size, 1, none⟩ (.int .i64 hh)).setCell ⟨w.heap.size, 2, none⟩ (.int .i64 ee)).setCell ⟨w.heap.size + 1, 0, none⟩ (.slice (some ⟨gg, 0, none⟩) xs.length cap)).cell? ⟨w.heap.size + 1, 0, none⟩ = some (.slice (some ⟨gg, 0, none⟩) xs.length cap) := World.cell?_setCell_same _ _ _ ((cell_far (by first | (simp only; omega) | fail)).trans ((cell_far (by first | (simp only; omega) | fail)).trans ((cell_far (by first | (simp only; omega) | fail)).trans (d3))))
                  have z4 : (((((WF.setCell ⟨w.heap.size, 0, none⟩ (.slice (some ⟨bb, off, none⟩) xs.length c)).setCell ⟨w.heap.size, 1, none⟩ (.int .i64 hh)).setCell ⟨w.heap.size, 2, none⟩ (.int .i64 ee)).setCell ⟨w.heap.size + 1, 0, none⟩ (.slice (some ⟨gg, 0, none⟩) xs.length cap)).setCell ⟨w.heap.size + 1, 1, none⟩ (.int .i64 (hh))).cell? ⟨w.heap.size + 1, 1, none⟩ = some (.int .i64 (hh)) := World.cell?_setCell_same _ _ _ ((World.cell?_setCell_other _ _ _ _ (by simp)).trans ((cell_far (by first | (simp only; omega) | fail)).trans ((cell_far (by first | (simp only; omega) | fail)).trans ((cell_far (by first | (simp only; omega) | fail)).trans (d4)))))
                  have z5 : ((((((WF.setCell ⟨w.heap.size, 0, none⟩ (.slice (some ⟨bb, off, none⟩) xs.length c)).setCell ⟨w.heap.size, 1, none⟩ (.int .i64 hh)).setCell ⟨w.heap.size, 2, none⟩ (.int .i64 ee)).setCell ⟨w.heap.size + 1, 0, none⟩ (.slice (some ⟨gg, 0, none⟩) xs.length cap)).setCell ⟨w.heap.size + 1, 1, none⟩ (.int .i64 (hh))).setCell ⟨w.heap.size + 1, 2, none⟩ (.int .i64 (wrap64 (ee + 1)))).cell? ⟨w.heap.size + 1, 2, none⟩ = some (.int .i64 (wrap64 (ee + 1))) := World.cell?_setCell_same _ _ _ ((World.cell?_setCell_other _ _ _ _ (by simp)).trans ((World.cell?_setCell_other _ _ _ _ (by simp)).trans ((cell_far (by first | (simp only; omega) | fail)).trans ((cell_far (by first | (simp only; omega) | fail)).trans ((cell_far (by first | (simp only; omega) | fail)).trans (d5))))))
                  clear hHeld t0 t1 t2 s0 s1 s2 d0 d1 d2 d3 d4 d5 e0 e1 e2 e3 e4 e5
                  go_wp2_with fail
                  refine bodyPost_ret (v := .tuple #[.agg #[(.slice (some ⟨bb, off, none⟩) xs.length c), .int .i64 hh, .int .i64 ee], .agg #[(.slice (some ⟨gg, 0, none⟩) xs.length cap), .int .i64 (hh), .int .i64 (wrap64 (ee + 1))]]) (by simp [results, Tryz.results19, go_sem, z0, z1, z2, z3, z4, z5]) rfl ⟨_, c, xs, hh, ee, _, cap, xs, hh, wrap64 (ee + 1), rfl, hm9, hy10, ?_, ?_, ?_⟩
                  · have hn0 : ∀ j, (Value.slice (some ⟨bb, off, none⟩) xs.length c).ownBlock ≠ some (⟨w.heap.size, j, none⟩ : Addr).block := fun j e => by have := (HLA2.out _ e).1; simp only at this; omega
                    have hn1 : ∀ j, (Value.slice (some ⟨bb, off, none⟩) xs.length c).ownBlock ≠ some (⟨w.heap.size + 1, j, none⟩ : Addr).block := fun j e => by have := (HLA2.out _ e).1; simp only at this; omega
                    exact own_sl encStep_len (by omega) (ow_drew (ow_set (hn1 2) (ow_set (hn1 1) (ow_set (hn1 0) (ow_set (hn0 2) (ow_set (hn0 1) (ow_set (hn0 0) HOA.out)))))))
                  · have hn0 : ∀ j, (Value.slice (some ⟨gg, 0, none⟩) xs.length cap).ownBlock ≠ some (⟨w.heap.size, j, none⟩ : Addr).block := fun j e => by have := (HLB2.out _ e).1; simp only at this; omega
                    have hn1 : ∀ j, (Value.slice (some ⟨gg, 0, none⟩) xs.length cap).ownBlock ≠ some (⟨w.heap.size + 1, j, none⟩ : Addr).block := fun j e => by have := (HLB2.out _ e).1; simp only at this; omega
                    exact own_sl encStep_len (by omega) (ow_drew (ow_set (hn1 2) (ow_set (hn1 1) (ow_set (hn1 0) (ow_set (hn0 2) (ow_set (hn0 1) (ow_set (hn0 0) HOB.out)))))))
                  · exact (bl_set (by simp only; omega) (bl_set (by simp only; omega) (bl_set (by simp only; omega) (bl_set (by simp only; omega) (bl_set (by simp only; omega) (bl_set (by simp only; omega) b8)))))).drew
                exact AllReadyH.nil
              exact AllReadyH.nil
            · by_cases h2 : q = 2
              · subst h2
                have k1 := TB7.out.c0
                have y1 := TB7.out.f0
                have OB := hid TB7.out.own
                have hlo := TB7.out.own.lt
                have HLO := hid hlo
                clear hlo q1 q0 h0 h1
                go_wp2_with (at_builtin; refine wpList_append_lies _ rfl _ _ 24 rfl W3.heap.size 57 i0 (.agg #[.int .i64 0, .int .i64 0]) 2 16 Tryz.underlying24 hi hz0 hz1 hz2 rfl (by omega) (.slice (some ⟨gg, 0, none⟩) xs.length cap) xs.length (xs.flatMap encStep) rfl (OB.out.alloc _) ⟨w7.heap.size, 0, none⟩ 1 1 [.int .i64 0, .int .i64 0] rfl rfl (World.news_of_block (cs := #[.int .i64 0, .int .i64 0]) (t := 57) (fr := (0, 0)) (heap_alloc_new _ _)) (by simp [Value.oneCell']) (by omega) (by simp only [maxLen]; omega) (by omega) (by simp; omega) (w7.heap.size + 1) (by simp) ?_; intro g8 cap8 w8 ho8 hg8 hat8 hlt8; have y8 := (hg8.frozen_far ⟨gb, 0, none⟩ (by have := TB7.out.lt; simp; omega) (by simp [Value.ownBlock]; have := TB7.out.ne gg rfl; omega)).trans ((((Below.refl _ _).alloc (Nat.le_refl _) (.cells #[.int .i64 0, .int .i64 0] 57)).frozen (p := ⟨gb, 0, none⟩) TB7.out.lt).trans y1); have k8 := hg8.cell (a := ⟨gb, 0, none⟩) (below_cell k1 ((Below.refl _ _).alloc (Nat.le_refl _) (.cells #[.int .i64 0, .int .i64 0] 57))) (by simp [Value.ownBlock]; have := TB7.out.ne gg rfl; omega))
                have tb := (TB7.out.alloc (.cells #[.int .i64 0, .int .i64 0] 57)).snoc (z := ⟨0, 0⟩) (by simpa [encStep] using ho8) hg8 (hat8.imp id (fun e => by simp; omega))
                have hgg := HLO.out gg rfl
                have hne := TB7.out.ne gg rfl
                have ta := (TA7.out.alloc (.cells #[.int .i64 0, .int .i64 0] 57)).grow hg8 (fun b hb => by simp [Value.ownBlock] at hb; subst hb; exact ⟨by omega, fun e => by have := HQ.out _ e; omega⟩)
                have GG : w8.grownBy (w8.setCell ⟨gb, 0, none⟩ (.slice (some ⟨g8, 0, none⟩) (xs.length + 1) cap8)) (some gb) := gr_set (World.grownBy.refl _ _)
                have TA := hid (ta.grow GG (fun b hb => by injection hb with hb; subst hb; exact ⟨gbt, fun e => by have := HQ.out _ e; omega⟩))
                have RA := hid (((RA7.out.alloc (.cells #[.int .i64 0, .int .i64 0] 57)).grow hg8 (by simp [Value.ownBlock]; omega)).grow GG (by simp; omega))
                have RB := hid (((RB7.out.alloc (.cells #[.int .i64 0, .int .i64 0] 57)).grow hg8 (by simp [Value.ownBlock]; omega)).grow GG (by simp; omega))
                have b8 := ((b7.alloc (by omega) (.cells #[.int .i64 0, .int .i64 0] 57)).grown hg8 (by simp; omega) (fun q hq => by simp [Value.ownBlock] at hq; omega)).setCell (p := ⟨gb, 0, none⟩) (by simp only; omega) (.slice (some ⟨g8, 0, none⟩) (xs.length + 1) cap8)
                obtain ⟨ys, hys⟩ : ∃ ys, ys = xs ++ [(⟨0, 0⟩ : Step)] := ⟨_, rfl⟩
                rw [← hys] at tb
                have TB := hid tb
                have hy10 : ys.length ≤ 10 := by rw [hys, List.length_append]; simp; omega
                clear TA7 TB7 RA7 RB7 GG b7 ta tb hys ho8 hg8 hat8 hlt8 k8 y8 k1 y1 OB HLO
                obtain ⟨WF, hWF⟩ : ∃ W, W = (w8.setCell ⟨gb, 0, none⟩ (.slice (some ⟨g8, 0, none⟩) (xs.length + 1) cap8)) := ⟨_, rfl⟩
                rw [← hWF] at TA TB RA RB b8
                have HWF := hid hWF
                clear hWF
                rw [← HWF.out]
                clear HWF
                have t0 := TA.out.c0
                have t1 := TA.out.c1
                have t2 := TA.out.c2
                have s0 := TB.out.c0
                have s1 := TB.out.c1
                have s2 := TB.out.c2
                have d0 := RA.out.c0
                have d1 := RA.out.c1
                have d2 := RA.out.c2
                have d3 := RB.out.c0
                have d4 := RB.out.c1
                have d5 := RB.out.c2
                have e0 := RA.out.f0
                have e1 := RA.out.f1
                have e2 := RA.out.f2
                have e3 := RB.out.f0
                have e4 := RB.out.f1
                have e5 := RB.out.f2
                have HOA := hid TA.out.own
                have HOB := hid TB.out.own
                have hla := HOA.out.lt
                have hlb := HOB.out.lt
                have HLA2 := hid hla
                have HLB2 := hid hlb
                clear TA TB RA RB hla hlb z6 z7
                refine wp_region_held_drew (S := (fun W => W.cell? ⟨gt, 0, none⟩ = some (.slice (some ⟨bb, off, none⟩) xs.length c) ∧ W.cell? ⟨gt, 1, none⟩ = some (.int .i64 hh) ∧ W.cell? ⟨gt, 2, none⟩ = some (.int .i64 ee) ∧ W.cell? ⟨gb, 0, none⟩ = some (.slice (some ⟨g8, 0, none⟩) ys.length cap8) ∧ W.cell? ⟨gb, 1, none⟩ = some (.int .i64 (hh)) ∧ W.cell? ⟨gb, 2, none⟩ = some (.int .i64 (ee)))) (by kernel_rfl) ?_ (fun hHeld => ?_)
                · (try dsimp only); exact ⟨t0, t1, t2, s0, s1, s2⟩
                refine wpAnyH_take (i := 0) (oi := ⟨some 52, Go.Op.load 26 (Go.Operand.tmp 5), 26, "l23_tariffs.go:320", #[], none⟩) (v := ?_) rfl (by kernel_rfl) (by kernel_rfl) (by kernel_rfl) (fun _ _ _ h => h) (Or.inl ⟨by rfl, ?_⟩) (by assumption) ?_
                rotate_left
                · intro w hSw; (try dsimp only at hSw); go_split_ands; go_simp; first | done | with_reducible rfl
                (try simp only [Act.put, List.setIfInBounds_toArray, List.set_cons_zero, List.set_cons_succ])
                refine wpAnyH_take (i := 1) (oi := ⟨some 53, Go.Op.load 26 (Go.Operand.tmp 6), 26, "l23_tariffs.go:320", #[⟨2, Go.Ground.gcOnly Go.Departure.lateStores⟩], none⟩) (v := ?_) rfl (by kernel_rfl) (by kernel_rfl) (by kernel_rfl) (fun _ _ _ h => h) (Or.inl ⟨by rfl, ?_⟩) (by assumption) ?_
                rotate_left
                · intro w hSw; (try dsimp only at hSw); go_split_ands; go_simp; first | done | with_reducible rfl
                (try simp only [Act.put, List.setIfInBounds_toArray, List.set_cons_zero, List.set_cons_succ])
                refine wpAnyH_ready (rs := [2]) (by kernel_rfl) (by simp) ?_
                refine AllReadyH.cons rfl (fun K hK => ?_) ?_
                · skip
                  go_simp
                  refine hK.out _ _ ?_ (fun hH2 => ?_)
                  · (try dsimp only); (try simp only [World.cell?_drew] at hHeld); (try simp only [World.cell?_drew]); exact ⟨(cell_far (by simp only; omega)).trans ((cell_far (by simp only; omega)).trans ((cell_far (by simp only; omega)).trans hHeld.1)), (cell_far (by simp only; omega)).trans ((cell_far (by simp only; omega)).trans ((cell_far (by simp only; omega)).trans hHeld.2.1)), (cell_far (by simp only; omega)).trans ((cell_far (by simp only; omega)).trans ((cell_far (by simp only; omega)).trans hHeld.2.2.1)), (cell_far (by simp only; omega)).trans ((cell_far (by simp only; omega)).trans ((cell_far (by simp only; omega)).trans hHeld.2.2.2.1)), (cell_far (by simp only; omega)).trans ((cell_far (by simp only; omega)).trans ((cell_far (by simp only; omega)).trans hHeld.2.2.2.2.1)), (cell_far (by simp only; omega)).trans ((cell_far (by simp only; omega)).trans ((cell_far (by simp only; omega)).trans hHeld.2.2.2.2.2))⟩
                  clear hK K hHeld; have hHeld := hH2; clear hH2
                  refine wpAnyH_ready (rs := [3]) (by kernel_rfl) (by simp) ?_
                  refine AllReadyH.cons rfl (fun K hK => ?_) ?_
                  · skip
                    go_simp
                    refine hK.out _ _ ?_ (fun hH2 => ?_)
                    · (try dsimp only); simp only [World.cell?_drew] at hHeld ⊢; exact ⟨(cell_far (by simp only; omega)).trans ((cell_far (by simp only; omega)).trans ((cell_far (by simp only; omega)).trans hHeld.1)), (cell_far (by simp only; omega)).trans ((cell_far (by simp only; omega)).trans ((cell_far (by simp only; omega)).trans hHeld.2.1)), (cell_far (by simp only; omega)).trans ((cell_far (by simp only; omega)).trans ((cell_far (by simp only; omega)).trans hHeld.2.2.1)), (cell_far (by simp only; omega)).trans ((cell_far (by simp only; omega)).trans ((cell_far (by simp only; omega)).trans hHeld.2.2.2.1)), (cell_far (by simp only; omega)).trans ((cell_far (by simp only; omega)).trans ((cell_far (by simp only; omega)).trans hHeld.2.2.2.2.1)), (cell_far (by simp only; omega)).trans ((cell_far (by simp only; omega)).trans ((cell_far (by simp only; omega)).trans hHeld.2.2.2.2.2))⟩
                    clear hK K hHeld; have hHeld := hH2; clear hH2
                    refine wpAnyH_done (by kernel_rfl) ?_ _
                    have z0 : (WF.setCell ⟨w.heap.size, 0, none⟩ (.slice (some ⟨bb, off, none⟩) xs.length c)).cell? ⟨w.heap.size, 0, none⟩ = some (.slice (some ⟨bb, off, none⟩) xs.length c) := World.cell?_setCell_same _ _ _ (d0)
                    have z1 : ((WF.setCell ⟨w.heap.size, 0, none⟩ (.slice (some ⟨bb, off, none⟩) xs.length c)).setCell ⟨w.heap.size, 1, none⟩ (.int .i64 hh)).cell? ⟨w.heap.size, 1, none⟩ = some (.int .i64 hh) := World.cell?_setCell_same _ _ _ ((World.cell?_setCell_other _ _ _ _ (by simp)).trans (d1))
                    have z2 : (((WF.setCell ⟨w.heap.size, 0, none⟩ (.slice (some ⟨bb, off, none⟩) xs.length c)).setCell ⟨w.heap.size, 1, none⟩ (.int .i64 hh)).setCell ⟨w.heap.size, 2, none⟩ (.int .i64 ee)).cell? ⟨w.heap.size, 2, none⟩ = some (.int .i64 ee) := World.cell?_setCell_same _ _ _ ((World.cell?_setCell_other _ _ _ _ (by simp)).trans ((World.cell?_setCell_other _ _ _ _ (by simp)).trans (d2)))
                    have z3 : ((((WF.setCell ⟨w.heap.size, 0, none⟩ (.slice (some ⟨bb, off, none⟩) xs.length c)).setCell ⟨w.heap.size, 1, none⟩ (.int .i64 hh)).setCell ⟨w.heap.size, 2, none⟩ (.int .i64 ee)).setCell ⟨w.heap.size + 1, 0, none⟩ (.slice (some ⟨g8, 0, none⟩) ys.length cap8)).cell? ⟨w.heap.size + 1, 0, none⟩ = some (.slice (some ⟨g8, 0, none⟩) ys.length cap8) := World.cell?_setCell_same _ _ _ ((cell_far (by first | (simp only; omega) | fail)).trans ((cell_far (by first | (simp only; omega) | fail)).trans ((cell_far (by first | (simp only; omega) | fail)).trans (d3))))
                    have z4 : (((((WF.setCell ⟨w.heap.size, 0, none⟩ (.slice (some ⟨bb, off, none⟩) xs.length c)).setCell ⟨w.heap.size, 1, none⟩ (.int .i64 hh)).setCell ⟨w.heap.size, 2, none⟩ (.int .i64 ee)).setCell ⟨w.heap.size + 1, 0, none⟩ (.slice (some ⟨g8, 0, none⟩) ys.length cap8)).setCell ⟨w.heap.size + 1, 1, none⟩ (.int .i64 (hh))).cell? ⟨w.heap.size + 1, 1, none⟩ = some (.int .i64 (hh)) := World.cell?_setCell_same _ _ _ ((World.cell?_setCell_other _ _ _ _ (by simp)).trans ((cell_far (by first | (simp only; omega) | fail)).trans ((cell_far (by first | (simp only; omega) | fail)).trans ((cell_far (by first | (simp only; omega) | fail)).trans (d4)))))
                    have z5 : ((((((WF.setCell ⟨w.heap.size, 0, none⟩ (.slice (some ⟨bb, off, none⟩) xs.length c)).setCell ⟨w.heap.size, 1, none⟩ (.int .i64 hh)).setCell ⟨w.heap.size, 2, none⟩ (.int .i64 ee)).setCell ⟨w.heap.size + 1, 0, none⟩ (.slice (some ⟨g8, 0, none⟩) ys.length cap8)).setCell ⟨w.heap.size + 1, 1, none⟩ (.int .i64 (hh))).setCell ⟨w.heap.size + 1, 2, none⟩ (.int .i64 (ee))).cell? ⟨w.heap.size + 1, 2, none⟩ = some (.int .i64 (ee)) := World.cell?_setCell_same _ _ _ ((World.cell?_setCell_other _ _ _ _ (by simp)).trans ((World.cell?_setCell_other _ _ _ _ (by simp)).trans ((cell_far (by first | (simp only; omega) | fail)).trans ((cell_far (by first | (simp only; omega) | fail)).trans ((cell_far (by first | (simp only; omega) | fail)).trans (d5))))))
                    clear hHeld t0 t1 t2 s0 s1 s2 d0 d1 d2 d3 d4 d5 e0 e1 e2 e3 e4 e5
                    go_wp2_with fail
                    refine bodyPost_ret (v := .tuple #[.agg #[(.slice (some ⟨bb, off, none⟩) xs.length c), .int .i64 hh, .int .i64 ee], .agg #[(.slice (some ⟨g8, 0, none⟩) ys.length cap8), .int .i64 (hh), .int .i64 (ee)]]) (by simp [results, Tryz.results19, go_sem, z0, z1, z2, z3, z4, z5]) rfl ⟨_, c, xs, hh, ee, _, cap8, ys, hh, ee, rfl, hm9, hy10, ?_, ?_, ?_⟩
                    · have hn0 : ∀ j, (Value.slice (some ⟨bb, off, none⟩) xs.length c).ownBlock ≠ some (⟨w.heap.size, j, none⟩ : Addr).block := fun j e => by have := (HLA2.out _ e).1; simp only at this; omega
                      have hn1 : ∀ j, (Value.slice (some ⟨bb, off, none⟩) xs.length c).ownBlock ≠ some (⟨w.heap.size + 1, j, none⟩ : Addr).block := fun j e => by have := (HLA2.out _ e).1; simp only at this; omega
                      exact own_sl encStep_len (by omega) (ow_drew (ow_set (hn1 2) (ow_set (hn1 1) (ow_set (hn1 0) (ow_set (hn0 2) (ow_set (hn0 1) (ow_set (hn0 0) HOA.out)))))))
                    · have hn0 : ∀ j, (Value.slice (some ⟨g8, 0, none⟩) ys.length cap8).ownBlock ≠ some (⟨w.heap.size, j, none⟩ : Addr).block := fun j e => by have := (HLB2.out _ e).1; simp only at this; omega
                      have hn1 : ∀ j, (Value.slice (some ⟨g8, 0, none⟩) ys.length cap8).ownBlock ≠ some (⟨w.heap.size + 1, j, none⟩ : Addr).block := fun j e => by have := (HLB2.out _ e).1; simp only at this; omega
                      exact own_sl encStep_len (by omega) (ow_drew (ow_set (hn1 2) (ow_set (hn1 1) (ow_set (hn1 0) (ow_set (hn0 2) (ow_set (hn0 1) (ow_set (hn0 0) HOB.out)))))))
                    · exact (bl_set (by simp only; omega) (bl_set (by simp only; omega) (bl_set (by simp only; omega) (bl_set (by simp only; omega) (bl_set (by simp only; omega) (bl_set (by simp only; omega) b8)))))).drew
                  exact AllReadyH.nil
                exact AllReadyH.nil
              · by_cases h3 : q = 3
                · subst h3
                  have k0 := TB7.out.c0
                  obtain ⟨p0, p1, b', o', Hy, e', _, _, k1⟩ := (own_sl encStep_len (by omega) TB7.out.own).atStep (i := 0) hn0
                  injection e' with e'
                  injection e' with e1 e2
                  subst e1 e2
                  simp only [Nat.zero_mul, Nat.zero_add] at k1
                  have y1 := (own_at TB7.out.own (Below.refl _ _) 1 (by omega)).2
                  have hgg := TB7.out.own.lt gg rfl
                  have hne := TB7.out.ne gg rfl
                  obtain ⟨ys, hyl, tb⟩ := TB7.out.step 1 (wrap64 (p1 + 1))
                  have TB := hid tb
                  have HYL := hid hyl
                  have GG : w7.grownBy (w7.setCell ⟨gg, 1, none⟩ (.int .i64 (wrap64 (p1 + 1)))) (some gg) := gr_set (World.grownBy.refl _ _)
                  have TA := hid (TA7.out.grow GG (fun b hb => by injection hb with hb; subst hb; exact ⟨by omega, fun e => by have := HQ.out _ e; omega⟩))
                  have RA := hid (RA7.out.grow GG (by simp; omega))
                  have RB := hid (RB7.out.grow GG (by simp; omega))
                  have b8 := b7.setCell (p := ⟨gg, 1, none⟩) (by simp only; omega) (.int .i64 (wrap64 (p1 + 1)))
                  have hy10 : ys.length ≤ 10 := by rw [hyl]; omega
                  clear TA7 TB7 RA7 RB7 GG b7 q1 q0 h0 h1 h2 Hy tb hyl
                  obtain ⟨WF, hWF⟩ : ∃ W, W = (w7.setCell ⟨gg, 1, none⟩ (.int .i64 (wrap64 (p1 + 1)))) := ⟨_, rfl⟩
                  rw [← hWF] at TA TB RA RB b8
                  have HWF := hid hWF
                  clear hWF
                  go_wp2_with fail
                  rw [← HWF.out]
                  clear HWF
                  have t0 := TA.out.c0
                  have t1 := TA.out.c1
                  have t2 := TA.out.c2
                  have s0 := TB.out.c0
                  have s1 := TB.out.c1
                  have s2 := TB.out.c2
                  have d0 := RA.out.c0
                  have d1 := RA.out.c1
                  have d2 := RA.out.c2
                  have d3 := RB.out.c0
                  have d4 := RB.out.c1
                  have d5 := RB.out.c2
                  have e0 := RA.out.f0
                  have e1 := RA.out.f1
                  have e2 := RA.out.f2
                  have e3 := RB.out.f0
                  have e4 := RB.out.f1
                  have e5 := RB.out.f2
                  have HOA := hid TA.out.own
                  have HOB := hid TB.out.own
                  have hla := HOA.out.lt
                  have hlb := HOB.out.lt
                  have HLA2 := hid hla
                  have HLB2 := hid hlb
                  clear TA TB RA RB hla hlb z6 z7
                  refine wp_region_held_drew (S := (fun W => W.cell? ⟨gt, 0, none⟩ = some (.slice (some ⟨bb, off, none⟩) xs.length c) ∧ W.cell? ⟨gt, 1, none⟩ = some (.int .i64 hh) ∧ W.cell? ⟨gt, 2, none⟩ = some (.int .i64 ee) ∧ W.cell? ⟨gb, 0, none⟩ = some (.slice (some ⟨gg, 0, none⟩) ys.length cap) ∧ W.cell? ⟨gb, 1, none⟩ = some (.int .i64 (hh)) ∧ W.cell? ⟨gb, 2, none⟩ = some (.int .i64 (ee)))) (by kernel_rfl) ?_ (fun hHeld => ?_)
                  · (try dsimp only); exact ⟨t0, t1, t2, s0, s1, s2⟩
                  refine wpAnyH_take (i := 0) (oi := ⟨some 52, Go.Op.load 26 (Go.Operand.tmp 5), 26, "l23_tariffs.go:320", #[], none⟩) (v := ?_) rfl (by kernel_rfl) (by kernel_rfl) (by kernel_rfl) (fun _ _ _ h => h) (Or.inl ⟨by rfl, ?_⟩) (by assumption) ?_
                  rotate_left
                  · intro w hSw; (try dsimp only at hSw); go_split_ands; go_simp; first | done | with_reducible rfl
                  (try simp only [Act.put, List.setIfInBounds_toArray, List.set_cons_zero, List.set_cons_succ])
                  refine wpAnyH_take (i := 1) (oi := ⟨some 53, Go.Op.load 26 (Go.Operand.tmp 6), 26, "l23_tariffs.go:320", #[⟨2, Go.Ground.gcOnly Go.Departure.lateStores⟩], none⟩) (v := ?_) rfl (by kernel_rfl) (by kernel_rfl) (by kernel_rfl) (fun _ _ _ h => h) (Or.inl ⟨by rfl, ?_⟩) (by assumption) ?_
                  rotate_left
                  · intro w hSw; (try dsimp only at hSw); go_split_ands; go_simp; first | done | with_reducible rfl
                  (try simp only [Act.put, List.setIfInBounds_toArray, List.set_cons_zero, List.set_cons_succ])
                  refine wpAnyH_ready (rs := [2]) (by kernel_rfl) (by simp) ?_
                  refine AllReadyH.cons rfl (fun K hK => ?_) ?_
                  · skip
                    go_simp
                    refine hK.out _ _ ?_ (fun hH2 => ?_)
                    · (try dsimp only); (try simp only [World.cell?_drew] at hHeld); (try simp only [World.cell?_drew]); exact ⟨(cell_far (by simp only; omega)).trans ((cell_far (by simp only; omega)).trans ((cell_far (by simp only; omega)).trans hHeld.1)), (cell_far (by simp only; omega)).trans ((cell_far (by simp only; omega)).trans ((cell_far (by simp only; omega)).trans hHeld.2.1)), (cell_far (by simp only; omega)).trans ((cell_far (by simp only; omega)).trans ((cell_far (by simp only; omega)).trans hHeld.2.2.1)), (cell_far (by simp only; omega)).trans ((cell_far (by simp only; omega)).trans ((cell_far (by simp only; omega)).trans hHeld.2.2.2.1)), (cell_far (by simp only; omega)).trans ((cell_far (by simp only; omega)).trans ((cell_far (by simp only; omega)).trans hHeld.2.2.2.2.1)), (cell_far (by simp only; omega)).trans ((cell_far (by simp only; omega)).trans ((cell_far (by simp only; omega)).trans hHeld.2.2.2.2.2))⟩
                    clear hK K hHeld; have hHeld := hH2; clear hH2
                    refine wpAnyH_ready (rs := [3]) (by kernel_rfl) (by simp) ?_
                    refine AllReadyH.cons rfl (fun K hK => ?_) ?_
                    · skip
                      go_simp
                      refine hK.out _ _ ?_ (fun hH2 => ?_)
                      · (try dsimp only); simp only [World.cell?_drew] at hHeld ⊢; exact ⟨(cell_far (by simp only; omega)).trans ((cell_far (by simp only; omega)).trans ((cell_far (by simp only; omega)).trans hHeld.1)), (cell_far (by simp only; omega)).trans ((cell_far (by simp only; omega)).trans ((cell_far (by simp only; omega)).trans hHeld.2.1)), (cell_far (by simp only; omega)).trans ((cell_far (by simp only; omega)).trans ((cell_far (by simp only; omega)).trans hHeld.2.2.1)), (cell_far (by simp only; omega)).trans ((cell_far (by simp only; omega)).trans ((cell_far (by simp only; omega)).trans hHeld.2.2.2.1)), (cell_far (by simp only; omega)).trans ((cell_far (by simp only; omega)).trans ((cell_far (by simp only; omega)).trans hHeld.2.2.2.2.1)), (cell_far (by simp only; omega)).trans ((cell_far (by simp only; omega)).trans ((cell_far (by simp only; omega)).trans hHeld.2.2.2.2.2))⟩
                      clear hK K hHeld; have hHeld := hH2; clear hH2
                      refine wpAnyH_done (by kernel_rfl) ?_ _
                      have z0 : (WF.setCell ⟨w.heap.size, 0, none⟩ (.slice (some ⟨bb, off, none⟩) xs.length c)).cell? ⟨w.heap.size, 0, none⟩ = some (.slice (some ⟨bb, off, none⟩) xs.length c) := World.cell?_setCell_same _ _ _ (d0)
                      have z1 : ((WF.setCell ⟨w.heap.size, 0, none⟩ (.slice (some ⟨bb, off, none⟩) xs.length c)).setCell ⟨w.heap.size, 1, none⟩ (.int .i64 hh)).cell? ⟨w.heap.size, 1, none⟩ = some (.int .i64 hh) := World.cell?_setCell_same _ _ _ ((World.cell?_setCell_other _ _ _ _ (by simp)).trans (d1))
                      have z2 : (((WF.setCell ⟨w.heap.size, 0, none⟩ (.slice (some ⟨bb, off, none⟩) xs.length c)).setCell ⟨w.heap.size, 1, none⟩ (.int .i64 hh)).setCell ⟨w.heap.size, 2, none⟩ (.int .i64 ee)).cell? ⟨w.heap.size, 2, none⟩ = some (.int .i64 ee) := World.cell?_setCell_same _ _ _ ((World.cell?_setCell_other _ _ _ _ (by simp)).trans ((World.cell?_setCell_other _ _ _ _ (by simp)).trans (d2)))
                      have z3 : ((((WF.setCell ⟨w.heap.size, 0, none⟩ (.slice (some ⟨bb, off, none⟩) xs.length c)).setCell ⟨w.heap.size, 1, none⟩ (.int .i64 hh)).setCell ⟨w.heap.size, 2, none⟩ (.int .i64 ee)).setCell ⟨w.heap.size + 1, 0, none⟩ (.slice (some ⟨gg, 0, none⟩) ys.length cap)).cell? ⟨w.heap.size + 1, 0, none⟩ = some (.slice (some ⟨gg, 0, none⟩) ys.length cap) := World.cell?_setCell_same _ _ _ ((cell_far (by first | (simp only; omega) | fail)).trans ((cell_far (by first | (simp only; omega) | fail)).trans ((cell_far (by first | (simp only; omega) | fail)).trans (d3))))
                      have z4 : (((((WF.setCell ⟨w.heap.size, 0, none⟩ (.slice (some ⟨bb, off, none⟩) xs.length c)).setCell ⟨w.heap.size, 1, none⟩ (.int .i64 hh)).setCell ⟨w.heap.size, 2, none⟩ (.int .i64 ee)).setCell ⟨w.heap.size + 1, 0, none⟩ (.slice (some ⟨gg, 0, none⟩) ys.length cap)).setCell ⟨w.heap.size + 1, 1, none⟩ (.int .i64 (hh))).cell? ⟨w.heap.size + 1, 1, none⟩ = some (.int .i64 (hh)) := World.cell?_setCell_same _ _ _ ((World.cell?_setCell_other _ _ _ _ (by simp)).trans ((cell_far (by first | (simp only; omega) | fail)).trans ((cell_far (by first | (simp only; omega) | fail)).trans ((cell_far (by first | (simp only; omega) | fail)).trans (d4)))))
                      have z5 : ((((((WF.setCell ⟨w.heap.size, 0, none⟩ (.slice (some ⟨bb, off, none⟩) xs.length c)).setCell ⟨w.heap.size, 1, none⟩ (.int .i64 hh)).setCell ⟨w.heap.size, 2, none⟩ (.int .i64 ee)).setCell ⟨w.heap.size + 1, 0, none⟩ (.slice (some ⟨gg, 0, none⟩) ys.length cap)).setCell ⟨w.heap.size + 1, 1, none⟩ (.int .i64 (hh))).setCell ⟨w.heap.size + 1, 2, none⟩ (.int .i64 (ee))).cell? ⟨w.heap.size + 1, 2, none⟩ = some (.int .i64 (ee)) := World.cell?_setCell_same _ _ _ ((World.cell?_setCell_other _ _ _ _ (by simp)).trans ((World.cell?_setCell_other _ _ _ _ (by simp)).trans ((cell_far (by first | (simp only; omega) | fail)).trans ((cell_far (by first | (simp only; omega) | fail)).trans ((cell_far (by first | (simp only; omega) | fail)).trans (d5))))))
                      clear hHeld t0 t1 t2 s0 s1 s2 d0 d1 d2 d3 d4 d5 e0 e1 e2 e3 e4 e5
                      go_wp2_with fail
                      refine bodyPost_ret (v := .tuple #[.agg #[(.slice (some ⟨bb, off, none⟩) xs.length c), .int .i64 hh, .int .i64 ee], .agg #[(.slice (some ⟨gg, 0, none⟩) ys.length cap), .int .i64 (hh), .int .i64 (ee)]]) (by simp [results, Tryz.results19, go_sem, z0, z1, z2, z3, z4, z5]) rfl ⟨_, c, xs, hh, ee, _, cap, ys, hh, ee, rfl, hm9, hy10, ?_, ?_, ?_⟩
                      · have hn0 : ∀ j, (Value.slice (some ⟨bb, off, none⟩) xs.length c).ownBlock ≠ some (⟨w.heap.size, j, none⟩ : Addr).block := fun j e => by have := (HLA2.out _ e).1; simp only at this; omega
                        have hn1 : ∀ j, (Value.slice (some ⟨bb, off, none⟩) xs.length c).ownBlock ≠ some (⟨w.heap.size + 1, j, none⟩ : Addr).block := fun j e => by have := (HLA2.out _ e).1; simp only at this; omega
                        exact own_sl encStep_len (by omega) (ow_drew (ow_set (hn1 2) (ow_set (hn1 1) (ow_set (hn1 0) (ow_set (hn0 2) (ow_set (hn0 1) (ow_set (hn0 0) HOA.out)))))))
                      · have hn0 : ∀ j, (Value.slice (some ⟨gg, 0, none⟩) ys.length cap).ownBlock ≠ some (⟨w.heap.size, j, none⟩ : Addr).block := fun j e => by have := (HLB2.out _ e).1; simp only at this; omega
                        have hn1 : ∀ j, (Value.slice (some ⟨gg, 0, none⟩) ys.length cap).ownBlock ≠ some (⟨w.heap.size + 1, j, none⟩ : Addr).block := fun j e => by have := (HLB2.out _ e).1; simp only at this; omega
                        exact own_sl encStep_len (by omega) (ow_drew (ow_set (hn1 2) (ow_set (hn1 1) (ow_set (hn1 0) (ow_set (hn0 2) (ow_set (hn0 1) (ow_set (hn0 0) HOB.out)))))))
                      · exact (bl_set (by simp only; omega) (bl_set (by simp only; omega) (bl_set (by simp only; omega) (bl_set (by simp only; omega) (bl_set (by simp only; omega) (bl_set (by simp only; omega) b8)))))).drew
                    exact AllReadyH.nil
                  exact AllReadyH.nil
                · have TA := TA7
                  have TB := TB7
                  have RA := RA7
                  have RB := RB7
                  have b8 := b7
                  have n0 : (q == 0) = false := by simpa using h0
                  have n1 : (q == 1) = false := by simpa using h1
                  have n2 : (q == 2) = false := by simpa using h2
                  have n3 : (q == 3) = false := by simpa using h3
                  have hy10 : xs.length ≤ 10 := by omega
                  clear TA7 TB7 RA7 RB7 h0 h1 h2 h3 q1 b7
                  obtain ⟨WF, hWF⟩ : ∃ W, W = w7 := ⟨_, rfl⟩
                  rw [← hWF] at TA TB RA RB b8
                  have HWF := hid hWF
                  clear hWF
                  go_wp2_with fail
                  rw [← HWF.out]
                  clear HWF
                  have t0 := TA.out.c0
                  have t1 := TA.out.c1
                  have t2 := TA.out.c2
                  have s0 := TB.out.c0
                  have s1 := TB.out.c1
                  have s2 := TB.out.c2
                  have d0 := RA.out.c0
                  have d1 := RA.out.c1
                  have d2 := RA.out.c2
                  have d3 := RB.out.c0
                  have d4 := RB.out.c1
                  have d5 := RB.out.c2
                  have e0 := RA.out.f0
                  have e1 := RA.out.f1
                  have e2 := RA.out.f2
                  have e3 := RB.out.f0
                  have e4 := RB.out.f1
                  have e5 := RB.out.f2
                  have HOA := hid TA.out.own
                  have HOB := hid TB.out.own
                  have hla := HOA.out.lt
                  have hlb := HOB.out.lt
                  have HLA2 := hid hla
                  have HLB2 := hid hlb
                  clear TA TB RA RB hla hlb z6 z7
                  refine wp_region_held_drew (S := (fun W => W.cell? ⟨gt, 0, none⟩ = some (.slice (some ⟨bb, off, none⟩) xs.length c) ∧ W.cell? ⟨gt, 1, none⟩ = some (.int .i64 hh) ∧ W.cell? ⟨gt, 2, none⟩ = some (.int .i64 ee) ∧ W.cell? ⟨gb, 0, none⟩ = some (.slice (some ⟨gg, 0, none⟩) xs.length cap) ∧ W.cell? ⟨gb, 1, none⟩ = some (.int .i64 (hh)) ∧ W.cell? ⟨gb, 2, none⟩ = some (.int .i64 (ee)))) (by kernel_rfl) ?_ (fun hHeld => ?_)
                  · (try dsimp only); exact ⟨t0, t1, t2, s0, s1, s2⟩
                  refine wpAnyH_take (i := 0) (oi := ⟨some 52, Go.Op.load 26 (Go.Operand.tmp 5), 26, "l23_tariffs.go:320", #[], none⟩) (v := ?_) rfl (by kernel_rfl) (by kernel_rfl) (by kernel_rfl) (fun _ _ _ h => h) (Or.inl ⟨by rfl, ?_⟩) (by assumption) ?_
                  rotate_left
                  · intro w hSw; (try dsimp only at hSw); go_split_ands; go_simp; first | done | with_reducible rfl
                  (try simp only [Act.put, List.setIfInBounds_toArray, List.set_cons_zero, List.set_cons_succ])
                  refine wpAnyH_take (i := 1) (oi := ⟨some 53, Go.Op.load 26 (Go.Operand.tmp 6), 26, "l23_tariffs.go:320", #[⟨2, Go.Ground.gcOnly Go.Departure.lateStores⟩], none⟩) (v := ?_) rfl (by kernel_rfl) (by kernel_rfl) (by kernel_rfl) (fun _ _ _ h => h) (Or.inl ⟨by rfl, ?_⟩) (by assumption) ?_
                  rotate_left
                  · intro w hSw; (try dsimp only at hSw); go_split_ands; go_simp; first | done | with_reducible rfl
                  (try simp only [Act.put, List.setIfInBounds_toArray, List.set_cons_zero, List.set_cons_succ])
                  refine wpAnyH_ready (rs := [2]) (by kernel_rfl) (by simp) ?_
                  refine AllReadyH.cons rfl (fun K hK => ?_) ?_
                  · skip
                    go_simp
                    refine hK.out _ _ ?_ (fun hH2 => ?_)
                    · (try dsimp only); (try simp only [World.cell?_drew] at hHeld); (try simp only [World.cell?_drew]); exact ⟨(cell_far (by simp only; omega)).trans ((cell_far (by simp only; omega)).trans ((cell_far (by simp only; omega)).trans hHeld.1)), (cell_far (by simp only; omega)).trans ((cell_far (by simp only; omega)).trans ((cell_far (by simp only; omega)).trans hHeld.2.1)), (cell_far (by simp only; omega)).trans ((cell_far (by simp only; omega)).trans ((cell_far (by simp only; omega)).trans hHeld.2.2.1)), (cell_far (by simp only; omega)).trans ((cell_far (by simp only; omega)).trans ((cell_far (by simp only; omega)).trans hHeld.2.2.2.1)), (cell_far (by simp only; omega)).trans ((cell_far (by simp only; omega)).trans ((cell_far (by simp only; omega)).trans hHeld.2.2.2.2.1)), (cell_far (by simp only; omega)).trans ((cell_far (by simp only; omega)).trans ((cell_far (by simp only; omega)).trans hHeld.2.2.2.2.2))⟩
                    clear hK K hHeld; have hHeld := hH2; clear hH2
                    refine wpAnyH_ready (rs := [3]) (by kernel_rfl) (by simp) ?_
                    refine AllReadyH.cons rfl (fun K hK => ?_) ?_
                    · skip
                      go_simp
                      refine hK.out _ _ ?_ (fun hH2 => ?_)
                      · (try dsimp only); simp only [World.cell?_drew] at hHeld ⊢; exact ⟨(cell_far (by simp only; omega)).trans ((cell_far (by simp only; omega)).trans ((cell_far (by simp only; omega)).trans hHeld.1)), (cell_far (by simp only; omega)).trans ((cell_far (by simp only; omega)).trans ((cell_far (by simp only; omega)).trans hHeld.2.1)), (cell_far (by simp only; omega)).trans ((cell_far (by simp only; omega)).trans ((cell_far (by simp only; omega)).trans hHeld.2.2.1)), (cell_far (by simp only; omega)).trans ((cell_far (by simp only; omega)).trans ((cell_far (by simp only; omega)).trans hHeld.2.2.2.1)), (cell_far (by simp only; omega)).trans ((cell_far (by simp only; omega)).trans ((cell_far (by simp only; omega)).trans hHeld.2.2.2.2.1)), (cell_far (by simp only; omega)).trans ((cell_far (by simp only; omega)).trans ((cell_far (by simp only; omega)).trans hHeld.2.2.2.2.2))⟩
                      clear hK K hHeld; have hHeld := hH2; clear hH2
                      refine wpAnyH_done (by kernel_rfl) ?_ _
                      have z0 : (WF.setCell ⟨w.heap.size, 0, none⟩ (.slice (some ⟨bb, off, none⟩) xs.length c)).cell? ⟨w.heap.size, 0, none⟩ = some (.slice (some ⟨bb, off, none⟩) xs.length c) := World.cell?_setCell_same _ _ _ (d0)
                      have z1 : ((WF.setCell ⟨w.heap.size, 0, none⟩ (.slice (some ⟨bb, off, none⟩) xs.length c)).setCell ⟨w.heap.size, 1, none⟩ (.int .i64 hh)).cell? ⟨w.heap.size, 1, none⟩ = some (.int .i64 hh) := World.cell?_setCell_same _ _ _ ((World.cell?_setCell_other _ _ _ _ (by simp)).trans (d1))
                      have z2 : (((WF.setCell ⟨w.heap.size, 0, none⟩ (.slice (some ⟨bb, off, none⟩) xs.length c)).setCell ⟨w.heap.size, 1, none⟩ (.int .i64 hh)).setCell ⟨w.heap.size, 2, none⟩ (.int .i64 ee)).cell? ⟨w.heap.size, 2, none⟩ = some (.int .i64 ee) := World.cell?_setCell_same _ _ _ ((World.cell?_setCell_other _ _ _ _ (by simp)).trans ((World.cell?_setCell_other _ _ _ _ (by simp)).trans (d2)))
                      have z3 : ((((WF.setCell ⟨w.heap.size, 0, none⟩ (.slice (some ⟨bb, off, none⟩) xs.length c)).setCell ⟨w.heap.size, 1, none⟩ (.int .i64 hh)).setCell ⟨w.heap.size, 2, none⟩ (.int .i64 ee)).setCell ⟨w.heap.size + 1, 0, none⟩ (.slice (some ⟨gg, 0, none⟩) xs.length cap)).cell? ⟨w.heap.size + 1, 0, none⟩ = some (.slice (some ⟨gg, 0, none⟩) xs.length cap) := World.cell?_setCell_same _ _ _ ((cell_far (by first | (simp only; omega) | fail)).trans ((cell_far (by first | (simp only; omega) | fail)).trans ((cell_far (by first | (simp only; omega) | fail)).trans (d3))))
                      have z4 : (((((WF.setCell ⟨w.heap.size, 0, none⟩ (.slice (some ⟨bb, off, none⟩) xs.length c)).setCell ⟨w.heap.size, 1, none⟩ (.int .i64 hh)).setCell ⟨w.heap.size, 2, none⟩ (.int .i64 ee)).setCell ⟨w.heap.size + 1, 0, none⟩ (.slice (some ⟨gg, 0, none⟩) xs.length cap)).setCell ⟨w.heap.size + 1, 1, none⟩ (.int .i64 (hh))).cell? ⟨w.heap.size + 1, 1, none⟩ = some (.int .i64 (hh)) := World.cell?_setCell_same _ _ _ ((World.cell?_setCell_other _ _ _ _ (by simp)).trans ((cell_far (by first | (simp only; omega) | fail)).trans ((cell_far (by first | (simp only; omega) | fail)).trans ((cell_far (by first | (simp only; omega) | fail)).trans (d4)))))
                      have z5 : ((((((WF.setCell ⟨w.heap.size, 0, none⟩ (.slice (some ⟨bb, off, none⟩) xs.length c)).setCell ⟨w.heap.size, 1, none⟩ (.int .i64 hh)).setCell ⟨w.heap.size, 2, none⟩ (.int .i64 ee)).setCell ⟨w.heap.size + 1, 0, none⟩ (.slice (some ⟨gg, 0, none⟩) xs.length cap)).setCell ⟨w.heap.size + 1, 1, none⟩ (.int .i64 (hh))).setCell ⟨w.heap.size + 1, 2, none⟩ (.int .i64 (ee))).cell? ⟨w.heap.size + 1, 2, none⟩ = some (.int .i64 (ee)) := World.cell?_setCell_same _ _ _ ((World.cell?_setCell_other _ _ _ _ (by simp)).trans ((World.cell?_setCell_other _ _ _ _ (by simp)).trans ((cell_far (by first | (simp only; omega) | fail)).trans ((cell_far (by first | (simp only; omega) | fail)).trans ((cell_far (by first | (simp only; omega) | fail)).trans (d5))))))
                      clear hHeld t0 t1 t2 s0 s1 s2 d0 d1 d2 d3 d4 d5 e0 e1 e2 e3 e4 e5
                      go_wp2_with fail
                      refine bodyPost_ret (v := .tuple #[.agg #[(.slice (some ⟨bb, off, none⟩) xs.length c), .int .i64 hh, .int .i64 ee], .agg #[(.slice (some ⟨gg, 0, none⟩) xs.length cap), .int .i64 (hh), .int .i64 (ee)]]) (by simp [results, Tryz.results19, go_sem, z0, z1, z2, z3, z4, z5]) rfl ⟨_, c, xs, hh, ee, _, cap, xs, hh, ee, rfl, hm9, hy10, ?_, ?_, ?_⟩
                      · have hn0 : ∀ j, (Value.slice (some ⟨bb, off, none⟩) xs.length c).ownBlock ≠ some (⟨w.heap.size, j, none⟩ : Addr).block := fun j e => by have := (HLA2.out _ e).1; simp only at this; omega
                        have hn1 : ∀ j, (Value.slice (some ⟨bb, off, none⟩) xs.length c).ownBlock ≠ some (⟨w.heap.size + 1, j, none⟩ : Addr).block := fun j e => by have := (HLA2.out _ e).1; simp only at this; omega
                        exact own_sl encStep_len (by omega) (ow_drew (ow_set (hn1 2) (ow_set (hn1 1) (ow_set (hn1 0) (ow_set (hn0 2) (ow_set (hn0 1) (ow_set (hn0 0) HOA.out)))))))
                      · have hn0 : ∀ j, (Value.slice (some ⟨gg, 0, none⟩) xs.length cap).ownBlock ≠ some (⟨w.heap.size, j, none⟩ : Addr).block := fun j e => by have := (HLB2.out _ e).1; simp only at this; omega
                        have hn1 : ∀ j, (Value.slice (some ⟨gg, 0, none⟩) xs.length cap).ownBlock ≠ some (⟨w.heap.size + 1, j, none⟩ : Addr).block := fun j e => by have := (HLB2.out _ e).1; simp only at this; omega
                        exact own_sl encStep_len (by omega) (ow_drew (ow_set (hn1 2) (ow_set (hn1 1) (ow_set (hn1 0) (ow_set (hn0 2) (ow_set (hn0 1) (ow_set (hn0 0) HOB.out)))))))
                      · exact (bl_set (by simp only; omega) (bl_set (by simp only; omega) (bl_set (by simp only; omega) (bl_set (by simp only; omega) (bl_set (by simp only; omega) (bl_set (by simp only; omega) b8)))))).drew
                    exact AllReadyH.nil
                  exact AllReadyH.nil
        exact AllReadyH.nil
      exact AllReadyH.nil
    exact AllReadyH.nil
  refine AllReadyH.cons rfl (fun K hK => ?_) ?_
  · skip
    go_simp
    refine hK.out _ _ ?_ (fun hH2 => ?_)
    · (try dsimp only); exact ⟨below_cell hHeld.1 ((Below.refl _ _).alloc (Nat.le_refl _) _), below_cell hHeld.2.1 ((Below.refl _ _).alloc (Nat.le_refl _) _), below_cell hHeld.2.2 ((Below.refl _ _).alloc (Nat.le_refl _) _)⟩
    clear hK K hHeld; have hHeld := hH2; clear hH2
    refine wpAnyH_ready (rs := [0]) (by kernel_rfl) (by simp) ?_
    refine AllReadyH.cons rfl (fun K hK => ?_) ?_
    · skip
      go_simp
      refine hK.out _ _ ?_ (fun hH2 => ?_)
      · (try dsimp only); exact ⟨below_cell hHeld.1 ((Below.refl _ _).alloc (Nat.le_refl _) _), below_cell hHeld.2.1 ((Below.refl _ _).alloc (Nat.le_refl _) _), below_cell hHeld.2.2 ((Below.refl _ _).alloc (Nat.le_refl _) _)⟩
      clear hK K hHeld; have hHeld := hH2; clear hH2
      refine wpAnyH_ready (rs := [3]) (by kernel_rfl) (by simp) ?_
      refine AllReadyH.cons rfl (fun K hK => ?_) ?_
      · skip
        refine step_append_lies _ rfl _ _ 24 rfl W3.heap.size 57 i0 (.agg #[.int .i64 0, .int .i64 0]) 2 16 Tryz.underlying24 hi hz0 hz1 hz2 rfl (by omega) (.slice (some ⟨W3.heap.size + 1, 0, none⟩) 0 0) 0 [] rfl OE3.out ⟨bb, off, none⟩ xs.length c (xs.flatMap encStep) rfl hlen0 HN3.out (one_encStep xs) hn0 (by simp only [maxLen]; omega) (by omega) (by first | (simp; done) | (simp; omega)) (W3.heap.size + 2) (by simp) ?_
        intro gg cap w4 ho4 hg4 hat4 hlt4
        have ne4 : some gt ≠ (Value.slice (some ⟨W3.heap.size + 1, 0, none⟩) 0 0).ownBlock := by simp [Value.ownBlock]; omega
        have q4 : Below W3.heap.size W3 w4 := Q3.out.grown hg4 (by first | (simp; done) | (simp; omega)) (fun q hq => by simp [Value.ownBlock] at hq; omega)
        have z4 : W3.heap.size < w4.heap.size := by have := hg4.size; simp at this; omega
        have u0 := hg4.cell hHeld.1 ne4
        have u1 := hg4.cell hHeld.2.1 ne4
        have u2 := hg4.cell hHeld.2.2 ne4
        have hgg := ho4.lt gg rfl
        have neb : some (W3.heap.size) ≠ (Value.slice (some ⟨W3.heap.size + 1, 0, none⟩) 0 0).ownBlock := by simp [Value.ownBlock]
        have lb : W3.heap.size < ((W3.alloc (.cells #[.slice none 0 0, .int .i64 0, .int .i64 0] 26)).alloc (.cells #[] 57)).drew.heap.size := by first | (simp; done) | (simp; omega)
        have p0 : w4.cell? ⟨W3.heap.size, 0, none⟩ = some (.slice none 0 0) := hg4.cell (by go_simp) neb
        have p1 : w4.cell? ⟨W3.heap.size, 1, none⟩ = some (.int .i64 0) := hg4.cell (by go_simp) neb
        have p2 : w4.cell? ⟨W3.heap.size, 2, none⟩ = some (.int .i64 0) := hg4.cell (by go_simp) neb
        have pf0 : w4.frozen? ⟨W3.heap.size, 0, none⟩ = false := (hg4.frozen_far ⟨W3.heap.size, 0, none⟩ lb neb).trans (by go_simp)
        have pf1 : w4.frozen? ⟨W3.heap.size, 1, none⟩ = false := (hg4.frozen_far ⟨W3.heap.size, 1, none⟩ lb neb).trans (by go_simp)
        have pf2 : w4.frozen? ⟨W3.heap.size, 2, none⟩ = false := (hg4.frozen_far ⟨W3.heap.size, 2, none⟩ lb neb).trans (by go_simp)
        have hgb : gg ≠ W3.heap.size := by
          rcases hat4 with q | q
          · simp [Value.ownBlock] at q; omega
          · omega
        refine hK.out _ _ ?_ (fun hH2 => ?_)
        · (try dsimp only); exact ⟨u0, u1, u2⟩
        clear hK K hHeld; have hHeld := hH2; clear hH2
        refine wpAnyH_take (i := 8) (oi := ⟨some 19, Go.Op.build 26 #[(0, Go.Operand.tmp 14), (1, Go.Operand.tmp 16), (2, Go.Operand.tmp 18)], 26, "l23_tariffs.go:309", #[⟨3, Go.Ground.data⟩, ⟨5, Go.Ground.data⟩, ⟨7, Go.Ground.data⟩], none⟩) (v := ?_) rfl (by kernel_rfl) (by kernel_rfl) (by kernel_rfl) (fun _ _ _ h => h) (Or.inl ⟨by rfl, ?_⟩) (by assumption) ?_
        rotate_left
        · intro w hSw; (try dsimp only at hSw); go_split_ands; go_simp; first | done | with_reducible rfl
        (try simp only [Act.put, List.setIfInBounds_toArray, List.set_cons_zero, List.set_cons_succ])
        refine wpAnyH_ready (rs := [10]) (by kernel_rfl) (by simp) ?_
        refine AllReadyH.cons rfl (fun K hK => ?_) ?_
        · skip
          go_simp
          refine hK.out _ _ ?_ (fun hH2 => ?_)
          · (try dsimp only); exact ⟨(cell_far (by simp only; omega)).trans ((cell_far (by simp only; omega)).trans ((cell_far (by simp only; omega)).trans hHeld.1)), (cell_far (by simp only; omega)).trans ((cell_far (by simp only; omega)).trans ((cell_far (by simp only; omega)).trans hHeld.2.1)), (cell_far (by simp only; omega)).trans ((cell_far (by simp only; omega)).trans ((cell_far (by simp only; omega)).trans hHeld.2.2))⟩
          clear hK K hHeld; have hHeld := hH2; clear hH2
          refine wpAnyH_done (by kernel_rfl) ?_ _
          rw [List.nil_append] at ho4
          simp only [Nat.zero_add] at ho4
          obtain ⟨W6, hW6⟩ : ∃ W, W = ((w4.setCell ⟨W3.heap.size, 0, none⟩ (.slice (some ⟨gg, 0, none⟩) xs.length cap)).setCell ⟨W3.heap.size, 1, none⟩ (.int .i64 hh)).setCell ⟨W3.heap.size, 2, none⟩ (.int .i64 ee) := ⟨_, rfl⟩
          have BW : Below W3.heap.size W3 W6 := by rw [hW6]; exact ((q4.setCell (p := ⟨W3.heap.size, 0, none⟩) (by simp only; omega) _).setCell (p := ⟨W3.heap.size, 1, none⟩) (by simp only; omega) _).setCell (p := ⟨W3.heap.size, 2, none⟩) (by simp only; omega) _
          rw [← hW6]
          obtain ⟨gb, hgbe⟩ : ∃ g, g = W3.heap.size := ⟨_, rfl⟩
          have TB : TarAt W6 W3.heap.size gb (some ⟨gg, 0, none⟩) cap xs hh ee := by rw [hW6, hgbe]; exact tar_store p0 p1 p2 pf0 pf1 pf2 ho4 hgb
          rw [← hgbe]
          have gbl : W3.heap.size ≤ gb := by omega
          clear p0 p1 p2 pf0 pf1 pf2 hgb neb lb
          clear hW6 hgbe ho4 hg4 hat4 hlt4 u0 u1 u2 q4 ne4 hHeld hgg z4
          have TA6 := hid (T3.out.below BW)
          have TB6 := hid TB
          have RA6 := hid (RA.out.below (BW.mono (Nat.le_refl _)))
          have RB6 := hid (RB.out.below (BW.mono (Nat.le_refl _)))
          have S6 := hid (S3.out.below (BW.mono (by omega)))
          have b6 := b3.trans (BW.mono b3.size)
          have z6 := BW.size
          clear T3 TB RA RB S3 BW b3 OE1 OE2 OE3 HN1 HN2 HN3 Q1 Q2 Q3 t0 t1 t2
          go_wp2_with fail
          refine (pick_any _ _ 5 _ S6.out (by omega) (by omega)).mono ?_
          rintro r w7 ⟨q, rfl, q0, q1, hs7, hg7⟩
          have TA7 := hid (TA6.out.src hg7 (by omega) (by omega))
          have TB7 := hid (TB6.out.src hg7 (by omega) (by omega))
          have RA7 := hid (RA6.out.grow hg7 (by simp))
          have RB7 := hid (RB6.out.grow hg7 (by simp))
          have b7 := below_src b6 hg7 (by omega) (by omega)
          have z7 := hg7.size
          have gbt : gb ≠ gt := by omega
          clear TA6 TB6 RA6 RB6 S6 b6 hs7 hg7
          by_cases h0 : q = 0
          · subst h0
            have k1 := TB7.out.c1
            have y1 := TB7.out.f1
            have TB := hid (TB7.out.put1 (wrap64 (hh + 1)))
            have GG : w7.grownBy (w7.setCell ⟨gb, 1, none⟩ (.int .i64 (wrap64 (hh + 1)))) (some gb) := gr_set (World.grownBy.refl _ _)
            have TA := hid (TA7.out.grow GG (fun b hb => by injection hb with hb; subst hb; exact ⟨gbt, fun e => by have := HQ.out _ e; omega⟩))
            have RA := hid (RA7.out.grow GG (by simp; omega))
            have RB := hid (RB7.out.grow GG (by simp; omega))
            have b8 := b7.setCell (p := ⟨gb, 1, none⟩) (by simp only; omega) (.int .i64 (wrap64 (hh + 1)))
            have hy10 : xs.length ≤ 10 := by omega
            clear TA7 TB7 RA7 RB7 GG b7 q1 q0
            obtain ⟨WF, hWF⟩ : ∃ W, W = (w7.setCell ⟨gb, 1, none⟩ (.int .i64 (wrap64 (hh + 1)))) := ⟨_, rfl⟩
            rw [← hWF] at TA TB RA RB b8
            have HWF := hid hWF
            clear hWF
            go_wp2_with fail
            rw [← HWF.out]
            clear HWF
            have t0 := TA.out.c0
            have t1 := TA.out.c1
            have t2 := TA.out.c2
            have s0 := TB.out.c0
            have s1 := TB.out.c1
            have s2 := TB.out.c2
            have d0 := RA.out.c0
            have d1 := RA.out.c1
            have d2 := RA.out.c2
            have d3 := RB.out.c0
            have d4 := RB.out.c1
            have d5 := RB.out.c2
            have e0 := RA.out.f0
            have e1 := RA.out.f1
            have e2 := RA.out.f2
            have e3 := RB.out.f0
            have e4 := RB.out.f1
            have e5 := RB.out.f2
            have HOA := hid TA.out.own
            have HOB := hid TB.out.own
            have hla := HOA.out.lt
            have hlb := HOB.out.lt
            have HLA2 := hid hla
            have HLB2 := hid hlb
            clear TA TB RA RB hla hlb z6 z7
            refine wp_region_held_drew (S := (fun W => W.cell? ⟨gt, 0, none⟩ = some (.slice (some ⟨bb, off, none⟩) xs.length c) ∧ W.cell? ⟨gt, 1, none⟩ = some (.int .i64 hh) ∧ W.cell? ⟨gt, 2, none⟩ = some (.int .i64 ee) ∧ W.cell? ⟨gb, 0, none⟩ = some (.slice (some ⟨gg, 0, none⟩) xs.length cap) ∧ W.cell? ⟨gb, 1, none⟩ = some (.int .i64 (wrap64 (hh + 1))) ∧ W.cell? ⟨gb, 2, none⟩ = some (.int .i64 (ee)))) (by kernel_rfl) ?_ (fun hHeld => ?_)
            · (try dsimp only); exact ⟨t0, t1, t2, s0, s1, s2⟩
            refine wpAnyH_take (i := 0) (oi := ⟨some 52, Go.Op.load 26 (Go.Operand.tmp 5), 26, "l23_tariffs.go:320", #[], none⟩) (v := ?_) rfl (by kernel_rfl) (by kernel_rfl) (by kernel_rfl) (fun _ _ _ h => h) (Or.inl ⟨by rfl, ?_⟩) (by assumption) ?_
            rotate_left
            · intro w hSw; (try dsimp only at hSw); go_split_ands; go_simp; first | done | with_reducible rfl
            (try simp only [Act.put, List.setIfInBounds_toArray, List.set_cons_zero, List.set_cons_succ])
            refine wpAnyH_take (i := 1) (oi := ⟨some 53, Go.Op.load 26 (Go.Operand.tmp 6), 26, "l23_tariffs.go:320", #[⟨2, Go.Ground.gcOnly Go.Departure.lateStores⟩], none⟩) (v := ?_) rfl (by kernel_rfl) (by kernel_rfl) (by kernel_rfl) (fun _ _ _ h => h) (Or.inl ⟨by rfl, ?_⟩) (by assumption) ?_
            rotate_left
            · intro w hSw; (try dsimp only at hSw); go_split_ands; go_simp; first | done | with_reducible rfl
            (try simp only [Act.put, List.setIfInBounds_toArray, List.set_cons_zero, List.set_cons_succ])
            refine wpAnyH_ready (rs := [2]) (by kernel_rfl) (by simp) ?_
            refine AllReadyH.cons rfl (fun K hK => ?_) ?_
            · skip
              go_simp
              refine hK.out _ _ ?_ (fun hH2 => ?_)
              · (try dsimp only); (try simp only [World.cell?_drew] at hHeld); (try simp only [World.cell?_drew]); exact ⟨(cell_far (by simp only; omega)).trans ((cell_far (by simp only; omega)).trans ((cell_far (by simp only; omega)).trans hHeld.1)), (cell_far (by simp only; omega)).trans ((cell_far (by simp only; omega)).trans ((cell_far (by simp only; omega)).trans hHeld.2.1)), (cell_far (by simp only; omega)).trans ((cell_far (by simp only; omega)).trans ((cell_far (by simp only; omega)).trans hHeld.2.2.1)), (cell_far (by simp only; omega)).trans ((cell_far (by simp only; omega)).trans ((cell_far (by simp only; omega)).trans hHeld.2.2.2.1)), (cell_far (by simp only; omega)).trans ((cell_far (by simp only; omega)).trans ((cell_far (by simp only; omega)).trans hHeld.2.2.2.2.1)), (cell_far (by simp only; omega)).trans ((cell_far (by simp only; omega)).trans ((cell_far (by simp only; omega)).trans hHeld.2.2.2.2.2))⟩
              clear hK K hHeld; have hHeld := hH2; clear hH2
              refine wpAnyH_ready (rs := [3]) (by kernel_rfl) (by simp) ?_
              refine AllReadyH.cons rfl (fun K hK => ?_) ?_
              · skip
                go_simp
                refine hK.out _ _ ?_ (fun hH2 => ?_)
                · (try dsimp only); simp only [World.cell?_drew] at hHeld ⊢; exact ⟨(cell_far (by simp only; omega)).trans ((cell_far (by simp only; omega)).trans ((cell_far (by simp only; omega)).trans hHeld.1)), (cell_far (by simp only; omega)).trans ((cell_far (by simp only; omega)).trans ((cell_far (by simp only; omega)).trans hHeld.2.1)), (cell_far (by simp only; omega)).trans ((cell_far (by simp only; omega)).trans ((cell_far (by simp only; omega)).trans hHeld.2.2.1)), (cell_far (by simp only; omega)).trans ((cell_far (by simp only; omega)).trans ((cell_far (by simp only; omega)).trans hHeld.2.2.2.1)), (cell_far (by simp only; omega)).trans ((cell_far (by simp only; omega)).trans ((cell_far (by simp only; omega)).trans hHeld.2.2.2.2.1)), (cell_far (by simp only; omega)).trans ((cell_far (by simp only; omega)).trans ((cell_far (by simp only; omega)).trans hHeld.2.2.2.2.2))⟩
                clear hK K hHeld; have hHeld := hH2; clear hH2
                refine wpAnyH_done (by kernel_rfl) ?_ _
                have z0 : (WF.setCell ⟨w.heap.size, 0, none⟩ (.slice (some ⟨bb, off, none⟩) xs.length c)).cell? ⟨w.heap.size, 0, none⟩ = some (.slice (some ⟨bb, off, none⟩) xs.length c) := World.cell?_setCell_same _ _ _ (d0)
                have z1 : ((WF.setCell ⟨w.heap.size, 0, none⟩ (.slice (some ⟨bb, off, none⟩) xs.length c)).setCell ⟨w.heap.size, 1, none⟩ (.int .i64 hh)).cell? ⟨w.heap.size, 1, none⟩ = some (.int .i64 hh) := World.cell?_setCell_same _ _ _ ((World.cell?_setCell_other _ _ _ _ (by simp)).trans (d1))
                have z2 : (((WF.setCell ⟨w.heap.size, 0, none⟩ (.slice (some ⟨bb, off, none⟩) xs.length c)).setCell ⟨w.heap.size, 1, none⟩ (.int .i64 hh)).setCell ⟨w.heap.size, 2, none⟩ (.int .i64 ee)).cell? ⟨w.heap.size, 2, none⟩ = some (.int .i64 ee) := World.cell?_setCell_same _ _ _ ((World.cell?_setCell_other _ _ _ _ (by simp)).trans ((World.cell?_setCell_other _ _ _ _ (by simp)).trans (d2)))
                have z3 : ((((WF.setCell ⟨w.heap.size, 0, none⟩ (.slice (some ⟨bb, off, none⟩) xs.length c)).setCell ⟨w.heap.size, 1, none⟩ (.int .i64 hh)).setCell ⟨w.heap.size, 2, none⟩ (.int .i64 ee)).setCell ⟨w.heap.size + 1, 0, none⟩ (.slice (some ⟨gg, 0, none⟩) xs.length cap)).cell? ⟨w.heap.size + 1, 0, none⟩ = some (.slice (some ⟨gg, 0, none⟩) xs.length cap) := World.cell?_setCell_same _ _ _ ((cell_far (by first | (simp only; omega) | fail)).trans ((cell_far (by first | (simp only; omega) | fail)).trans ((cell_far (by first | (simp only; omega) | fail)).trans (d3))))
                have z4 : (((((WF.setCell ⟨w.heap.size, 0, none⟩ (.slice (some ⟨bb, off, none⟩) xs.length c)).setCell ⟨w.heap.size, 1, none⟩ (.int .i64 hh)).setCell ⟨w.heap.size, 2, none⟩ (.int .i64 ee)).setCell ⟨w.heap.size + 1, 0, none⟩ (.slice (some ⟨gg, 0, none⟩) xs.length cap)).setCell ⟨w.heap.size + 1, 1, none⟩ (.int .i64 (wrap64 (hh + 1)))).cell? ⟨w.heap.size + 1, 1, none⟩ = some (.int .i64 (wrap64 (hh + 1))) := World.cell?_setCell_same _ _ _ ((World.cell?_setCell_other _ _ _ _ (by simp)).trans ((cell_far (by first | (simp only; omega) | fail)).trans ((cell_far (by first | (simp only; omega) | fail)).trans ((cell_far (by first | (simp only; omega) | fail)).trans (d4)))))
                have z5 : ((((((WF.setCell ⟨w.heap.size, 0, none⟩ (.slice (some ⟨bb, off, none⟩) xs.length c)).setCell ⟨w.heap.size, 1, none⟩ (.int .i64 hh)).setCell ⟨w.heap.size, 2, none⟩ (.int .i64 ee)).setCell ⟨w.heap.size + 1, 0, none⟩ (.slice (some ⟨gg, 0, none⟩) xs.length cap)).setCell ⟨w.heap.size + 1, 1, none⟩ (.int .i64 (wrap64 (hh + 1)))).setCell ⟨w.heap.size + 1, 2, none⟩ (.int .i64 (ee))).cell? ⟨w.heap.size + 1, 2, none⟩ = some (.int .i64 (ee)) := World.cell?_setCell_same _ _ _ ((World.cell?_setCell_other _ _ _ _ (by simp)).trans ((World.cell?_setCell_other _ _ _ _ (by simp)).trans ((cell_far (by first | (simp only; omega) | fail)).trans ((cell_far (by first | (simp only; omega) | fail)).trans ((cell_far (by first | (simp only; omega) | fail)).trans (d5))))))
                clear hHeld t0 t1 t2 s0 s1 s2 d0 d1 d2 d3 d4 d5 e0 e1 e2 e3 e4 e5
                go_wp2_with fail
                refine bodyPost_ret (v := .tuple #[.agg #[(.slice (some ⟨bb, off, none⟩) xs.length c), .int .i64 hh, .int .i64 ee], .agg #[(.slice (some ⟨gg, 0, none⟩) xs.length cap), .int .i64 (wrap64 (hh + 1)), .int .i64 (ee)]]) (by simp [results, Tryz.results19, go_sem, z0, z1, z2, z3, z4, z5]) rfl ⟨_, c, xs, hh, ee, _, cap, xs, wrap64 (hh + 1), ee, rfl, hm9, hy10, ?_, ?_, ?_⟩
                · have hn0 : ∀ j, (Value.slice (some ⟨bb, off, none⟩) xs.length c).ownBlock ≠ some (⟨w.heap.size, j, none⟩ : Addr).block := fun j e => by have := (HLA2.out _ e).1; simp only at this; omega
                  have hn1 : ∀ j, (Value.slice (some ⟨bb, off, none⟩) xs.length c).ownBlock ≠ some (⟨w.heap.size + 1, j, none⟩ : Addr).block := fun j e => by have := (HLA2.out _ e).1; simp only at this; omega
                  exact own_sl encStep_len (by omega) (ow_drew (ow_set (hn1 2) (ow_set (hn1 1) (ow_set (hn1 0) (ow_set (hn0 2) (ow_set (hn0 1) (ow_set (hn0 0) HOA.out)))))))
                · have hn0 : ∀ j, (Value.slice (some ⟨gg, 0, none⟩) xs.length cap).ownBlock ≠ some (⟨w.heap.size, j, none⟩ : Addr).block := fun j e => by have := (HLB2.out _ e).1; simp only at this; omega
                  have hn1 : ∀ j, (Value.slice (some ⟨gg, 0, none⟩) xs.length cap).ownBlock ≠ some (⟨w.heap.size + 1, j, none⟩ : Addr).block := fun j e => by have := (HLB2.out _ e).1; simp only at this; omega
                  exact own_sl encStep_len (by omega) (ow_drew (ow_set (hn1 2) (ow_set (hn1 1) (ow_set (hn1 0) (ow_set (hn0 2) (ow_set (hn0 1) (ow_set (hn0 0) HOB.out)))))))
                · exact (bl_set (by simp only; omega) (bl_set (by simp only; omega) (bl_set (by simp only; omega) (bl_set (by simp only; omega) (bl_set (by simp only; omega) (bl_set (by simp only; omega) b8)))))).drew
              exact AllReadyH.nil
            exact AllReadyH.nil
          · by_cases h1 : q = 1
            · subst h1
              have k1 := TB7.out.c2
              have y1 := TB7.out.f2
              have TB := hid (TB7.out.put2 (wrap64 (ee + 1)))
              have GG : w7.grownBy (w7.setCell ⟨gb, 2, none⟩ (.int .i64 (wrap64 (ee + 1)))) (some gb) := gr_set (World.grownBy.refl _ _)
              have TA := hid (TA7.out.grow GG (fun b hb => by injection hb with hb; subst hb; exact ⟨gbt, fun e => by have := HQ.out _ e; omega⟩))
              have RA := hid (RA7.out.grow GG (by simp; omega))
              have RB := hid (RB7.out.grow GG (by simp; omega))
              have b8 := b7.setCell (p := ⟨gb, 2, none⟩) (by simp only; omega) (.int .i64 (wrap64 (ee + 1)))
              have hy10 : xs.length ≤ 10 := by omega
              clear TA7 TB7 RA7 RB7 GG b7 q1 q0 h0
              obtain ⟨WF, hWF⟩ : ∃ W, W = (w7.setCell ⟨gb, 2, none⟩ (.int .i64 (wrap64 (ee + 1)))) := ⟨_, rfl⟩
              rw [← hWF] at TA TB RA RB b8
              have HWF := hid hWF
              clear hWF
              go_wp2_with fail
              rw [← HWF.out]
              clear HWF
              have t0 := TA.out.c0
              have t1 := TA.out.c1
              have t2 := TA.out.c2
              have s0 := TB.out.c0
              have s1 := TB.out.c1
              have s2 := TB.out.c2
              have d0 := RA.out.c0
              have d1 := RA.out.c1
              have d2 := RA.out.c2
              have d3 := RB.out.c0
              have d4 := RB.out.c1
              have d5 := RB.out.c2
              have e0 := RA.out.f0
              have e1 := RA.out.f1
              have e2 := RA.out.f2
              have e3 := RB.out.f0
              have e4 := RB.out.f1
              have e5 := RB.out.f2
              have HOA := hid TA.out.own
              have HOB := hid TB.out.own
              have hla := HOA.out.lt
              have hlb := HOB.out.lt
              have HLA2 := hid hla
              have HLB2 := hid hlb
              clear TA TB RA RB hla hlb z6 z7
              refine wp_region_held_drew (S := (fun W => W.cell? ⟨gt, 0, none⟩ = some (.slice (some ⟨bb, off, none⟩) xs.length c) ∧ W.cell? ⟨gt, 1, none⟩ = some (.int .i64 hh) ∧ W.cell? ⟨gt, 2, none⟩ = some (.int .i64 ee) ∧ W.cell? ⟨gb, 0, none⟩ = some (.slice (some ⟨gg, 0, none⟩) xs.length cap) ∧ W.cell? ⟨gb, 1, none⟩ = some (.int .i64 (hh)) ∧ W.cell? ⟨gb, 2, none⟩ = some (.int .i64 (wrap64 (ee + 1))))) (by kernel_rfl) ?_ (fun hHeld => ?_)
              · (try dsimp only); exact ⟨t0, t1, t2, s0, s1, s2⟩
              refine wpAnyH_take (i := 0) (oi := ⟨some 52, Go.Op.load 26 (Go.Operand.tmp 5), 26, "l23_tariffs.go:320", #[], none⟩) (v := ?_) rfl (by kernel_rfl) (by kernel_rfl) (by kernel_rfl) (fun _ _ _ h => h) (Or.inl ⟨by rfl, ?_⟩) (by assumption) ?_
              rotate_left
              · intro w hSw; (try dsimp only at hSw); go_split_ands; go_simp; first | done | with_reducible rfl
              (try simp only [Act.put, List.setIfInBounds_toArray, List.set_cons_zero, List.set_cons_succ])
              refine wpAnyH_take (i := 1) (oi := ⟨some 53, Go.Op.load 26 (Go.Operand.tmp 6), 26, "l23_tariffs.go:320", #[⟨2, Go.Ground.gcOnly Go.Departure.lateStores⟩], none⟩) (v := ?_) rfl (by kernel_rfl) (by kernel_rfl) (by kernel_rfl) (fun _ _ _ h => h) (Or.inl ⟨by rfl, ?_⟩) (by assumption) ?_
              rotate_left
              · intro w hSw; (try dsimp only at hSw); go_split_ands; go_simp; first | done | with_reducible rfl
              (try simp only [Act.put, List.setIfInBounds_toArray, List.set_cons_zero, List.set_cons_succ])
              refine wpAnyH_ready (rs := [2]) (by kernel_rfl) (by simp) ?_
              refine AllReadyH.cons rfl (fun K hK => ?_) ?_
              · skip
                go_simp
                refine hK.out _ _ ?_ (fun hH2 => ?_)
                · (try dsimp only); (try simp only [World.cell?_drew] at hHeld); (try simp only [World.cell?_drew]); exact ⟨(cell_far (by simp only; omega)).trans ((cell_far (by simp only; omega)).trans ((cell_far (by simp only; omega)).trans hHeld.1)), (cell_far (by simp only; omega)).trans ((cell_far (by simp only; omega)).trans ((cell_far (by simp only; omega)).trans hHeld.2.1)), (cell_far (by simp only; omega)).trans ((cell_far (by simp only; omega)).trans ((cell_far (by simp only; omega)).trans hHeld.2.2.1)), (cell_far (by simp only; omega)).trans ((cell_far (by simp only; omega)).trans ((cell_far (by simp only; omega)).trans hHeld.2.2.2.1)), (cell_far (by simp only; omega)).trans ((cell_far (by simp only; omega)).trans ((cell_far (by simp only; omega)).trans hHeld.2.2.2.2.1)), (cell_far (by simp only; omega)).trans ((cell_far (by simp only; omega)).trans ((cell_far (by simp only; omega)).trans hHeld.2.2.2.2.2))⟩
                clear hK K hHeld; have hHeld := hH2; clear hH2
                refine wpAnyH_ready (rs := [3]) (by kernel_rfl) (by simp) ?_
                refine AllReadyH.cons rfl (fun K hK => ?_) ?_
                · skip
                  go_simp
                  refine hK.out _ _ ?_ (fun hH2 => ?_)
                  · (try dsimp only); simp only [World.cell?_drew] at hHeld ⊢; exact ⟨(cell_far (by simp only; omega)).trans ((cell_far (by simp only; omega)).trans ((cell_far (by simp only; omega)).trans hHeld.1)), (cell_far (by simp only; omega)).trans ((cell_far (by simp only; omega)).trans ((cell_far (by simp only; omega)).trans hHeld.2.1)), (cell_far (by simp only; omega)).trans ((cell_far (by simp only; omega)).trans ((cell_far (by simp only; omega)).trans hHeld.2.2.1)), (cell_far (by simp only; omega)).trans ((cell_far (by simp only; omega)).trans ((cell_far (by simp only; omega)).trans hHeld.2.2.2.1)), (cell_far (by simp only; omega)).trans ((cell_far (by simp only; omega)).trans ((cell_far (by simp only; omega)).trans hHeld.2.2.2.2.1)), (cell_far (by simp only; omega)).trans ((cell_far (by simp only; omega)).trans ((cell_far (by simp only; omega)).trans hHeld.2.2.2.2.2))⟩
                  clear hK K hHeld; have hHeld := hH2; clear hH2
                  refine wpAnyH_done (by kernel_rfl) ?_ _
                  have z0 : (WF.setCell ⟨w.heap.size, 0, none⟩ (.slice (some ⟨bb, off, none⟩) xs.length c)).cell? ⟨w.heap.size, 0, none⟩ = some (.slice (some ⟨bb, off, none⟩) xs.length c) := World.cell?_setCell_same _ _ _ (d0)
                  have z1 : ((WF.setCell ⟨w.heap.size, 0, none⟩ (.slice (some ⟨bb, off, none⟩) xs.length c)).setCell ⟨w.heap.size, 1, none⟩ (.int .i64 hh)).cell? ⟨w.heap.size, 1, none⟩ = some (.int .i64 hh) := World.cell?_setCell_same _ _ _ ((World.cell?_setCell_other _ _ _ _ (by simp)).trans (d1))
                  have z2 : (((WF.setCell ⟨w.heap.size, 0, none⟩ (.slice (some ⟨bb, off, none⟩) xs.length c)).setCell ⟨w.heap.size, 1, none⟩ (.int .i64 hh)).setCell ⟨w.heap.size, 2, none⟩ (.int .i64 ee)).cell? ⟨w.heap.size, 2, none⟩ = some (.int .i64 ee) := World.cell?_setCell_same _ _ _ ((World.cell?_setCell_other _ _ _ _ (by simp)).trans ((World.cell?_setCell_other _ _ _ _ (by simp)).trans (d2)))
                  have z3 : ((((WF.setCell ⟨w.heap.size, 0, none⟩ (.slice (some ⟨bb, off, none⟩) xs.length c)).setCell ⟨w.heap.size, 1, none⟩ (.int .i64 hh)).setCell ⟨w.heap.size, 2, none⟩ (.int .i64 ee)).setCell ⟨w.heap.size + 1, 0, none⟩ (.slice (some ⟨gg, 0, none⟩) xs.length cap)).cell? ⟨w.heap.size + 1, 0, none⟩ = some (.slice (some ⟨gg, 0, none⟩) xs.length cap) := World.cell?_setCell_same _ _ _ ((cell_far (by first | (simp only; omega) | fail)).trans ((cell_far (by first | (simp only; omega) | fail)).trans ((cell_far (by first | (simp only; omega) | fail)).trans (d3))))
                  have z4 : (((((WF.setCell ⟨w.heap.size, 0, none⟩ (.slice (some ⟨bb, off, none⟩) xs.length c)).setCell ⟨w.heap.size, 1, none⟩ (.int .i64 hh)).setCell ⟨w.heap.size, 2, none⟩ (.int .i64 ee)).setCell ⟨w.heap.size + 1, 0, none⟩ (.slice (some ⟨gg, 0, none⟩) xs.length cap)).setCell ⟨w.heap.size + 1, 1, none⟩ (.int .i64 (hh))).cell? ⟨w.heap.size + 1, 1, none⟩ = some (.int .i64 (hh)) := World.cell?_setCell_same _ _ _ ((World.cell?_setCell_other _ _ _ _ (by simp)).trans ((cell_far (by first | (simp only; omega) | fail)).trans ((cell_far (by first | (simp only; omega) | fail)).trans ((cell_far (by first | (simp only; omega) | fail)).trans (d4)))))
                  have z5 : ((((((WF.setCell ⟨w.heap.size, 0, none⟩ (.slice (some ⟨bb, off, none⟩) xs.length c)).setCell ⟨w.heap.size, 1, none⟩ (.int .i64 hh)).setCell ⟨w.heap.size, 2, none⟩ (.int .i64 ee)).setCell ⟨w.heap.size + 1, 0, none⟩ (.slice (some ⟨gg, 0, none⟩) xs.length cap)).setCell ⟨w.heap.size + 1, 1, none⟩ (.int .i64 (hh))).setCell ⟨w.heap.size + 1, 2, none⟩ (.int .i64 (wrap64 (ee + 1)))).cell? ⟨w.heap.size + 1, 2, none⟩ = some (.int .i64 (wrap64 (ee + 1))) := World.cell?_setCell_same _ _ _ ((World.cell?_setCell_other _ _ _ _ (by simp)).trans ((World.cell?_setCell_other _ _ _ _ (by simp)).trans ((cell_far (by first | (simp only; omega) | fail)).trans ((cell_far (by first | (simp only; omega) | fail)).trans ((cell_far (by first | (simp only; omega) | fail)).trans (d5))))))
                  clear hHeld t0 t1 t2 s0 s1 s2 d0 d1 d2 d3 d4 d5 e0 e1 e2 e3 e4 e5
                  go_wp2_with fail
                  refine bodyPost_ret (v := .tuple #[.agg #[(.slice (some ⟨bb, off, none⟩) xs.length c), .int .i64 hh, .int .i64 ee], .agg #[(.slice (some ⟨gg, 0, none⟩) xs.length cap), .int .i64 (hh), .int .i64 (wrap64 (ee + 1))]]) (by simp [results, Tryz.results19, go_sem, z0, z1, z2, z3, z4, z5]) rfl ⟨_, c, xs, hh, ee, _, cap, xs, hh, wrap64 (ee + 1), rfl, hm9, hy10, ?_, ?_, ?_⟩
                  · have hn0 : ∀ j, (Value.slice (some ⟨bb, off, none⟩) xs.length c).ownBlock ≠ some (⟨w.heap.size, j, none⟩ : Addr).block := fun j e => by have := (HLA2.out _ e).1; simp only at this; omega
                    have hn1 : ∀ j, (Value.slice (some ⟨bb, off, none⟩) xs.length c).ownBlock ≠ some (⟨w.heap.size + 1, j, none⟩ : Addr).block := fun j e => by have := (HLA2.out _ e).1; simp only at this; omega
                    exact own_sl encStep_len (by omega) (ow_drew (ow_set (hn1 2) (ow_set (hn1 1) (ow_set (hn1 0) (ow_set (hn0 2) (ow_set (hn0 1) (ow_set (hn0 0) HOA.out)))))))
                  · have hn0 : ∀ j, (Value.slice (some ⟨gg, 0, none⟩) xs.length cap).ownBlock ≠ some (⟨w.heap.size, j, none⟩ : Addr).block := fun j e => by have := (HLB2.out _ e).1; simp only at this; omega
                    have hn1 : ∀ j, (Value.slice (some ⟨gg, 0, none⟩) xs.length cap).ownBlock ≠ some (⟨w.heap.size + 1, j, none⟩ : Addr).block := fun j e => by have := (HLB2.out _ e).1; simp only at this; omega
                    exact own_sl encStep_len (by omega) (ow_drew (ow_set (hn1 2) (ow_set (hn1 1) (ow_set (hn1 0) (ow_set (hn0 2) (ow_set (hn0 1) (ow_set (hn0 0) HOB.out)))))))
                  · exact (bl_set (by simp only; omega) (bl_set (by simp only; omega) (bl_set (by simp only; omega) (bl_set (by simp only; omega) (bl_set (by simp only; omega) (bl_set (by simp only; omega) b8)))))).drew
                exact AllReadyH.nil
              exact AllReadyH.nil
            · by_cases h2 : q = 2
              · subst h2
                have k1 := TB7.out.c0
                have y1 := TB7.out.f0
                have OB := hid TB7.out.own
                have hlo := TB7.out.own.lt
                have HLO := hid hlo
                clear hlo q1 q0 h0 h1
                go_wp2_with (at_builtin; refine wpList_append_lies _ rfl _ _ 24 rfl W3.heap.size 57 i0 (.agg #[.int .i64 0, .int .i64 0]) 2 16 Tryz.underlying24 hi hz0 hz1 hz2 rfl (by omega) (.slice (some ⟨gg, 0, none⟩) xs.length cap) xs.length (xs.flatMap encStep) rfl (OB.out.alloc _) ⟨w7.heap.size, 0, none⟩ 1 1 [.int .i64 0, .int .i64 0] rfl rfl (World.news_of_block (cs := #[.int .i64 0, .int .i64 0]) (t := 57) (fr := (0, 0)) (heap_alloc_new _ _)) (by simp [Value.oneCell']) (by omega) (by simp only [maxLen]; omega) (by omega) (by simp; omega) (w7.heap.size + 1) (by simp) ?_; intro g8 cap8 w8 ho8 hg8 hat8 hlt8; have y8 := (hg8.frozen_far ⟨gb, 0, none⟩ (by have := TB7.out.lt; simp; omega) (by simp [Value.ownBlock]; have := TB7.out.ne gg rfl; omega)).trans ((((Below.refl _ _).alloc (Nat.le_refl _) (.cells #[.int .i64 0, .int .i64 0] 57)).frozen (p := ⟨gb, 0, none⟩) TB7.out.lt).trans y1); have k8 := hg8.cell (a := ⟨gb, 0, none⟩) (below_cell k1 ((Below.refl _ _).alloc (Nat.le_refl _) (.cells #[.int .i64 0, .int .i64 0] 57))) (by simp [Value.ownBlock]; have := TB7.out.ne gg rfl; omega))
                have tb := (TB7.out.alloc (.cells #[.int .i64 0, .int .i64 0] 57)).snoc (z := ⟨0, 0⟩) (by simpa [encStep] using ho8) hg8 (hat8.imp id (fun e => by simp; omega))
                have hgg := HLO.out gg rfl
                have hne := TB7.out.ne gg rfl
                have ta := (TA7.out.alloc (.cells #[.int .i64 0, .int .i64 0] 57)).grow hg8 (fun b hb => by simp [Value.ownBlock] at hb; subst hb; exact ⟨by omega, fun e => by have := HQ.out _ e; omega⟩)
                have GG : w8.grownBy (w8.setCell ⟨gb, 0, none⟩ (.slice (some ⟨g8, 0, none⟩) (xs.length + 1) cap8)) (some gb) := gr_set (World.grownBy.refl _ _)
                have TA := hid (ta.grow GG (fun b hb => by injection hb with hb; subst hb; exact ⟨gbt, fun e => by have := HQ.out _ e; omega⟩))
                have RA := hid (((RA7.out.alloc (.cells #[.int .i64 0, .int .i64 0] 57)).grow hg8 (by simp [Value.ownBlock]; omega)).grow GG (by simp; omega))
                have RB := hid (((RB7.out.alloc (.cells #[.int .i64 0, .int .i64 0] 57)).grow hg8 (by simp [Value.ownBlock]; omega)).grow GG (by simp; omega))
                have b8 := ((b7.alloc (by omega) (.cells #[.int .i64 0, .int .i64 0] 57)).grown hg8 (by simp; omega) (fun q hq => by simp [Value.ownBlock] at hq; omega)).setCell (p := ⟨gb, 0, none⟩) (by simp only; omega) (.slice (some ⟨g8, 0, none⟩) (xs.length + 1) cap8)
                obtain ⟨ys, hys⟩ : ∃ ys, ys = xs ++ [(⟨0, 0⟩ : Step)] := ⟨_, rfl⟩
                rw [← hys] at tb
                have TB := hid tb
                have hy10 : ys.length ≤ 10 := by rw [hys, List.length_append]; simp; omega
                clear TA7 TB7 RA7 RB7 GG b7 ta tb hys ho8 hg8 hat8 hlt8 k8 y8 k1 y1 OB HLO
                obtain ⟨WF, hWF⟩ : ∃ W, W = (w8.setCell ⟨gb, 0, none⟩ (.slice (some ⟨g8, 0, none⟩) (xs.length + 1) cap8)) := ⟨_, rfl⟩
                rw [← hWF] at TA TB RA RB b8
                have HWF := hid hWF
                clear hWF
                rw [← HWF.out]
                clear HWF
                have t0 := TA.out.c0
                have t1 := TA.out.c1
                have t2 := TA.out.c2
                have s0 := TB.out.c0
                have s1 := TB.out.c1
                have s2 := TB.out.c2
                have d0 := RA.out.c0
                have d1 := RA.out.c1
                have d2 := RA.out.c2
                have d3 := RB.out.c0
                have d4 := RB.out.c1
                have d5 := RB.out.c2
                have e0 := RA.out.f0
                have e1 := RA.out.f1
                have e2 := RA.out.f2
                have e3 := RB.out.f0
                have e4 := RB.out.f1
                have e5 := RB.out.f2
                have HOA := hid TA.out.own
                have HOB := hid TB.out.own
                have hla := HOA.out.lt
                have hlb := HOB.out.lt
                have HLA2 := hid hla
                have HLB2 := hid hlb
                clear TA TB RA RB hla hlb z6 z7
                refine wp_region_held_drew (S := (fun W => W.cell? ⟨gt, 0, none⟩ = some (.slice (some ⟨bb, off, none⟩) xs.length c) ∧ W.cell? ⟨gt, 1, none⟩ = some (.int .i64 hh) ∧ W.cell? ⟨gt, 2, none⟩ = some (.int .i64 ee) ∧ W.cell? ⟨gb, 0, none⟩ = some (.slice (some ⟨g8, 0, none⟩) ys.length cap8) ∧ W.cell? ⟨gb, 1, none⟩ = some (.int .i64 (hh)) ∧ W.cell? ⟨gb, 2, none⟩ = some (.int .i64 (ee)))) (by kernel_rfl) ?_ (fun hHeld => ?_)
                · (try dsimp only); exact ⟨t0, t1, t2, s0, s1, s2⟩
                refine wpAnyH_take (i := 0) (oi := ⟨some 52, Go.Op.load 26 (Go.Operand.tmp 5), 26, "l23_tariffs.go:320", #[], none⟩) (v := ?_) rfl (by kernel_rfl) (by kernel_rfl) (by kernel_rfl) (fun _ _ _ h => h) (Or.inl ⟨by rfl, ?_⟩) (by assumption) ?_
                rotate_left
                · intro w hSw; (try dsimp only at hSw); go_split_ands; go_simp; first | done | with_reducible rfl
                (try simp only [Act.put, List.setIfInBounds_toArray, List.set_cons_zero, List.set_cons_succ])
                refine wpAnyH_take (i := 1) (oi := ⟨some 53, Go.Op.load 26 (Go.Operand.tmp 6), 26, "l23_tariffs.go:320", #[⟨2, Go.Ground.gcOnly Go.Departure.lateStores⟩], none⟩) (v := ?_) rfl (by kernel_rfl) (by kernel_rfl) (by kernel_rfl) (fun _ _ _ h => h) (Or.inl ⟨by rfl, ?_⟩) (by assumption) ?_
                rotate_left
                · intro w hSw; (try dsimp only at hSw); go_split_ands; go_simp; first | done | with_reducible rfl
                (try simp only [Act.put, List.setIfInBounds_toArray, List.set_cons_zero, List.set_cons_succ])
                refine wpAnyH_ready (rs := [2]) (by kernel_rfl) (by simp) ?_
                refine AllReadyH.cons rfl (fun K hK => ?_) ?_
                · skip
                  go_simp
                  refine hK.out _ _ ?_ (fun hH2 => ?_)
                  · (try dsimp only); (try simp only [World.cell?_drew] at hHeld); (try simp only [World.cell?_drew]); exact ⟨(cell_far (by simp only; omega)).trans ((cell_far (by simp only; omega)).trans ((cell_far (by simp only; omega)).trans hHeld.1)), (cell_far (by simp only; omega)).trans ((cell_far (by simp only; omega)).trans ((cell_far (by simp only; omega)).trans hHeld.2.1)), (cell_far (by simp only; omega)).trans ((cell_far (by simp only; omega)).trans ((cell_far (by simp only; omega)).trans hHeld.2.2.1)), (cell_far (by simp only; omega)).trans ((cell_far (by simp only; omega)).trans ((cell_far (by simp only; omega)).trans hHeld.2.2.2.1)), (cell_far (by simp only; omega)).trans ((cell_far (by simp only; omega)).trans ((cell_far (by simp only; omega)).trans hHeld.2.2.2.2.1)), (cell_far (by simp only; omega)).trans ((cell_far (by simp only; omega)).trans ((cell_far (by simp only; omega)).trans hHeld.2.2.2.2.2))⟩
                  clear hK K hHeld; have hHeld := hH2; clear hH2
                  refine wpAnyH_ready (rs := [3]) (by kernel_rfl) (by simp) ?_
                  refine AllReadyH.cons rfl (fun K hK => ?_) ?_
                  · skip
                    go_simp
                    refine hK.out _ _ ?_ (fun hH2 => ?_)
                    · (try dsimp only); simp only [World.cell?_drew] at hHeld ⊢; exact ⟨(cell_far (by simp only; omega)).trans ((cell_far (by simp only; omega)).trans ((cell_far (by simp only; omega)).trans hHeld.1)), (cell_far (by simp only; omega)).trans ((cell_far (by simp only; omega)).trans ((cell_far (by simp only; omega)).trans hHeld.2.1)), (cell_far (by simp only; omega)).trans ((cell_far (by simp only; omega)).trans ((cell_far (by simp only; omega)).trans hHeld.2.2.1)), (cell_far (by simp only; omega)).trans ((cell_far (by simp only; omega)).trans ((cell_far (by simp only; omega)).trans hHeld.2.2.2.1)), (cell_far (by simp only; omega)).trans ((cell_far (by simp only; omega)).trans ((cell_far (by simp only; omega)).trans hHeld.2.2.2.2.1)), (cell_far (by simp only; omega)).trans ((cell_far (by simp only; omega)).trans ((cell_far (by simp only; omega)).trans hHeld.2.2.2.2.2))⟩
                    clear hK K hHeld; have hHeld := hH2; clear hH2
                    refine wpAnyH_done (by kernel_rfl) ?_ _
                    have z0 : (WF.setCell ⟨w.heap.size, 0, none⟩ (.slice (some ⟨bb, off, none⟩) xs.length c)).cell? ⟨w.heap.size, 0, none⟩ = some (.slice (some ⟨bb, off, none⟩) xs.length c) := World.cell?_setCell_same _ _ _ (d0)
                    have z1 : ((WF.setCell ⟨w.heap.size, 0, none⟩ (.slice (some ⟨bb, off, none⟩) xs.length c)).setCell ⟨w.heap.size, 1, none⟩ (.int .i64 hh)).cell? ⟨w.heap.size, 1, none⟩ = some (.int .i64 hh) := World.cell?_setCell_same _ _ _ ((World.cell?_setCell_other _ _ _ _ (by simp)).trans (d1))
                    have z2 : (((WF.setCell ⟨w.heap.size, 0, none⟩ (.slice (some ⟨bb, off, none⟩) xs.length c)).setCell ⟨w.heap.size, 1, none⟩ (.int .i64 hh)).setCell ⟨w.heap.size, 2, none⟩ (.int .i64 ee)).cell? ⟨w.heap.size, 2, none⟩ = some (.int .i64 ee) := World.cell?_setCell_same _ _ _ ((World.cell?_setCell_other _ _ _ _ (by simp)).trans ((World.cell?_setCell_other _ _ _ _ (by simp)).trans (d2)))
                    have z3 : ((((WF.setCell ⟨w.heap.size, 0, none⟩ (.slice (some ⟨bb, off, none⟩) xs.length c)).setCell ⟨w.heap.size, 1, none⟩ (.int .i64 hh)).setCell ⟨w.heap.size, 2, none⟩ (.int .i64 ee)).setCell ⟨w.heap.size + 1, 0, none⟩ (.slice (some ⟨g8, 0, none⟩) ys.length cap8)).cell? ⟨w.heap.size + 1, 0, none⟩ = some (.slice (some ⟨g8, 0, none⟩) ys.length cap8) := World.cell?_setCell_same _ _ _ ((cell_far (by first | (simp only; omega) | fail)).trans ((cell_far (by first | (simp only; omega) | fail)).trans ((cell_far (by first | (simp only; omega) | fail)).trans (d3))))
                    have z4 : (((((WF.setCell ⟨w.heap.size, 0, none⟩ (.slice (some ⟨bb, off, none⟩) xs.length c)).setCell ⟨w.heap.size, 1, none⟩ (.int .i64 hh)).setCell ⟨w.heap.size, 2, none⟩ (.int .i64 ee)).setCell ⟨w.heap.size + 1, 0, none⟩ (.slice (some ⟨g8, 0, none⟩) ys.length cap8)).setCell ⟨w.heap.size + 1, 1, none⟩ (.int .i64 (hh))).cell? ⟨w.heap.size + 1, 1, none⟩ = some (.int .i64 (hh)) := World.cell?_setCell_same _ _ _ ((World.cell?_setCell_other _ _ _ _ (by simp)).trans ((cell_far (by first | (simp only; omega) | fail)).trans ((cell_far (by first | (simp only; omega) | fail)).trans ((cell_far (by first | (simp only; omega) | fail)).trans (d4)))))
                    have z5 : ((((((WF.setCell ⟨w.heap.size, 0, none⟩ (.slice (some ⟨bb, off, none⟩) xs.length c)).setCell ⟨w.heap.size, 1, none⟩ (.int .i64 hh)).setCell ⟨w.heap.size, 2, none⟩ (.int .i64 ee)).setCell ⟨w.heap.size + 1, 0, none⟩ (.slice (some ⟨g8, 0, none⟩) ys.length cap8)).setCell ⟨w.heap.size + 1, 1, none⟩ (.int .i64 (hh))).setCell ⟨w.heap.size + 1, 2, none⟩ (.int .i64 (ee))).cell? ⟨w.heap.size + 1, 2, none⟩ = some (.int .i64 (ee)) := World.cell?_setCell_same _ _ _ ((World.cell?_setCell_other _ _ _ _ (by simp)).trans ((World.cell?_setCell_other _ _ _ _ (by simp)).trans ((cell_far (by first | (simp only; omega) | fail)).trans ((cell_far (by first | (simp only; omega) | fail)).trans ((cell_far (by first | (simp only; omega) | fail)).trans (d5))))))
                    clear hHeld t0 t1 t2 s0 s1 s2 d0 d1 d2 d3 d4 d5 e0 e1 e2 e3 e4 e5
                    go_wp2_with fail
                    refine bodyPost_ret (v := .tuple #[.agg #[(.slice (some ⟨bb, off, none⟩) xs.length c), .int .i64 hh, .int .i64 ee], .agg #[(.slice (some ⟨g8, 0, none⟩) ys.length cap8), .int .i64 (hh), .int .i64 (ee)]]) (by simp [results, Tryz.results19, go_sem, z0, z1, z2, z3, z4, z5]) rfl ⟨_, c, xs, hh, ee, _, cap8, ys, hh, ee, rfl, hm9, hy10, ?_, ?_, ?_⟩
                    · have hn0 : ∀ j, (Value.slice (some ⟨bb, off, none⟩) xs.length c).ownBlock ≠ some (⟨w.heap.size, j, none⟩ : Addr).block := fun j e => by have := (HLA2.out _ e).1; simp only at this; omega
                      have hn1 : ∀ j, (Value.slice (some ⟨bb, off, none⟩) xs.length c).ownBlock ≠ some (⟨w.heap.size + 1, j, none⟩ : Addr).block := fun j e => by have := (HLA2.out _ e).1; simp only at this; omega
                      exact own_sl encStep_len (by omega) (ow_drew (ow_set (hn1 2) (ow_set (hn1 1) (ow_set (hn1 0) (ow_set (hn0 2) (ow_set (hn0 1) (ow_set (hn0 0) HOA.out)))))))
                    · have hn0 : ∀ j, (Value.slice (some ⟨g8, 0, none⟩) ys.length cap8).ownBlock ≠ some (⟨w.heap.size, j, none⟩ : Addr).block := fun j e => by have := (HLB2.out _ e).1; simp only at this; omega
                      have hn1 : ∀ j, (Value.slice (some ⟨g8, 0, none⟩) ys.length cap8).ownBlock ≠ some (⟨w.heap.size + 1, j, none⟩ : Addr).block := fun j e => by have := (HLB2.out _ e).1; simp only at this; omega
                      exact own_sl encStep_len (by omega) (ow_drew (ow_set (hn1 2) (ow_set (hn1 1) (ow_set (hn1 0) (ow_set (hn0 2) (ow_set (hn0 1) (ow_set (hn0 0) HOB.out)))))))
                    · exact (bl_set (by simp only; omega) (bl_set (by simp only; omega) (bl_set (by simp only; omega) (bl_set (by simp only; omega) (bl_set (by simp only; omega) (bl_set (by simp only; omega) b8)))))).drew
                  exact AllReadyH.nil
                exact AllReadyH.nil
              · by_cases h3 : q = 3
                · subst h3
                  have k0 := TB7.out.c0
                  obtain ⟨p0, p1, b', o', Hy, e', _, _, k1⟩ := (own_sl encStep_len (by omega) TB7.out.own).atStep (i := 0) hn0
                  injection e' with e'
                  injection e' with e1 e2
                  subst e1 e2
                  simp only [Nat.zero_mul, Nat.zero_add] at k1
                  have y1 := (own_at TB7.out.own (Below.refl _ _) 1 (by omega)).2
                  have hgg := TB7.out.own.lt gg rfl
                  have hne := TB7.out.ne gg rfl
                  obtain ⟨ys, hyl, tb⟩ := TB7.out.step 1 (wrap64 (p1 + 1))
                  have TB := hid tb
                  have HYL := hid hyl
                  have GG : w7.grownBy (w7.setCell ⟨gg, 1, none⟩ (.int .i64 (wrap64 (p1 + 1)))) (some gg) := gr_set (World.grownBy.refl _ _)
                  have TA := hid (TA7.out.grow GG (fun b hb => by injection hb with hb; subst hb; exact ⟨by omega, fun e => by have := HQ.out _ e; omega⟩))
                  have RA := hid (RA7.out.grow GG (by simp; omega))
                  have RB := hid (RB7.out.grow GG (by simp; omega))
                  have b8 := b7.setCell (p := ⟨gg, 1, none⟩) (by simp only; omega) (.int .i64 (wrap64 (p1 + 1)))
                  have hy10 : ys.length ≤ 10 := by rw [hyl]; omega
                  clear TA7 TB7 RA7 RB7 GG b7 q1 q0 h0 h1 h2 Hy tb hyl
                  obtain ⟨WF, hWF⟩ : ∃ W, W = (w7.setCell ⟨gg, 1, none⟩ (.int .i64 (wrap64 (p1 + 1)))) := ⟨_, rfl⟩
                  rw [← hWF] at TA TB RA RB b8
                  have HWF := hid hWF
                  clear hWF
                  go_wp2_with fail
                  rw [← HWF.out]
                  clear HWF
                  have t0 := TA.out.c0
                  have t1 := TA.out.c1
                  have t2 := TA.out.c2
                  have s0 := TB.out.c0
                  have s1 := TB.out.c1
                  have s2 := TB.out.c2
                  have d0 := RA.out.c0
                  have d1 := RA.out.c1
                  have d2 := RA.out.c2
                  have d3 := RB.out.c0
                  have d4 := RB.out.c1
                  have d5 := RB.out.c2
                  have e0 := RA.out.f0
                  have e1 := RA.out.f1
                  have e2 := RA.out.f2
                  have e3 := RB.out.f0
                  have e4 := RB.out.f1
                  have e5 := RB.out.f2
                  have HOA := hid TA.out.own
                  have HOB := hid TB.out.own
                  have hla := HOA.out.lt
                  have hlb := HOB.out.lt
                  have HLA2 := hid hla
                  have HLB2 := hid hlb
                  clear TA TB RA RB hla hlb z6 z7
                  refine wp_region_held_drew (S := (fun W => W.cell? ⟨gt, 0, none⟩ = some (.slice (some ⟨bb, off, none⟩) xs.length c) ∧ W.cell? ⟨gt, 1, none⟩ = some (.int .i64 hh) ∧ W.cell? ⟨gt, 2, none⟩ = some (.int .i64 ee) ∧ W.cell? ⟨gb, 0, none⟩ = some (.slice (some ⟨gg, 0, none⟩) ys.length cap) ∧ W.cell? ⟨gb, 1, none⟩ = some (.int .i64 (hh)) ∧ W.cell? ⟨gb, 2, none⟩ = some (.int .i64 (ee)))) (by kernel_rfl) ?_ (fun hHeld => ?_)
                  · (try dsimp only); exact ⟨t0, t1, t2, s0, s1, s2⟩
                  refine wpAnyH_take (i := 0) (oi := ⟨some 52, Go.Op.load 26 (Go.Operand.tmp 5), 26, "l23_tariffs.go:320", #[], none⟩) (v := ?_) rfl (by kernel_rfl) (by kernel_rfl) (by kernel_rfl) (fun _ _ _ h => h) (Or.inl ⟨by rfl, ?_⟩) (by assumption) ?_
                  rotate_left
                  · intro w hSw; (try dsimp only at hSw); go_split_ands; go_simp; first | done | with_reducible rfl
                  (try simp only [Act.put, List.setIfInBounds_toArray, List.set_cons_zero, List.set_cons_succ])
                  refine wpAnyH_take (i := 1) (oi := ⟨some 53, Go.Op.load 26 (Go.Operand.tmp 6), 26, "l23_tariffs.go:320", #[⟨2, Go.Ground.gcOnly Go.Departure.lateStores⟩], none⟩) (v := ?_) rfl (by kernel_rfl) (by kernel_rfl) (by kernel_rfl) (fun _ _ _ h => h) (Or.inl ⟨by rfl, ?_⟩) (by assumption) ?_
                  rotate_left
                  · intro w hSw; (try dsimp only at hSw); go_split_ands; go_simp; first | done | with_reducible rfl
                  (try simp only [Act.put, List.setIfInBounds_toArray, List.set_cons_zero, List.set_cons_succ])
                  refine wpAnyH_ready (rs := [2]) (by kernel_rfl) (by simp) ?_
                  refine AllReadyH.cons rfl (fun K hK => ?_) ?_
                  · skip
                    go_simp
                    refine hK.out _ _ ?_ (fun hH2 => ?_)
                    · (try dsimp only); (try simp only [World.cell?_drew] at hHeld); (try simp only [World.cell?_drew]); exact ⟨(cell_far (by simp only; omega)).trans ((cell_far (by simp only; omega)).trans ((cell_far (by simp only; omega)).trans hHeld.1)), (cell_far (by simp only; omega)).trans ((cell_far (by simp only; omega)).trans ((cell_far (by simp only; omega)).trans hHeld.2.1)), (cell_far (by simp only; omega)).trans ((cell_far (by simp only; omega)).trans ((cell_far (by simp only; omega)).trans hHeld.2.2.1)), (cell_far (by simp only; omega)).trans ((cell_far (by simp only; omega)).trans ((cell_far (by simp only; omega)).trans hHeld.2.2.2.1)), (cell_far (by simp only; omega)).trans ((cell_far (by simp only; omega)).trans ((cell_far (by simp only; omega)).trans hHeld.2.2.2.2.1)), (cell_far (by simp only; omega)).trans ((cell_far (by simp only; omega)).trans ((cell_far (by simp only; omega)).trans hHeld.2.2.2.2.2))⟩
                    clear hK K hHeld; have hHeld := hH2; clear hH2
                    refine wpAnyH_ready (rs := [3]) (by kernel_rfl) (by simp) ?_
                    refine AllReadyH.cons rfl (fun K hK => ?_) ?_
                    · skip
                      go_simp
                      refine hK.out _ _ ?_ (fun hH2 => ?_)
                      · (try dsimp only); simp only [World.cell?_drew] at hHeld ⊢; exact ⟨(cell_far (by simp only; omega)).trans ((cell_far (by simp only; omega)).trans ((cell_far (by simp only; omega)).trans hHeld.1)), (cell_far (by simp only; omega)).trans ((cell_far (by simp only; omega)).trans ((cell_far (by simp only; omega)).trans hHeld.2.1)), (cell_far (by simp only; omega)).trans ((cell_far (by simp only; omega)).trans ((cell_far (by simp only; omega)).trans hHeld.2.2.1)), (cell_far (by simp only; omega)).trans ((cell_far (by simp only; omega)).trans ((cell_far (by simp only; omega)).trans hHeld.2.2.2.1)), (cell_far (by simp only; omega)).trans ((cell_far (by simp only; omega)).trans ((cell_far (by simp only; omega)).trans hHeld.2.2.2.2.1)), (cell_far (by simp only; omega)).trans ((cell_far (by simp only; omega)).trans ((cell_far (by simp only; omega)).trans hHeld.2.2.2.2.2))⟩
                      clear hK K hHeld; have hHeld := hH2; clear hH2
                      refine wpAnyH_done (by kernel_rfl) ?_ _
                      have z0 : (WF.setCell ⟨w.heap.size, 0, none⟩ (.slice (some ⟨bb, off, none⟩) xs.length c)).cell? ⟨w.heap.size, 0, none⟩ = some (.slice (some ⟨bb, off, none⟩) xs.length c) := World.cell?_setCell_same _ _ _ (d0)
                      have z1 : ((WF.setCell ⟨w.heap.size, 0, none⟩ (.slice (some ⟨bb, off, none⟩) xs.length c)).setCell ⟨w.heap.size, 1, none⟩ (.int .i64 hh)).cell? ⟨w.heap.size, 1, none⟩ = some (.int .i64 hh) := World.cell?_setCell_same _ _ _ ((World.cell?_setCell_other _ _ _ _ (by simp)).trans (d1))
                      have z2 : (((WF.setCell ⟨w.heap.size, 0, none⟩ (.slice (some ⟨bb, off, none⟩) xs.length c)).setCell ⟨w.heap.size, 1, none⟩ (.int .i64 hh)).setCell ⟨w.heap.size, 2, none⟩ (.int .i64 ee)).cell? ⟨w.heap.size, 2, none⟩ = some (.int .i64 ee) := World.cell?_setCell_same _ _ _ ((World.cell?_setCell_other _ _ _ _ (by simp)).trans ((World.cell?_setCell_other _ _ _ _ (by simp)).trans (d2)))
                      have z3 : ((((WF.setCell ⟨w.heap.size, 0, none⟩ (.slice (some ⟨bb, off, none⟩) xs.length c)).setCell ⟨w.heap.size, 1, none⟩ (.int .i64 hh)).setCell ⟨w.heap.size, 2, none⟩ (.int .i64 ee)).setCell ⟨w.heap.size + 1, 0, none⟩ (.slice (some ⟨gg, 0, none⟩) ys.length cap)).cell? ⟨w.heap.size + 1, 0, none⟩ = some (.slice (some ⟨gg, 0, none⟩) ys.length cap) := World.cell?_setCell_same _ _ _ ((cell_far (by first | (simp only; omega) | fail)).trans ((cell_far (by first | (simp only; omega) | fail)).trans ((cell_far (by first | (simp only; omega) | fail)).trans (d3))))
                      have z4 : (((((WF.setCell ⟨w.heap.size, 0, none⟩ (.slice (some ⟨bb, off, none⟩) xs.length c)).setCell ⟨w.heap.size, 1, none⟩ (.int .i64 hh)).setCell ⟨w.heap.size, 2, none⟩ (.int .i64 ee)).setCell ⟨w.heap.size + 1, 0, none⟩ (.slice (some ⟨gg, 0, none⟩) ys.length cap)).setCell ⟨w.heap.size + 1, 1, none⟩ (.int .i64 (hh))).cell? ⟨w.heap.size + 1, 1, none⟩ = some (.int .i64 (hh)) := World.cell?_setCell_same _ _ _ ((World.cell?_setCell_other _ _ _ _ (by simp)).trans ((cell_far (by first | (simp only; omega) | fail)).trans ((cell_far (by first | (simp only; omega) | fail)).trans ((cell_far (by first | (simp only; omega) | fail)).trans (d4)))))
                      have z5 : ((((((WF.setCell ⟨w.heap.size, 0, none⟩ (.slice (some ⟨bb, off, none⟩) xs.length c)).setCell ⟨w.heap.size, 1, none⟩ (.int .i64 hh)).setCell ⟨w.heap.size, 2, none⟩ (.int .i64 ee)).setCell ⟨w.heap.size + 1, 0, none⟩ (.slice (some ⟨gg, 0, none⟩) ys.length cap)).setCell ⟨w.heap.size + 1, 1, none⟩ (.int .i64 (hh))).setCell ⟨w.heap.size + 1, 2, none⟩ (.int .i64 (ee))).cell? ⟨w.heap.size + 1, 2, none⟩ = some (.int .i64 (ee)) := World.cell?_setCell_same _ _ _ ((World.cell?_setCell_other _ _ _ _ (by simp)).trans ((World.cell?_setCell_other _ _ _ _ (by simp)).trans ((cell_far (by first | (simp only; omega) | fail)).trans ((cell_far (by first | (simp only; omega) | fail)).trans ((cell_far (by first | (simp only; omega) | fail)).trans (d5))))))
                      clear hHeld t0 t1 t2 s0 s1 s2 d0 d1 d2 d3 d4 d5 e0 e1 e2 e3 e4 e5
                      go_wp2_with fail
                      refine bodyPost_ret (v := .tuple #[.agg #[(.slice (some ⟨bb, off, none⟩) xs.length c), .int .i64 hh, .int .i64 ee], .agg #[(.slice (some ⟨gg, 0, none⟩) ys.length cap), .int .i64 (hh), .int .i64 (ee)]]) (by simp [results, Tryz.results19, go_sem, z0, z1, z2, z3, z4, z5]) rfl ⟨_, c, xs, hh, ee, _, cap, ys, hh, ee, rfl, hm9, hy10, ?_, ?_, ?_⟩
                      · have hn0 : ∀ j, (Value.slice (some ⟨bb, off, none⟩) xs.length c).ownBlock ≠ some (⟨w.heap.size, j, none⟩ : Addr).block := fun j e => by have := (HLA2.out _ e).1; simp only at this; omega
                        have hn1 : ∀ j, (Value.slice (some ⟨bb, off, none⟩) xs.length c).ownBlock ≠ some (⟨w.heap.size + 1, j, none⟩ : Addr).block := fun j e => by have := (HLA2.out _ e).1; simp only at this; omega
                        exact own_sl encStep_len (by omega) (ow_drew (ow_set (hn1 2) (ow_set (hn1 1) (ow_set (hn1 0) (ow_set (hn0 2) (ow_set (hn0 1) (ow_set (hn0 0) HOA.out)))))))
                      · have hn0 : ∀ j, (Value.slice (some ⟨gg, 0, none⟩) ys.length cap).ownBlock ≠ some (⟨w.heap.size, j, none⟩ : Addr).block := fun j e => by have := (HLB2.out _ e).1; simp only at this; omega
                        have hn1 : ∀ j, (Value.slice (some ⟨gg, 0, none⟩) ys.length cap).ownBlock ≠ some (⟨w.heap.size + 1, j, none⟩ : Addr).block := fun j e => by have := (HLB2.out _ e).1; simp only at this; omega
                        exact own_sl encStep_len (by omega) (ow_drew (ow_set (hn1 2) (ow_set (hn1 1) (ow_set (hn1 0) (ow_set (hn0 2) (ow_set (hn0 1) (ow_set (hn0 0) HOB.out)))))))
                      · exact (bl_set (by simp only; omega) (bl_set (by simp only; omega) (bl_set (by simp only; omega) (bl_set (by simp only; omega) (bl_set (by simp only; omega) (bl_set (by simp only; omega) b8)))))).drew
                    exact AllReadyH.nil
                  exact AllReadyH.nil
                · have TA := TA7
                  have TB := TB7
                  have RA := RA7
                  have RB := RB7
                  have b8 := b7
                  have n0 : (q == 0) = false := by simpa using h0
                  have n1 : (q == 1) = false := by simpa using h1
                  have n2 : (q == 2) = false := by simpa using h2
                  have n3 : (q == 3) = false := by simpa using h3
                  have hy10 : xs.length ≤ 10 := by omega
                  clear TA7 TB7 RA7 RB7 h0 h1 h2 h3 q1 b7
                  obtain ⟨WF, hWF⟩ : ∃ W, W = w7 := ⟨_, rfl⟩
                  rw [← hWF] at TA TB RA RB b8
                  have HWF := hid hWF
                  clear hWF
                  go_wp2_with fail
                  rw [← HWF.out]
                  clear HWF
                  have t0 := TA.out.c0
                  have t1 := TA.out.c1
                  have t2 := TA.out.c2
                  have s0 := TB.out.c0
                  have s1 := TB.out.c1
                  have s2 := TB.out.c2
                  have d0 := RA.out.c0
                  have d1 := RA.out.c1
                  have d2 := RA.out.c2
                  have d3 := RB.out.c0
                  have d4 := RB.out.c1
                  have d5 := RB.out.c2
                  have e0 := RA.out.f0
                  have e1 := RA.out.f1
                  have e2 := RA.out.f2
                  have e3 := RB.out.f0
                  have e4 := RB.out.f1
                  have e5 := RB.out.f2
                  have HOA := hid TA.out.own
                  have HOB := hid TB.out.own
                  have hla := HOA.out.lt
                  have hlb := HOB.out.lt
                  have HLA2 := hid hla
                  have HLB2 := hid hlb
                  clear TA TB RA RB hla hlb z6 z7
                  refine wp_region_held_drew (S := (fun W => W.cell? ⟨gt, 0, none⟩ = some (.slice (some ⟨bb, off, none⟩) xs.length c) ∧ W.cell? ⟨gt, 1, none⟩ = some (.int .i64 hh) ∧ W.cell? ⟨gt, 2, none⟩ = some (.int .i64 ee) ∧ W.cell? ⟨gb, 0, none⟩ = some (.slice (some ⟨gg, 0, none⟩) xs.length cap) ∧ W.cell? ⟨gb, 1, none⟩ = some (.int .i64 (hh)) ∧ W.cell? ⟨gb, 2, none⟩ = some (.int .i64 (ee)))) (by kernel_rfl) ?_ (fun hHeld => ?_)
                  · (try dsimp only); exact ⟨t0, t1, t2, s0, s1, s2⟩
                  refine wpAnyH_take (i := 0) (oi := ⟨some 52, Go.Op.load 26 (Go.Operand.tmp 5), 26, "l23_tariffs.go:320", #[], none⟩) (v := ?_) rfl (by kernel_rfl) (by kernel_rfl) (by kernel_rfl) (fun _ _ _ h => h) (Or.inl ⟨by rfl, ?_⟩) (by assumption) ?_
                  rotate_left
                  · intro w hSw; (try dsimp only at hSw); go_split_ands; go_simp; first | done | with_reducible rfl
                  (try simp only [Act.put, List.setIfInBounds_toArray, List.set_cons_zero, List.set_cons_succ])
                  refine wpAnyH_take (i := 1) (oi := ⟨some 53, Go.Op.load 26 (Go.Operand.tmp 6), 26, "l23_tariffs.go:320", #[⟨2, Go.Ground.gcOnly Go.Departure.lateStores⟩], none⟩) (v := ?_) rfl (by kernel_rfl) (by kernel_rfl) (by kernel_rfl) (fun _ _ _ h => h) (Or.inl ⟨by rfl, ?_⟩) (by assumption) ?_
                  rotate_left
                  · intro w hSw; (try dsimp only at hSw); go_split_ands; go_simp; first | done | with_reducible rfl
                  (try simp only [Act.put, List.setIfInBounds_toArray, List.set_cons_zero, List.set_cons_succ])
                  refine wpAnyH_ready (rs := [2]) (by kernel_rfl) (by simp) ?_
                  refine AllReadyH.cons rfl (fun K hK => ?_) ?_
                  · skip
                    go_simp
                    refine hK.out _ _ ?_ (fun hH2 => ?_)
                    · (try dsimp only); (try simp only [World.cell?_drew] at hHeld); (try simp only [World.cell?_drew]); exact ⟨(cell_far (by simp only; omega)).trans ((cell_far (by simp only; omega)).trans ((cell_far (by simp only; omega)).trans hHeld.1)), (cell_far (by simp only; omega)).trans ((cell_far (by simp only; omega)).trans ((cell_far (by simp only; omega)).trans hHeld.2.1)), (cell_far (by simp only; omega)).trans ((cell_far (by simp only; omega)).trans ((cell_far (by simp only; omega)).trans hHeld.2.2.1)), (cell_far (by simp only; omega)).trans ((cell_far (by simp only; omega)).trans ((cell_far (by simp only; omega)).trans hHeld.2.2.2.1)), (cell_far (by simp only; omega)).trans ((cell_far (by simp only; omega)).trans ((cell_far (by simp only; omega)).trans hHeld.2.2.2.2.1)), (cell_far (by simp only; omega)).trans ((cell_far (by simp only; omega)).trans ((cell_far (by simp only; omega)).trans hHeld.2.2.2.2.2))⟩
                    clear hK K hHeld; have hHeld := hH2; clear hH2
                    refine wpAnyH_ready (rs := [3]) (by kernel_rfl) (by simp) ?_
                    refine AllReadyH.cons rfl (fun K hK => ?_) ?_
                    · skip
                      go_simp
                      refine hK.out _ _ ?_ (fun hH2 => ?_)
                      · (try dsimp only); simp only [World.cell?_drew] at hHeld ⊢; exact ⟨(cell_far (by simp only; omega)).trans ((cell_far (by simp only; omega)).trans ((cell_far (by simp only; omega)).trans hHeld.1)), (cell_far (by simp only; omega)).trans ((cell_far (by simp only; omega)).trans ((cell_far (by simp only; omega)).trans hHeld.2.1)), (cell_far (by simp only; omega)).trans ((cell_far (by simp only; omega)).trans ((cell_far (by simp only; omega)).trans hHeld.2.2.1)), (cell_far (by simp only; omega)).trans ((cell_far (by simp only; omega)).trans ((cell_far (by simp only; omega)).trans hHeld.2.2.2.1)), (cell_far (by simp only; omega)).trans ((cell_far (by simp only; omega)).trans ((cell_far (by simp only; omega)).trans hHeld.2.2.2.2.1)), (cell_far (by simp only; omega)).trans ((cell_far (by simp only; omega)).trans ((cell_far (by simp only; omega)).trans hHeld.2.2.2.2.2))⟩
                      clear hK K hHeld; have hHeld := hH2; clear hH2
                      refine wpAnyH_done (by kernel_rfl) ?_ _
                      have z0 : (WF.setCell ⟨w.heap.size, 0, none⟩ (.slice (some ⟨bb, off, none⟩) xs.length c)).cell? ⟨w.heap.size, 0, none⟩ = some (.slice (some ⟨bb, off, none⟩) xs.length c) := World.cell?_setCell_same _ _ _ (d0)
                      have z1 : ((WF.setCell ⟨w.heap.size, 0, none⟩ (.slice (some ⟨bb, off, none⟩) xs.length c)).setCell ⟨w.heap.size, 1, none⟩ (.int .i64 hh)).cell? ⟨w.heap.size, 1, none⟩ = some (.int .i64 hh) := World.cell?_setCell_same _ _ _ ((World.cell?_setCell_other _ _ _ _ (by simp)).trans (d1))
                      have z2 : (((WF.setCell ⟨w.heap.size, 0, none⟩ (.slice (some ⟨bb, off, none⟩) xs.length c)).setCell ⟨w.heap.size, 1, none⟩ (.int .i64 hh)).setCell ⟨w.heap.size, 2, none⟩ (.int .i64 ee)).cell? ⟨w.heap.size, 2, none⟩ = some (.int .i64 ee) := World.cell?_setCell_same _ _ _ ((World.cell?_setCell_other _ _ _ _ (by simp)).trans ((World.cell?_setCell_other _ _ _ _ (by simp)).trans (d2)))
                      have z3 : ((((WF.setCell ⟨w.heap.size, 0, none⟩ (.slice (some ⟨bb, off, none⟩) xs.length c)).setCell ⟨w.heap.size, 1, none⟩ (.int .i64 hh)).setCell ⟨w.heap.size, 2, none⟩ (.int .i64 ee)).setCell ⟨w.heap.size + 1, 0, none⟩ (.slice (some ⟨gg, 0, none⟩) xs.length cap)).cell? ⟨w.heap.size + 1, 0, none⟩ = some (.slice (some ⟨gg, 0, none⟩) xs.length cap) := World.cell?_setCell_same _ _ _ ((cell_far (by first | (simp only; omega) | fail)).trans ((cell_far (by first | (simp only; omega) | fail)).trans ((cell_far (by first | (simp only; omega) | fail)).trans (d3))))
                      have z4 : (((((WF.setCell ⟨w.heap.size, 0, none⟩ (.slice (some ⟨bb, off, none⟩) xs.length c)).setCell ⟨w.heap.size, 1, none⟩ (.int .i64 hh)).setCell ⟨w.heap.size, 2, none⟩ (.int .i64 ee)).setCell ⟨w.heap.size + 1, 0, none⟩ (.slice (some ⟨gg, 0, none⟩) xs.length cap)).setCell ⟨w.heap.size + 1, 1, none⟩ (.int .i64 (hh))).cell? ⟨w.heap.size + 1, 1, none⟩ = some (.int .i64 (hh)) := World.cell?_setCell_same _ _ _ ((World.cell?_setCell_other _ _ _ _ (by simp)).trans ((cell_far (by first | (simp only; omega) | fail)).trans ((cell_far (by first | (simp only; omega) | fail)).trans ((cell_far (by first | (simp only; omega) | fail)).trans (d4)))))
                      have z5 : ((((((WF.setCell ⟨w.heap.size, 0, none⟩ (.slice (some ⟨bb, off, none⟩) xs.length c)).setCell ⟨w.heap.size, 1, none⟩ (.int .i64 hh)).setCell ⟨w.heap.size, 2, none⟩ (.int .i64 ee)).setCell ⟨w.heap.size + 1, 0, none⟩ (.slice (some ⟨gg, 0, none⟩) xs.length cap)).setCell ⟨w.heap.size + 1, 1, none⟩ (.int .i64 (hh))).setCell ⟨w.heap.size + 1, 2, none⟩ (.int .i64 (ee))).cell? ⟨w.heap.size + 1, 2, none⟩ = some (.int .i64 (ee)) := World.cell?_setCell_same _ _ _ ((World.cell?_setCell_other _ _ _ _ (by simp)).trans ((World.cell?_setCell_other _ _ _ _ (by simp)).trans ((cell_far (by first | (simp only; omega) | fail)).trans ((cell_far (by first | (simp only; omega) | fail)).trans ((cell_far (by first | (simp only; omega) | fail)).trans (d5))))))
                      clear hHeld t0 t1 t2 s0 s1 s2 d0 d1 d2 d3 d4 d5 e0 e1 e2 e3 e4 e5
                      go_wp2_with fail
                      refine bodyPost_ret (v := .tuple #[.agg #[(.slice (some ⟨bb, off, none⟩) xs.length c), .int .i64 hh, .int .i64 ee], .agg #[(.slice (some ⟨gg, 0, none⟩) xs.length cap), .int .i64 (hh), .int .i64 (ee)]]) (by simp [results, Tryz.results19, go_sem, z0, z1, z2, z3, z4, z5]) rfl ⟨_, c, xs, hh, ee, _, cap, xs, hh, ee, rfl, hm9, hy10, ?_, ?_, ?_⟩
                      · have hn0 : ∀ j, (Value.slice (some ⟨bb, off, none⟩) xs.length c).ownBlock ≠ some (⟨w.heap.size, j, none⟩ : Addr).block := fun j e => by have := (HLA2.out _ e).1; simp only at this; omega
                        have hn1 : ∀ j, (Value.slice (some ⟨bb, off, none⟩) xs.length c).ownBlock ≠ some (⟨w.heap.size + 1, j, none⟩ : Addr).block := fun j e => by have := (HLA2.out _ e).1; simp only at this; omega
                        exact own_sl encStep_len (by omega) (ow_drew (ow_set (hn1 2) (ow_set (hn1 1) (ow_set (hn1 0) (ow_set (hn0 2) (ow_set (hn0 1) (ow_set (hn0 0) HOA.out)))))))
                      · have hn0 : ∀ j, (Value.slice (some ⟨gg, 0, none⟩) xs.length cap).ownBlock ≠ some (⟨w.heap.size, j, none⟩ : Addr).block := fun j e => by have := (HLB2.out _ e).1; simp only at this; omega
                        have hn1 : ∀ j, (Value.slice (some ⟨gg, 0, none⟩) xs.length cap).ownBlock ≠ some (⟨w.heap.size + 1, j, none⟩ : Addr).block := fun j e => by have := (HLB2.out _ e).1; simp only at this; omega
                        exact own_sl encStep_len (by omega) (ow_drew (ow_set (hn1 2) (ow_set (hn1 1) (ow_set (hn1 0) (ow_set (hn0 2) (ow_set (hn0 1) (ow_set (hn0 0) HOB.out)))))))
                      · exact (bl_set (by simp only; omega) (bl_set (by simp only; omega) (bl_set (by simp only; omega) (bl_set (by simp only; omega) (bl_set (by simp only; omega) (bl_set (by simp only; omega) b8)))))).drew
                    exact AllReadyH.nil
                  exact AllReadyH.nil
        exact AllReadyH.nil
      exact AllReadyH.nil
    exact AllReadyH.nil
  exact AllReadyH.nil
end Go.Proofs.YtngfhpklakhehaaGreatDoor
