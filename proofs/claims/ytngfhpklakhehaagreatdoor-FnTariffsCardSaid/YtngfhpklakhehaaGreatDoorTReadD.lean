/-
  The draw of ReadTariff: a text of a tariff, perhaps spoilt. No condition.
-/
import Derived.Test.YtngfhpklakhehaaGreatDoorTSpoil
namespace Go.Proofs.YtngfhpklakhehaaGreatDoor
open Go.RowKit
set_option maxHeartbeats 400000

theorem stepTxt_size {x : Step} (hg : 0 ≤ x.g ∧ x.g ≤ 1000000) (hp : 0 ≤ x.p ∧ x.p ≤ 1000000) : (stepTxt x).size ≤ 60 := by
  have h1 := itoaB_size hg.1 hg.2
  have h2 := itoaB_size hp.1 hp.2
  simp only [stepTxt, ByteArray.size_append]
  have e1 : (⟨#[103, 58]⟩ : ByteArray).size = 2 := rfl
  have e2 : (⟨#[32]⟩ : ByteArray).size = 1 := rfl
  omega
theorem txtK_size {xs : List Step} (hs : ∀ s ∈ xs, 0 ≤ s.g ∧ s.g ≤ 1000000 ∧ 0 ≤ s.p ∧ s.p ≤ 1000000) : ∀ k, (txtK xs k).size ≤ 60 * k := by
  intro k
  induction k with
  | zero => simp [txtK, ByteArray.size]
  | succ k ih =>
    cases h : xs[k]? with
    | none => simp only [txtK, h]; omega
    | some x =>
      have hx := hs x (List.mem_of_getElem? h)
      have := stepTxt_size (x := x) ⟨hx.1, hx.2.1⟩ hx.2.2
      rw [txtK_succ h, ByteArray.size_append]
      omega
theorem tarT_size {xs : List Step} {h e : Int} (hs : ∀ s ∈ xs, 0 ≤ s.g ∧ s.g ≤ 1000000 ∧ 0 ≤ s.p ∧ s.p ≤ 1000000) (hh : 0 ≤ h ∧ h ≤ 1000000) (he : 0 ≤ e ∧ e ≤ 1000000) (hn : xs.length ≤ 9) : (tarT xs h e).size ≤ 1000 := by
  have h1 := itoaB_size hh.1 hh.2
  have h2 := itoaB_size he.1 he.2
  have h3 := txtK_size hs xs.length
  have e1 : (⟨#[49, 48, 48, 109, 58]⟩ : ByteArray).size = 5 := rfl
  have e2 : (⟨#[32, 101, 120, 112, 114, 101, 115, 115, 58]⟩ : ByteArray).size = 9 := rfl
  simp only [tarT, ByteArray.size_append]
  omega
set_option maxHeartbeats 4000000 in
set_option maxRecDepth 100000 in
theorem DrawReadTariff_any (v : Value) (w : World) (hv : Bytes w w.heap.size 5000 v) : Calls Tryz.prog 17 #[v] w fun r w' => ∃ t : ByteArray, r = .returned (.string t) ∧ t.size ≤ 2000 ∧ Below w.heap.size w w' := by
  have hf := l00From_any v w hv
  obtain ⟨gs, hgs⟩ : ∃ gs, gs = w.heap.size := ⟨_, rfl⟩
  rw [← hgs] at hf
  have HGS := hid hgs
  clear hv hgs
  go_enter Tryz.func17, Tryz.ntmps17
  go_wp2_with fail
  refine hf.mono ?_
  rintro r w1 ⟨rfl, hs, hb, hl⟩
  have hd := l23DrawB_any gs 0 w1 hs (by omega)
  clear hf
  go_wp2_with fail
  refine hd.mono ?_
  rintro r w2 ⟨A, c, xs, hh, ee, rfl, hm1, hm9, hss, ⟨hh0, hh1⟩, ⟨ee0, ee1⟩, hO, hS, hG⟩
  clear hd
  obtain ⟨W3, hW3⟩ : ∃ W, W = w2.alloc (.cells #[.slice A xs.length c, .int .i64 hh, .int .i64 ee] 26) := ⟨_, rfl⟩
  have b2 := below_src hb hG (Nat.le_refl _) (by omega)
  have z2 := hG.size
  have b3 : Below gs w W3 := by rw [hW3]; exact b2.alloc (by omega) _
  have S3 := hid (hS.alloc (.cells #[.slice A xs.length c, .int .i64 hh, .int .i64 ee] 26))
  have X3 := own_sl encStep_len (by omega) (hO.alloc (.cells #[.slice A xs.length c, .int .i64 hh, .int .i64 ee] 26))
  have cT := l23Text_any w2.heap.size A xs.length c xs hh ee W3 W3.heap.size (Nat.le_refl _) hm9 (by rw [hW3]; exact X3) (by rw [hW3]; exact (World.cell?_alloc_at _ _ _ _ rfl).trans rfl) (by rw [hW3]; exact (World.cell?_alloc_at _ _ _ _ rfl).trans rfl) (by rw [hW3]; exact (World.cell?_alloc_at _ _ _ _ rfl).trans rfl) hss hh0 (by omega) ee0 (by omega)
  have zT := tarT_size hss.out ⟨hh0, by omega⟩ ⟨ee0, by omega⟩ hm9
  obtain ⟨T, hT⟩ : ∃ T, T = tarT xs hh ee := ⟨_, rfl⟩
  rw [← hT] at cT zT
  have z3 : w2.heap.size < W3.heap.size := by rw [hW3]; simp
  rw [← hW3] at S3
  have HW3 := hid hW3
  have hb1 := hs.lt
  clear hT X3 hO hS hG hs hb b2 hss hW3
  go_wp2_with fail
  rw [← HW3.out]
  refine cT.mono ?_
  rintro r w4 ⟨rfl, b4⟩
  have S4 := hid (S3.out.below (b4.mono (by omega)))
  have z4 := b4.size
  have b5 := b3.trans (b4.mono (by omega))
  clear cT S3 b4 b3 HW3
  go_wp2_with fail
  refine (one_any gs _ 3 _ S4.out (by omega) (by omega)).mono ?_
  rintro r w5 ⟨b, rfl, hs5, hg5⟩
  have b6 := below_src b5 hg5 (Nat.le_refl _) (by omega)
  have z5 := hg5.size
  have S5 := hid hs5
  clear S4 b5 hs5 hg5
  cases b with
  | true =>
    go_wp2_with fail
    refine (l01Spoil_any gs _ T _ S5.out (by omega) (by omega)).mono ?_
    rintro r w6 ⟨t, rfl, ht, _, hg6⟩
    have b7 := below_src b6 hg6 (Nat.le_refl _) (by omega)
    clear S5 b6 hg6
    have e := HGS.out
    go_wp2_with fail
    go_ret
    exact ⟨t, rfl, by omega, e ▸ b7⟩
  | false =>
    have e := HGS.out
    go_wp2_with fail
    go_ret
    exact ⟨T, rfl, by omega, e ▸ b6⟩
end Go.Proofs.YtngfhpklakhehaaGreatDoor
