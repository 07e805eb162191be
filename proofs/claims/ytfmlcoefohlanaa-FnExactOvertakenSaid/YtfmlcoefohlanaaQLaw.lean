/-
  The statements on StartsOfQueue, ServedOrder and AgedOrder, walked. No condition.
-/
import Derived.Test.YtfmlcoefohlanaaQFn
import Derived.Test.YtfmlcoefohlanaaItem3
import Derived.Test.YtfmlcoefohlanaaLawItem
namespace Go.Proofs.Ytfmlcoefohlanaa
open Go.RowKit
set_option maxHeartbeats 400000

theorem startsResLen (xs : List Item) : (startsRes xs).length ≤ 12 := by
  unfold startsRes; split
  · rename_i h; rw [(startsQ_inv h).1]; exact validQ_len h
  · simp
theorem runQ_len {xs : List Item} {age : Int} : ∀ (f : Nat) (o s : List Int) (t : Int), o.length ≤ xs.length → (runQ xs age f o s t).1.length ≤ xs.length := by
  intro f
  induction f with
  | zero => intro o s t h; exact h
  | succ f ih =>
    intro o s t h
    rw [runQ]
    split
    · split
      · exact ih _ _ _ (by simp; omega)
      · exact ih _ _ _ h
    · exact h
theorem orderQ_len (xs : List Item) (age : Int) : (orderQ xs age).length ≤ xs.length := runQ_len _ _ _ _ (by simp)
theorem orderResLen (xs : List Item) : (orderRes xs).length ≤ 12 := by
  unfold orderRes; split
  · rename_i h; exact Nat.le_trans (orderQ_len xs 0) (validQ_len h)
  · simp
theorem agedResLen (xs : List Item) (age : Int) : (agedRes xs age).length ≤ 12 := by
  unfold agedRes; split
  · rename_i h; simp only [Bool.and_eq_true] at h; exact Nat.le_trans (orderQ_len xs age) (validQ_len h.1)
  · simp
theorem own_len {α : Type} {enc : α → List Value} {k : Nat} (hk : ∀ x, (enc x).length = k) (hk0 : 0 < k) {w : World} {lo T : Nat} {v : Value} {n : Nat} {xs : List α} (h : w.ownsRow lo T k v n (xs.flatMap enc)) : n = xs.length := by
  have hl := h.1
  rw [flatMap_len hk] at hl
  exact (Nat.eq_of_mul_eq_mul_right hk0 hl).symm

set_option maxHeartbeats 1000000 in
set_option maxRecDepth 100000 in
theorem FnExactStartsOfQueue_walk (A : Option Addr) (n c : Nat) (xs : List Item) (w : World) (hn : n ≤ 9223372036854775807) (hx : Sl w w.heap.size 3 encItem A n xs) :
    Calls Try.prog 9 #[.slice A n c] w fun e w' => e = .returned (.bool true) ∧ Below w.heap.size w w' := by
  have HS := fun A n c w B hB hn hx => specStartsOfQueue_any A n c xs w B hB hn hx
  have HI := fun A n c w B hB hn hx => implStartsOfQueue_any A n c xs w B hB hn hx
  have hres : (startsRes xs).length ≤ 2000000 := by have := startsResLen xs; omega
  generalize (startsRes xs) = res at HS HI hres
  generalize (codeQ xs) = code at HS HI
  go_enter Try.func9, Try.ntmps9
  go_wp2_with fail
  refine (szItemS_any _ _ _ _ _ hn (by omega) (by omega)).mono ?_
  rintro e w' ⟨rfl, rfl⟩
  by_cases hb : n ≤ 1048576
  · have h0 : ¬ szv 1048576 n < 0 := by unfold szv; split <;> omega
    go_wp2_with fail
    refine (toItemS_any A n c xs _ _ (Nat.le_refl _) (by omega) hx).mono ?_
    rintro e w1 ⟨g1, rfl, o1, b1⟩
    go_wp2_with fail
    refine (HS _ _ _ _ _ (Nat.le_refl _) (by omega) (own_sl encItem_len (by omega) o1)).mono ?_
    rintro e w2 ⟨A1, m1, c1, rfl, p1, b2⟩
    have b12 := b1.trans (b2.mono b1.size)
    go_wp2_with fail
    refine (toItemS_any A n c xs _ _ b12.size (by omega) (hx.below b12)).mono ?_
    rintro e w3 ⟨g3, rfl, o3, b3⟩
    have b13 := b12.trans (b3.mono b12.size)
    go_wp2_with fail
    refine (HI _ _ _ _ _ (Nat.le_refl _) (by omega) (own_sl encItem_len (by omega) o3)).mono ?_
    rintro e w4 ⟨A4, m4, c4, rfl, p4, b4⟩
    have b14 := b13.trans (b4.mono b13.size)
    have q1 := own_below (own_below p1 b3) b4
    have hm1 := own_len encI_len (by omega) p1
    have hm4 := own_len encI_len (by omega) p4
    have k1 : ∀ b, (Value.slice A1 m1 c1).ownBlock = some b → b < w2.heap.size := fun b hb => (p1.lt b hb).2
    have k3 := own_lt o3
    have k4 : ∀ b, (Value.slice A4 m4 c4).ownBlock = some b → w3.heap.size ≤ b := fun b hb => (p4.lt b hb).1
    have z1 := b1.size
    have z2 := b2.size
    have z3 := b3.size
    have z4 := b4.size
    have HM1 := hid hm1
    have HM4 := hid hm4
    clear hm1 hm4 p1
    go_wp2_with fail
    refine (eqInt64S_yes _ _ _ _ _ _ _ _ (Nat.le_refl _) res (by rw [HM4.out]; exact hres) (own_sl encI_len (by omega) p4) (own_sl encI_len (by omega) q1)).mono ?_
    rintro e w5 ⟨rfl, b5⟩
    have b15 := b14.trans (b5.mono b14.size)
    go_wp2_with fail
    refine (toItemS_any A n c xs _ _ b15.size (by omega) (hx.below b15)).mono ?_
    rintro e w6 ⟨g6, rfl, o6, b6⟩
    have b16 := b15.trans (b6.mono b15.size)
    have r3 := own_below (own_below (own_below o3 b4) b5) b6
    go_wp2_with fail
    refine (eqItemS_yes _ _ _ _ _ _ _ (Nat.le_refl _) xs (by omega) (own_sl encItem_len (by omega) r3) (own_sl encItem_len (by omega) o6)).mono ?_
    rintro e w7 ⟨rfl, b7⟩
    have b17 := b16.trans (b7.mono b16.size)
    go_wp2_with fail
    refine (markItemS_any _ _ _ _ _ _ (by omega) (own_below r3 b7)).mono ?_
    rintro e w8 ⟨rfl, y8⟩
    have b18 := grown_below b17 y8 b17.size (fun b hb => by simp [Value.ownBlock] at hb; omega)
    have q8 := own_keep (own_below (own_below (own_below q1 b5) b6) b7) (v2 := .slice (some ⟨g3, 0, none⟩) n n) (fun b hb e => by have := k1 b e; simp [Value.ownBlock] at hb; omega) y8
    have p8 := own_keep (own_below (own_below (own_below p4 b5) b6) b7) (v2 := .slice (some ⟨g3, 0, none⟩) n n) (fun b hb e => by have := k4 b e; simp [Value.ownBlock] at hb; omega) y8
    clear y8 r3 o6 o3 q1 p4
    go_wp2_with fail
    refine (eqInt64S_yes _ _ _ _ _ _ _ _ (Nat.le_refl _) res (by rw [HM4.out]; exact hres) (own_sl encI_len (by omega) p8) (own_sl encI_len (by omega) q8)).mono ?_
    rintro e w9 ⟨rfl, b9⟩
    have b19 := b18.trans (b9.mono b18.size)
    go_wp2_with fail
    refine (markInt64S_any _ _ _ _ _ 1 _ (by rw [HM4.out]; exact hres) (by omega) (by omega) (own_below p8 b9)).mono ?_
    rintro e w10 ⟨rfl, p10, y10⟩
    have b110 := grown_below b19 y10 b19.size (fun b hb => by have := k4 b hb; omega)
    have q10 := own_keep (own_below q8 b9) (v2 := .slice A4 m4 c4) (fun b hb e => by have := k1 b e; have := k4 b hb; omega) y10
    clear y10 p8 q8
    go_wp2_with fail
    refine (heldInt64S_any _ _ _ 1 _ _ (by rw [HM4.out]; exact hres) (by omega) (by omega) (own_sl encI_len (by omega) p10)).mono ?_
    rintro e w11 ⟨rfl, b11⟩
    have b111 := b110.trans (b11.mono b110.size)
    go_wp2_with fail
    refine (toItemS_any A n c xs _ _ b111.size (by omega) (hx.below b111)).mono ?_
    rintro e w12 ⟨g12, rfl, o12, c12⟩
    have b112 := b111.trans (c12.mono b111.size)
    go_wp2_with fail
    refine (HI _ _ _ _ _ (Nat.le_refl _) (by omega) (own_sl encItem_len (by omega) o12)).mono ?_
    rintro e w13 ⟨A13, m13, c13, rfl, p13, c13b⟩
    have b113 := b112.trans (c13b.mono b112.size)
    have HM13 := hid (own_len encI_len (by omega) p13)
    have q13 := own_below (own_below (own_below q10 b11) c12) c13b
    go_wp2_with fail
    refine (eqInt64S_yes _ _ _ _ _ _ _ _ (Nat.le_refl _) res (by rw [HM13.out]; exact hres) (own_sl encI_len (by omega) p13) (own_sl encI_len (by omega) q13)).mono ?_
    rintro e w14 ⟨rfl, b14'⟩
    have b114 := b113.trans (b14'.mono b113.size)
    have p14 := own_below (own_below (own_below (own_below p10 b11) c12) c13b) b14'
    go_wp2_with fail
    refine (heldInt64S_any _ _ _ 1 _ _ (by rw [HM4.out]; exact hres) (by omega) (by omega) (own_sl encI_len (by omega) p14)).mono ?_
    rintro e w15 ⟨rfl, b15'⟩
    have b115 := b114.trans (b15'.mono b114.size)
    go_wp2_with fail
    go_ret
    exact ⟨rfl, b115⟩
  · have h0 : szv 1048576 n < 0 := by unfold szv; split <;> omega
    go_wp2_with fail
    go_ret
    exact ⟨rfl, Below.refl _ _⟩
set_option maxHeartbeats 1000000 in
set_option maxRecDepth 100000 in
theorem FnExactServedOrder_walk (A : Option Addr) (n c : Nat) (xs : List Item) (w : World) (hn : n ≤ 9223372036854775807) (hx : Sl w w.heap.size 3 encItem A n xs) :
    Calls Try.prog 8 #[.slice A n c] w fun e w' => e = .returned (.bool true) ∧ Below w.heap.size w w' := by
  have HS := fun A n c w B hB hn hx => specServedOrder_any A n c xs w B hB hn hx
  have HI := fun A n c w B hB hn hx => implServedOrder_any A n c xs w B hB hn hx
  have hres : (orderRes xs).length ≤ 2000000 := by have := orderResLen xs; omega
  generalize (orderRes xs) = res at HS HI hres
  generalize (codeQ xs) = code at HS HI
  go_enter Try.func8, Try.ntmps8
  go_wp2_with fail
  refine (szItemS_any _ _ _ _ _ hn (by omega) (by omega)).mono ?_
  rintro e w' ⟨rfl, rfl⟩
  by_cases hb : n ≤ 1048576
  · have h0 : ¬ szv 1048576 n < 0 := by unfold szv; split <;> omega
    go_wp2_with fail
    refine (toItemS_any A n c xs _ _ (Nat.le_refl _) (by omega) hx).mono ?_
    rintro e w1 ⟨g1, rfl, o1, b1⟩
    go_wp2_with fail
    refine (HS _ _ _ _ _ (Nat.le_refl _) (by omega) (own_sl encItem_len (by omega) o1)).mono ?_
    rintro e w2 ⟨A1, m1, c1, rfl, p1, b2⟩
    have b12 := b1.trans (b2.mono b1.size)
    go_wp2_with fail
    refine (toItemS_any A n c xs _ _ b12.size (by omega) (hx.below b12)).mono ?_
    rintro e w3 ⟨g3, rfl, o3, b3⟩
    have b13 := b12.trans (b3.mono b12.size)
    go_wp2_with fail
    refine (HI _ _ _ _ _ (Nat.le_refl _) (by omega) (own_sl encItem_len (by omega) o3)).mono ?_
    rintro e w4 ⟨A4, m4, c4, rfl, p4, b4⟩
    have b14 := b13.trans (b4.mono b13.size)
    have q1 := own_below (own_below p1 b3) b4
    have hm1 := own_len encI_len (by omega) p1
    have hm4 := own_len encI_len (by omega) p4
    have k1 : ∀ b, (Value.slice A1 m1 c1).ownBlock = some b → b < w2.heap.size := fun b hb => (p1.lt b hb).2
    have k3 := own_lt o3
    have k4 : ∀ b, (Value.slice A4 m4 c4).ownBlock = some b → w3.heap.size ≤ b := fun b hb => (p4.lt b hb).1
    have z1 := b1.size
    have z2 := b2.size
    have z3 := b3.size
    have z4 := b4.size
    have HM1 := hid hm1
    have HM4 := hid hm4
    clear hm1 hm4 p1
    go_wp2_with fail
    refine (eqInt64S_yes _ _ _ _ _ _ _ _ (Nat.le_refl _) res (by rw [HM4.out]; exact hres) (own_sl encI_len (by omega) p4) (own_sl encI_len (by omega) q1)).mono ?_
    rintro e w5 ⟨rfl, b5⟩
    have b15 := b14.trans (b5.mono b14.size)
    go_wp2_with fail
    refine (toItemS_any A n c xs _ _ b15.size (by omega) (hx.below b15)).mono ?_
    rintro e w6 ⟨g6, rfl, o6, b6⟩
    have b16 := b15.trans (b6.mono b15.size)
    have r3 := own_below (own_below (own_below o3 b4) b5) b6
    go_wp2_with fail
    refine (eqItemS_yes _ _ _ _ _ _ _ (Nat.le_refl _) xs (by omega) (own_sl encItem_len (by omega) r3) (own_sl encItem_len (by omega) o6)).mono ?_
    rintro e w7 ⟨rfl, b7⟩
    have b17 := b16.trans (b7.mono b16.size)
    go_wp2_with fail
    refine (markItemS_any _ _ _ _ _ _ (by omega) (own_below r3 b7)).mono ?_
    rintro e w8 ⟨rfl, y8⟩
    have b18 := grown_below b17 y8 b17.size (fun b hb => by simp [Value.ownBlock] at hb; omega)
    have q8 := own_keep (own_below (own_below (own_below q1 b5) b6) b7) (v2 := .slice (some ⟨g3, 0, none⟩) n n) (fun b hb e => by have := k1 b e; simp [Value.ownBlock] at hb; omega) y8
    have p8 := own_keep (own_below (own_below (own_below p4 b5) b6) b7) (v2 := .slice (some ⟨g3, 0, none⟩) n n) (fun b hb e => by have := k4 b e; simp [Value.ownBlock] at hb; omega) y8
    clear y8 r3 o6 o3 q1 p4
    go_wp2_with fail
    refine (eqInt64S_yes _ _ _ _ _ _ _ _ (Nat.le_refl _) res (by rw [HM4.out]; exact hres) (own_sl encI_len (by omega) p8) (own_sl encI_len (by omega) q8)).mono ?_
    rintro e w9 ⟨rfl, b9⟩
    have b19 := b18.trans (b9.mono b18.size)
    go_wp2_with fail
    refine (markInt64S_any _ _ _ _ _ 1 _ (by rw [HM4.out]; exact hres) (by omega) (by omega) (own_below p8 b9)).mono ?_
    rintro e w10 ⟨rfl, p10, y10⟩
    have b110 := grown_below b19 y10 b19.size (fun b hb => by have := k4 b hb; omega)
    have q10 := own_keep (own_below q8 b9) (v2 := .slice A4 m4 c4) (fun b hb e => by have := k1 b e; have := k4 b hb; omega) y10
    clear y10 p8 q8
    go_wp2_with fail
    refine (heldInt64S_any _ _ _ 1 _ _ (by rw [HM4.out]; exact hres) (by omega) (by omega) (own_sl encI_len (by omega) p10)).mono ?_
    rintro e w11 ⟨rfl, b11⟩
    have b111 := b110.trans (b11.mono b110.size)
    go_wp2_with fail
    refine (toItemS_any A n c xs _ _ b111.size (by omega) (hx.below b111)).mono ?_
    rintro e w12 ⟨g12, rfl, o12, c12⟩
    have b112 := b111.trans (c12.mono b111.size)
    go_wp2_with fail
    refine (HI _ _ _ _ _ (Nat.le_refl _) (by omega) (own_sl encItem_len (by omega) o12)).mono ?_
    rintro e w13 ⟨A13, m13, c13, rfl, p13, c13b⟩
    have b113 := b112.trans (c13b.mono b112.size)
    have HM13 := hid (own_len encI_len (by omega) p13)
    have q13 := own_below (own_below (own_below q10 b11) c12) c13b
    go_wp2_with fail
    refine (eqInt64S_yes _ _ _ _ _ _ _ _ (Nat.le_refl _) res (by rw [HM13.out]; exact hres) (own_sl encI_len (by omega) p13) (own_sl encI_len (by omega) q13)).mono ?_
    rintro e w14 ⟨rfl, b14'⟩
    have b114 := b113.trans (b14'.mono b113.size)
    have p14 := own_below (own_below (own_below (own_below p10 b11) c12) c13b) b14'
    go_wp2_with fail
    refine (heldInt64S_any _ _ _ 1 _ _ (by rw [HM4.out]; exact hres) (by omega) (by omega) (own_sl encI_len (by omega) p14)).mono ?_
    rintro e w15 ⟨rfl, b15'⟩
    have b115 := b114.trans (b15'.mono b114.size)
    go_wp2_with fail
    go_ret
    exact ⟨rfl, b115⟩
  · have h0 : szv 1048576 n < 0 := by unfold szv; split <;> omega
    go_wp2_with fail
    go_ret
    exact ⟨rfl, Below.refl _ _⟩
set_option maxHeartbeats 1000000 in
set_option maxRecDepth 100000 in
theorem FnExactAgedOrder_walk (A : Option Addr) (n c : Nat) (xs : List Item) (age : Int) (w : World) (hn : n ≤ 9223372036854775807) (hx : Sl w w.heap.size 3 encItem A n xs) :
    Calls Try.prog 10 #[.slice A n c, .int .i64 age] w fun e w' => e = .returned (.bool true) ∧ Below w.heap.size w w' := by
  have HS := fun A n c w B hB hn hx => specAgedOrder_any A n c xs age w B hB hn hx
  have HI := fun A n c w B hB hn hx => implAgedOrder_any A n c xs age w B hB hn hx
  have hres : (agedRes xs age).length ≤ 2000000 := by have := agedResLen xs age; omega
  generalize (agedRes xs age) = res at HS HI hres
  generalize (agedCode xs age) = code at HS HI
  go_enter Try.func10, Try.ntmps10
  go_wp2_with fail
  refine (szItemS_any _ _ _ _ _ hn (by omega) (by omega)).mono ?_
  rintro e w' ⟨rfl, rfl⟩
  by_cases hb : n ≤ 1048576
  · have h0 : ¬ szv 1048576 n < 0 := by unfold szv; split <;> omega
    go_wp2_with fail
    refine (toItemS_any A n c xs _ _ (Nat.le_refl _) (by omega) hx).mono ?_
    rintro e w1 ⟨g1, rfl, o1, b1⟩
    go_wp2_with fail
    refine (HS _ _ _ _ _ (Nat.le_refl _) (by omega) (own_sl encItem_len (by omega) o1)).mono ?_
    rintro e w2 ⟨A1, m1, c1, rfl, p1, b2⟩
    have b12 := b1.trans (b2.mono b1.size)
    go_wp2_with fail
    refine (toItemS_any A n c xs _ _ b12.size (by omega) (hx.below b12)).mono ?_
    rintro e w3 ⟨g3, rfl, o3, b3⟩
    have b13 := b12.trans (b3.mono b12.size)
    go_wp2_with fail
    refine (HI _ _ _ _ _ (Nat.le_refl _) (by omega) (own_sl encItem_len (by omega) o3)).mono ?_
    rintro e w4 ⟨A4, m4, c4, rfl, p4, b4⟩
    have b14 := b13.trans (b4.mono b13.size)
    have q1 := own_below (own_below p1 b3) b4
    have hm1 := own_len encI_len (by omega) p1
    have hm4 := own_len encI_len (by omega) p4
    have k1 : ∀ b, (Value.slice A1 m1 c1).ownBlock = some b → b < w2.heap.size := fun b hb => (p1.lt b hb).2
    have k3 := own_lt o3
    have k4 : ∀ b, (Value.slice A4 m4 c4).ownBlock = some b → w3.heap.size ≤ b := fun b hb => (p4.lt b hb).1
    have z1 := b1.size
    have z2 := b2.size
    have z3 := b3.size
    have z4 := b4.size
    have HM1 := hid hm1
    have HM4 := hid hm4
    clear hm1 hm4 p1
    go_wp2_with fail
    refine (eqInt64S_yes _ _ _ _ _ _ _ _ (Nat.le_refl _) res (by rw [HM4.out]; exact hres) (own_sl encI_len (by omega) p4) (own_sl encI_len (by omega) q1)).mono ?_
    rintro e w5 ⟨rfl, b5⟩
    have b15 := b14.trans (b5.mono b14.size)
    go_wp2_with fail
    refine (toItemS_any A n c xs _ _ b15.size (by omega) (hx.below b15)).mono ?_
    rintro e w6 ⟨g6, rfl, o6, b6⟩
    have b16 := b15.trans (b6.mono b15.size)
    have r3 := own_below (own_below (own_below o3 b4) b5) b6
    go_wp2_with fail
    refine (eqItemS_yes _ _ _ _ _ _ _ (Nat.le_refl _) xs (by omega) (own_sl encItem_len (by omega) r3) (own_sl encItem_len (by omega) o6)).mono ?_
    rintro e w7 ⟨rfl, b7⟩
    have b17 := b16.trans (b7.mono b16.size)
    go_wp2_with fail
    refine (markItemS_any _ _ _ _ _ _ (by omega) (own_below r3 b7)).mono ?_
    rintro e w8 ⟨rfl, y8⟩
    have b18 := grown_below b17 y8 b17.size (fun b hb => by simp [Value.ownBlock] at hb; omega)
    have q8 := own_keep (own_below (own_below (own_below q1 b5) b6) b7) (v2 := .slice (some ⟨g3, 0, none⟩) n n) (fun b hb e => by have := k1 b e; simp [Value.ownBlock] at hb; omega) y8
    have p8 := own_keep (own_below (own_below (own_below p4 b5) b6) b7) (v2 := .slice (some ⟨g3, 0, none⟩) n n) (fun b hb e => by have := k4 b e; simp [Value.ownBlock] at hb; omega) y8
    clear y8 r3 o6 o3 q1 p4
    go_wp2_with fail
    refine (eqInt64S_yes _ _ _ _ _ _ _ _ (Nat.le_refl _) res (by rw [HM4.out]; exact hres) (own_sl encI_len (by omega) p8) (own_sl encI_len (by omega) q8)).mono ?_
    rintro e w9 ⟨rfl, b9⟩
    have b19 := b18.trans (b9.mono b18.size)
    go_wp2_with fail
    refine (markInt64S_any _ _ _ _ _ 1 _ (by rw [HM4.out]; exact hres) (by omega) (by omega) (own_below p8 b9)).mono ?_
    rintro e w10 ⟨rfl, p10, y10⟩
    have b110 := grown_below b19 y10 b19.size (fun b hb => by have := k4 b hb; omega)
    have q10 := own_keep (own_below q8 b9) (v2 := .slice A4 m4 c4) (fun b hb e => by have := k1 b e; have := k4 b hb; omega) y10
    clear y10 p8 q8
    go_wp2_with fail
    refine (heldInt64S_any _ _ _ 1 _ _ (by rw [HM4.out]; exact hres) (by omega) (by omega) (own_sl encI_len (by omega) p10)).mono ?_
    rintro e w11 ⟨rfl, b11⟩
    have b111 := b110.trans (b11.mono b110.size)
    go_wp2_with fail
    refine (toItemS_any A n c xs _ _ b111.size (by omega) (hx.below b111)).mono ?_
    rintro e w12 ⟨g12, rfl, o12, c12⟩
    have b112 := b111.trans (c12.mono b111.size)
    go_wp2_with fail
    refine (HI _ _ _ _ _ (Nat.le_refl _) (by omega) (own_sl encItem_len (by omega) o12)).mono ?_
    rintro e w13 ⟨A13, m13, c13, rfl, p13, c13b⟩
    have b113 := b112.trans (c13b.mono b112.size)
    have HM13 := hid (own_len encI_len (by omega) p13)
    have q13 := own_below (own_below (own_below q10 b11) c12) c13b
    go_wp2_with fail
    refine (eqInt64S_yes _ _ _ _ _ _ _ _ (Nat.le_refl _) res (by rw [HM13.out]; exact hres) (own_sl encI_len (by omega) p13) (own_sl encI_len (by omega) q13)).mono ?_
    rintro e w14 ⟨rfl, b14'⟩
    have b114 := b113.trans (b14'.mono b113.size)
    have p14 := own_below (own_below (own_below (own_below p10 b11) c12) c13b) b14'
    go_wp2_with fail
    refine (heldInt64S_any _ _ _ 1 _ _ (by rw [HM4.out]; exact hres) (by omega) (by omega) (own_sl encI_len (by omega) p14)).mono ?_
    rintro e w15 ⟨rfl, b15'⟩
    have b115 := b114.trans (b15'.mono b114.size)
    go_wp2_with fail
    go_ret
    exact ⟨rfl, b115⟩
  · have h0 : szv 1048576 n < 0 := by unfold szv; split <;> omega
    go_wp2_with fail
    go_ret
    exact ⟨rfl, Below.refl _ _⟩
end Go.Proofs.Ytfmlcoefohlanaa
