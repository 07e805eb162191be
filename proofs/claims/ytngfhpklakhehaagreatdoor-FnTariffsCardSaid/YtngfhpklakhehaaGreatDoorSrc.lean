/-
  A source of choices: it hands out numbers within bounds, whatever its bytes are. No condition.
-/
import Derived.Test.YtngfhpklakhehaaGreatDoorInt
import Derived.Test.YtngfhpklakhehaaGreatDoorBasic
import Derived.WalkSmall
namespace Go.Proofs.YtngfhpklakhehaaGreatDoor
open Go.RowKit
set_option maxHeartbeats 400000

theorem heap_at {w : World} {o : Obj} {k : Nat} (h : k = w.heap.size) : (w.alloc o).heap[k]? = some o := by subst h; exact heap_alloc_new w o
def encB (z : Int) : List Value := [.int .u8 z]
theorem encB_len (z : Int) : (encB z).length = 1 := rfl
theorem Sl.byte {w : World} {B : Nat} {A : Option Addr} {n : Nat} {xs : List Int} (h : Sl w B 1 encB A n xs) {i : Nat} (hi : i < n) :
    ∃ z b off, Hid (xs[i]? = some z) ∧ A = some ⟨b, off, none⟩ ∧ b < B ∧ w.cell? ⟨b, off + i, none⟩ = some (.int .u8 z) := by
  obtain ⟨z, b, off, hx, e, hb, hc⟩ := h.at_ hi
  have := hc 0 _ rfl
  simp only [Nat.mul_one, Nat.add_zero] at this
  exact ⟨z, b, off, hx, e, hb, this⟩
/-- some bytes below block B, at most m -/
def Bytes (w : World) (B m : Nat) (v : Value) : Prop := ∃ A n c xs, v = .slice A n c ∧ n ≤ m ∧ Sl w B 1 encB A n xs ∧ ∀ z ∈ xs, 0 ≤ z ∧ z ≤ 255
/-- a source of choices in block gs; at most k numbers have been drawn -/
structure SrcAt (w : World) (gs k : Nat) : Prop where
  ex : ∃ v a s, w.cell? ⟨gs, 0, none⟩ = some v ∧ Bytes w gs 5000 v ∧ w.cell? ⟨gs, 1, none⟩ = some (.int .i64 (a : Nat)) ∧ w.cell? ⟨gs, 2, none⟩ = some (.int .u64 s) ∧ a ≤ k
  f1 : w.frozen? ⟨gs, 1, none⟩ = false
  f2 : w.frozen? ⟨gs, 2, none⟩ = false
theorem SrcAt.lt {w : World} {gs k : Nat} (h : SrcAt w gs k) : gs < w.heap.size := by
  obtain ⟨v, a, s, c0, _⟩ := h.ex
  exact World.block_lt_of_cell? _ _ c0
theorem Bytes.keep {w w' : World} {B m : Nat} {v : Value} (h : Bytes w B m v) (hk : ∀ p : Addr, p.block < B → w'.cell? p = w.cell? p) : Bytes w' B m v := by
  obtain ⟨A, n, c, xs, e, hn, hx, hz⟩ := h
  exact ⟨A, n, c, xs, e, hn, hx.keep hk, hz⟩
theorem Bytes.below {w w' : World} {B m : Nat} {v : Value} (h : Bytes w B m v) (hb : Below B w w') : Bytes w' B m v := h.keep fun _ hp => hb.cell hp
theorem Bytes.more {w : World} {B B' m : Nat} {v : Value} (h : Bytes w B m v) (hB : B ≤ B') : Bytes w B' m v := by
  obtain ⟨A, n, c, xs, e, hn, hx, hz⟩ := h
  exact ⟨A, n, c, xs, e, hn, hx.more hB, hz⟩
theorem SrcAt.mono {w : World} {gs k k' : Nat} (h : SrcAt w gs k) (hk : k ≤ k') : SrcAt w gs k' := by
  obtain ⟨⟨v, a, s, c0, hv, c1, c2, ha⟩, f1, f2⟩ := h
  exact ⟨⟨v, a, s, c0, hv, c1, c2, by omega⟩, f1, f2⟩
theorem SrcAt.below {w w' : World} {gs k : Nat} (h : SrcAt w gs k) (hb : Below (gs + 1) w w') : SrcAt w' gs k := by
  have hl := h.lt
  obtain ⟨⟨v, a, s, c0, hv, c1, c2, ha⟩, f1, f2⟩ := h
  refine ⟨⟨v, a, s, (hb.cell (p := ⟨gs, 0, none⟩) (by simp)).trans c0, hv.keep fun p hp => hb.cell (by omega), (hb.cell (p := ⟨gs, 1, none⟩) (by simp)).trans c1, (hb.cell (p := ⟨gs, 2, none⟩) (by simp)).trans c2, ha⟩, ?_, ?_⟩
  · exact (hb.frozen (p := ⟨gs, 1, none⟩) (by simp)).trans f1
  · exact (hb.frozen (p := ⟨gs, 2, none⟩) (by simp)).trans f2
/-- where a row that is not the source's is written -/
theorem SrcAt.grown {w w' : World} {gs k : Nat} {row : Option Nat} (h : SrcAt w gs k) (hg : w.grownBy w' row) (hr : ∀ b, row = some b → gs < b) : SrcAt w' gs k := by
  refine h.below ⟨hg.os, hg.tape, hg.output, hg.size, fun i hi => ?_⟩
  have hl := h.lt
  exact hg.block i (by omega) (fun e => by have := hr i e.symm; omega)

theorem SrcAt.alloc {w : World} {gs k : Nat} (h : SrcAt w gs k) (o : Obj) : SrcAt (w.alloc o) gs k := h.below ((Below.refl _ _).alloc (by have := h.lt; omega) o)
theorem SrcAt.set {w : World} {gs k : Nat} {p : Addr} {u : Value} (h : SrcAt w gs k) (hp : gs < p.block) : SrcAt (w.setCell p u) gs k := h.below ((Below.refl _ _).setCell (by omega) u)
/-- a row that is not the source's stays where the source is drawn from -/
theorem own_src {w w' : World} {gs lo T k n : Nat} {v : Value} {l : List Value} (h : w.ownsRow lo T k v n l) (hg : w.grownBy w' (some gs)) (hlo : gs < lo) : w'.ownsRow lo T k v n l := by
  refine own_keep (v2 := .slice (some ⟨gs, 0, none⟩) 0 0) h (fun b hb e => ?_) hg
  have h1 := (h.lt b e).1
  have h2 : gs = b := by simpa [Value.ownBlock] using hb
  omega
theorem below_src {w w' a : World} {gs B : Nat} (h : Below B a w) (hg : w.grownBy w' (some gs)) (hB : B ≤ gs) (hw : B ≤ w.heap.size) : Below B a w' := by
  refine grown_below (v := .slice (some ⟨gs, 0, none⟩) 0 0) h hg hw (fun b hb => ?_)
  have h2 : gs = b := by simpa [Value.ownBlock] using hb
  omega
theorem cell_src {w w' : World} {gs b o : Nat} {v : Value} (h : w.cell? ⟨b, o, none⟩ = some v) (hg : w.grownBy w' (some gs)) (hb : b ≠ gs) : w'.cell? ⟨b, o, none⟩ = some v := hg.cell h (fun e => hb (by simpa using e))
theorem frz_src {w w' : World} {gs b o : Nat} (h : w.frozen? ⟨b, o, none⟩ = false) (hg : w.grownBy w' (some gs)) (hb : b ≠ gs) (hl : b < w.heap.size) : w'.frozen? ⟨b, o, none⟩ = false := (hg.frozen_far ⟨b, o, none⟩ hl (fun e => hb (by simpa using e))).trans h
theorem and_255 (E : Int) (h0 : 0 ≤ E) (h1 : E ≤ 18446744073709551615) : 0 ≤ bits BinOp.and IntKind.u64 E 255 ∧ bits BinOp.and IntKind.u64 E 255 ≤ 255 := by
  have h := bits_and_u64_nat E.toNat 255 (by omega) (by omega)
  rw [Int.toNat_of_nonneg h0] at h
  have h2 : bits BinOp.and IntKind.u64 E 255 = ((E.toNat &&& 255 : Nat) : Int) := h
  have h3 : E.toNat &&& 255 ≤ 255 := Nat.and_le_right
  omega

theorem low_byte (x : Int) : 0 ≤ RowKit.wrap64 (bits BinOp.and IntKind.u64 (IntKind.u64.wrap x / 1099511627776) 255) ∧ RowKit.wrap64 (bits BinOp.and IntKind.u64 (IntKind.u64.wrap x / 1099511627776) 255) ≤ 255 := by
  have h1 : 0 ≤ IntKind.u64.wrap x ∧ IntKind.u64.wrap x ≤ 18446744073709551615 := by
    have e : IntKind.u64.wrap x = x % 18446744073709551616 := by simp [IntKind.wrap, IntKind.signed, IntKind.bits]
    omega
  generalize IntKind.u64.wrap x = y at h1
  have h2 := and_255 (y / 1099511627776) (by omega) (by omega)
  rw [IntWalk.wrap64_in _ (by omega)]
  exact h2
theorem src_set {w : World} {gs k a : Nat} {v : Value} {s S : Int} (hv : Bytes w gs 5000 v) (c0 : w.cell? ⟨gs, 0, none⟩ = some v) (c1 : w.cell? ⟨gs, 1, none⟩ = some (.int .i64 (a : Nat))) (c2 : w.cell? ⟨gs, 2, none⟩ = some (.int .u64 s)) (ha : a ≤ k)
    (f1 : w.frozen? ⟨gs, 1, none⟩ = false) (f2 : w.frozen? ⟨gs, 2, none⟩ = false) (m m' : Nat) :
    SrcAt ((((w.drewN m).setCell ⟨gs, 1, none⟩ (.int .i64 ((a : Int) + 1))).setCell ⟨gs, 2, none⟩ (.int .u64 S)).drewN m') gs (k + 1) ∧ w.grownBy ((((w.drewN m).setCell ⟨gs, 1, none⟩ (.int .i64 ((a : Int) + 1))).setCell ⟨gs, 2, none⟩ (.int .u64 S)).drewN m') (some gs) := by
  have d0 : (w.drewN m).cell? ⟨gs, 0, none⟩ = some v := c0
  have d1 : (w.drewN m).cell? ⟨gs, 1, none⟩ = some (.int .i64 (a : Nat)) := c1
  have d2 : (w.drewN m).cell? ⟨gs, 2, none⟩ = some (.int .u64 s) := c2
  have e2 : ((w.drewN m).setCell ⟨gs, 1, none⟩ (.int .i64 ((a : Int) + 1))).cell? ⟨gs, 2, none⟩ = some (.int .u64 s) := (World.cell?_setCell_other _ _ _ _ (by simp)).trans d2
  have e1 : ((w.drewN m).setCell ⟨gs, 1, none⟩ (.int .i64 ((a : Int) + 1))).cell? ⟨gs, 1, none⟩ = some (.int .i64 ((a : Int) + 1)) := World.cell?_setCell_same _ _ _ d1
  refine ⟨⟨⟨v, a + 1, S, ?_, ?_, ?_, ?_, by omega⟩, ?_, ?_⟩, gr_drewN (gr_set (gr_set (gr_drewN (World.grownBy.refl _ _))))⟩
  · exact (World.cell?_setCell_other _ _ _ _ (by simp)).trans ((World.cell?_setCell_other _ _ _ _ (by simp)).trans d0)
  · refine hv.keep fun p hp => ?_
    exact (cell_far (by simp only; omega)).trans ((cell_far (by simp only; omega)).trans rfl)
  · exact ((World.cell?_setCell_other _ _ _ _ (by simp)).trans e1).trans (by go_num)
  · exact World.cell?_setCell_same _ _ _ e2
  · show (((w.drewN m).setCell ⟨gs, 1, none⟩ (.int .i64 ((a : Int) + 1))).setCell ⟨gs, 2, none⟩ (.int .u64 S)).frozen? ⟨gs, 1, none⟩ = false
    rw [World.frozen?_setCell, World.frozen?_setCell]; exact f1
  · show (((w.drewN m).setCell ⟨gs, 1, none⟩ (.int .i64 ((a : Int) + 1))).setCell ⟨gs, 2, none⟩ (.int .u64 S)).frozen? ⟨gs, 2, none⟩ = false
    rw [World.frozen?_setCell, World.frozen?_setCell]; exact f2
set_option maxRecDepth 100000 in
theorem next_any (gs k : Nat) (w : World) (h : SrcAt w gs k) (hk : k ≤ 1000000) :
    Calls Tryz.prog 68 #[.pointer (some ⟨gs, 0, none⟩)] w fun e w' => ∃ r, e = .returned (.int .i64 r) ∧ 0 ≤ r ∧ r ≤ 255 ∧ SrcAt w' gs (k + 1) ∧ w.grownBy w' (some gs) := by
  obtain ⟨⟨v, a, s, c0, hv, c1, c2, ha⟩, f1, f2⟩ := h
  have key := fun S m m' => src_set (S := S) hv c0 c1 c2 ha f1 f2 m m'
  obtain ⟨A, n, c, xs, rfl, hn, hx, hz⟩ := hv
  have KEY := hid key
  clear key
  by_cases hlt : a < n
  · obtain ⟨z, b, off, Hx, rfl, hb, cb⟩ := hx.byte hlt
    have hz2 := hz z (List.mem_of_getElem? Hx.out)
    have ai : (0 : Int) ≤ (a : Int) := by omega
    have an : (a : Int) < (n : Int) := by omega
    clear hx hz
    go_enter Tryz.func68, Tryz.ntmps68
    go_wp2
    go_quiet (fail)
    go_wp2
    go_quiet (fail)
    go_wp2
    go_quiet (fail)
    go_wp2
    go_ret
    exact ⟨z, rfl, hz2.1, hz2.2, KEY.out _ _ _⟩
  · have ai : (0 : Int) ≤ (a : Int) := by omega
    have an : ¬ (a : Int) < (n : Int) := by omega
    have an2 : ¬ (a : Int) + 1 ≤ (n : Int) := by omega
    clear hx hz
    go_enter Tryz.func68, Tryz.ntmps68
    go_wp2
    go_quiet (fail)
    go_wp2
    go_quiet (fail)
    go_wp2
    go_ret
    exact ⟨_, rfl, (low_byte _).1, (low_byte _).2, KEY.out _ _ _⟩
/-- a number from 0 to n - 1; 0 where n is 1 or less -/
theorem pick_any (gs k : Nat) (n : Int) (w : World) (h : SrcAt w gs k) (hk : k ≤ 900000) (hn : n ≤ 1000000) :
    Calls Tryz.prog 51 #[.pointer (some ⟨gs, 0, none⟩), .int .i64 n] w fun e w' => ∃ r, e = .returned (.int .i64 r) ∧ 0 ≤ r ∧ (r < n ∨ (r = 0 ∧ n ≤ 1)) ∧ SrcAt w' gs (k + 2) ∧ w.grownBy w' (some gs) := by
  by_cases h1 : n ≤ 1
  · go_enter Tryz.func51, Tryz.ntmps51
    go_wp2_with fail
    go_ret
    exact ⟨0, rfl, by omega, .inr ⟨rfl, h1⟩, h.mono (by omega), World.grownBy.refl _ _⟩
  · have n0 : 0 < n := by omega
    have nz : ¬ n = 0 := by omega
    have H := hid h
    clear h
    by_cases h2 : n > 200
    · go_enter Tryz.func51, Tryz.ntmps51
      go_wp2_with fail
      refine (next_any gs k _ H.out (by omega)).mono ?_
      rintro e w1 ⟨r, rfl, r0, r1, hs1, hg1⟩
      have HS := hid hs1
      have HG := hid hg1
      clear hs1 hg1
      go_wp2_with fail
      refine (next_any gs (k + 1) _ HS.out (by omega)).mono ?_
      rintro e w2 ⟨q, rfl, q0, q1, hs2, hg2⟩
      have HS2 := hid hs2
      have HG2 := hid hg2
      clear hs2 hg2
      have m0 := Int.emod_nonneg (r * 256 + q) nz
      have m1 := Int.emod_lt_of_pos (r * 256 + q) n0
      go_wp2_with fail
      go_ret
      exact ⟨_, rfl, m0, .inl m1, HS2.out, HG.out.trans HG2.out⟩
    · go_enter Tryz.func51, Tryz.ntmps51
      go_wp2_with fail
      refine (next_any gs k _ H.out (by omega)).mono ?_
      rintro e w1 ⟨r, rfl, r0, r1, hs1, hg1⟩
      have HS := hid hs1
      have HG := hid hg1
      clear hs1 hg1
      have m0 := Int.emod_nonneg r nz
      have m1 := Int.emod_lt_of_pos r n0
      go_wp2_with fail
      go_ret
      exact ⟨_, rfl, m0, .inl m1, HS.out.mono (by omega), HG.out⟩
theorem one_any (gs k : Nat) (n : Int) (w : World) (h : SrcAt w gs k) (hk : k ≤ 900000) (hn : n ≤ 1000000) :
    Calls Tryz.prog 29 #[.pointer (some ⟨gs, 0, none⟩), .int .i64 n] w fun e w' => ∃ b, e = .returned (.bool b) ∧ SrcAt w' gs (k + 2) ∧ w.grownBy w' (some gs) := by
  have hp := pick_any gs k n w h hk hn
  clear h
  go_enter Tryz.func29, Tryz.ntmps29
  go_wp2_with (go_at_call 51; refine hp.mono ?_; rintro e w1 ⟨r, rfl, _, _, hs, hg⟩)
  go_ret
  exact ⟨_, rfl, hs, hg⟩
/-- one of some numbers -/
theorem among_any (gs k : Nat) (A : Option Addr) (n c : Nat) (xs : List Int) (w : World) (h : SrcAt w gs k) (hk : k ≤ 900000) (hn : n ≤ 1000) (hn0 : 0 < n) (hx : Sl w w.heap.size 1 encI A n xs) (hA : ∀ b off s, A = some ⟨b, off, s⟩ → b ≠ gs) :
    Calls Tryz.prog 54 #[.pointer (some ⟨gs, 0, none⟩), .slice A n c] w fun e w' => ∃ r, e = .returned (.int .i64 r) ∧ r ∈ xs ∧ SrcAt w' gs (k + 2) ∧ w.grownBy w' (some gs) := by
  have hp := pick_any gs k n w h hk (by omega)
  have hpost : ∀ (r : Int) (w1 : World), 0 ≤ r → (r < n ∨ (r = 0 ∧ (n : Int) ≤ 1)) → w.grownBy w1 (some gs) → ∃ (i : Nat) (z : Int) (b off : Nat), r = i ∧ (i : Int) < (n : Int) ∧ z ∈ xs ∧ A = some ⟨b, off, none⟩ ∧ w1.cell? ⟨b, off + i, none⟩ = some (.int .i64 z) := by
    intro r w1 r0 r1 hg
    have hi : r.toNat < n := by omega
    obtain ⟨z, b, off, Hx, e, hb, cb⟩ := hx.int hi
    refine ⟨r.toNat, z, b, off, by omega, by omega, List.mem_of_getElem? Hx.out, e, hg.cell cb (fun e2 => hA _ _ _ e (by simpa using e2))⟩
  have HP := hid hpost
  clear h hx hpost
  go_enter Tryz.func54, Tryz.ntmps54
  go_wp2_with (go_at_call 51; refine hp.mono ?_; rintro e w1 ⟨r, rfl, r0, r1, hs, hg⟩; obtain ⟨i, z, b, off, rfl, hin, hz, rfl, cz⟩ := HP.out _ _ r0 r1 hg; have hi0 : (0 : Int) ≤ (i : Int) := Int.natCast_nonneg i)
  go_ret
  exact ⟨z, rfl, hz, hs, hg⟩
/-- a new source -/
theorem l00From_any (v : Value) (w : World) (hv : Bytes w w.heap.size 5000 v) :
    Calls Tryz.prog 25 #[v] w fun e w' => e = .returned (.pointer (some ⟨w.heap.size, 0, none⟩)) ∧ SrcAt w' w.heap.size 0 ∧ Below w.heap.size w w' ∧ w.heap.size < w'.heap.size := by
  have hv0 := hv
  obtain ⟨A, n, c, xs, rfl, hn, hx, hz⟩ := hv
  have HV := hid hv0
  clear hv0 hx hz
  go_enter Tryz.func25, Tryz.ntmps25
  go_wp2_with fail
  go_ret
  refine ⟨rfl, ⟨⟨_, 0, 0, ?_, HV.out.keep fun p hp => World.cell?_alloc_lt w _ p hp, ?_, ?_, Nat.le_refl _⟩, ?_, ?_⟩, (Below.refl _ _).alloc (Nat.le_refl _) _, by simp⟩
  all_goals go_simp
end Go.Proofs.YtngfhpklakhehaaGreatDoor
