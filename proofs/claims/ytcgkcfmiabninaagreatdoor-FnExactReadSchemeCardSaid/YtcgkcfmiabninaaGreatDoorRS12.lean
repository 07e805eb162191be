/-
  RS: texts Src, SDraw0, RNum, one behind the other. No condition but what each says.
-/
import Derived.Test.YtcgkcfmiabninaaGreatDoorRS11
import Derived.WalkSmall
import Derived.Deep.Cut
/-
  A source of choices: it hands out numbers within bounds, whatever its bytes are. No condition.
-/
namespace Go.Proofs.YtcgkcfmiabninaaGreatDoor
open Go.RowKit
set_option maxHeartbeats 400000

theorem heap_at {w : World} {o : Obj} {k : Nat} (h : k = w.heap.size) : (w.alloc o).heap[k]? = some o := by subst h; exact heap_alloc_new w o
def encB (z : Int) : List Value := [.int .u8 z]
theorem encB_len (z : Int) : (encB z).length = 1 := rfl
theorem Sl.byte {w : World} {B : Nat} {A : Option Addr} {n : Nat} {xs : List Int} (h : Sl w B 1 encB A n xs) {i : Nat} (hi : i < n) :
    ∃ z b off, Hid (xs[i]? = some z) ∧ A = some ⟨b, off, none⟩ ∧ b < B ∧ w.cell? ⟨b, off + i, none⟩ = some (.int .u8 z) := by
  obtain ⟨z, b, off, hx, e, hb, hc⟩ := h.at_ hi
  have := hc 0 _ rfl
  simp only [Nat.mul_one, Nat.add_zero] at this
  exact ⟨z, b, off, hx, e, hb, this⟩
/-- some bytes below block B, at most m -/
def Bytes (w : World) (B m : Nat) (v : Value) : Prop := ∃ A n c xs, v = .slice A n c ∧ n ≤ m ∧ Sl w B 1 encB A n xs ∧ ∀ z ∈ xs, 0 ≤ z ∧ z ≤ 255
/-- a source of choices in block gs; at most k numbers have been drawn -/
structure SrcAt (w : World) (gs k : Nat) : Prop where
  ex : ∃ v a s, w.cell? ⟨gs, 0, none⟩ = some v ∧ Bytes w gs 5000 v ∧ w.cell? ⟨gs, 1, none⟩ = some (.int .i64 (a : Nat)) ∧ w.cell? ⟨gs, 2, none⟩ = some (.int .u64 s) ∧ a ≤ k
  f1 : w.frozen? ⟨gs, 1, none⟩ = false
  f2 : w.frozen? ⟨gs, 2, none⟩ = false
theorem SrcAt.lt {w : World} {gs k : Nat} (h : SrcAt w gs k) : gs < w.heap.size := by
  obtain ⟨v, a, s, c0, _⟩ := h.ex
  exact World.block_lt_of_cell? _ _ c0
theorem Bytes.keep {w w' : World} {B m : Nat} {v : Value} (h : Bytes w B m v) (hk : ∀ p : Addr, p.block < B → w'.cell? p = w.cell? p) : Bytes w' B m v := by
  obtain ⟨A, n, c, xs, e, hn, hx, hz⟩ := h
  exact ⟨A, n, c, xs, e, hn, hx.keep hk, hz⟩
theorem Bytes.below {w w' : World} {B m : Nat} {v : Value} (h : Bytes w B m v) (hb : Below B w w') : Bytes w' B m v := h.keep fun _ hp => hb.cell hp
theorem Bytes.more {w : World} {B B' m : Nat} {v : Value} (h : Bytes w B m v) (hB : B ≤ B') : Bytes w B' m v := by
  obtain ⟨A, n, c, xs, e, hn, hx, hz⟩ := h
  exact ⟨A, n, c, xs, e, hn, hx.more hB, hz⟩
theorem SrcAt.mono {w : World} {gs k k' : Nat} (h : SrcAt w gs k) (hk : k ≤ k') : SrcAt w gs k' := by
  obtain ⟨⟨v, a, s, c0, hv, c1, c2, ha⟩, f1, f2⟩ := h
  exact ⟨⟨v, a, s, c0, hv, c1, c2, by omega⟩, f1, f2⟩
theorem SrcAt.below {w w' : World} {gs k : Nat} (h : SrcAt w gs k) (hb : Below (gs + 1) w w') : SrcAt w' gs k := by
  have hl := h.lt
  obtain ⟨⟨v, a, s, c0, hv, c1, c2, ha⟩, f1, f2⟩ := h
  refine ⟨⟨v, a, s, (hb.cell (p := ⟨gs, 0, none⟩) (by simp)).trans c0, hv.keep fun p hp => hb.cell (by omega), (hb.cell (p := ⟨gs, 1, none⟩) (by simp)).trans c1, (hb.cell (p := ⟨gs, 2, none⟩) (by simp)).trans c2, ha⟩, ?_, ?_⟩
  · exact (hb.frozen (p := ⟨gs, 1, none⟩) (by simp)).trans f1
  · exact (hb.frozen (p := ⟨gs, 2, none⟩) (by simp)).trans f2
/-- where a row that is not the source's is written -/
theorem SrcAt.grown {w w' : World} {gs k : Nat} {row : Option Nat} (h : SrcAt w gs k) (hg : w.grownBy w' row) (hr : ∀ b, row = some b → gs < b) : SrcAt w' gs k := by
  refine h.below ⟨hg.os, hg.tape, hg.output, hg.size, fun i hi => ?_⟩
  have hl := h.lt
  exact hg.block i (by omega) (fun e => by have := hr i e.symm; omega)

theorem SrcAt.alloc {w : World} {gs k : Nat} (h : SrcAt w gs k) (o : Obj) : SrcAt (w.alloc o) gs k := h.below ((Below.refl _ _).alloc (by have := h.lt; omega) o)
theorem SrcAt.set {w : World} {gs k : Nat} {p : Addr} {u : Value} (h : SrcAt w gs k) (hp : gs < p.block) : SrcAt (w.setCell p u) gs k := h.below ((Below.refl _ _).setCell (by omega) u)
/-- a row that is not the source's stays where the source is drawn from -/
theorem own_src {w w' : World} {gs lo T k n : Nat} {v : Value} {l : List Value} (h : w.ownsRow lo T k v n l) (hg : w.grownBy w' (some gs)) (hlo : gs < lo) : w'.ownsRow lo T k v n l := by
  refine own_keep (v2 := .slice (some ⟨gs, 0, none⟩) 0 0) h (fun b hb e => ?_) hg
  have h1 := (h.lt b e).1
  have h2 : gs = b := by simpa [Value.ownBlock] using hb
  omega
theorem below_src {w w' a : World} {gs B : Nat} (h : Below B a w) (hg : w.grownBy w' (some gs)) (hB : B ≤ gs) (hw : B ≤ w.heap.size) : Below B a w' := by
  refine grown_below (v := .slice (some ⟨gs, 0, none⟩) 0 0) h hg hw (fun b hb => ?_)
  have h2 : gs = b := by simpa [Value.ownBlock] using hb
  omega
theorem cell_src {w w' : World} {gs b o : Nat} {v : Value} (h : w.cell? ⟨b, o, none⟩ = some v) (hg : w.grownBy w' (some gs)) (hb : b ≠ gs) : w'.cell? ⟨b, o, none⟩ = some v := hg.cell h (fun e => hb (by simpa using e))
theorem frz_src {w w' : World} {gs b o : Nat} (h : w.frozen? ⟨b, o, none⟩ = false) (hg : w.grownBy w' (some gs)) (hb : b ≠ gs) (hl : b < w.heap.size) : w'.frozen? ⟨b, o, none⟩ = false := (hg.frozen_far ⟨b, o, none⟩ hl (fun e => hb (by simpa using e))).trans h
theorem and_255 (E : Int) (h0 : 0 ≤ E) (h1 : E ≤ 18446744073709551615) : 0 ≤ bits BinOp.and IntKind.u64 E 255 ∧ bits BinOp.and IntKind.u64 E 255 ≤ 255 := by
  have h := bits_and_u64_nat E.toNat 255 (by omega) (by omega)
  rw [Int.toNat_of_nonneg h0] at h
  have h2 : bits BinOp.and IntKind.u64 E 255 = ((E.toNat &&& 255 : Nat) : Int) := h
  have h3 : E.toNat &&& 255 ≤ 255 := Nat.and_le_right
  omega

theorem low_byte (x : Int) : 0 ≤ RowKit.wrap64 (bits BinOp.and IntKind.u64 (IntKind.u64.wrap x / 1099511627776) 255) ∧ RowKit.wrap64 (bits BinOp.and IntKind.u64 (IntKind.u64.wrap x / 1099511627776) 255) ≤ 255 := by
  have h1 : 0 ≤ IntKind.u64.wrap x ∧ IntKind.u64.wrap x ≤ 18446744073709551615 := by
    have e : IntKind.u64.wrap x = x % 18446744073709551616 := by simp [IntKind.wrap, IntKind.signed, IntKind.bits]
    omega
  generalize IntKind.u64.wrap x = y at h1
  have h2 := and_255 (y / 1099511627776) (by omega) (by omega)
  rw [IntWalk.wrap64_in _ (by omega)]
  exact h2
theorem src_set {w : World} {gs k a : Nat} {v : Value} {s S : Int} (hv : Bytes w gs 5000 v) (c0 : w.cell? ⟨gs, 0, none⟩ = some v) (c1 : w.cell? ⟨gs, 1, none⟩ = some (.int .i64 (a : Nat))) (c2 : w.cell? ⟨gs, 2, none⟩ = some (.int .u64 s)) (ha : a ≤ k)
    (f1 : w.frozen? ⟨gs, 1, none⟩ = false) (f2 : w.frozen? ⟨gs, 2, none⟩ = false) (m m' : Nat) :
    SrcAt ((((w.drewN m).setCell ⟨gs, 1, none⟩ (.int .i64 ((a : Int) + 1))).setCell ⟨gs, 2, none⟩ (.int .u64 S)).drewN m') gs (k + 1) ∧ w.grownBy ((((w.drewN m).setCell ⟨gs, 1, none⟩ (.int .i64 ((a : Int) + 1))).setCell ⟨gs, 2, none⟩ (.int .u64 S)).drewN m') (some gs) := by
  have d0 : (w.drewN m).cell? ⟨gs, 0, none⟩ = some v := c0
  have d1 : (w.drewN m).cell? ⟨gs, 1, none⟩ = some (.int .i64 (a : Nat)) := c1
  have d2 : (w.drewN m).cell? ⟨gs, 2, none⟩ = some (.int .u64 s) := c2
  have e2 : ((w.drewN m).setCell ⟨gs, 1, none⟩ (.int .i64 ((a : Int) + 1))).cell? ⟨gs, 2, none⟩ = some (.int .u64 s) := (World.cell?_setCell_other _ _ _ _ (by simp)).trans d2
  have e1 : ((w.drewN m).setCell ⟨gs, 1, none⟩ (.int .i64 ((a : Int) + 1))).cell? ⟨gs, 1, none⟩ = some (.int .i64 ((a : Int) + 1)) := World.cell?_setCell_same _ _ _ d1
  refine ⟨⟨⟨v, a + 1, S, ?_, ?_, ?_, ?_, by omega⟩, ?_, ?_⟩, gr_drewN (gr_set (gr_set (gr_drewN (World.grownBy.refl _ _))))⟩
  · exact (World.cell?_setCell_other _ _ _ _ (by simp)).trans ((World.cell?_setCell_other _ _ _ _ (by simp)).trans d0)
  · refine hv.keep fun p hp => ?_
    exact (cell_far (by simp only; omega)).trans ((cell_far (by simp only; omega)).trans rfl)
  · exact ((World.cell?_setCell_other _ _ _ _ (by simp)).trans e1).trans (by go_num)
  · exact World.cell?_setCell_same _ _ _ e2
  · show (((w.drewN m).setCell ⟨gs, 1, none⟩ (.int .i64 ((a : Int) + 1))).setCell ⟨gs, 2, none⟩ (.int .u64 S)).frozen? ⟨gs, 1, none⟩ = false
    rw [World.frozen?_setCell, World.frozen?_setCell]; exact f1
  · show (((w.drewN m).setCell ⟨gs, 1, none⟩ (.int .i64 ((a : Int) + 1))).setCell ⟨gs, 2, none⟩ (.int .u64 S)).frozen? ⟨gs, 2, none⟩ = false
    rw [World.frozen?_setCell, World.frozen?_setCell]; exact f2
set_option maxRecDepth 100000 in
theorem next_any (gs k : Nat) (w : World) (h : SrcAt w gs k) (hk : k ≤ 1000000) :
    Calls Tryz.prog 69 #[.pointer (some ⟨gs, 0, none⟩)] w fun e w' => ∃ r, e = .returned (.int .i64 r) ∧ 0 ≤ r ∧ r ≤ 255 ∧ SrcAt w' gs (k + 1) ∧ w.grownBy w' (some gs) := by
  obtain ⟨⟨v, a, s, c0, hv, c1, c2, ha⟩, f1, f2⟩ := h
  have key := fun S m m' => src_set (S := S) hv c0 c1 c2 ha f1 f2 m m'
  obtain ⟨A, n, c, xs, rfl, hn, hx, hz⟩ := hv
  have KEY := hid key
  clear key
  by_cases hlt : a < n
  · obtain ⟨z, b, off, Hx, rfl, hb, cb⟩ := hx.byte hlt
    have hz2 := hz z (List.mem_of_getElem? Hx.out)
    have ai : (0 : Int) ≤ (a : Int) := by omega
    have an : (a : Int) < (n : Int) := by omega
    clear hx hz
    go_enter Tryz.func69, Tryz.ntmps69
    go_wp2
    go_quiet (fail)
    go_wp2
    go_quiet (fail)
    go_wp2
    go_quiet (fail)
    go_wp2
    go_ret
    exact ⟨z, rfl, hz2.1, hz2.2, KEY.out _ _ _⟩
  · have ai : (0 : Int) ≤ (a : Int) := by omega
    have an : ¬ (a : Int) < (n : Int) := by omega
    have an2 : ¬ (a : Int) + 1 ≤ (n : Int) := by omega
    clear hx hz
    go_enter Tryz.func69, Tryz.ntmps69
    go_wp2
    go_quiet (fail)
    go_wp2
    go_quiet (fail)
    go_wp2
    go_ret
    exact ⟨_, rfl, (low_byte _).1, (low_byte _).2, KEY.out _ _ _⟩
/-- a number from 0 to n - 1; 0 where n is 1 or less -/
theorem pick_any (gs k : Nat) (n : Int) (w : World) (h : SrcAt w gs k) (hk : k ≤ 900000) (hn : n ≤ 1000000) :
    Calls Tryz.prog 44 #[.pointer (some ⟨gs, 0, none⟩), .int .i64 n] w fun e w' => ∃ r, e = .returned (.int .i64 r) ∧ 0 ≤ r ∧ (r < n ∨ (r = 0 ∧ n ≤ 1)) ∧ SrcAt w' gs (k + 2) ∧ w.grownBy w' (some gs) := by
  by_cases h1 : n ≤ 1
  · go_enter Tryz.func44, Tryz.ntmps44
    go_wp2_with fail
    go_ret
    exact ⟨0, rfl, by omega, .inr ⟨rfl, h1⟩, h.mono (by omega), World.grownBy.refl _ _⟩
  · have n0 : 0 < n := by omega
    have nz : ¬ n = 0 := by omega
    have H := hid h
    clear h
    by_cases h2 : n > 200
    · go_enter Tryz.func44, Tryz.ntmps44
      go_wp2_with fail
      refine (next_any gs k _ H.out (by omega)).mono ?_
      rintro e w1 ⟨r, rfl, r0, r1, hs1, hg1⟩
      have HS := hid hs1
      have HG := hid hg1
      clear hs1 hg1
      go_wp2_with fail
      refine (next_any gs (k + 1) _ HS.out (by omega)).mono ?_
      rintro e w2 ⟨q, rfl, q0, q1, hs2, hg2⟩
      have HS2 := hid hs2
      have HG2 := hid hg2
      clear hs2 hg2
      have m0 := Int.emod_nonneg (r * 256 + q) nz
      have m1 := Int.emod_lt_of_pos (r * 256 + q) n0
      go_wp2_with fail
      go_ret
      exact ⟨_, rfl, m0, .inl m1, HS2.out, HG.out.trans HG2.out⟩
    · go_enter Tryz.func44, Tryz.ntmps44
      go_wp2_with fail
      refine (next_any gs k _ H.out (by omega)).mono ?_
      rintro e w1 ⟨r, rfl, r0, r1, hs1, hg1⟩
      have HS := hid hs1
      have HG := hid hg1
      clear hs1 hg1
      have m0 := Int.emod_nonneg r nz
      have m1 := Int.emod_lt_of_pos r n0
      go_wp2_with fail
      go_ret
      exact ⟨_, rfl, m0, .inl m1, HS.out.mono (by omega), HG.out⟩
/-- one of some numbers -/
theorem among_any (gs k : Nat) (A : Option Addr) (n c : Nat) (xs : List Int) (w : World) (h : SrcAt w gs k) (hk : k ≤ 900000) (hn : n ≤ 1000) (hn0 : 0 < n) (hx : Sl w w.heap.size 1 encI A n xs) (hA : ∀ b off s, A = some ⟨b, off, s⟩ → b ≠ gs) :
    Calls Tryz.prog 45 #[.pointer (some ⟨gs, 0, none⟩), .slice A n c] w fun e w' => ∃ r, e = .returned (.int .i64 r) ∧ r ∈ xs ∧ SrcAt w' gs (k + 2) ∧ w.grownBy w' (some gs) := by
  have hp := pick_any gs k n w h hk (by omega)
  have hpost : ∀ (r : Int) (w1 : World), 0 ≤ r → (r < n ∨ (r = 0 ∧ (n : Int) ≤ 1)) → w.grownBy w1 (some gs) → ∃ (i : Nat) (z : Int) (b off : Nat), r = i ∧ (i : Int) < (n : Int) ∧ z ∈ xs ∧ A = some ⟨b, off, none⟩ ∧ w1.cell? ⟨b, off + i, none⟩ = some (.int .i64 z) := by
    intro r w1 r0 r1 hg
    have hi : r.toNat < n := by omega
    obtain ⟨z, b, off, Hx, e, hb, cb⟩ := hx.int hi
    refine ⟨r.toNat, z, b, off, by omega, by omega, List.mem_of_getElem? Hx.out, e, hg.cell cb (fun e2 => hA _ _ _ e (by simpa using e2))⟩
  have HP := hid hpost
  clear h hx hpost
  go_enter Tryz.func45, Tryz.ntmps45
  go_wp2_with (go_at_call 44; refine hp.mono ?_; rintro e w1 ⟨r, rfl, r0, r1, hs, hg⟩; obtain ⟨i, z, b, off, rfl, hin, hz, rfl, cz⟩ := HP.out _ _ r0 r1 hg; have hi0 : (0 : Int) ≤ (i : Int) := Int.natCast_nonneg i)
  go_ret
  exact ⟨z, rfl, hz, hs, hg⟩
/-- a new source -/
theorem l00From_any (v : Value) (w : World) (hv : Bytes w w.heap.size 5000 v) :
    Calls Tryz.prog 39 #[v] w fun e w' => e = .returned (.pointer (some ⟨w.heap.size, 0, none⟩)) ∧ SrcAt w' w.heap.size 0 ∧ Below w.heap.size w w' ∧ w.heap.size < w'.heap.size := by
  have hv0 := hv
  obtain ⟨A, n, c, xs, rfl, hn, hx, hz⟩ := hv
  have HV := hid hv0
  clear hv0 hx hz
  go_enter Tryz.func39, Tryz.ntmps39
  go_wp2_with fail
  go_ret
  refine ⟨rfl, ⟨⟨_, 0, 0, ?_, HV.out.keep fun p hp => World.cell?_alloc_lt w _ p hp, ?_, ?_, Nat.le_refl _⟩, ?_, ?_⟩, (Below.refl _ _).alloc (Nat.le_refl _) _, by simp⟩
  all_goals go_simp
end Go.Proofs.YtcgkcfmiabninaaGreatDoor
/-
  A source of choices: a text; a scheme under way beside a source and a result's block. No condition.
-/
namespace Go.Proofs.YtcgkcfmiabninaaGreatDoor
open Go.RowKit
set_option maxHeartbeats 400000

/-- one of some texts -/
theorem text_any (gs k : Nat) (A : Option Addr) (n c : Nat) (xs : List ByteArray) (w : World) (h : SrcAt w gs k) (hk : k ≤ 900000) (hn : n ≤ 1000) (hn0 : 0 < n) (hx : Sl w w.heap.size 1 encS A n xs) (hA : ∀ b off s, A = some ⟨b, off, s⟩ → b ≠ gs) :
    Calls Tryz.prog 67 #[.pointer (some ⟨gs, 0, none⟩), .slice A n c] w fun e w' => ∃ r, e = .returned (.string r) ∧ r ∈ xs ∧ SrcAt w' gs (k + 2) ∧ w.grownBy w' (some gs) := by
  have hp := pick_any gs k n w h hk (by omega)
  have hpost : ∀ (r : Int) (w1 : World), 0 ≤ r → (r < n ∨ (r = 0 ∧ (n : Int) ≤ 1)) → w.grownBy w1 (some gs) → ∃ (i : Nat) (z : ByteArray) (b off : Nat), r = i ∧ (i : Int) < (n : Int) ∧ z ∈ xs ∧ A = some ⟨b, off, none⟩ ∧ w1.cell? ⟨b, off + i, none⟩ = some (.string z) := by
    intro r w1 r0 r1 hg
    have hi : r.toNat < n := by omega
    obtain ⟨z, b, off, Hx, e, hb, cb⟩ := hx.str hi
    refine ⟨r.toNat, z, b, off, by omega, by omega, List.mem_of_getElem? Hx.out, e, hg.cell cb (fun e2 => hA _ _ _ e (by simpa using e2))⟩
  have HP := hid hpost
  clear h hx hpost
  go_enter Tryz.func67, Tryz.ntmps67
  go_wp2_with (go_at_call 44; refine hp.mono ?_; rintro e w1 ⟨r, rfl, r0, r1, hs, hg⟩; obtain ⟨i, z, b, off, rfl, hin, hz, rfl, cz⟩ := HP.out _ _ r0 r1 hg; have hi0 : (0 : Int) ≤ (i : Int) := Int.natCast_nonneg i)
  go_ret
  exact ⟨z, rfl, hz, hs, hg⟩
theorem own_apartS {w w' : World} {lo T k n : Nat} {v : Value} {l : List Value} {row : Option Nat} (h : w.ownsRow lo T k v n l) (hg : w.grownBy w' row) (hn : ∀ b, row = some b → v.ownBlock ≠ some b) : w'.ownsRow lo T k v n l := by
  cases row with
  | none => exact own_keep (v2 := .slice none 0 0) h (fun b hb => by simp [Value.ownBlock] at hb) hg
  | some b => exact own_keep (v2 := .slice (some ⟨b, 0, none⟩) 0 0) h (fun q hq => by simp [Value.ownBlock] at hq; subst hq; exact hn _ rfl) hg
theorem src_grow {a w w' : World} {gs : Nat} {row : Option Nat} (h : a.grownBy w (some gs)) (g : w.grownBy w' row) (hr : ∀ b, row = some b → a.heap.size ≤ b ∨ b = gs) : a.grownBy w' (some gs) :=
  ⟨g.os.trans h.os, g.tape.trans h.tape, g.output.trans h.output, Nat.le_trans h.size g.size, fun i hi hn => (g.block i (Nat.lt_of_lt_of_le hi h.size) (fun e => by
    rcases hr i e.symm with h1 | h1
    · omega
    · exact hn (by rw [h1]))).trans (h.block i hi hn)⟩
theorem src_gset {a w : World} {gs b o : Nat} {u : Value} (h : a.grownBy w (some gs)) (hp : a.heap.size ≤ b) : a.grownBy (w.setCell ⟨b, o, none⟩ u) (some gs) :=
  src_grow h (gr_set (World.grownBy.refl _ _)) (fun q hq => .inl (by injection hq with hq; subst hq; exact hp))
theorem src_below {a w w' : World} {gs B : Nat} (h : a.grownBy w (some gs)) (hb : Below B w w') (hB : a.heap.size ≤ B) : a.grownBy w' (some gs) :=
  ⟨hb.os.trans h.os, hb.tape.trans h.tape, hb.output.trans h.output, Nat.le_trans h.size hb.size, fun i hi hn => (hb.block i (by omega)).trans (h.block i hi hn)⟩
/-- a block of three cells -/
structure Blk3 (w : World) (gr : Nat) (v0 v1 v2 : Value) : Prop where
  c0 : w.cell? ⟨gr, 0, none⟩ = some v0
  c1 : w.cell? ⟨gr, 1, none⟩ = some v1
  c2 : w.cell? ⟨gr, 2, none⟩ = some v2
  f0 : w.frozen? ⟨gr, 0, none⟩ = false
  f1 : w.frozen? ⟨gr, 1, none⟩ = false
  f2 : w.frozen? ⟨gr, 2, none⟩ = false
namespace Blk3
variable {w w' : World} {gr : Nat} {v0 v1 v2 : Value}
theorem lt (t : Blk3 w gr v0 v1 v2) : gr < w.heap.size := World.block_lt_of_cell? _ _ t.c0
theorem at_ {B : Nat} (t : Blk3 w gr v0 v1 v2) (hb : Below B w w') (hB : gr < B) : Blk3 w' gr v0 v1 v2 :=
  ⟨(hb.cell (p := ⟨gr, 0, none⟩) hB).trans t.c0, (hb.cell (p := ⟨gr, 1, none⟩) hB).trans t.c1, (hb.cell (p := ⟨gr, 2, none⟩) hB).trans t.c2, (hb.frozen (p := ⟨gr, 0, none⟩) hB).trans t.f0, (hb.frozen (p := ⟨gr, 1, none⟩) hB).trans t.f1, (hb.frozen (p := ⟨gr, 2, none⟩) hB).trans t.f2⟩
theorem grow {row : Option Nat} (t : Blk3 w gr v0 v1 v2) (hg : w.grownBy w' row) (hne : row ≠ some gr) : Blk3 w' gr v0 v1 v2 :=
  have hl := t.lt
  have hn : some gr ≠ row := fun q => hne q.symm
  ⟨hg.cell t.c0 hn, hg.cell t.c1 hn, hg.cell t.c2 hn, (hg.frozen_far ⟨gr, 0, none⟩ hl hn).trans t.f0, (hg.frozen_far ⟨gr, 1, none⟩ hl hn).trans t.f1, (hg.frozen_far ⟨gr, 2, none⟩ hl hn).trans t.f2⟩
theorem set {b o : Nat} {u : Value} (t : Blk3 w gr v0 v1 v2) (hp : b ≠ gr) : Blk3 (w.setCell ⟨b, o, none⟩ u) gr v0 v1 v2 :=
  ⟨(cell_far hp).trans t.c0, (cell_far hp).trans t.c1, (cell_far hp).trans t.c2, by rw [World.frozen?_setCell]; exact t.f0, by rw [World.frozen?_setCell]; exact t.f1, by rw [World.frozen?_setCell]; exact t.f2⟩
theorem put (t : Blk3 w gr v0 v1 v2) (a b c : Value) : Blk3 (((w.setCell ⟨gr, 0, none⟩ a).setCell ⟨gr, 1, none⟩ b).setCell ⟨gr, 2, none⟩ c) gr a b c :=
  ⟨set3_0 t.c0 a b c, set3_1 t.c1 a b c, set3_2 t.c2 a b c, by rw [World.frozen?_setCell, World.frozen?_setCell, World.frozen?_setCell]; exact t.f0, by rw [World.frozen?_setCell, World.frozen?_setCell, World.frozen?_setCell]; exact t.f1, by rw [World.frozen?_setCell, World.frozen?_setCell, World.frozen?_setCell]; exact t.f2⟩
end Blk3
theorem XAt.src {w w' : World} {gs gx lo : Nat} {s : SV} {x : Sch} (h : XAt w gx lo s x) (hg : w.grownBy w' (some gs)) (hlo : gs < lo) (hgx : gs ≠ gx) : XAt w' gx lo s x :=
  have hl := h.lt
  have hn : (some gx : Option Nat) ≠ some gs := fun e => hgx (by simpa using e.symm)
  ⟨hg.cell h.k0 hn, hg.cell h.k1 hn, hg.cell h.k2 hn, (hg.frozen_far ⟨gx, 0, none⟩ hl hn).trans h.f0, (hg.frozen_far ⟨gx, 1, none⟩ hl hn).trans h.f1, (hg.frozen_far ⟨gx, 2, none⟩ hl hn).trans h.f2,
    ⟨own_src h.own.st hg hlo, own_src h.own.rm hg hlo, own_src h.own.wy hg hlo, h.own.ap12, h.own.ap13, h.own.ap23⟩, h.o1, h.o2, h.o3⟩
theorem XAt.far {w : World} {gx lo b o : Nat} {s : SV} {x : Sch} {u : Value} (h : XAt w gx lo s x) (hb : b ≠ gx) (hs : ∀ q, ((Value.slice s.A1 s.n1 s.c1).ownBlock = some q ∨ (Value.slice s.A2 s.n2 s.c2).ownBlock = some q ∨ (Value.slice s.A3 s.n3 s.c3).ownBlock = some q) → q ≠ b) : XAt (w.setCell ⟨b, o, none⟩ u) gx lo s x :=
  ⟨(cell_far hb).trans h.k0, (cell_far hb).trans h.k1, (cell_far hb).trans h.k2, by rw [World.frozen?_setCell]; exact h.f0, by rw [World.frozen?_setCell]; exact h.f1, by rw [World.frozen?_setCell]; exact h.f2,
    ⟨ow_set (fun e => hs b (.inl e) rfl) h.own.st, ow_set (fun e => hs b (.inr (.inl e)) rfl) h.own.rm, ow_set (fun e => hs b (.inr (.inr e)) rfl) h.own.wy, h.own.ap12, h.own.ap13, h.own.ap23⟩, h.o1, h.o2, h.o3⟩

/-- a scheme under way in block gx, a source in block gs, an empty result's block gr; a: the world of the call -/
structure StX (a w : World) (gs gr gx lo K : Nat) (s : SV) (x : Sch) : Prop where
  xa : XAt w gx lo s x
  src : SrcAt w gs K
  res : Blk3 w gr (.slice none 0 0) (.slice none 0 0) (.slice none 0 0)
  grn : a.grownBy w (some gs)
  h1 : gs < a.heap.size
  h2 : a.heap.size ≤ gr
  h3 : gr < lo
  h4 : lo ≤ gx
namespace StX
variable {a w w' : World} {gs gr gx lo K K' : Nat} {s : SV} {x : Sch}
theorem lt (t : StX a w gs gr gx lo K s x) : gx < w.heap.size := t.xa.lt
theorem up (t : StX a w gs gr gx lo K s x) (h : K ≤ K') : StX a w gs gr gx lo K' s x := ⟨t.xa, t.src.mono h, t.res, t.grn, t.h1, t.h2, t.h3, t.h4⟩
theorem pick (t : StX a w gs gr gx lo K s x) (hs : SrcAt w' gs K') (hg : w.grownBy w' (some gs)) : StX a w' gs gr gx lo K' s x :=
  have h1 := t.h1; have h2 := t.h2; have h3 := t.h3; have h4 := t.h4
  ⟨t.xa.src hg (by omega) (by omega), hs, t.res.grow hg (by simp; omega), t.grn.trans hg, h1, h2, h3, h4⟩
theorem below (t : StX a w gs gr gx lo K s x) (hb : Below w.heap.size w w') : StX a w' gs gr gx lo K s x :=
  have h1 := t.h1; have h2 := t.h2; have h3 := t.h3; have h4 := t.h4; have hl := t.lt
  ⟨t.xa.below hb, t.src.below (hb.mono (by omega)), t.res.at_ hb t.res.lt, src_below t.grn hb t.grn.size, h1, h2, h3, h4⟩
theorem alloc (t : StX a w gs gr gx lo K s x) (o : Obj) : StX a (w.alloc o) gs gr gx lo K s x := t.below ((Below.refl _ _).alloc (Nat.le_refl _) o)
theorem drew (t : StX a w gs gr gx lo K s x) : StX a w.drew gs gr gx lo K s x := t.below (Below.refl _ _).drew
/-- a store into a block that is none of its own -/
theorem set {b o : Nat} {u : Value} (t : StX a w gs gr gx lo K s x) (hb : gx < b) (hq : ∀ q, ((Value.slice s.A1 s.n1 s.c1).ownBlock = some q ∨ (Value.slice s.A2 s.n2 s.c2).ownBlock = some q ∨ (Value.slice s.A3 s.n3 s.c3).ownBlock = some q) → q < b) : StX a (w.setCell ⟨b, o, none⟩ u) gs gr gx lo K s x :=
  have h1 := t.h1; have h2 := t.h2; have h3 := t.h3; have h4 := t.h4
  ⟨t.xa.far (by omega) (fun q h => Nat.ne_of_lt (hq q h)), t.src.set (by simp only; omega), t.res.set (by omega), src_gset t.grn (by omega), h1, h2, h3, h4⟩
theorem lts (t : StX a w gs gr gx lo K s x) : ∀ q, ((Value.slice s.A1 s.n1 s.c1).ownBlock = some q ∨ (Value.slice s.A2 s.n2 s.c2).ownBlock = some q ∨ (Value.slice s.A3 s.n3 s.c3).ownBlock = some q) → q < w.heap.size := fun q h => by
  rcases h with h | h | h
  · exact (t.xa.own.st.lt q h).2
  · exact (t.xa.own.rm.lt q h).2
  · exact (t.xa.own.wy.lt q h).2
/-- what adds to the scheme in place -/
theorem add {s' : SV} {x' : Sch} (t : StX a w gs gr gx lo K s x) (hx : XAt w' gx lo s' x') (hb : Below lo w w') : StX a w' gs gr gx lo K s' x' :=
  have h1 := t.h1; have h2 := t.h2; have h3 := t.h3; have h4 := t.h4
  ⟨hx, t.src.below (hb.mono (by omega)), t.res.at_ hb h3, src_below t.grn hb (by omega), h1, h2, h3, h4⟩
/-- an element appended to one of its lists -/
theorem put {s' : SV} {x' : Sch} {o : Nat} {v u : Value} (t : StX a w gs gr gx lo K s x) (hg : w.grownBy w' v.ownBlock) (hv : ∀ b, v.ownBlock = some b → lo ≤ b) (hx : XAt (w'.setCell ⟨gx, o, none⟩ u) gx lo s' x') : StX a (w'.setCell ⟨gx, o, none⟩ u) gs gr gx lo K s' x' :=
  have h1 := t.h1; have h2 := t.h2; have h3 := t.h3; have h4 := t.h4
  ⟨hx, (t.src.grown hg (fun b hb => by have := hv b hb; omega)).set (by simp only; omega), (t.res.grow hg (fun e => by have := hv gr e; omega)).set (by omega),
    src_gset (src_grow t.grn hg (fun b hb => .inl (by have := hv b hb; omega))) (by omega), h1, h2, h3, h4⟩
end StX
/-- the scheme is replaced by one of other rows -/
theorem StX.reset {a w w' : World} {gs gr gx lo K : Nat} {s s' : SV} {x x' : Sch} (t : StX a w gs gr gx lo K s x) (ho : OwnX w' w.heap.size s' x') (hb : Below w.heap.size w w') :
    StX a (((w'.setCell ⟨gx, 0, none⟩ (.slice s'.A1 s'.n1 s'.c1)).setCell ⟨gx, 1, none⟩ (.slice s'.A2 s'.n2 s'.c2)).setCell ⟨gx, 2, none⟩ (.slice s'.A3 s'.n3 s'.c3)) gs gr gx lo K s' x' := by
  have h1 := t.h1; have h2 := t.h2; have h3 := t.h3; have h4 := t.h4; have hl := t.lt
  have n1 : (Value.slice s'.A1 s'.n1 s'.c1).ownBlock ≠ some gx := fun e => by have := (ho.st.lt _ e).1; omega
  have n2 : (Value.slice s'.A2 s'.n2 s'.c2).ownBlock ≠ some gx := fun e => by have := (ho.rm.lt _ e).1; omega
  have n3 : (Value.slice s'.A3 s'.n3 s'.c3).ownBlock ≠ some gx := fun e => by have := (ho.wy.lt _ e).1; omega
  have tb := t.below hb
  refine ⟨⟨set3_0 tb.xa.k0 _ _ _, set3_1 tb.xa.k1 _ _ _, set3_2 tb.xa.k2 _ _ _, ?_, ?_, ?_, ⟨ow_set3 n1 (ho.st.mono (by omega)), ow_set3 n2 (ho.rm.mono (by omega)), ow_set3 n3 (ho.wy.mono (by omega)), ho.ap12, ho.ap13, ho.ap23⟩, n1, n2, n3⟩, ((tb.src.set (by simp only; omega)).set (by simp only; omega)).set (by simp only; omega), ((tb.res.set (by omega)).set (by omega)).set (by omega), src_gset (src_gset (src_gset tb.grn (by omega)) (by omega)) (by omega), h1, h2, h3, h4⟩
  · rw [World.frozen?_setCell, World.frozen?_setCell, World.frozen?_setCell]; exact tb.xa.f0
  · rw [World.frozen?_setCell, World.frozen?_setCell, World.frozen?_setCell]; exact tb.xa.f1
  · rw [World.frozen?_setCell, World.frozen?_setCell, World.frozen?_setCell]; exact tb.xa.f2
/-- the parts of a scheme are few and short -/
def FewX (m : Nat) (x : Sch) : Prop := x.st.length ≤ m ∧ x.rm.length ≤ m ∧ x.wy.length ≤ m ∧ (∀ z ∈ x.st, z.size ≤ 12) ∧ (∀ z ∈ x.rm, z.size ≤ 12) ∧ ∀ y ∈ x.wy, y.fr.size ≤ 12 ∧ y.«to».size ≤ 12
def MetX (x : Sch) : Prop := ∀ y ∈ x.wy, 0 ≤ y.metres ∧ y.metres ≤ 2000
/-- what a draw of a scheme leaves -/
def DrawX (gs K : Nat) (p : Sch → Prop) (w : World) (r : Ending) (w' : World) : Prop :=
  ∃ (s : SV) (x : Sch), r = .returned s.v ∧ OwnX w' w.heap.size s x ∧ p x ∧ SrcAt w' gs K ∧ w.grownBy w' (some gs)
/-- the end of a draw: the scheme is written into the result's block -/
theorem StX.fin {a w : World} {gs gr gx lo K : Nat} {s : SV} {x : Sch} (t : StX a w gs gr gx lo K s x) :
    OwnX (((w.setCell ⟨gr, 0, none⟩ (.slice s.A1 s.n1 s.c1)).setCell ⟨gr, 1, none⟩ (.slice s.A2 s.n2 s.c2)).setCell ⟨gr, 2, none⟩ (.slice s.A3 s.n3 s.c3)) a.heap.size s x ∧
    SrcAt (((w.setCell ⟨gr, 0, none⟩ (.slice s.A1 s.n1 s.c1)).setCell ⟨gr, 1, none⟩ (.slice s.A2 s.n2 s.c2)).setCell ⟨gr, 2, none⟩ (.slice s.A3 s.n3 s.c3)) gs K ∧
    a.grownBy (((w.setCell ⟨gr, 0, none⟩ (.slice s.A1 s.n1 s.c1)).setCell ⟨gr, 1, none⟩ (.slice s.A2 s.n2 s.c2)).setCell ⟨gr, 2, none⟩ (.slice s.A3 s.n3 s.c3)) (some gs) := by
  have h1 := t.h1; have h2 := t.h2; have h3 := t.h3; have h4 := t.h4
  have ho := t.xa.own
  have f : ∀ {A : Option Addr} {n c T k : Nat} {l : List Value}, w.ownsRow lo T k (.slice A n c) n l → (((w.setCell ⟨gr, 0, none⟩ (.slice s.A1 s.n1 s.c1)).setCell ⟨gr, 1, none⟩ (.slice s.A2 s.n2 s.c2)).setCell ⟨gr, 2, none⟩ (.slice s.A3 s.n3 s.c3)).ownsRow a.heap.size T k (.slice A n c) n l := fun o =>
    (ow_set3 (fun e => by have := (o.lt _ e).1; omega) o).mono (by omega)
  exact ⟨⟨f ho.st, f ho.rm, f ho.wy, ho.ap12, ho.ap13, ho.ap23⟩, ((t.src.set (by simp only; omega)).set (by simp only; omega)).set (by simp only; omega), src_gset (src_gset (src_gset t.grn h2) h2) h2⟩
end Go.Proofs.YtcgkcfmiabninaaGreatDoor
/-
  Numbers read from their decimal form: the reference's way. No condition.
-/
namespace Go.Proofs.YtcgkcfmiabninaaGreatDoor
open Go.RowKit
set_option maxHeartbeats 400000

/-- a number, and whether there is one -/
def numO : Option Int → Value
  | some n => .tuple #[.int .i64 n, .bool true]
  | none => .tuple #[.int .i64 0, .bool false]
def NumP (w : World) (o : Option Int) (r : Ending) (w' : World) : Prop := r = .returned (numO o) ∧ Below w.heap.size w w'
theorem NumP.no {w w' : World} {o : Option Int} (h : o = none) (hb : Below w.heap.size w w') : NumP w o (.returned (.tuple #[.int .i64 0, .bool false])) w' := by subst h; exact ⟨rfl, hb⟩
theorem NumP.yes {w w' : World} {o : Option Int} {n : Int} (h : o = some n) (hb : Below w.heap.size w w') : NumP w o (.returned (.tuple #[.int .i64 n, .bool true])) w' := by subst h; exact ⟨rfl, hb⟩
def digB (c : UInt8) : Bool := decide (48 ≤ (c.toNat : Int)) && decide ((c.toNat : Int) ≤ 57)
theorem digB_yes {c : UInt8} (h : digB c = true) : 48 ≤ c.toNat ∧ c.toNat ≤ 57 := by simp [digB] at h; omega
theorem digB_no {c : UInt8} (h : digB c = false) : ¬ (48 ≤ c.toNat ∧ c.toNat ≤ 57) := by simp [digB] at h; omega
theorem l01DigitN_any (c : UInt8) (w : World) : Calls Tryz.prog 76 #[.int .u8 (c.toNat : Int)] w fun r w' => r = .returned (.bool (digB c)) ∧ w' = w := by
  go_enter Tryz.func76, Tryz.ntmps76
  go_wp2
  all_goals go_ret
  all_goals exact ⟨retB (by simp [digB]; try omega), rfl⟩
theorem rd_len {s : List UInt8} (h : (undash s).length < 1 ∨ 18 < (undash s).length) : rdN s = none := by unfold rdN; rw [if_pos h]
/-- how a text reads once its sign is off -/
theorem rd_neg {s t : List UInt8} (h1 : s.head? = some 45) (ht : undash s = t) (h : 1 ≤ t.length ∧ t.length ≤ 18) :
    rdN s = match Lib.decFrom 0 t with | none => none | some u => if Lib.itoa (-(u : Int)) = s then some (-(u : Int)) else none := by
  unfold rdN
  rw [ht, if_neg (by omega)]
  simp only [h1, if_true]
  rfl
theorem rd_pos {s t : List UInt8} (h1 : ¬ s.head? = some 45) (ht : undash s = t) (h : 1 ≤ t.length ∧ t.length ≤ 18) :
    rdN s = match Lib.decFrom 0 t with | none => none | some u => if Lib.itoa (u : Int) = s then some (u : Int) else none := by
  unfold rdN
  rw [ht, if_neg (by omega)]
  simp only [h1, if_false]
  rfl
theorem undash_cut {s : ByteArray} (h0 : 0 < s.size) (h : s[0] = 45) : s.data.toList.head? = some 45 ∧ undash s.data.toList = (s.extract 1 s.size).data.toList ∧ (s.extract 1 s.size).size + 1 = s.size := by
  have h1 := bs_get h0
  rw [h] at h1
  have h2 : s.data.toList.head? = some 45 := by rw [List.head?_eq_getElem?]; exact h1
  have h3 : undash s.data.toList = (s.extract 1 s.size).data.toList := by
    unfold undash
    rw [if_pos h2, ext_end, List.drop_one]
  refine ⟨h2, h3, ?_⟩
  rw [← bs_len, ext_end, List.length_drop, bs_len]
  omega
theorem undash_keep {s : ByteArray} (h : ∀ h0 : 0 < s.size, s[0] ≠ 45) : ¬ s.data.toList.head? = some 45 ∧ undash s.data.toList = s.data.toList := by
  have h2 : ¬ s.data.toList.head? = some 45 := by
    rw [List.head?_eq_getElem?]
    intro e
    have hl := (List.getElem?_eq_some_iff.1 e).1
    rw [bs_len] at hl
    rw [bs_get hl] at e
    exact h hl (Option.some.inj e)
  exact ⟨h2, by unfold undash; rw [if_neg h2]⟩
theorem pow17 {k u : Nat} (h : u < 10 ^ k) (hk : k ≤ 17) : u < 100000000000000000 := Nat.lt_of_lt_of_le h (Nat.pow_le_pow_right (by omega) hk)
theorem pow18 {k u : Nat} (h : u < 10 ^ k) (hk : k ≤ 18) : u < 1000000000000000000 := Nat.lt_of_lt_of_le h (Nat.pow_le_pow_right (by omega) hk)
theorem pow_step {k u d : Nat} (h : u < 10 ^ k) (hd : d ≤ 9) : u * 10 + d < 10 ^ (k + 1) := by rw [Nat.pow_succ]; omega
theorem ba_eq {n : Int} {s : ByteArray} (h : Lib.itoa n = s.data.toList) : (⟨(Lib.itoa n).toArray⟩ : ByteArray) = s := by cases s; simp [h]
theorem ba_ne {n : Int} {s : ByteArray} (h : ¬ Lib.itoa n = s.data.toList) : (⟨(Lib.itoa n).toArray⟩ : ByteArray) ≠ s := fun e => h (by rw [← e])
set_option maxHeartbeats 8000000 in
set_option maxRecDepth 100000 in
theorem l01Number_any (s : ByteArray) (w : World) (hs : s.size ≤ 1048576) : Calls Tryz.prog 60 #[.string s] w (NumP w (rdN s.data.toList)) := by
  by_cases h0 : s.size = 0
  · have hl : s.data.toList = [] := List.eq_nil_of_length_eq_zero (by rw [bs_len]; exact h0)
    have E : Hid (rdN s.data.toList = none) := by rw [Hid, hl]; rfl
    have h1 : s.toList = [] := by rw [ByteArray.toList_eq, hl]
    have h3 : s.size < 1 := by omega
    clear hl h0
    go_enter Tryz.func60, Tryz.ntmps60
    go_wp2
    go_ret2
    exact NumP.no E.out (Below.refl _ _)
  · have hp : 0 < s.size := by omega
    have h1 : ¬ s.toList = [] := by
      rw [ByteArray.toList_eq]
      intro e
      have := bs_len s
      rw [e] at this
      simp at this
      omega
    have h2 : s.toList.isEmpty = false := by simpa using h1
    clear h0
    by_cases hc : s[0] = 45
    · obtain ⟨u1, u2, u3⟩ := undash_cut hp hc
      have HD := hid u1
      have e1 : (((s[0].toNat : Nat) : Int) == 45) = true := by rw [hc]; rfl
      obtain ⟨T, hT⟩ : ∃ T, T = s.extract 1 s.size := ⟨_, rfl⟩
      rw [← hT] at u2 u3
      have UD := hid u2
      have HT := hid hT
      have z1 : (1 : Int) ≤ (s.size : Int) := by omega
      have z2 : (T.size : Int) < (s.size : Int) := by omega
      clear u1 u2 u3 hc hT
      go_enter Tryz.func60, Tryz.ntmps60
      go_upto_region 4 with fail
      rw [← HT.out]
      clear HT
      by_cases hl : T.size < 1 ∨ 18 < T.size
      · have E : Hid (rdN s.data.toList = none) := rd_len (by rw [UD.out, bs_len]; exact hl)
        rcases hl with hl | hl
        · go_wp2
          go_ret2
          exact NumP.no E.out (Below.refl _ _)
        · have hl2 : ¬ T.size < 1 := by omega
          go_wp2
          go_ret2
          exact NumP.no E.out (Below.refl _ _)
      · have hl1 : ¬ T.size < 1 := by omega
        have hl2 : ¬ 18 < T.size := by omega
        have RD : Hid (rdN s.data.toList = match Lib.decFrom 0 T.data.toList with | none => none | some u => if Lib.itoa (-(u : Int)) = s.data.toList then some (-(u : Int)) else none) := rd_neg HD.out UD.out (by rw [bs_len]; omega)
        clear hl HD UD
        go_wp2
        go_loop [5, 6] (fun vn vi => ∃ (k u : Nat), k ≤ T.size ∧ vi = .int .i64 (k : Nat) ∧ vn = .int .i64 (u : Nat) ∧ Hid (u < 10 ^ k) ∧ Hid (Lib.decFrom 0 T.data.toList = Lib.decFrom u (T.data.toList.drop k))) (fun _ i => T.size - (intOf i).toNat)
        case atStart => exact ⟨0, 0, by omega, rfl, rfl, hid (by simp), hid rfl⟩
        case round =>
          obtain ⟨k, u, hk, rfl, rfl, hu, hE⟩ := hrel
          by_cases hkT : k < T.size
          · have hu17 := pow17 hu.out (by omega)
            have e1 := hE.out
            rw [drop_at (bs_get hkT), decFrom_cons] at e1
            have hdg := fun W => l01DigitN_any T[k] W
            have k0 : (0 : Int) ≤ (k : Int) := by omega
            have k1 : (k : Int) < (T.size : Int) := by omega
            cases hd : digB T[k] with
            | false =>
              have E : Hid (rdN s.data.toList = none) := by rw [Hid, RD.out, e1, if_neg (digB_no hd)]
              rw [hd] at hdg
              clear e1 hE hu
              go_wp2_with (go_at_call 76; refine (hdg _).mono ?_; rintro r w1 ⟨rfl, e⟩; replace e := e.symm; subst e)
              go_ret2
              exact NumP.no E.out (Below.refl _ _)
            | true =>
              obtain ⟨d0, d1⟩ := digB_yes hd
              rw [if_pos ⟨d0, d1⟩] at e1
              have E2 := hid e1
              have U2 := hid (pow_step hu.out (show T[k].toNat - 48 ≤ 9 by omega))
              rw [hd] at hdg
              have wr8 : IntKind.u8.wrap ((T[k].toNat : Int) - 48) = (T[k].toNat : Int) - 48 := by simp only [IntKind.wrap, IntKind.bits, IntKind.signed]; simp; omega
              have i48 : (48 : Int) ≤ (T[k].toNat : Int) := by omega
              have i57 : (T[k].toNat : Int) ≤ 57 := by omega
              clear e1 hE hu hd d0 d1
              go_wp2_with (go_at_call 76; refine (hdg _).mono ?_; rintro r w1 ⟨rfl, e⟩; replace e := e.symm; subst e)
              go_round
              case rel => exact ⟨k + 1, u * 10 + (T[k].toNat - 48), by omega, by go_num, by (congr 1; omega), U2, E2⟩
              case measure => simp [intOf]; omega
          · obtain rfl : k = T.size := by omega
            have hu18 := pow18 hu.out (by omega)
            have e1 := hE.out
            rw [List.drop_of_length_le (by rw [bs_len]; omega)] at e1
            have e2 := RD.out
            rw [e1] at e2
            have e3 : rdN s.data.toList = if Lib.itoa (-(u : Int)) = s.data.toList then some (-(u : Int)) else none := e2
            have E3 := hid e3
            obtain ⟨D, hD⟩ : ∃ D : ByteArray, D = ⟨(Lib.itoa (-(u : Int))).toArray⟩ := ⟨_, rfl⟩
            have cc := fun W => l01Dec_any (-(u : Int)) W (by omega) (by omega)
            have ev : itoaV (-(u : Int)) = .string D := by rw [hD]; rfl
            rw [ev] at cc
            by_cases hq : Lib.itoa (-(u : Int)) = s.data.toList
            · have E : Hid (rdN s.data.toList = some (-(u : Int))) := by rw [Hid, E3.out, if_pos hq]
              have q1 : (D.toList == s.toList) = true := bs_in (by rw [hD]; exact ba_eq hq)
              clear e1 e2 e3 hE RD E3 hq hD ev hu
              go_wp2_with (go_at_call 53; refine (cc _).mono ?_; rintro r w1 ⟨rfl, b1⟩)
              go_ret2
              exact NumP.yes E.out b1
            · have E : Hid (rdN s.data.toList = none) := by rw [Hid, E3.out, if_neg hq]
              have q1 : (D.toList == s.toList) = false := bs_ne (by rw [hD]; exact ba_ne hq)
              clear e1 e2 e3 hE RD E3 hq hD ev hu
              go_wp2_with (go_at_call 53; refine (cc _).mono ?_; rintro r w1 ⟨rfl, b1⟩)
              go_ret2
              exact NumP.no E.out b1
    · obtain ⟨u1, u2⟩ := undash_keep (fun _ => hc)
      have HD := hid u1
      have UD := hid u2
      have e1 : (((s[0].toNat : Nat) : Int) == 45) = false := by
        rw [beq_eq_false_iff_ne]
        intro e
        exact hc (UInt8.toNat_inj.1 (by simp only [UInt8.reduceToNat]; omega))
      clear u1 u2 hc
      go_enter Tryz.func60, Tryz.ntmps60
      go_upto_region 4 with fail
      by_cases hl : s.size < 1 ∨ 18 < s.size
      · have E : Hid (rdN s.data.toList = none) := rd_len (by rw [UD.out, bs_len]; exact hl)
        rcases hl with hl | hl
        · exact absurd hl (by omega)
        · have hl2 : ¬ s.size < 1 := by omega
          go_wp2
          go_ret2
          exact NumP.no E.out (Below.refl _ _)
      · have hl1 : ¬ s.size < 1 := by omega
        have hl2 : ¬ 18 < s.size := by omega
        have RD : Hid (rdN s.data.toList = match Lib.decFrom 0 s.data.toList with | none => none | some u => if Lib.itoa (u : Int) = s.data.toList then some (u : Int) else none) := rd_pos HD.out UD.out (by rw [bs_len]; omega)
        clear hl HD UD
        go_wp2
        go_loop [5, 6] (fun vn vi => ∃ (k u : Nat), k ≤ s.size ∧ vi = .int .i64 (k : Nat) ∧ vn = .int .i64 (u : Nat) ∧ Hid (u < 10 ^ k) ∧ Hid (Lib.decFrom 0 s.data.toList = Lib.decFrom u (s.data.toList.drop k))) (fun _ i => s.size - (intOf i).toNat)
        case atStart => exact ⟨0, 0, by omega, rfl, rfl, hid (by simp), hid rfl⟩
        case round =>
          obtain ⟨k, u, hk, rfl, rfl, hu, hE⟩ := hrel
          by_cases hkT : k < s.size
          · have hu17 := pow17 hu.out (by omega)
            have e1 := hE.out
            rw [drop_at (bs_get hkT), decFrom_cons] at e1
            have hdg := fun W => l01DigitN_any s[k] W
            have k0 : (0 : Int) ≤ (k : Int) := by omega
            have k1 : (k : Int) < (s.size : Int) := by omega
            cases hd : digB s[k] with
            | false =>
              have E : Hid (rdN s.data.toList = none) := by rw [Hid, RD.out, e1, if_neg (digB_no hd)]
              rw [hd] at hdg
              clear e1 hE hu
              go_wp2_with (go_at_call 76; refine (hdg _).mono ?_; rintro r w1 ⟨rfl, e⟩; replace e := e.symm; subst e)
              go_ret2
              exact NumP.no E.out (Below.refl _ _)
            | true =>
              obtain ⟨d0, d1⟩ := digB_yes hd
              rw [if_pos ⟨d0, d1⟩] at e1
              have E2 := hid e1
              have U2 := hid (pow_step hu.out (show s[k].toNat - 48 ≤ 9 by omega))
              rw [hd] at hdg
              have wr8 : IntKind.u8.wrap ((s[k].toNat : Int) - 48) = (s[k].toNat : Int) - 48 := by simp only [IntKind.wrap, IntKind.bits, IntKind.signed]; simp; omega
              have i48 : (48 : Int) ≤ (s[k].toNat : Int) := by omega
              have i57 : (s[k].toNat : Int) ≤ 57 := by omega
              clear e1 hE hu hd d0 d1
              go_wp2_with (go_at_call 76; refine (hdg _).mono ?_; rintro r w1 ⟨rfl, e⟩; replace e := e.symm; subst e)
              go_round
              case rel => exact ⟨k + 1, u * 10 + (s[k].toNat - 48), by omega, by go_num, by (congr 1; omega), U2, E2⟩
              case measure => simp [intOf]; omega
          · obtain rfl : k = s.size := by omega
            have hu18 := pow18 hu.out (by omega)
            have e1 := hE.out
            rw [List.drop_of_length_le (by rw [bs_len]; omega)] at e1
            have e2 := RD.out
            rw [e1] at e2
            have e3 : rdN s.data.toList = if Lib.itoa (u : Int) = s.data.toList then some (u : Int) else none := e2
            have E3 := hid e3
            obtain ⟨D, hD⟩ : ∃ D : ByteArray, D = ⟨(Lib.itoa (u : Int)).toArray⟩ := ⟨_, rfl⟩
            have cc := fun W => l01Dec_any (u : Int) W (by omega) (by omega)
            have ev : itoaV (u : Int) = .string D := by rw [hD]; rfl
            rw [ev] at cc
            by_cases hq : Lib.itoa (u : Int) = s.data.toList
            · have E : Hid (rdN s.data.toList = some (u : Int)) := by rw [Hid, E3.out, if_pos hq]
              have q1 : (D.toList == s.toList) = true := bs_in (by rw [hD]; exact ba_eq hq)
              clear e1 e2 e3 hE RD E3 hq hD ev hu
              go_wp2_with (go_at_call 53; refine (cc _).mono ?_; rintro r w1 ⟨rfl, b1⟩)
              go_ret2
              exact NumP.yes E.out b1
            · have E : Hid (rdN s.data.toList = none) := by rw [Hid, E3.out, if_neg hq]
              have q1 : (D.toList == s.toList) = false := bs_ne (by rw [hD]; exact ba_ne hq)
              clear e1 e2 e3 hE RD E3 hq hD ev hu
              go_wp2_with (go_at_call 53; refine (cc _).mono ?_; rintro r w1 ⟨rfl, b1⟩)
              go_ret2
              exact NumP.no E.out b1
end Go.Proofs.YtcgkcfmiabninaaGreatDoor
