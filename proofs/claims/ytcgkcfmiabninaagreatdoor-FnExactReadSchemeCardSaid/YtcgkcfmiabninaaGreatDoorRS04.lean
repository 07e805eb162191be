/-
  RS: texts Schm, Schm2, Name, SOk, one behind the other. No condition but what each says.
-/
import Derived.Test.YtcgkcfmiabninaaGreatDoorRS03
import Derived.Lib.SmallJoins
/-
  Schemes: three lists by value; sizes, copies, comparisons, marks; how one that comes in reads. No condition.
-/
namespace Go.Proofs.YtcgkcfmiabninaaGreatDoor
open Go.RowKit Go.ChangeShapes Go.WideShapes Go.ChangeAt Go.Deep
set_option maxHeartbeats 400000

structure Sch where
  st : List ByteArray
  rm : List ByteArray
  wy : List Way
  deriving DecidableEq
/-- the three slices of a scheme -/
structure SV where
  A1 : Option Addr
  n1 : Nat
  c1 : Nat
  A2 : Option Addr
  n2 : Nat
  c2 : Nat
  A3 : Option Addr
  n3 : Nat
  c3 : Nat
def SV.v (s : SV) : Value := .agg #[.slice s.A1 s.n1 s.c1, .slice s.A2 s.n2 s.c2, .slice s.A3 s.n3 s.c3]
structure SlX (w : World) (B : Nat) (s : SV) (x : Sch) : Prop where
  st : Sl w B 1 encS s.A1 s.n1 x.st
  rm : Sl w B 1 encS s.A2 s.n2 x.rm
  wy : Sl w B 3 encWay s.A3 s.n3 x.wy
theorem SlX.below {w w' : World} {B : Nat} {s : SV} {x : Sch} (h : SlX w B s x) (hb : Below B w w') : SlX w' B s x := ⟨h.st.below hb, h.rm.below hb, h.wy.below hb⟩
theorem SlX.more {w : World} {B B' : Nat} {s : SV} {x : Sch} (h : SlX w B s x) (hB : B ≤ B') : SlX w B' s x := ⟨h.st.more hB, h.rm.more hB, h.wy.more hB⟩
/-- all strings of a scheme are of some length -/
def BigX (x : Sch) : Prop := (∀ z ∈ x.st, z.size ≤ 9223372036854775807) ∧ (∀ z ∈ x.rm, z.size ≤ 9223372036854775807) ∧ ∀ z ∈ x.wy, z.fr.size ≤ 9223372036854775807 ∧ z.«to».size ≤ 9223372036854775807
def totX (x : Sch) : Nat := (x.st.length + totS x.st) + (x.rm.length + totS x.rm) + (x.wy.length + totWay x.wy)
/-- rows of a scheme of one's own -/
structure OwnX (w : World) (lo : Nat) (s : SV) (x : Sch) : Prop where
  st : w.ownsRow lo 9 1 (.slice s.A1 s.n1 s.c1) s.n1 (x.st.flatMap encS)
  rm : w.ownsRow lo 9 1 (.slice s.A2 s.n2 s.c2) s.n2 (x.rm.flatMap encS)
  wy : w.ownsRow lo 62 3 (.slice s.A3 s.n3 s.c3) s.n3 (x.wy.flatMap encWay)
  ap12 : ∀ b, (Value.slice s.A1 s.n1 s.c1).ownBlock = some b → (Value.slice s.A2 s.n2 s.c2).ownBlock ≠ some b
  ap13 : ∀ b, (Value.slice s.A1 s.n1 s.c1).ownBlock = some b → (Value.slice s.A3 s.n3 s.c3).ownBlock ≠ some b
  ap23 : ∀ b, (Value.slice s.A2 s.n2 s.c2).ownBlock = some b → (Value.slice s.A3 s.n3 s.c3).ownBlock ≠ some b
theorem OwnX.below {w w' : World} {lo : Nat} {s : SV} {x : Sch} (h : OwnX w lo s x) (hb : Below w.heap.size w w') : OwnX w' lo s x := ⟨own_below h.st hb, own_below h.rm hb, own_below h.wy hb, h.ap12, h.ap13, h.ap23⟩
theorem OwnX.sl {w : World} {lo : Nat} {s : SV} {x : Sch} (h : OwnX w lo s x) : SlX w w.heap.size s x := ⟨own_sl encS_len (by omega) h.st, own_sl encS_len (by omega) h.rm, own_sl encWay_len (by omega) h.wy⟩
theorem OwnX.mono {w : World} {lo lo' : Nat} {s : SV} {x : Sch} (h : OwnX w lo s x) (hl : lo' ≤ lo) : OwnX w lo' s x := ⟨h.st.mono hl, h.rm.mono hl, h.wy.mono hl, h.ap12, h.ap13, h.ap23⟩
/-- a scheme's rows are kept where blocks outside them are written -/
theorem OwnX.span {w w' : World} {lo : Nat} {s : SV} {x : Sch} (h : OwnX w lo s x) {a b : Nat} (hs : Span a b w w') (hv : w.heap.size ≤ a ∨ b ≤ lo) : OwnX w' lo s x := by
  refine ⟨hs.own h.st fun q hq hh => ?_, hs.own h.rm fun q hq hh => ?_, hs.own h.wy fun q hq hh => ?_, h.ap12, h.ap13, h.ap23⟩
  · have := h.st.lt q hq; omega
  · have := h.rm.lt q hq; omega
  · have := h.wy.lt q hq; omega
theorem Span.wide {lo hi lo' hi' : Nat} {a w : World} (h : Span lo hi a w) (h1 : lo' ≤ lo) (h2 : hi ≤ hi') : Span lo' hi' a w := ⟨h.os, h.tape, h.output, h.size, fun i hi hn => h.block i hi (fun hh => hn ⟨by omega, by omega⟩)⟩
def marksX (m : Int) (x : Sch) : Sch := ⟨marksS m x.st.length, marksS (m + x.st.length) x.rm.length, marksWay (m + x.st.length + x.rm.length) x.wy.length⟩
def lenX (x : Sch) : Int := x.st.length + x.rm.length + 3 * x.wy.length
theorem below_frz {w w' : World} {p : Addr} {v : Value} (hc : w.cell? p = some v) (h : w.frozen? p = false) (hb : Below w.heap.size w w') : w'.frozen? p = false := (hb.frozen (World.block_lt_of_cell? _ _ hc)).trans h
end Go.Proofs.YtcgkcfmiabninaaGreatDoor
/-
  Schemes: comparisons, marks; how one that comes in reads. No condition.
-/
namespace Go.Proofs.YtcgkcfmiabninaaGreatDoor
open Go.RowKit Go.ChangeShapes Go.WideShapes Go.ChangeAt Go.Deep Go.Joins
set_option maxHeartbeats 400000

def InX (s : SV) (lo hi : Nat) : Prop := ∀ b, ((Value.slice s.A1 s.n1 s.c1).ownBlock = some b ∨ (Value.slice s.A2 s.n2 s.c2).ownBlock = some b ∨ (Value.slice s.A3 s.n3 s.c3).ownBlock = some b) → lo ≤ b ∧ b < hi
theorem OwnX.inX {w : World} {lo : Nat} {s : SV} {x : Sch} (h : OwnX w lo s x) : InX s lo w.heap.size := fun b hb => by
  rcases hb with hb | hb | hb
  · exact h.st.lt b hb
  · exact h.rm.lt b hb
  · exact h.wy.lt b hb
set_option maxHeartbeats 1000000 in
theorem eqScheme_yes (s t : SV) (x : Sch) (w : World) (B : Nat) (hB : B ≤ w.heap.size) (hn1 : s.n1 ≤ 2000000) (hn2 : s.n2 ≤ 2000000) (hn3 : s.n3 ≤ 2000000) (hx : SlX w B s x) (hy : SlX w B t x) :
    Calls Tryz.prog 7 #[s.v, t.v] w fun e w' => e = .returned (.bool true) ∧ Below w.heap.size w w' := by
  obtain ⟨A1, n1, c1, A2, n2, c2, A3, n3, c3⟩ := s
  obtain ⟨A1', n1', c1', A2', n2', c2', A3', n3', c3'⟩ := t
  simp only [SV.v] at hn1 hn2 hn3 ⊢
  obtain ⟨W0, hW0⟩ : ∃ W0, W0 = (w.alloc (.cells #[.slice A1 n1 c1, .slice A2 n2 c2, .slice A3 n3 c3] 25)).alloc (.cells #[.slice A1' n1' c1', .slice A2' n2' c2', .slice A3' n3' c3'] 25) := ⟨_, rfl⟩
  have b0 : Below w.heap.size w W0 := by rw [hW0]; exact ((Below.refl _ _).alloc (Nat.le_refl _) _).alloc (by simp) _
  have k1 : W0.cell? ⟨w.heap.size, 1, none⟩ = some (.slice A2 n2 c2) := by rw [hW0]; go_simp
  have k2 : W0.cell? ⟨w.heap.size, 2, none⟩ = some (.slice A3 n3 c3) := by rw [hW0]; go_simp
  have l1 : W0.cell? ⟨w.heap.size + 1, 1, none⟩ = some (.slice A2' n2' c2') := by rw [hW0]; go_simp
  have l2 : W0.cell? ⟨w.heap.size + 1, 2, none⟩ = some (.slice A3' n3' c3') := by rw [hW0]; go_simp
  have HW := hid hW0
  have t1 := eqStringS_yes A1 n1 c1 A1' n1' c1' W0 B (Nat.le_trans hB b0.size) x.st hn1 (hx.st.below (b0.mono hB)) (hy.st.below (b0.mono hB))
  clear hW0
  go_enter Tryz.func7, Tryz.ntmps7
  go_wp2_with fail
  rw [← HW.out]
  refine t1.mono ?_
  rintro r w1 ⟨rfl, b1⟩
  replace k1 := below_cell k1 b1
  replace k2 := below_cell k2 b1
  replace l1 := below_cell l1 b1
  replace l2 := below_cell l2 b1
  replace b1 := b0.trans (b1.mono b0.size)
  go_wp2_with fail
  refine (eqStringS_yes A2 n2 c2 A2' n2' c2' _ B (Nat.le_trans hB b1.size) x.rm hn2 (hx.rm.below (b1.mono hB)) (hy.rm.below (b1.mono hB))).mono ?_
  rintro r w2 ⟨rfl, b2⟩
  replace k2 := below_cell k2 b2
  replace l2 := below_cell l2 b2
  replace b2 := b1.trans (b2.mono b1.size)
  go_wp2_with fail
  refine (eqWayS_yes A3 n3 c3 A3' n3' c3' _ B (Nat.le_trans hB b2.size) x.wy hn3 (hx.wy.below (b2.mono hB)) (hy.wy.below (b2.mono hB))).mono ?_
  rintro r w3 ⟨rfl, b3⟩
  go_wp2_with fail
  go_ret
  exact ⟨rfl, b2.trans (b3.mono b2.size)⟩
set_option maxHeartbeats 1000000 in
theorem markScheme_any (lo hi : Nat) (s : SV) (x : Sch) (m : Int) (w : World) (hn1 : s.n1 ≤ 2000000) (hn2 : s.n2 ≤ 2000000) (hn3 : s.n3 ≤ 2000000) (h0 : 0 ≤ m) (h1 : m ≤ 1000000) (ho : OwnX w lo s x) (hi' : InX s lo hi) :
    Calls Tryz.prog 9 #[s.v, .int .i64 m] w fun e w' => e = .returned (.int .i64 (m + lenX x)) ∧ OwnX w' lo s (marksX m x) ∧ Span lo hi w w' := by
  obtain ⟨A1, n1, c1, A2, n2, c2, A3, n3, c3⟩ := s
  simp only [SV.v] at hn1 hn2 hn3 ⊢
  obtain ⟨o1, o2, o3, p12, p13, p23⟩ := ho
  simp only at o1 o2 o3 p12 p13 p23
  have l1 := own_len encS_len (by omega) o1
  have l2 := own_len encS_len (by omega) o2
  have l3 := own_len encWay_len (by omega) o3
  have hl : lenX x = n1 + n2 + 3 * n3 := by simp only [lenX, ← l1, ← l2, ← l3]
  have hm : marksX m x = ⟨marksS m n1, marksS (m + n1) n2, marksWay (m + n1 + n2) n3⟩ := by simp only [marksX, ← l1, ← l2, ← l3]
  rw [hl, hm]
  obtain ⟨W0, hW0⟩ : ∃ W0, W0 = w.alloc (.cells #[.slice A1 n1 c1, .slice A2 n2 c2, .slice A3 n3 c3] 25) := ⟨_, rfl⟩
  have s0 : Span lo hi w W0 := by rw [hW0]; exact Span.ofBelow ((Below.refl _ _).alloc (Nat.le_refl _) _)
  have k1 : W0.cell? ⟨w.heap.size, 1, none⟩ = some (.slice A2 n2 c2) := by rw [hW0]; go_simp
  have k2 : W0.cell? ⟨w.heap.size, 2, none⟩ = some (.slice A3 n3 c3) := by rw [hW0]; go_simp
  have r1 : W0.ownsRow lo 9 1 (.slice A1 n1 c1) n1 (x.st.flatMap encS) := by rw [hW0]; exact o1.alloc _
  have r2 : W0.ownsRow lo 9 1 (.slice A2 n2 c2) n2 (x.rm.flatMap encS) := by rw [hW0]; exact o2.alloc _
  have r3 : W0.ownsRow lo 62 3 (.slice A3 n3 c3) n3 (x.wy.flatMap encWay) := by rw [hW0]; exact o3.alloc _
  have q1 := o1.lt
  have q2 := o2.lt
  have q3 := o3.lt
  have HW := hid hW0
  have hI1 : ∀ b, (Value.slice A1 n1 c1).ownBlock = some b → lo ≤ b ∧ b < hi := fun b h => hi' b (.inl h)
  have hI2 : ∀ b, (Value.slice A2 n2 c2).ownBlock = some b → lo ≤ b ∧ b < hi := fun b h => hi' b (.inr (.inl h))
  have hI3 : ∀ b, (Value.slice A3 n3 c3).ownBlock = some b → lo ≤ b ∧ b < hi := fun b h => hi' b (.inr (.inr h))
  clear hW0 o1 o2 o3 l1 l2 l3 hl hm hi'
  go_enter Tryz.func9, Tryz.ntmps9
  go_wp2_with fail
  rw [← HW.out]
  refine (markStringS_any lo A1 n1 c1 _ m W0 hn1 h0 (by omega) r1).mono ?_
  rintro r w1 ⟨rfl, m1, g1⟩
  have hne : ∀ (v : Value), (∀ b, v.ownBlock = some b → lo ≤ b ∧ b < w.heap.size) → some w.heap.size ≠ v.ownBlock := fun v h e => by have := (h _ e.symm).2; omega
  replace k1 := g1.cell k1 (hne _ q1)
  replace k2 := g1.cell k2 (hne _ q1)
  replace r2 := own_keep r2 (v2 := .slice A1 n1 c1) (fun b hb => p12 b hb) g1
  replace r3 := own_keep r3 (v2 := .slice A1 n1 c1) (fun b hb => p13 b hb) g1
  replace s0 := s0.trans (Span.ofGrown g1 hI1)
  clear g1 r1
  go_wp2_with fail
  refine (markStringS_any lo A2 n2 c2 _ (m + n1) w1 hn2 (by omega) (by omega) r2).mono ?_
  rintro r w2 ⟨rfl, m2, g2⟩
  replace k2 := g2.cell k2 (hne _ q2)
  replace m1 := own_keep m1 (v2 := .slice A2 n2 c2) (fun b hb e => p12 b e hb) g2
  replace r3 := own_keep r3 (v2 := .slice A2 n2 c2) (fun b hb => p23 b hb) g2
  replace s0 := s0.trans (Span.ofGrown g2 hI2)
  clear g2 r2
  go_wp2_with fail
  refine (markWayS_any lo A3 n3 c3 _ (m + n1 + n2) w2 hn3 (by omega) (by omega) r3).mono ?_
  rintro r w3 ⟨rfl, m3, g3⟩
  replace m1 := own_keep m1 (v2 := .slice A3 n3 c3) (fun b hb e => p13 b e hb) g3
  replace m2 := own_keep m2 (v2 := .slice A3 n3 c3) (fun b hb e => p23 b e hb) g3
  replace s0 := s0.trans (Span.ofGrown g3 hI3)
  clear g3 r3
  go_wp2_with fail
  go_ret
  exact ⟨retI (by omega), ⟨m1, m2, m3, p12, p13, p23⟩, s0⟩
set_option maxHeartbeats 1000000 in
theorem heldScheme_any (s : SV) (x : Sch) (m : Int) (w : World) (B : Nat) (hB : B ≤ w.heap.size) (hn1 : s.n1 ≤ 2000000) (hn2 : s.n2 ≤ 2000000) (hn3 : s.n3 ≤ 2000000) (hl1 : Hid (x.st.length = s.n1)) (hl2 : Hid (x.rm.length = s.n2)) (hl3 : Hid (x.wy.length = s.n3)) (h0 : 0 ≤ m) (h1 : m ≤ 1000000) (hx : SlX w B s (marksX m x)) :
    Calls Tryz.prog 11 #[s.v, .int .i64 m] w fun e w' => e = .returned (.int .i64 (m + lenX x)) ∧ Below w.heap.size w w' := by
  obtain ⟨A1, n1, c1, A2, n2, c2, A3, n3, c3⟩ := s
  simp only [SV.v] at hn1 hn2 hn3 hl1 hl2 hl3 ⊢
  have hl : lenX x = n1 + n2 + 3 * n3 := by simp only [lenX, hl1.out, hl2.out, hl3.out]
  have hm : marksX m x = ⟨marksS m n1, marksS (m + n1) n2, marksWay (m + n1 + n2) n3⟩ := by simp only [marksX, hl1.out, hl2.out, hl3.out]
  rw [hm] at hx
  rw [hl]
  obtain ⟨W0, hW0⟩ : ∃ W0, W0 = w.alloc (.cells #[.slice A1 n1 c1, .slice A2 n2 c2, .slice A3 n3 c3] 25) := ⟨_, rfl⟩
  have b0 : Below w.heap.size w W0 := by rw [hW0]; exact (Below.refl _ _).alloc (Nat.le_refl _) _
  have k1 : W0.cell? ⟨w.heap.size, 1, none⟩ = some (.slice A2 n2 c2) := by rw [hW0]; go_simp
  have k2 : W0.cell? ⟨w.heap.size, 2, none⟩ = some (.slice A3 n3 c3) := by rw [hW0]; go_simp
  have HW := hid hW0
  have t1 := heldStringS_any A1 n1 c1 m W0 B (Nat.le_trans hB b0.size) hn1 h0 (by omega) (hx.st.below (b0.mono hB))
  clear hW0 hl hm hl1 hl2 hl3
  go_enter Tryz.func11, Tryz.ntmps11
  go_wp2_with fail
  rw [← HW.out]
  refine t1.mono ?_
  rintro r w1 ⟨rfl, b1⟩
  replace k1 := below_cell k1 b1
  replace k2 := below_cell k2 b1
  replace b1 := b0.trans (b1.mono b0.size)
  go_wp2_with fail
  refine (heldStringS_any A2 n2 c2 (m + n1) _ B (Nat.le_trans hB b1.size) hn2 (by omega) (by omega) (hx.rm.below (b1.mono hB))).mono ?_
  rintro r w2 ⟨rfl, b2⟩
  replace k2 := below_cell k2 b2
  replace b2 := b1.trans (b2.mono b1.size)
  go_wp2_with fail
  refine (heldWayS_any A3 n3 c3 (m + n1 + n2) _ B (Nat.le_trans hB b2.size) hn3 (by omega) (by omega) (hx.wy.below (b2.mono hB))).mono ?_
  rintro r w3 ⟨rfl, b3⟩
  go_wp2_with fail
  go_ret
  exact ⟨retI (by omega), b2.trans (b3.mono b2.size)⟩
end Go.Proofs.YtcgkcfmiabninaaGreatDoor
/-
  Names: the program's test and the reference's. No condition.
-/
namespace Go.Proofs.YtcgkcfmiabninaaGreatDoor
open Go.RowKit
set_option maxHeartbeats 400000

theorem beq_int (a b : Int) : (a == b) = decide (a = b) := by by_cases h : a = b <;> simp [h]
def smallC (c : UInt8) : Bool := decide (97 ≤ (c.toNat : Int)) && decide ((c.toNat : Int) ≤ 122)
def digitC (c : UInt8) : Bool := decide (48 ≤ (c.toNat : Int)) && decide ((c.toNat : Int) ≤ 57)
def okC (c : UInt8) : Bool := smallC c || digitC c || decide ((c.toNat : Int) = 45)
def nameL : List UInt8 → Bool
  | [] => false
  | c :: r => smallC c && r.all okC
def nameB (s : ByteArray) : Bool := decide (s.size ≤ 12) && nameL s.data.toList
theorem nameB_big {s : ByteArray} (h : 12 < s.size) : nameB s = false := by simp [nameB]; omega
theorem nameB_nil {s : ByteArray} (h : s.size = 0) : nameB s = false := by
  have : s.data.toList = [] := List.eq_nil_of_length_eq_zero (by simpa using h)
  simp [nameB, nameL, this]
theorem bs_at {s : ByteArray} {k : Nat} (h : k < s.size) : s.data.toList[k]? = some s[k] := by
  rw [List.getElem?_eq_getElem (by simpa using h)]; rfl
theorem nameB_cons {s : ByteArray} (h0 : 0 < s.size) (h : s.size ≤ 12) : nameB s = (smallC s[0] && (s.data.toList.drop 1).all okC) := by
  have h1 := bs_at h0
  cases hl : s.data.toList with
  | nil => rw [hl] at h1; simp at h1
  | cons c r =>
    rw [hl] at h1
    simp at h1
    simp [nameB, nameL, hl, h, ← h1]
theorem bs_drop {s : ByteArray} {k : Nat} (h : k < s.size) : s.data.toList.drop k = s[k] :: s.data.toList.drop (k + 1) := drop_at (bs_at h)
theorem bs_end {s : ByteArray} : s.data.toList.drop s.size = [] := List.drop_of_length_le (by simp)
theorem l01Small_any (c : UInt8) (w : World) : Calls Tryz.prog 89 #[.int .u8 (c.toNat : Int)] w fun r w' => r = .returned (.bool (smallC c)) ∧ w' = w := by
  go_enter Tryz.func89, Tryz.ntmps89
  go_wp2
  all_goals go_ret
  all_goals exact ⟨retB (by simp [smallC]; try omega), rfl⟩
theorem l01Digit_any (c : UInt8) (w : World) : Calls Tryz.prog 76 #[.int .u8 (c.toNat : Int)] w fun r w' => r = .returned (.bool (digitC c)) ∧ w' = w := by
  go_enter Tryz.func76, Tryz.ntmps76
  go_wp2
  all_goals go_ret
  all_goals exact ⟨retB (by simp [digitC]; try omega), rfl⟩
set_option maxHeartbeats 2000000 in
theorem implIsName_any (s : ByteArray) (w : World) (hs : s.size ≤ 9223372036854775807) :
    Calls Tryz.prog 70 #[.string s] w fun r w' => r = .returned (.bool (nameB s)) ∧ w' = w := by
  by_cases h12 : 12 < s.size
  · have E := hid (nameB_big h12)
    go_enter Tryz.func70, Tryz.ntmps70
    go_wp2
    all_goals go_ret
    all_goals exact ⟨retB E.out.symm, rfl⟩
  by_cases h0 : s.size = 0
  · have E := hid (nameB_nil h0)
    have h1 : s.size < 1 := by omega
    clear h0
    go_enter Tryz.func70, Tryz.ntmps70
    go_wp2
    all_goals go_ret
    all_goals exact ⟨retB E.out.symm, rfl⟩
  have hp : 0 < s.size := by omega
  have h1 : ¬ s.size < 1 := by omega
  have E := hid (nameB_cons hp (by omega))
  clear h0
  cases hf : smallC s[0] with
  | false =>
    have E2 : Hid (nameB s = false) := by rw [Hid, E.out, hf]; rfl
    clear E
    simp [smallC] at hf
    go_enter Tryz.func70, Tryz.ntmps70
    go_wp2
    all_goals first
      | (go_ret; exact ⟨retB E2.out.symm, rfl⟩)
      | (exfalso; omega)
  | true =>
    have E2 : Hid (nameB s = (s.data.toList.drop 1).all okC) := by rw [Hid, E.out, hf]; rfl
    clear E
    simp [smallC] at hf
    obtain ⟨f1, f2⟩ := hf
    go_enter Tryz.func70, Tryz.ntmps70
    go_wp2
    go_loop [3] (fun i => ∃ k : Nat, k ≤ s.size ∧ 1 ≤ k ∧ i = .int .i64 k ∧ Hid (nameB s = (s.data.toList.drop k).all okC)) (fun i => s.size - (intOf i).toNat)
    case atStart => exact ⟨1, by omega, by omega, rfl, E2⟩
    case round =>
      obtain ⟨k, hk, hk1, rfl, he⟩ := hrel
      clear E2
      by_cases hlt : k < s.size
      · have he2 := he.out
        rw [bs_drop hlt, List.all_cons] at he2
        cases hc : okC s[k] with
        | false =>
          have E3 : Hid (nameB s = false) := by rw [Hid, he2, hc]; rfl
          clear he he2
          simp [okC, smallC, digitC] at hc
          go_wp2
          all_goals first
            | (go_ret; exact ⟨retB E3.out.symm, rfl⟩)
            | (exfalso; omega)
        | true =>
          have E3 : Hid (nameB s = (s.data.toList.drop (k + 1)).all okC) := by rw [Hid, he2, hc]; rfl
          clear he he2
          simp [okC, smallC, digitC] at hc
          go_wp2
          all_goals first
            | (exfalso; omega)
            | (go_round
               case rel => exact ⟨k + 1, by omega, by omega, by go_num, E3⟩
               case measure => simp [intOf]; omega)
      · have : k = s.size := by omega
        subst this
        have E3 : Hid (nameB s = true) := by rw [Hid, he.out, bs_end]; rfl
        clear he
        go_wp2
        go_ret
        exact ⟨retB E3.out.symm, rfl⟩
theorem toList_size (s : ByteArray) : s.toList.length = s.size := by rw [ByteArray.toList_eq]; simp
theorem bs_nil {s : ByteArray} (h : s.size = 0) : s.toList = [] := List.eq_nil_of_length_eq_zero (by rw [toList_size]; exact h)
theorem bs_full {s : ByteArray} (h : 0 < s.size) : s.toList.isEmpty = false := by
  cases hl : s.toList with
  | nil => have := toList_size s; rw [hl] at this; simp at this; omega
  | cons c r => rfl
set_option maxHeartbeats 2000000 in
theorem specIsName_any (s : ByteArray) (w : World) (hs : s.size ≤ 9223372036854775807) :
    Calls Tryz.prog 74 #[.string s] w fun r w' => r = .returned (.bool (nameB s)) ∧ w' = w := by
  by_cases h0 : s.size = 0
  · have E := hid (nameB_nil h0)
    have e0 := bs_nil h0
    clear h0
    go_enter Tryz.func74, Tryz.ntmps74
    go_wp2
    all_goals go_ret
    all_goals exact ⟨retB E.out.symm, rfl⟩
  have hp : 0 < s.size := by omega
  have e0 := bs_full hp
  clear h0
  by_cases h12 : 12 < s.size
  · have E := hid (nameB_big h12)
    go_enter Tryz.func74, Tryz.ntmps74
    go_wp2
    all_goals go_ret
    all_goals exact ⟨retB E.out.symm, rfl⟩
  have E := hid (nameB_cons hp (by omega))
  have hi := l01Small_any s[0]
  cases hf : smallC s[0] with
  | false =>
    have E2 : Hid (nameB s = false) := by rw [Hid, E.out, hf]; rfl
    rw [hf] at hi
    clear E hf
    go_enter Tryz.func74, Tryz.ntmps74
    go_wp2_with (go_at_call 89; refine (hi _).mono ?_; rintro r w1 ⟨rfl, rfl⟩)
    all_goals go_ret
    all_goals exact ⟨retB E2.out.symm, rfl⟩
  | true =>
    have E2 : Hid (nameB s = (s.data.toList.drop 0).all okC) := by
      rw [Hid, E.out, hf, bs_drop hp, List.all_cons, Bool.true_and]
      simp [okC, hf]
    rw [hf] at hi
    clear E hf
    go_enter Tryz.func74, Tryz.ntmps74
    go_wp2_with (go_at_call 89; refine (hi _).mono ?_; rintro r w1 ⟨rfl, rfl⟩)
    go_loop [3] (fun i => ∃ k : Nat, k ≤ s.size ∧ i = .int .i64 k ∧ Hid (nameB s = (s.data.toList.drop k).all okC)) (fun i => s.size - (intOf i).toNat)
    case atStart => exact ⟨0, by omega, rfl, E2⟩
    case round =>
      obtain ⟨k, hk, rfl, he⟩ := hrel
      clear E2 hi
      by_cases hlt : k < s.size
      · have he2 := he.out
        rw [bs_drop hlt, List.all_cons] at he2
        have h1 := l01Small_any s[k]
        have h2 := l01Digit_any s[k]
        have E3 : Hid (nameB s = ((smallC s[k] || digitC s[k] || decide (((s[k]).toNat : Int) = 45)) && (s.data.toList.drop (k + 1)).all okC)) := he2
        clear he he2
        cases q1 : smallC s[k] <;> cases q2 : digitC s[k]
        all_goals
          rw [q1] at h1 E3
          rw [q2] at h2 E3
          clear q1 q2
          cases q4 : decide (((s[k]).toNat : Int) = 45)
          all_goals
            have q5 : (((s[k]).toNat : Int) == 45) = decide (((s[k]).toNat : Int) = 45) := beq_int _ _
            rw [q4] at q5 E3
            clear q4
            go_wp2_with (first
              | (go_at_call 89; refine (h1 _).mono ?_; rintro r w1 ⟨rfl, rfl⟩)
              | (go_at_call 76; refine (h2 _).mono ?_; rintro r w1 ⟨rfl, rfl⟩))
          all_goals first
            | (go_ret; exact ⟨retB (by rw [E3.out]; rfl), rfl⟩)
            | (have E4 : Hid (nameB s = (s.data.toList.drop (k + 1)).all okC) := by rw [Hid, E3.out]; rfl
               go_round
               case rel => exact ⟨k + 1, by omega, by go_num, E4⟩
               case measure => simp [intOf]; omega)
      · have : k = s.size := by omega
        subst this
        have E3 : Hid (nameB s = true) := by rw [Hid, he.out, bs_end]; rfl
        clear he
        go_wp2
        go_ret
        exact ⟨retB E3.out.symm, rfl⟩
end Go.Proofs.YtcgkcfmiabninaaGreatDoor
/-
  Schemes: when one is valid; a scheme of one's own behind a pointer; names and ways in lists. No condition.
-/
namespace Go.Proofs.YtcgkcfmiabninaaGreatDoor
open Go.RowKit
set_option maxHeartbeats 400000

def hasS (l : List ByteArray) (z : ByteArray) : Bool := l.any fun y => decide (y = z)
def wayIs (f t : ByteArray) (x : Way) : Bool := decide (x.fr = f) && decide (x.«to» = t)
def hasW (l : List Way) (f t : ByteArray) : Bool := l.any (wayIs f t)
/-- the faults of a station, a room, a way that is added -/
def stF (ss : List ByteArray) (z : ByteArray) : Int := if nameB z then if hasS ss z then 5 else if ss.length < 20 then 0 else 8 else 3
def rmF (ss rs : List ByteArray) (z : ByteArray) : Int := if hasS ss z then if hasS rs z then 5 else 0 else 6
def wyF (ss : List ByteArray) (ws : List Way) (x : Way) : Int :=
  if hasS ss x.fr then if hasS ss x.«to» then if x.fr = x.«to» then 7 else if inR x.metres 1 2000 then if hasW ws x.fr x.«to» then 5 else if ws.length < 60 then 0 else 8 else 4 else 6 else 6
def okL {α : Type} (f : List α → α → Int) : List α → List α → Bool
  | _, [] => true
  | p, x :: r => decide (f p x = 0) && okL f (p ++ [x]) r
def validX (x : Sch) : Bool := okL stF [] x.st && (okL (rmF x.st) [] x.rm && okL (wyF x.st) [] x.wy)
theorem okL_at {α : Type} {f : List α → α → Int} {xs : List α} {k : Nat} {x : α} (h : xs[k]? = some x) :
    okL f (xs.take k) (xs.drop k) = (decide (f (xs.take k) x = 0) && okL f (xs.take (k + 1)) (xs.drop (k + 1))) := by
  rw [drop_at h, okL, take_at h]
theorem okL_end {α : Type} {f : List α → α → Int} {xs : List α} {k : Nat} (h : xs.length ≤ k) : okL f (xs.take k) (xs.drop k) = true := by
  rw [List.drop_of_length_le h]; rfl
theorem stF_zero {ss : List ByteArray} {z : ByteArray} (h : stF ss z = 0) : ss.length < 20 := by
  unfold stF at h
  split at h
  · split at h
    · omega
    · split at h
      · assumption
      · omega
  · omega
theorem wyF_zero {ss : List ByteArray} {ws : List Way} {x : Way} (h : wyF ss ws x = 0) : ws.length < 60 ∧ 1 ≤ x.metres ∧ x.metres ≤ 2000 := by
  unfold wyF at h
  split at h
  · split at h
    · split at h
      · omega
      · split at h
        · rename_i hm
          split at h
          · omega
          · split at h
            · simp [inR] at hm; exact ⟨by assumption, hm⟩
            · omega
        · omega
    · omega
  · omega

/-- a scheme of one's own in block gs -/
structure XAt (w : World) (gs lo : Nat) (s : SV) (x : Sch) : Prop where
  k0 : w.cell? ⟨gs, 0, none⟩ = some (.slice s.A1 s.n1 s.c1)
  k1 : w.cell? ⟨gs, 1, none⟩ = some (.slice s.A2 s.n2 s.c2)
  k2 : w.cell? ⟨gs, 2, none⟩ = some (.slice s.A3 s.n3 s.c3)
  f0 : w.frozen? ⟨gs, 0, none⟩ = false
  f1 : w.frozen? ⟨gs, 1, none⟩ = false
  f2 : w.frozen? ⟨gs, 2, none⟩ = false
  own : OwnX w lo s x
  o1 : (Value.slice s.A1 s.n1 s.c1).ownBlock ≠ some gs
  o2 : (Value.slice s.A2 s.n2 s.c2).ownBlock ≠ some gs
  o3 : (Value.slice s.A3 s.n3 s.c3).ownBlock ≠ some gs
theorem XAt.lt {w : World} {gs lo : Nat} {s : SV} {x : Sch} (h : XAt w gs lo s x) : gs < w.heap.size := World.block_lt_of_cell? _ _ h.k0
theorem XAt.below {w w' : World} {gs lo : Nat} {s : SV} {x : Sch} (h : XAt w gs lo s x) (hb : Below w.heap.size w w') : XAt w' gs lo s x :=
  ⟨below_cell h.k0 hb, below_cell h.k1 hb, below_cell h.k2 hb, below_frz h.k0 h.f0 hb, below_frz h.k1 h.f1 hb, below_frz h.k2 h.f2 hb, h.own.below hb, h.o1, h.o2, h.o3⟩
theorem XAt.len {w : World} {gs lo : Nat} {s : SV} {x : Sch} (h : XAt w gs lo s x) : s.n1 = x.st.length ∧ s.n2 = x.rm.length ∧ s.n3 = x.wy.length :=
  ⟨own_len encS_len (by omega) h.own.st, own_len encS_len (by omega) h.own.rm, own_len encWay_len (by omega) h.own.wy⟩

theorem IndexS_any (A : Option Addr) (n c : Nat) (xs : List ByteArray) (z : ByteArray) (w : World) (B : Nat) (hn : n ≤ 2000000) (hx : Sl w B 1 encS A n xs) :
    Calls Tryz.prog 86 #[.slice A n c, .string z] w fun r w' => r = .returned (.int .i64 (findFrom (fun y => decide (y = z)) 0 xs)) ∧ w' = w := by
  go_enter Tryz.func86, Tryz.ntmps86
  go_wp2
  go_loop [5, 8] (fun _ i => ∃ k : Nat, k ≤ n ∧ i = .int .i64 k ∧ Hid (findFrom (fun y => decide (y = z)) 0 xs = findFrom (fun y => decide (y = z)) k (xs.drop k))) (fun _ i => n - (intOf i).toNat)
  case atStart => exact ⟨0, Nat.zero_le _, rfl, hid rfl⟩
  case round =>
    obtain ⟨k, hk, rfl, he⟩ := hrel
    by_cases hlt : k < n
    · obtain ⟨y, b, off, Hy, rfl, hbB, c0⟩ := hx.str hlt
      have he2 := he.out
      rw [drop_at Hy.out, findFrom] at he2
      clear he hx
      by_cases q : y = z
      · rw [if_pos (decide_eq_true q)] at he2
        have He2 := hid he2
        have q1 := bs_in q
        have q2 := bs_in q.symm
        subst q
        clear he2
        go_wp2
        go_ret
        exact ⟨retI He2.out.symm, rfl⟩
      · rw [if_neg (by simpa using q)] at he2
        have He2 := hid he2
        have q1 := bs_ne q
        have q2 := bs_ne (Ne.symm q)
        clear he2 q
        go_wp2
        go_round
        case rel => exact ⟨k + 1, by omega, by go_num, He2⟩
        case measure => simp [intOf]; omega
    · have : k = n := by omega
      subst this
      have he2 := he.out
      rw [List.drop_of_length_le (by rw [hx.len]; omega), findFrom] at he2
      have He2 := hid he2
      clear he he2
      go_wp2
      go_ret
      exact ⟨retI He2.out.symm, rfl⟩
theorem ContainsS_any (A : Option Addr) (n c : Nat) (xs : List ByteArray) (z : ByteArray) (w : World) (B : Nat) (hn : n ≤ 2000000) (hx : Sl w B 1 encS A n xs) :
    Calls Tryz.prog 72 #[.slice A n c, .string z] w fun r w' => r = .returned (.bool (hasS xs z)) ∧ w' = w := by
  unfold hasS
  rw [← findFrom_any _ xs 0]
  have hc := IndexS_any A n c xs z w B hn hx
  generalize findFrom (fun y => decide (y = z)) 0 xs = r at hc
  clear hx
  go_enter Tryz.func72, Tryz.ntmps72
  go_wp2_with (go_at_call 86; refine hc.mono ?_; rintro e w' ⟨rfl, rfl⟩)
  go_ret
  exact ⟨rfl, rfl⟩
theorem hasStation_any (gs : Nat) (A : Option Addr) (n c : Nat) (xs : List ByteArray) (z : ByteArray) (w : World) (B : Nat) (hn : n ≤ 2000000) (hx : Sl w B 1 encS A n xs) (k0 : w.cell? ⟨gs, 0, none⟩ = some (.slice A n c)) :
    Calls Tryz.prog 71 #[.pointer (some ⟨gs, 0, none⟩), .string z] w fun r w' => r = .returned (.bool (hasS xs z)) ∧ w' = w := by
  have hc := ContainsS_any A n c xs z w B hn hx
  clear hx
  go_enter Tryz.func71, Tryz.ntmps71
  go_wp2_with (go_at_call 72; refine hc.mono ?_; rintro e w' ⟨rfl, rfl⟩)
  go_ret
  exact ⟨rfl, rfl⟩
theorem l21Has_any (A : Option Addr) (n c : Nat) (xs : List ByteArray) (z : ByteArray) (w : World) (B : Nat) (hn : n ≤ 2000000) (hx : Sl w B 1 encS A n xs) :
    Calls Tryz.prog 75 #[.slice A n c, .string z] w fun r w' => r = .returned (.bool (hasS xs z)) ∧ w' = w := by
  go_enter Tryz.func75, Tryz.ntmps75
  go_wp2
  go_loop [5] (fun i => ∃ k : Nat, k ≤ n ∧ i = .int .i64 k ∧ Hid (hasS xs z = hasS (xs.drop k) z)) (fun i => n - (intOf i).toNat)
  case atStart => exact ⟨0, Nat.zero_le _, rfl, hid rfl⟩
  case round =>
    obtain ⟨k, hk, rfl, he⟩ := hrel
    by_cases hlt : k < n
    · obtain ⟨y, b, off, Hy, rfl, hbB, c0⟩ := hx.str hlt
      have he2 := he.out
      rw [drop_at Hy.out] at he2
      clear he hx
      by_cases q : y = z
      · have He2 : Hid (hasS xs z = true) := by rw [he2]; simp [Hid, hasS, q]
        have q1 := bs_in q
        subst q
        clear he2
        go_wp2
        go_ret
        exact ⟨retB He2.out.symm, rfl⟩
      · have He2 : Hid (hasS xs z = hasS (xs.drop (k + 1)) z) := by rw [he2]; simp [Hid, hasS, q]
        have q1 := bs_ne q
        clear he2 q
        go_wp2
        go_round
        case rel => exact ⟨k + 1, by omega, by go_num, He2⟩
        case measure => simp [intOf]; omega
    · have : k = n := by omega
      subst this
      have he2 := he.out
      rw [List.drop_of_length_le (by rw [hx.len]; omega)] at he2
      have He2 := hid he2
      clear he he2
      go_wp2
      go_ret
      exact ⟨retB (by rw [He2.out]; rfl), rfl⟩
theorem IndexFunc_Way (g : Nat) (caps : Array Value) (p : Way → Bool) (eg : ∀ args w, (callFunc g args).run Tryz.prog w = .ok (.enter g args) w) (A : Option Addr) (n c : Nat) (xs : List Way) (w : World) (B : Nat) (hB : B ≤ w.heap.size) (hn : n ≤ 140737488355328)
    (hx : Sl w B 3 encWay A n xs) (hp : ∀ (W : World) (x y : ByteArray) (m : Int), (⟨x, y, m⟩ : Way) ∈ xs → Below w.heap.size w W → Calls Tryz.prog g (#[.agg #[.string x, .string y, .int .i64 m]] ++ caps) W fun e w' => e = .returned (.bool (p ⟨x, y, m⟩)) ∧ Below W.heap.size W w') :
    Calls Tryz.prog 102 #[.slice A n c, .func (.func g) #[] caps] w fun e w' => e = .returned (.int .i64 (findFrom p 0 xs)) ∧ Below w.heap.size w w' := by
  go_enter Tryz.func102, Tryz.ntmps102
  go_wp2
  go_loopw [5, 8] (fun _ i w1 => ∃ k : Nat, k ≤ n ∧ i = .int .i64 k ∧ Hid (findFrom p 0 xs = findFrom p k (xs.drop k)) ∧ Below w.heap.size w w1) (fun _ i _ => n - (intOf i).toNat)
  case atStart => exact ⟨0, Nat.zero_le _, rfl, hid rfl, Below.refl _ _⟩
  case round =>
    obtain ⟨k, hk, rfl, he, hb⟩ := hrel
    by_cases hlt : k < n
    · obtain ⟨x, y, m, b, off, Hx, rfl, hbB, c0, c1, c2⟩ := (hx.below (hb.mono hB)).atWay hlt
      have hcall := hp wr x y m (List.mem_of_getElem? Hx.out) hb
      have he2 := he.out
      rw [drop_at Hx.out, findFrom] at he2
      clear hp hx
      cases hq : p ⟨x, y, m⟩ with
      | true =>
        rw [hq] at hcall
        rw [hq, if_pos rfl] at he2
        have He2 := hid he2
        clear he2 hq
        go_wp2_with (go_at_fn g; refine hcall.mono ?_; rintro e w' ⟨rfl, hb'⟩)
        go_ret
        exact ⟨retI He2.out.symm, hb.trans (hb'.mono hb.size)⟩
      | false =>
        rw [hq] at hcall
        rw [hq, if_neg (by simp)] at he2
        have He2 := hid he2
        clear he2 hq
        go_wp2_with (go_at_fn g; refine hcall.mono ?_; rintro e w' ⟨rfl, hb'⟩)
        have hb2 := hb.trans (hb'.mono hb.size)
        go_roundw
        all_goals first | exact ⟨k + 1, by omega, by go_num, He2, hb2⟩ | exact ⟨⟨k + 1, by omega, by go_num, He2, hb2⟩, by simp [intOf]; omega⟩ | (simp [intOf]; omega)
    · have : k = n := by omega
      subst this
      have he2 := he.out
      rw [List.drop_of_length_le (by rw [hx.len]; omega), findFrom] at he2
      have He2 := hid he2
      clear he2
      go_wp2
      go_ret
      exact ⟨retI He2.out.symm, hb⟩
theorem ContainsFunc_Way (g : Nat) (caps : Array Value) (p : Way → Bool) (eg : ∀ args w, (callFunc g args).run Tryz.prog w = .ok (.enter g args) w) (A : Option Addr) (n c : Nat) (xs : List Way) (w : World) (B : Nat) (hB : B ≤ w.heap.size) (hn : n ≤ 140737488355328)
    (hx : Sl w B 3 encWay A n xs) (hp : ∀ (W : World) (x y : ByteArray) (m : Int), (⟨x, y, m⟩ : Way) ∈ xs → Below w.heap.size w W → Calls Tryz.prog g (#[.agg #[.string x, .string y, .int .i64 m]] ++ caps) W fun e w' => e = .returned (.bool (p ⟨x, y, m⟩)) ∧ Below W.heap.size W w') :
    Calls Tryz.prog 87 #[.slice A n c, .func (.func g) #[] caps] w fun e w' => e = .returned (.bool (xs.any p)) ∧ Below w.heap.size w w' := by
  rw [← findFrom_any p xs 0]
  have hc := IndexFunc_Way g caps p eg A n c xs w B hB hn hx hp
  generalize findFrom p 0 xs = r at hc
  clear hp hx
  go_enter Tryz.func87, Tryz.ntmps87
  go_wp2_with (go_at_call 102; refine hc.mono ?_; rintro e w' ⟨rfl, hb⟩)
  go_ret
  exact ⟨rfl, hb⟩
end Go.Proofs.YtcgkcfmiabninaaGreatDoor
