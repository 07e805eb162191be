/-
  RS: texts RLay, Base, Int, Basic, GRow, KLay, KDec, one behind the other. No condition but what each says.
-/
import Derived.Test.YtcgkcfmiabninaaGreatDoorChecked
import Derived.Shelf.Strings.Shaped
import Derived.Shelf.Strings.SplitShaped
import Derived.Shelf.Strings.Prefix
import Derived.Shelf.Strconv.ErrVarParseInt
import Derived.Test.YtcgkcfmiabninaaGreatDoorRows
import Derived.WalkKit
import Derived.WalkSpells
import Derived.WalkLawsBesides
import Derived.Deep.RegionWith
import Derived.Deep.QuietTactic
import Derived.BigQuiet
import Derived.Deep.AppendLies
import Derived.Deep.Onto
import Derived.Maps.AppendAt
import Derived.OneCell
import Derived.Deep.LoopGhost
import Derived.Shelf.Abstract
import Derived.Shelf.Strconv.Itoa4
import Derived.Lib.AppendIntMem
import Derived.Lib.ItoaMem
import Derived.Lib.ItoaLen
/-
  The library's functions as they lie in this program: laysC174, laysM145, laysM147, lays101. No condition.
-/
namespace Go.Proofs.YtcgkcfmiabninaaGreatDoor
open Go.Shelf
def Tryz.laysC174_ren : Go.Shelf.Ren := ⟨fun | 174 => 84 | 247 => 96 | 245 => 97 | 287 => 109 | 279 => 110 | 280 => 111 | 281 => 112 | 282 => 113 | 321 => 121 | 322 => 122 | 316 => 123 | 171 => 125 | 205 => 124 | 243 => 128 | 246 => 85 | 283 => 98 | 284 => 99 | 285 => 100 | 286 => 101 | 129 => 115 | 317 => 114 | 318 => 116 | 319 => 117 | 320 => 118 | 337 => 126 | 338 => 127 | n => n, fun | 9 => 9 | 3 => 3 | 2 => 2 | 75 => 95 | 85 => 96 | 4 => 4 | 167 => 115 | 5 => 5 | 53 => 81 | 175 => 116 | 46 => 98 | 168 => 118 | 37 => 34 | 0 => 0 | 210 => 136 | 21 => 21 | 127 => 139 | 145 => 142 | 143 => 140 | 171 => 108 | 173 => 111 | 212 => 122 | 51 => 123 | 20 => 20 | 213 => 124 | 232 => 143 | 233 => 144 | 80 => 145 | n => n, fun | 15 => 4 | 16 => 5 | 17 => 1 | 18 => 6 | 19 => 7 | n => n⟩
theorem Tryz.laysC174 : Go.Proofs.LaysC.n174 Tryz.prog Tryz.laysC174_ren := {
  mixed := by kernel_rfl
  f129 := Tryz.func115.trans (congrArg some (by kernel_rfl))
  f171 := Tryz.func125.trans (congrArg some (by kernel_rfl))
  f174 := Tryz.func84.trans (congrArg some (by kernel_rfl))
  f205 := Tryz.func124.trans (congrArg some (by kernel_rfl))
  f243 := Tryz.func128.trans (congrArg some (by kernel_rfl))
  f245 := Tryz.func97.trans (congrArg some (by kernel_rfl))
  f246 := Tryz.func85.trans (congrArg some (by kernel_rfl))
  f247 := Tryz.func96.trans (congrArg some (by kernel_rfl))
  f279 := Tryz.func110.trans (congrArg some (by kernel_rfl))
  f280 := Tryz.func111.trans (congrArg some (by kernel_rfl))
  f281 := Tryz.func112.trans (congrArg some (by kernel_rfl))
  f282 := Tryz.func113.trans (congrArg some (by kernel_rfl))
  f283 := Tryz.func98.trans (congrArg some (by kernel_rfl))
  f284 := Tryz.func99.trans (congrArg some (by kernel_rfl))
  f285 := Tryz.func100.trans (congrArg some (by kernel_rfl))
  f286 := Tryz.func101.trans (congrArg some (by kernel_rfl))
  f287 := Tryz.func109.trans (congrArg some (by kernel_rfl))
  f316 := Tryz.func123.trans (congrArg some (by kernel_rfl))
  f317 := Tryz.func114.trans (congrArg some (by kernel_rfl))
  f318 := Tryz.func116.trans (congrArg some (by kernel_rfl))
  f319 := Tryz.func117.trans (congrArg some (by kernel_rfl))
  f320 := Tryz.func118.trans (congrArg some (by kernel_rfl))
  f321 := Tryz.func121.trans (congrArg some (by kernel_rfl))
  f322 := Tryz.func122.trans (congrArg some (by kernel_rfl))
  f337 := Tryz.func126.trans (congrArg some (by kernel_rfl))
  f338 := Tryz.func127.trans (congrArg some (by kernel_rfl))
  t0 := Tryz.underlying0
  a0 := Tryz.isAgg0
  z0 := Tryz.sizeOf0
  v0 := Tryz.zeroValue0
  t2 := Tryz.underlying2
  a2 := Tryz.isAgg2
  z2 := Tryz.sizeOf2
  v2 := Tryz.zeroValue2
  t3 := Tryz.underlying3
  a3 := Tryz.isAgg3
  z3 := Tryz.sizeOf3
  v3 := Tryz.zeroValue3
  t4 := Tryz.underlying4
  a4 := Tryz.isAgg4
  z4 := Tryz.sizeOf4
  v4 := Tryz.zeroValue4
  t5 := Tryz.underlying5
  a5 := Tryz.isAgg5
  z5 := Tryz.sizeOf5
  v5 := Tryz.zeroValue5
  t9 := Tryz.underlying9
  a9 := Tryz.isAgg9
  z9 := Tryz.sizeOf9
  v9 := Tryz.zeroValue9
  t20 := Tryz.underlying20
  a20 := Tryz.isAgg20
  z20 := Tryz.sizeOf20
  v20 := Tryz.zeroValue20
  t21 := Tryz.underlying21
  a21 := Tryz.isAgg21
  z21 := Tryz.sizeOf21
  v21 := Tryz.zeroValue21
  t37 := Tryz.underlying34
  a37 := Tryz.isAgg34
  z37 := Tryz.sizeOf34
  v37 := Tryz.zeroValue34
  t46 := Tryz.underlying98
  a46 := Tryz.isAgg98
  z46 := Tryz.sizeOf98
  v46 := Tryz.zeroValue98
  t51 := Tryz.underlying123
  a51 := Tryz.isAgg123
  z51 := Tryz.sizeOf123
  v51 := Tryz.zeroValue123
  t53 := Tryz.underlying81
  a53 := Tryz.isAgg81
  z53 := Tryz.sizeOf81
  v53 := Tryz.zeroValue81
  t75 := Tryz.underlying95
  a75 := Tryz.isAgg95
  z75 := Tryz.sizeOf95
  v75 := Tryz.zeroValue95
  t85 := Tryz.underlying96
  a85 := Tryz.isAgg96
  z85 := Tryz.sizeOf96
  v85 := Tryz.zeroValue96
  t127 := Tryz.underlying139
  a127 := Tryz.isAgg139
  z127 := Tryz.sizeOf139
  v127 := Tryz.zeroValue139
  t143 := Tryz.underlying140
  a143 := Tryz.isAgg140
  z143 := Tryz.sizeOf140
  v143 := Tryz.zeroValue140
  t145 := Tryz.underlying142
  a145 := Tryz.isAgg142
  z145 := Tryz.sizeOf142
  v145 := Tryz.zeroValue142
  t167 := Tryz.underlying115
  a167 := Tryz.isAgg115
  z167 := Tryz.sizeOf115
  v167 := Tryz.zeroValue115
  t168 := Tryz.underlying118
  a168 := Tryz.isAgg118
  z168 := Tryz.sizeOf118
  v168 := Tryz.zeroValue118
  t171 := Tryz.underlying108
  a171 := Tryz.isAgg108
  z171 := Tryz.sizeOf108
  v171 := Tryz.zeroValue108
  t173 := Tryz.underlying111
  a173 := Tryz.isAgg111
  z173 := Tryz.sizeOf111
  v173 := Tryz.zeroValue111
  t175 := Tryz.underlying116
  a175 := Tryz.isAgg116
  z175 := Tryz.sizeOf116
  v175 := Tryz.zeroValue116
  t210 := Tryz.underlying136
  a210 := Tryz.isAgg136
  z210 := Tryz.sizeOf136
  v210 := Tryz.zeroValue136
  t212 := Tryz.underlying122
  a212 := Tryz.isAgg122
  z212 := Tryz.sizeOf122
  v212 := Tryz.zeroValue122
  t213 := Tryz.underlying124
  a213 := Tryz.isAgg124
  z213 := Tryz.sizeOf124
  t232 := Tryz.underlying143
  a232 := Tryz.isAgg143
  z232 := Tryz.sizeOf143
  v232 := Tryz.zeroValue143
  t233 := Tryz.underlying144
  a233 := Tryz.isAgg144
  z233 := Tryz.sizeOf144
  v233 := Tryz.zeroValue144
  g15 := by kernel_rfl
  g16 := by kernel_rfl
  g17 := by kernel_rfl
  g18 := by kernel_rfl
  g19 := by kernel_rfl
  t80 := Tryz.underlying145
  a80 := Tryz.isAgg145
  z80 := Tryz.sizeOf145
  v80 := Tryz.zeroValue145
  i0 := by kernel_rfl
  i2 := by kernel_rfl
  i3 := by kernel_rfl
  i4 := by kernel_rfl
  i5 := by kernel_rfl
  i9 := by kernel_rfl
  i20 := by kernel_rfl
  i21 := by kernel_rfl
  i37 := by kernel_rfl
  i46 := by kernel_rfl
  i51 := by kernel_rfl
  i53 := by kernel_rfl
  i75 := by kernel_rfl
  i80 := by kernel_rfl
  i85 := by kernel_rfl
  i127 := by kernel_rfl
  i143 := by kernel_rfl
  i145 := by kernel_rfl
  i167 := by kernel_rfl
  i168 := by kernel_rfl
  i171 := by kernel_rfl
  i173 := by kernel_rfl
  i175 := by kernel_rfl
  i210 := by kernel_rfl
  i212 := by kernel_rfl
  i232 := by kernel_rfl
  i233 := by kernel_rfl
  m15 := by kernel_rfl
  m16 := by kernel_rfl
  m17 := by kernel_rfl
  m18 := by kernel_rfl
  m19 := by kernel_rfl
  c0 := by kernel_rfl
  c2 := by kernel_rfl
  c3 := by kernel_rfl
  c4 := by kernel_rfl
  c5 := by kernel_rfl
  c9 := by kernel_rfl
  c20 := by kernel_rfl
  c21 := by kernel_rfl
  c37 := by kernel_rfl
  c46 := by kernel_rfl
  c51 := by kernel_rfl
  c53 := by kernel_rfl
  c75 := by kernel_rfl
  c80 := by kernel_rfl
  c85 := by kernel_rfl
  c127 := by kernel_rfl
  c143 := by kernel_rfl
  c145 := by kernel_rfl
  c167 := by kernel_rfl
  c168 := by kernel_rfl
  c171 := by kernel_rfl
  c173 := by kernel_rfl
  c175 := by kernel_rfl
  c210 := by kernel_rfl
  c212 := by kernel_rfl
  c213 := by kernel_rfl
  c232 := by kernel_rfl
  c233 := by kernel_rfl }
def Tryz.laysM146_ren : Go.Shelf.Ren := ⟨fun | 146 => 29 | 221 => 62 | 268 => 78 | 138 => 79 | 143 => 80 | 195 => 90 | 197 => 91 | 218 => 92 | 219 => 93 | 260 => 103 | 217 => 104 | 225 => 105 | 224 => 106 | 267 => 107 | 266 => 119 | 314 => 120 | n => n, fun | 9 => 9 | 3 => 3 | 31 => 22 | 4 => 4 | 0 => 0 | 105 => 103 | 21 => 21 | 5 => 5 | 46 => 98 | 119 => 127 | 139 => 130 | 138 => 129 | 146 => 131 | 51 => 123 | n => n, fun | 1 => 0 | 3 => 2 | 4 => 3 | n => n⟩
theorem Tryz.laysM146 : Go.Proofs.LaysM.n146 Tryz.prog Tryz.laysM146_ren := {
  mixed := by kernel_rfl
  f138 := Tryz.func79.trans (congrArg some (by kernel_rfl))
  f143 := Tryz.func80.trans (congrArg some (by kernel_rfl))
  f146 := Tryz.func29.trans (congrArg some (by kernel_rfl))
  f195 := Tryz.func90.trans (congrArg some (by kernel_rfl))
  f197 := Tryz.func91.trans (congrArg some (by kernel_rfl))
  f217 := Tryz.func104.trans (congrArg some (by kernel_rfl))
  f218 := Tryz.func92.trans (congrArg some (by kernel_rfl))
  f219 := Tryz.func93.trans (congrArg some (by kernel_rfl))
  f221 := Tryz.func62.trans (congrArg some (by kernel_rfl))
  f224 := Tryz.func106.trans (congrArg some (by kernel_rfl))
  f225 := Tryz.func105.trans (congrArg some (by kernel_rfl))
  f260 := Tryz.func103.trans (congrArg some (by kernel_rfl))
  f266 := Tryz.func119.trans (congrArg some (by kernel_rfl))
  f267 := Tryz.func107.trans (congrArg some (by kernel_rfl))
  f268 := Tryz.func78.trans (congrArg some (by kernel_rfl))
  f314 := Tryz.func120.trans (congrArg some (by kernel_rfl))
  t0 := Tryz.underlying0
  a0 := Tryz.isAgg0
  z0 := Tryz.sizeOf0
  v0 := Tryz.zeroValue0
  t3 := Tryz.underlying3
  a3 := Tryz.isAgg3
  z3 := Tryz.sizeOf3
  v3 := Tryz.zeroValue3
  t4 := Tryz.underlying4
  a4 := Tryz.isAgg4
  z4 := Tryz.sizeOf4
  v4 := Tryz.zeroValue4
  t5 := Tryz.underlying5
  a5 := Tryz.isAgg5
  z5 := Tryz.sizeOf5
  v5 := Tryz.zeroValue5
  t9 := Tryz.underlying9
  a9 := Tryz.isAgg9
  z9 := Tryz.sizeOf9
  v9 := Tryz.zeroValue9
  t21 := Tryz.underlying21
  a21 := Tryz.isAgg21
  z21 := Tryz.sizeOf21
  v21 := Tryz.zeroValue21
  t31 := Tryz.underlying22
  a31 := Tryz.isAgg22
  z31 := Tryz.sizeOf22
  v31 := Tryz.zeroValue22
  t46 := Tryz.underlying98
  a46 := Tryz.isAgg98
  z46 := Tryz.sizeOf98
  v46 := Tryz.zeroValue98
  t51 := Tryz.underlying123
  a51 := Tryz.isAgg123
  z51 := Tryz.sizeOf123
  v51 := Tryz.zeroValue123
  t105 := Tryz.underlying103
  a105 := Tryz.isAgg103
  z105 := Tryz.sizeOf103
  v105 := Tryz.zeroValue103
  t119 := Tryz.underlying127
  a119 := Tryz.isAgg127
  z119 := Tryz.sizeOf127
  t138 := Tryz.underlying129
  a138 := Tryz.isAgg129
  z138 := Tryz.sizeOf129
  v138 := Tryz.zeroValue129
  t139 := Tryz.underlying130
  a139 := Tryz.isAgg130
  z139 := Tryz.sizeOf130
  v139 := Tryz.zeroValue130
  t146 := Tryz.underlying131
  a146 := Tryz.isAgg131
  z146 := Tryz.sizeOf131
  v146 := Tryz.zeroValue131
  g1 := by kernel_rfl
  g3 := by kernel_rfl
  g4 := by kernel_rfl
  i0 := by kernel_rfl
  i3 := by kernel_rfl
  i4 := by kernel_rfl
  i5 := by kernel_rfl
  i9 := by kernel_rfl
  i21 := by kernel_rfl
  i31 := by kernel_rfl
  i46 := by kernel_rfl
  i51 := by kernel_rfl
  i105 := by kernel_rfl
  i138 := by kernel_rfl
  i139 := by kernel_rfl
  i146 := by kernel_rfl
  m1 := by kernel_rfl
  s1_3 := fun w h => Go.Proofs.cell_of_shapedOpen_int (zero := #[.int .i64 0]) (t := 3) h (of_decide_eq_true (by kernel_rfl)) (by kernel_rfl) rfl (by kernel_rfl) (by kernel_rfl) Tryz.underlying3
  m3 := by kernel_rfl
  m4 := by kernel_rfl }
def Tryz.lays101_ren : Go.Shelf.Ren := ⟨fun | 101 => 83 | 208 => 95 | 206 => 108 | n => n, fun | 9 => 9 | 4 => 4 | 3 => 3 | n => n, fun | n => n⟩
theorem Tryz.lays101 : Go.Proofs.Lays.n101 Tryz.prog Tryz.lays101_ren := {
  mixed := by kernel_rfl
  f101 := Tryz.func83.trans (congrArg some (by kernel_rfl))
  f206 := Tryz.func108.trans (congrArg some (by kernel_rfl))
  f208 := Tryz.func95.trans (congrArg some (by kernel_rfl))
  t3 := Tryz.underlying3
  a3 := Tryz.isAgg3
  z3 := Tryz.sizeOf3
  v3 := Tryz.zeroValue3
  t4 := Tryz.underlying4
  a4 := Tryz.isAgg4
  z4 := Tryz.sizeOf4
  v4 := Tryz.zeroValue4
  t9 := Tryz.underlying9
  a9 := Tryz.isAgg9
  z9 := Tryz.sizeOf9
  v9 := Tryz.zeroValue9 }
theorem maxlen_of (W : World) (h : W.ShapedOpen Tryz.prog) : ∃ m, W.cell? ⟨0, 0, none⟩ = some (.int .i64 m) := Tryz.laysM146.s1_3 W h
end Go.Proofs.YtcgkcfmiabninaaGreatDoor
/-
  What all walks of this seat share: how a slice reads, own rows, small facts on worlds. No condition.
-/
namespace Go.Proofs.YtcgkcfmiabninaaGreatDoor
open Go.RowKit

theorem hid {p : Prop} (h : p) : Hid p := h
theorem retB {a b : Bool} (h : a = b) : Ending.returned (.bool a) = .returned (.bool b) := by rw [h]
theorem retI {k : IntKind} {a b : Int} (h : a = b) : Ending.returned (.int k a) = .returned (.int k b) := by rw [h]

/-- n lies between low and high -/
def inR (n lo hi : Int) : Bool := decide (lo ≤ n) && decide (n ≤ hi)

/-- the slice value (A, n) holds the elements xs, k cells each, and lies below block B -/
def Sl {α : Type} (w : World) (B k : Nat) (enc : α → List Value) (A : Option Addr) (n : Nat) (xs : List α) : Prop :=
  xs.length = n ∧ ∀ (i : Nat) (x : α), xs[i]? = some x → ∃ b off, A = some ⟨b, off, none⟩ ∧ b < B ∧ ∀ (j : Nat) (u : Value), (enc x)[j]? = some u → w.cell? ⟨b, off + i * k + j, none⟩ = some u

namespace Sl
variable {α : Type} {w w' : World} {B B' k : Nat} {enc : α → List Value} {A : Option Addr} {n : Nat} {xs : List α}
theorem len (h : Sl w B k enc A n xs) : xs.length = n := h.1
theorem keep (h : Sl w B k enc A n xs) (hk : ∀ p : Addr, p.block < B → w'.cell? p = w.cell? p) : Sl w' B k enc A n xs :=
  ⟨h.1, fun i x hx => by obtain ⟨b, off, e, hb, hc⟩ := h.2 i x hx; exact ⟨b, off, e, hb, fun j u hu => (hk _ hb).trans (hc j u hu)⟩⟩
theorem below (h : Sl w B k enc A n xs) (hb : Below B w w') : Sl w' B k enc A n xs := h.keep fun _ hp => hb.cell hp
theorem more (h : Sl w B k enc A n xs) (hB : B ≤ B') : Sl w B' k enc A n xs :=
  ⟨h.1, fun i x hx => by obtain ⟨b, off, e, hb, hc⟩ := h.2 i x hx; exact ⟨b, off, e, by omega, hc⟩⟩
theorem alloc (h : Sl w B k enc A n xs) (hB : B ≤ w.heap.size) (o : Obj) : Sl (w.alloc o) B k enc A n xs := h.keep fun p hp => World.cell?_alloc_lt w o p (by omega)
theorem at_ (h : Sl w B k enc A n xs) {i : Nat} (hi : i < n) : ∃ x b off, xs[i]? = some x ∧ A = some ⟨b, off, none⟩ ∧ b < B ∧ ∀ (j : Nat) (u : Value), (enc x)[j]? = some u → w.cell? ⟨b, off + i * k + j, none⟩ = some u := by
  have hl := h.1
  obtain ⟨b, off, e, hb, hc⟩ := h.2 i xs[i] (List.getElem?_eq_getElem (by omega))
  exact ⟨xs[i], b, off, List.getElem?_eq_getElem (by omega), e, hb, hc⟩
end Sl

/-- what is left of a list at a place -/
theorem drop_at {α : Type} {xs : List α} {i : Nat} {x : α} (h : xs[i]? = some x) : xs.drop i = x :: xs.drop (i + 1) := by
  obtain ⟨hi, rfl⟩ := List.getElem?_eq_some_iff.1 h
  exact List.drop_eq_getElem_cons hi
theorem take_at {α : Type} {xs : List α} {i : Nat} {x : α} (h : xs[i]? = some x) : xs.take (i + 1) = xs.take i ++ [x] := by
  rw [List.take_add_one, h]; rfl

def encI (z : Int) : List Value := [.int .i64 z]
theorem Sl.int {w : World} {B : Nat} {A : Option Addr} {n : Nat} {xs : List Int} (h : Sl w B 1 encI A n xs) {i : Nat} (hi : i < n) :
    ∃ z b off, Hid (xs[i]? = some z) ∧ A = some ⟨b, off, none⟩ ∧ b < B ∧ w.cell? ⟨b, off + i, none⟩ = some (.int .i64 z) := by
  obtain ⟨z, b, off, hx, e, hb, hc⟩ := h.at_ hi
  have := hc 0 _ rfl
  simp only [Nat.mul_one, Nat.add_zero] at this
  exact ⟨z, b, off, hx, e, hb, this⟩

/-- the first place from i on at which p holds, or -1 -/
def findFrom {α : Type} (p : α → Bool) : Nat → List α → Int
  | _, [] => -1
  | i, x :: r => if p x then i else findFrom p (i + 1) r
theorem findFrom_any {α : Type} (p : α → Bool) (l : List α) : ∀ i, decide (0 ≤ findFrom p i l) = l.any p := by
  induction l with
  | nil => intro i; rfl
  | cons x r ih => intro i; simp only [findFrom, List.any_cons]; by_cases h : p x = true <;> simp [h, ih]

theorem flatMap_len {α : Type} {enc : α → List Value} {k : Nat} (hk : ∀ x, (enc x).length = k) (xs : List α) : (xs.flatMap enc).length = xs.length * k := by
  induction xs with
  | nil => simp
  | cons x r ih => simp only [List.flatMap_cons, List.length_append, hk, ih, List.length_cons, Nat.succ_mul]; omega
theorem flatMap_get {α : Type} {enc : α → List Value} {k : Nat} (hk : ∀ x, (enc x).length = k) {j : Nat} {u : Value} {x : α} (xs : List α) : ∀ i, xs[i]? = some x → (enc x)[j]? = some u → (xs.flatMap enc)[i * k + j]? = some u := by
  induction xs with
  | nil => intro i hi _; simp at hi
  | cons y r ih =>
    intro i hi hj
    rw [List.flatMap_cons]
    cases i with
    | zero =>
      simp only [List.getElem?_cons_zero, Option.some.injEq] at hi
      subst hi
      rw [Nat.zero_mul, Nat.zero_add, List.getElem?_append_left (List.getElem?_eq_some_iff.1 hj).1]; exact hj
    | succ i =>
      simp only [List.getElem?_cons_succ] at hi
      rw [List.getElem?_append_right (by rw [hk, Nat.succ_mul]; omega), hk, show (i + 1) * k + j - k = i * k + j by rw [Nat.succ_mul]; omega]
      exact ih i hi hj

theorem own_form {w : World} {lo : Nat} {T k : Nat} {v : Value} {n : Nat} {xs : List Value} (h : w.ownsRow lo T k v n xs) : ∃ A c, v = .slice A n c ∧ n ≤ c := by
  rcases h.2 with ⟨rfl, rfl⟩ | ⟨g, cap, cur, rfl, _, _, hc, _⟩
  · exact ⟨none, 0, rfl, Nat.le_refl _⟩
  · exact ⟨_, cap, rfl, hc⟩
/-- an own row reads as the list that it holds -/
theorem own_sl {α : Type} {enc : α → List Value} {k : Nat} (hk : ∀ x, (enc x).length = k) (hk0 : 0 < k) {w : World} {lo T : Nat} {A : Option Addr} {n c : Nat} {xs : List α} (h : w.ownsRow lo T k (.slice A n c) n (xs.flatMap enc)) :
    Sl w w.heap.size k enc A n xs := by
  have hl := h.1
  rw [flatMap_len hk] at hl
  have hl' : xs.length = n := Nat.eq_of_mul_eq_mul_right hk0 hl
  refine ⟨hl', fun i x hx => ?_⟩
  have hi := (List.getElem?_eq_some_iff.1 hx).1
  obtain ⟨g, cap, hv, _, hlt⟩ := h.form (by omega)
  injection hv with hA _ hc
  subst hA hc
  refine ⟨g, 0, rfl, hlt, fun j u hj => ?_⟩
  have hjk : j < k := by rw [← hk x]; exact (List.getElem?_eq_some_iff.1 hj).1
  have hb : i * k + j < n * k := by
    have h1 : (i + 1) * k ≤ n * k := Nat.mul_le_mul_right k (by omega)
    rw [Nat.succ_mul] at h1; omega
  rw [Nat.zero_add, h.cellAt _ hb]
  exact flatMap_get hk xs i hx hj

/-- the list l begins with pre -/
def Pre (l pre : List Value) : Prop := ∀ (j : Nat) (u : Value), pre[j]? = some u → l[j]? = some u
theorem Pre.nil (l : List Value) : Pre l [] := fun j u h => by simp at h
theorem Pre.push {l pre : List Value} (h : Pre l pre) {j : Nat} (hj : j = pre.length) (hl : j < l.length) (u : Value) : Pre (l.set j u) (pre ++ [u]) := by
  intro i x hx
  rw [List.getElem?_append] at hx
  by_cases hi : i < pre.length
  · rw [if_pos hi] at hx
    rw [List.getElem?_set_ne (by omega)]; exact h i x hx
  · rw [if_neg hi] at hx
    have h0 : i - pre.length = 0 := by
      have := (List.getElem?_eq_some_iff.1 hx).1
      simpa using this
    rw [h0] at hx
    simp only [List.getElem?_cons_zero, Option.some.injEq] at hx
    subst hx
    rw [show i = j by omega, List.getElem?_set_self hl]
theorem Pre.all {l pre : List Value} (h : Pre l pre) (hl : l.length = pre.length) : l = pre := by
  apply List.ext_getElem?
  intro i
  by_cases hi : i < pre.length
  · rw [List.getElem?_eq_getElem hi]; exact h i _ (List.getElem?_eq_getElem hi)
  · rw [List.getElem?_eq_none (by omega), List.getElem?_eq_none (by omega)]

/-- a cell of an own row is there, and may be written, in a later world too -/
theorem own_at {w w' : World} {lo T k : Nat} {g n c : Nat} {l : List Value} (h : w.ownsRow lo T k (.slice (some ⟨g, 0, none⟩) n c) n l) (hb : Below w.heap.size w w') (j : Nat) (hj : j < n * k) :
    (∃ u, w'.cell? ⟨g, j, none⟩ = some u) ∧ w'.frozen? ⟨g, j, none⟩ = false := by
  have hn : 0 < n := by
    rcases Nat.eq_zero_or_pos n with h0 | h0
    · subst h0; simp at hj
    · exact h0
  obtain ⟨g', cap, hv, _, hlt⟩ := h.form hn
  injection hv with hA _ hc
  injection hA with hA
  injection hA with hg
  subst hg hc
  refine ⟨⟨l[j]'(by rw [h.1]; exact hj), ?_⟩, ?_⟩
  · rw [hb.cell (p := ⟨g, j, none⟩) hlt, h.cellAt j hj]; exact List.getElem?_eq_getElem _
  · rw [hb.frozen (p := ⟨g, j, none⟩) hlt]; exact h.frozenAt j
theorem own_below {w w' : World} {lo T k : Nat} {v : Value} {n : Nat} {l : List Value} (h : w.ownsRow lo T k v n l) (hb : Below w.heap.size w w') : w'.ownsRow lo T k v n l :=
  ⟨h.1, h.2.imp id fun ⟨g, cap, cur, hv, hg, hh, r⟩ => ⟨g, cap, cur, hv, hg, (hb.block g (by
    rcases Nat.lt_or_ge g w.heap.size with hlt | hge
    · exact hlt
    · rw [Array.getElem?_eq_none hge] at hh; cases hh)).trans hh, r⟩⟩
theorem own_set {w : World} {lo T k : Nat} {g n c : Nat} {l pre : List Value} (h : w.ownsRow lo T k (.slice (some ⟨g, 0, none⟩) n c) n l) (hp : Pre l pre) {j : Nat} (hj : j = pre.length) (hl : j < n * k) (u : Value) :
    (w.setCell ⟨g, j, none⟩ u).ownsRow lo T k (.slice (some ⟨g, 0, none⟩) n c) n (l.set j u) ∧ Pre (l.set j u) (pre ++ [u]) :=
  ⟨(h.stored j u).1, hp.push hj (by rw [h.1]; exact hl) u⟩

theorem cell_far {w : World} {p q : Addr} {v : Value} (h : p.block ≠ q.block) : (w.setCell p v).cell? q = w.cell? q := World.cell?_setCell_other w p q v (fun e => h (by rw [e]))
theorem below_cell {w w' : World} {p : Addr} {v : Value} (h : w.cell? p = some v) (hb : Below w.heap.size w w') : w'.cell? p = some v := (hb.cell (World.block_lt_of_cell? _ _ h)).trans h
/-- an own row is kept where a row in other blocks is written -/
theorem own_keep {w w' : World} {lo T k : Nat} {v v2 : Value} {n : Nat} {l : List Value} (h : w.ownsRow lo T k v n l) (h2 : ∀ b, v2.ownBlock = some b → v.ownBlock ≠ some b) (hg : w.grownBy w' v2.ownBlock) : w'.ownsRow lo T k v n l := by
  refine h.kept hg ?_
  cases hv : v.ownBlock with
  | none => exact .inl rfl
  | some b => exact .inr fun e => h2 b e.symm hv
theorem grown_below {B : Nat} {a w w' : World} {v : Value} (h : Below B a w) (hg : w.grownBy w' v.ownBlock) (hB : B ≤ w.heap.size) (hv : ∀ b, v.ownBlock = some b → B ≤ b) : Below B a w' := h.grown hg hB hv
theorem bl_set {B : Nat} {a w : World} {p : Addr} {u : Value} (hp : B ≤ p.block) (h : Below B a w) : Below B a (w.setCell p u) := h.setCell hp u
theorem bl_alloc {B : Nat} {a w : World} {o : Obj} (hB : B ≤ w.heap.size) (h : Below B a w) : Below B a (w.alloc o) := h.alloc hB o
theorem bl_drew {B : Nat} {a w : World} (h : Below B a w) : Below B a w.drew := h.drew
theorem bl_drewN {B : Nat} {a w : World} {n : Nat} (h : Below B a w) : Below B a (w.drewN n) := ⟨h.os, h.tape, h.output, h.size, h.block⟩
theorem ow_set {w : World} {lo T k : Nat} {v : Value} {n : Nat} {l : List Value} {p : Addr} {u : Value} (hp : v.ownBlock ≠ some p.block) (h : w.ownsRow lo T k v n l) : (w.setCell p u).ownsRow lo T k v n l := ownsRow_setCell_other h hp u
theorem ow_alloc {w : World} {lo T k : Nat} {v : Value} {n : Nat} {l : List Value} {o : Obj} (h : w.ownsRow lo T k v n l) : (w.alloc o).ownsRow lo T k v n l := h.alloc o
theorem ow_drew {w : World} {lo T k : Nat} {v : Value} {n : Nat} {l : List Value} (h : w.ownsRow lo T k v n l) : w.drew.ownsRow lo T k v n l := h
theorem ow_drewN {w : World} {lo T k : Nat} {v : Value} {n m : Nat} {l : List Value} (h : w.ownsRow lo T k v n l) : (w.drewN m).ownsRow lo T k v n l := h
theorem gr_drew {a w : World} {row : Option Nat} (h : a.grownBy w row) : a.grownBy w.drew row := ⟨h.os, h.tape, h.output, h.size, h.block⟩
theorem gr_drewN {a w : World} {row : Option Nat} {n : Nat} (h : a.grownBy w row) : a.grownBy (w.drewN n) row := ⟨h.os, h.tape, h.output, h.size, h.block⟩
theorem gr_alloc {a w : World} {row : Option Nat} {o : Obj} (h : a.grownBy w row) : a.grownBy (w.alloc o) row :=
  ⟨h.os, h.tape, h.output, Nat.le_trans h.size (by simp), fun i hi hne => (Below.heap_alloc w o i (Nat.lt_of_lt_of_le hi h.size)).trans (h.block i hi hne)⟩
theorem gr_set {a w : World} {g j : Nat} {u : Value} (h : a.grownBy w (some g)) : a.grownBy (w.setCell ⟨g, j, none⟩ u) (some g) :=
  ⟨h.os, h.tape, h.output, by simpa [World.setCell] using h.size, fun i hi hne => (Below.heap_setCell w ⟨g, j, none⟩ u i (fun e => hne (by rw [e]))).trans (h.block i hi hne)⟩
theorem dr_cell (w : World) (p : Addr) : w.drew.cell? p = w.cell? p := rfl
theorem dr_frz (w : World) (p : Addr) : w.drew.frozen? p = w.frozen? p := rfl
theorem below_drewN {B : Nat} {a w : World} (h : Below B a w) (n : Nat) : Below B a (w.drewN n) := ⟨h.os, h.tape, h.output, h.size, h.block⟩
theorem only_drewN {a w : World} {row : Option Nat} (h : a.grownBy w row) (n : Nat) : a.grownBy (w.drewN n) row := ⟨h.os, h.tape, h.output, h.size, h.block⟩

/-- what is asked of a predicate that is handed on: at every x, in every world in which all that lay in w lies untouched -/
def Pred {α : Type} (P : Program) (g : Nat) (caps : Array Value) (val : α → Value) (p : α → Bool) (w : World) : Prop :=
  ∀ (W : World) (x : α), Below w.heap.size w W → Calls P g (#[val x] ++ caps) W fun e w' => e = .returned (.bool (p x)) ∧ Below W.heap.size W w'
end Go.Proofs.YtcgkcfmiabninaaGreatDoor
/-
  Lists of numbers: compared, marked, held; where one of them stands. No condition.
-/
namespace Go.Proofs.YtcgkcfmiabninaaGreatDoor
open Go.RowKit
set_option maxHeartbeats 400000

theorem encI_len (z : Int) : (encI z).length = 1 := rfl
theorem int_info : (Tryz.prog.info? 2).map (fun i => (i.zero, i.size, i.bytes)) = some (some (.int .i64 0), 1, 8) := by kernel_rfl


/-- the marks k, k + 1 .. -/
def marks (k : Int) (n : Nat) : List Int := (List.range n).map fun i => k + (i : Nat)
theorem marks_succ (k : Int) (n : Nat) : marks k (n + 1) = marks k n ++ [k + n] := by simp [marks, List.range_succ]
theorem marks_len (k : Int) (n : Nat) : (marks k n).length = n := by simp [marks]

theorem own_lt {w : World} {lo T k : Nat} {g n c : Nat} {l : List Value} (h : w.ownsRow lo T k (.slice (some ⟨g, 0, none⟩) n c) n l) : lo ≤ g ∧ g < w.heap.size := h.lt g rfl
/-- where an own row of some elements lies -/
theorem own_some {w : World} {lo T k : Nat} {A : Option Addr} {n c : Nat} {l : List Value} (h : w.ownsRow lo T k (.slice A n c) n l) (hn : 0 < n) : ∃ g, A = some ⟨g, 0, none⟩ ∧ lo ≤ g ∧ g < w.heap.size := by
  obtain ⟨g, cap, hv, h1, h2⟩ := h.form hn
  injection hv with hA _ hc
  exact ⟨g, hA, h1, h2⟩

/-- a number in an own row -/
theorem own_int {w : World} {lo T g n c : Nat} {l : List Int} (h : w.ownsRow lo T 1 (.slice (some ⟨g, 0, none⟩) n c) n (l.flatMap encI)) {k : Nat} {z : Int} (hk : l[k]? = some z) : w.cell? ⟨g, k, none⟩ = some (.int .i64 z) ∧ w.frozen? ⟨g, k, none⟩ = false := by
  have hl := h.1
  rw [flatMap_len encI_len] at hl
  have hkl := (List.getElem?_eq_some_iff.1 hk).1
  refine ⟨?_, h.frozenAt k⟩
  rw [h.cellAt k (by omega)]
  have := flatMap_get encI_len (j := 0) (u := .int .i64 z) l k hk rfl
  simpa using this


end Go.Proofs.YtcgkcfmiabninaaGreatDoor
/-
  Numbers within bounds, the greater of two, a number in a list. No condition.
-/
namespace Go.Proofs.YtcgkcfmiabninaaGreatDoor
open Go.RowKit
set_option maxHeartbeats 400000

theorem within_any (n lo hi : Int) (w : World) :
    Calls Tryz.prog 51 #[.int .i64 n, .int .i64 lo, .int .i64 hi] w fun e w' => e = .returned (.bool (inR n lo hi)) ∧ w' = w := by
  go_enter Tryz.func51, Tryz.ntmps51
  go_wp2
  all_goals go_ret
  all_goals exact ⟨retB (by simp [inR]; try omega), rfl⟩
theorem l00In_any (n lo hi : Int) (w : World) :
    Calls Tryz.prog 52 #[.int .i64 n, .int .i64 lo, .int .i64 hi] w fun e w' => e = .returned (.bool (inR n lo hi)) ∧ w' = w := by
  go_enter Tryz.func52, Tryz.ntmps52
  go_wp2
  all_goals go_ret
  all_goals exact ⟨retB (by simp [inR]; try omega), rfl⟩

def hasI (l : List Int) (z : Int) : Bool := l.any fun y => y == z
theorem hasI_iff {l : List Int} {z : Int} : hasI l z = true ↔ z ∈ l := by simp [hasI]
theorem hasI_false {l : List Int} {z : Int} : hasI l z = false ↔ z ∉ l := by rw [← hasI_iff]; simp


end Go.Proofs.YtcgkcfmiabninaaGreatDoor
/-
  Slices of slices of numbers: how they read, a frame that leaves a span of blocks free. No condition.
-/
namespace Go.Proofs.YtcgkcfmiabninaaGreatDoor
open Go.RowKit
set_option maxHeartbeats 400000

/-- one row of a table: the slice that its cell holds, and its numbers -/
structure Row where
  A : Option Addr
  n : Nat
  c : Nat
  xs : List Int
def encR (r : Row) : List Value := [.slice r.A r.n r.c]
theorem encR_len (r : Row) : (encR r).length = 1 := rfl
def SlS (w : World) (B : Nat) (A : Option Addr) (n : Nat) (rs : List Row) : Prop := Sl w B 1 encR A n rs ∧ ∀ r ∈ rs, Sl w B 1 encI r.A r.n r.xs
def cont (rs : List Row) : List (List Int) := rs.map Row.xs
theorem cont_len (rs : List Row) : (cont rs).length = rs.length := by simp [cont]
theorem cont_at {rs : List Row} {i : Nat} {r : Row} (h : rs[i]? = some r) : (cont rs)[i]? = some r.xs := by simp [cont, h]

namespace SlS
variable {w w' : World} {B B' : Nat} {A : Option Addr} {n : Nat} {rs : List Row}
theorem len (h : SlS w B A n rs) : rs.length = n := h.1.len
theorem below (h : SlS w B A n rs) (hb : Below B w w') : SlS w' B A n rs := ⟨h.1.below hb, fun r hr => (h.2 r hr).below hb⟩
theorem more (h : SlS w B A n rs) (hB : B ≤ B') : SlS w B' A n rs := ⟨h.1.more hB, fun r hr => (h.2 r hr).more hB⟩
theorem row (h : SlS w B A n rs) {i : Nat} (hi : i < n) :
    ∃ Ai ni ci xi b off, Hid (rs[i]? = some ⟨Ai, ni, ci, xi⟩) ∧ A = some ⟨b, off, none⟩ ∧ b < B ∧ w.cell? ⟨b, off + i, none⟩ = some (.slice Ai ni ci) ∧ Sl w B 1 encI Ai ni xi := by
  obtain ⟨⟨Ai, ni, ci, xi⟩, b, off, hx, e, hb, hc⟩ := h.1.at_ hi
  have := hc 0 _ rfl
  simp only [Nat.mul_one, Nat.add_zero] at this
  exact ⟨Ai, ni, ci, xi, b, off, hx, e, hb, this, h.2 _ (List.mem_of_getElem? hx)⟩
end SlS

/-- all that lay outside the blocks lo .. hi is left as it was -/
structure Span (lo hi : Nat) (w w' : World) : Prop where
  os : w'.os = w.os
  tape : w'.tape = w.tape
  output : w'.output = w.output
  size : w.heap.size ≤ w'.heap.size
  block : ∀ i, i < w.heap.size → ¬ (lo ≤ i ∧ i < hi) → w'.heap[i]? = w.heap[i]?
namespace Span
variable {lo hi : Nat} {a w w' : World}
theorem refl (lo hi : Nat) (w : World) : Span lo hi w w := ⟨rfl, rfl, rfl, Nat.le_refl _, fun _ _ _ => rfl⟩
theorem trans (h : Span lo hi a w) (g : Span lo hi w w') : Span lo hi a w' :=
  ⟨g.os.trans h.os, g.tape.trans h.tape, g.output.trans h.output, Nat.le_trans h.size g.size, fun i hi hn => (g.block i (Nat.lt_of_lt_of_le hi h.size) hn).trans (h.block i hi hn)⟩
theorem ofGrown {row : Option Nat} (h : a.grownBy w row) (hr : ∀ b, row = some b → lo ≤ b ∧ b < hi) : Span lo hi a w :=
  ⟨h.os, h.tape, h.output, h.size, fun i hi hn => h.block i hi (fun e => hn (hr i e.symm))⟩
theorem ofBelow (h : Below a.heap.size a w) : Span lo hi a w := ⟨h.os, h.tape, h.output, h.size, fun i hi _ => h.block i hi⟩
theorem toBelow {B : Nat} {a0 : World} (h0 : Below B a0 a) (h : Span lo hi a w) (hB : B ≤ lo) (hz : B ≤ a.heap.size) : Below B a0 w :=
  ⟨h.os.trans h0.os, h.tape.trans h0.tape, h.output.trans h0.output, Nat.le_trans h0.size h.size, fun i hi => (h.block i (Nat.lt_of_lt_of_le hi hz) (by omega)).trans (h0.block i hi)⟩
theorem own {l T k : Nat} {v : Value} {n : Nat} {xs : List Value} (h : Span lo hi a w) (o : a.ownsRow l T k v n xs) (hv : ∀ b, v.ownBlock = some b → ¬ (lo ≤ b ∧ b < hi)) : w.ownsRow l T k v n xs :=
  ⟨o.1, o.2.imp id fun ⟨g, cap, cur, e, hg, hh, r⟩ => ⟨g, cap, cur, e, hg, (h.block g (by
    rcases Nat.lt_or_ge g a.heap.size with hlt | hge
    · exact hlt
    · rw [Array.getElem?_eq_none hge] at hh; cases hh) (hv g (by rw [e]; rfl))).trans hh, r⟩⟩
end Span

/-- the cell of a table -/
def cAt (css : List (List Int)) (i k : Nat) : Int := (css.getD i []).getD k 0
theorem cAt_of {rs : List Row} {i k : Nat} {r : Row} {z : Int} (h : rs[i]? = some r) (hz : r.xs[k]? = some z) : cAt (cont rs) i k = z := by
  simp [cAt, List.getD, cont_at h, hz]

/-- what a row of slices that a function made owns: rows of their own, each in a block of its own -/
structure OwnS (w : World) (lo T Ti : Nat) (A : Option Addr) (n c : Nat) (rs : List Row) : Prop where
  top : w.ownsRow lo T 1 (.slice A n c) n (rs.flatMap encR)
  row : ∀ (i : Nat) (r : Row), rs[i]? = some r → w.ownsRow lo Ti 1 (.slice r.A r.n r.c) r.n (r.xs.flatMap encI)
  apart : ∀ (i : Nat) (r : Row), rs[i]? = some r → ∀ b, (Value.slice r.A r.n r.c).ownBlock = some b → (Value.slice A n c).ownBlock ≠ some b
  each : ∀ (i j : Nat) (r s : Row), i ≠ j → rs[i]? = some r → rs[j]? = some s → ∀ b, (Value.slice r.A r.n r.c).ownBlock = some b → (Value.slice s.A s.n s.c).ownBlock ≠ some b
theorem OwnS.slS {w : World} {lo T Ti : Nat} {A : Option Addr} {n c : Nat} {rs : List Row} (h : OwnS w lo T Ti A n c rs) : SlS w w.heap.size A n rs :=
  ⟨own_sl encR_len (by omega) h.top, fun r hr => by
    obtain ⟨i, hi, rfl⟩ := List.getElem_of_mem hr
    exact own_sl encI_len (by omega) (h.row i _ (List.getElem?_eq_getElem hi))⟩
theorem OwnS.below {w w' : World} {lo T Ti : Nat} {A : Option Addr} {n c : Nat} {rs : List Row} (h : OwnS w lo T Ti A n c rs) (hb : Below w.heap.size w w') : OwnS w' lo T Ti A n c rs :=
  ⟨own_below h.top hb, fun i r hi => own_below (h.row i r hi) hb, h.apart, h.each⟩
def tot (rs : List Row) : Nat := (rs.map Row.n).sum
theorem tot_take {rs : List Row} {k : Nat} {r : Row} (h : rs[k]? = some r) : tot (rs.take (k + 1)) = tot (rs.take k) + r.n := by
  rw [take_at h]; simp [tot]
theorem tot_le {rs : List Row} {k : Nat} : tot (rs.take k) ≤ tot rs := by
  induction rs generalizing k with
  | nil => simp
  | cons x l ih =>
    cases k with
    | zero => simp [tot]
    | succ k =>
      have := @ih k
      simp only [tot, List.take_succ_cons, List.map_cons, List.sum_cons] at this ⊢
      omega
theorem tot_mem {rs : List Row} {r : Row} (h : r ∈ rs) : r.n ≤ tot rs := by
  induction rs with
  | nil => simp at h
  | cons x l ih =>
    simp only [tot, List.map_cons, List.sum_cons]
    rcases List.mem_cons.1 h with rfl | h
    · omega
    · have := ih h
      simp only [tot] at this
      omega
theorem own_len {α : Type} {enc : α → List Value} {k : Nat} (hk : ∀ x, (enc x).length = k) (hk0 : 0 < k) {w : World} {lo T : Nat} {v : Value} {n : Nat} {xs : List α} (h : w.ownsRow lo T k v n (xs.flatMap enc)) : n = xs.length := by
  have hl := h.1
  rw [flatMap_len hk] at hl
  exact (Nat.eq_of_mul_eq_mul_right hk0 hl).symm
theorem cont_eq {rs rs' : List Row} (hl : rs'.length = rs.length) (h : ∀ (i : Nat) (r r' : Row), rs[i]? = some r → rs'[i]? = some r' → r'.xs = r.xs) : cont rs' = cont rs := by
  apply List.ext_getElem
  · simp [cont, hl]
  · intro i h1 h2
    simp only [cont, List.length_map] at h1 h2
    simp only [cont, List.getElem_map]
    exact h i _ _ (List.getElem?_eq_getElem h2) (List.getElem?_eq_getElem h1)
end Go.Proofs.YtcgkcfmiabninaaGreatDoor
/-
  The library's functions behind strconv.FormatInt as they lie in this program. No condition.
-/
namespace Go.Proofs.YtcgkcfmiabninaaGreatDoor
open Go.Shelf
def Tryz.lays173_ren : Go.Shelf.Ren := ⟨fun | 173 => 68 | 246 => 85 | 283 => 98 | 284 => 99 | 285 => 100 | 286 => 101 | 129 => 115 | 317 => 114 | 318 => 116 | 319 => 117 | 320 => 118 | 337 => 126 | 338 => 127 | n => n, fun | 2 => 2 | 3 => 3 | 9 => 9 | 4 => 4 | 171 => 108 | 0 => 0 | 53 => 81 | 37 => 34 | 5 => 5 | 173 => 111 | 212 => 122 | 51 => 123 | 20 => 20 | 213 => 124 | 46 => 98 | 232 => 143 | 233 => 144 | n => n, fun | 17 => 1 | 18 => 6 | 19 => 7 | n => n⟩
theorem Tryz.lays173 : Go.Proofs.LaysM.n173 Tryz.prog Tryz.lays173_ren := {
  mixed := by kernel_rfl,
  f129 := Tryz.func115.trans (congrArg some (by kernel_rfl)),
  f173 := Tryz.func68.trans (congrArg some (by kernel_rfl)),
  f246 := Tryz.func85.trans (congrArg some (by kernel_rfl)),
  f283 := Tryz.func98.trans (congrArg some (by kernel_rfl)),
  f284 := Tryz.func99.trans (congrArg some (by kernel_rfl)),
  f285 := Tryz.func100.trans (congrArg some (by kernel_rfl)),
  f286 := Tryz.func101.trans (congrArg some (by kernel_rfl)),
  f317 := Tryz.func114.trans (congrArg some (by kernel_rfl)),
  f318 := Tryz.func116.trans (congrArg some (by kernel_rfl)),
  f319 := Tryz.func117.trans (congrArg some (by kernel_rfl)),
  f320 := Tryz.func118.trans (congrArg some (by kernel_rfl)),
  f337 := Tryz.func126.trans (congrArg some (by kernel_rfl)),
  f338 := Tryz.func127.trans (congrArg some (by kernel_rfl)),
  t0 := Tryz.underlying0,
  a0 := Tryz.isAgg0,
  z0 := Tryz.sizeOf0,
  v0 := Tryz.zeroValue0,
  t2 := Tryz.underlying2,
  a2 := Tryz.isAgg2,
  z2 := Tryz.sizeOf2,
  v2 := Tryz.zeroValue2,
  t3 := Tryz.underlying3,
  a3 := Tryz.isAgg3,
  z3 := Tryz.sizeOf3,
  v3 := Tryz.zeroValue3,
  t4 := Tryz.underlying4,
  a4 := Tryz.isAgg4,
  z4 := Tryz.sizeOf4,
  v4 := Tryz.zeroValue4,
  t5 := Tryz.underlying5,
  a5 := Tryz.isAgg5,
  z5 := Tryz.sizeOf5,
  v5 := Tryz.zeroValue5,
  t9 := Tryz.underlying9,
  a9 := Tryz.isAgg9,
  z9 := Tryz.sizeOf9,
  v9 := Tryz.zeroValue9,
  t20 := Tryz.underlying20,
  a20 := Tryz.isAgg20,
  z20 := Tryz.sizeOf20,
  v20 := Tryz.zeroValue20,
  t37 := Tryz.underlying34,
  a37 := Tryz.isAgg34,
  z37 := Tryz.sizeOf34,
  v37 := Tryz.zeroValue34,
  t46 := Tryz.underlying98,
  a46 := Tryz.isAgg98,
  z46 := Tryz.sizeOf98,
  v46 := Tryz.zeroValue98,
  t51 := Tryz.underlying123,
  a51 := Tryz.isAgg123,
  z51 := Tryz.sizeOf123,
  v51 := Tryz.zeroValue123,
  t53 := Tryz.underlying81,
  a53 := Tryz.isAgg81,
  z53 := Tryz.sizeOf81,
  v53 := Tryz.zeroValue81,
  t171 := Tryz.underlying108,
  a171 := Tryz.isAgg108,
  z171 := Tryz.sizeOf108,
  v171 := Tryz.zeroValue108,
  t173 := Tryz.underlying111,
  a173 := Tryz.isAgg111,
  z173 := Tryz.sizeOf111,
  v173 := Tryz.zeroValue111,
  t212 := Tryz.underlying122,
  a212 := Tryz.isAgg122,
  z212 := Tryz.sizeOf122,
  v212 := Tryz.zeroValue122,
  t213 := Tryz.underlying124,
  a213 := Tryz.isAgg124,
  z213 := Tryz.sizeOf124,
  t232 := Tryz.underlying143,
  a232 := Tryz.isAgg143,
  z232 := Tryz.sizeOf143,
  v232 := Tryz.zeroValue143,
  t233 := Tryz.underlying144,
  a233 := Tryz.isAgg144,
  z233 := Tryz.sizeOf144,
  v233 := Tryz.zeroValue144,
  g17 := by kernel_rfl,
  g18 := by kernel_rfl,
  g19 := by kernel_rfl,
  i0 := by kernel_rfl,
  i2 := by kernel_rfl,
  i3 := by kernel_rfl,
  i4 := by kernel_rfl,
  i5 := by kernel_rfl,
  i9 := by kernel_rfl,
  i20 := by kernel_rfl,
  i37 := by kernel_rfl,
  i46 := by kernel_rfl,
  i51 := by kernel_rfl,
  i53 := by kernel_rfl,
  i171 := by kernel_rfl,
  i173 := by kernel_rfl,
  i212 := by kernel_rfl,
  i232 := by kernel_rfl,
  i233 := by kernel_rfl,
  m17 := by kernel_rfl,
  m18 := by kernel_rfl,
  m19 := by kernel_rfl }
end Go.Proofs.YtcgkcfmiabninaaGreatDoor
/-
  Decimal numerals: the program's and the reference's. No condition.
-/
namespace Go.Proofs.YtcgkcfmiabninaaGreatDoor
open Go.RowKit
set_option maxHeartbeats 400000

abbrev TabW (w : World) : Prop := Lib.TabIs Tryz.prog w "internal/strconv.uint64pow10" .u64 Lib.pow10Tab
theorem TabW.below {w w' : World} (h : TabW w) (hb : Below w.heap.size w w') : TabW w' := Lib.tabBelow_of_tabIs h w' hb
def itoaV (n : Int) : Value := .string ⟨(Lib.itoa n).toArray⟩
theorem Decimal_any (n : Int) (w : World) (h0 : -9223372036854775808 ≤ n) (h1 : n ≤ 9223372036854775807) (htab : TabW w) :
    Calls Tryz.prog 41 #[.int .i64 n] w fun e w' => e = .returned (itoaV n) ∧ Below w.heap.size w w' := by
  have hc : Calls Tryz.prog 68 #[.int .i64 n, .int .i64 10] w fun e w' => e = .returned (.string ⟨(Lib.itoa n).toArray⟩) ∧ ∃ k os, w' = Sort.grow (w.drewN k) os := Any.strconv_FormatInt_10 Tryz.lays173 n h0 h1 w htab
  go_enter Tryz.func41, Tryz.ntmps41
  go_wp2_with fail
  refine hc.mono ?_
  rintro e w' ⟨rfl, k, os, rfl⟩
  have hb := Lib.below_grow w.heap.size w (Nat.le_refl _) k os
  clear hc
  go_wp2_with fail
  go_ret
  exact ⟨rfl, hb⟩
/-- the digits of a number, none for 0 -/
def dgs (u : Nat) : List UInt8 := if u = 0 then [] else Lib.decDigits u
theorem dgs_step {u : Nat} (h : u ≠ 0) : dgs u = dgs (u / 10) ++ [UInt8.ofNat (48 + u % 10)] := by
  unfold dgs
  rw [if_neg h]
  by_cases hu : u < 10
  · rw [if_pos (by omega), Lib.decDigits_one hu, Nat.mod_eq_of_lt hu]; rfl
  · rw [if_neg (by omega)]
    conv => lhs; unfold Lib.decDigits
    rw [dif_neg hu]
theorem dgs_len {n : Int} (h0 : -9223372036854775808 ≤ n) (h1 : n ≤ 9223372036854775807) : (dgs n.natAbs).length ≤ 21 := by
  have := Lib.itoa_length_le n h0 h1
  unfold dgs
  split
  · simp
  · unfold Lib.itoa at this
    split at this
    · simp at this; omega
    · rw [show n.toNat = n.natAbs by omega] at this; exact this
theorem itoa_dgs {n : Int} (h : n ≠ 0) : Lib.itoa n = if n < 0 then 45 :: dgs n.natAbs else dgs n.natAbs := by
  unfold Lib.itoa dgs
  rw [if_neg (show ¬ n.natAbs = 0 by omega)]
  split
  · rfl
  · rw [show n.toNat = n.natAbs by omega]
def encU (b : UInt8) : List Value := [.int .u8 b.toNat]
theorem encU_len (b : UInt8) : (encU b).length = 1 := rfl
theorem encU_cells (l : List UInt8) : l.flatMap encU = Lib.byteCells l := by
  induction l with
  | nil => rfl
  | cons b l ih => rw [List.flatMap_cons, ih]; rfl
end Go.Proofs.YtcgkcfmiabninaaGreatDoor
