/-
  FS: texts SDrT, RLay, RNumP, RSplP, one behind the other. No condition but what each says.
-/
import Derived.Test.YtcgkcfmiabninaaGreatDoorFS08
import Derived.Test.YtcgkcfmiabninaaGreatDoorChecked
import Derived.Shelf.Strings.Shaped
import Derived.Shelf.Strings.SplitShaped
import Derived.Shelf.Strings.Prefix
import Derived.Shelf.Strconv.ErrVarParseInt
import Derived.Lib.ParseIntB
import Derived.Lib.Atoi
import Derived.Lib.ItoaNum
import Derived.Lib.SplitLaws
import Derived.Lib.IndexLaws
/-
  Drawn texts of schemes, drawn schemes, drawn faults. No condition.
-/
namespace Go.Proofs.YtcgkcfmiabninaaGreatDoor
open Go.RowKit
set_option maxHeartbeats 400000

/-- a source behind a call's world: a is the world of the call -/
structure SG (a w : World) (gs K : Nat) : Prop where
  src : SrcAt w gs K
  gr : a.grownBy w (some gs)
  lt : gs < a.heap.size
namespace SG
variable {a w w' : World} {gs K K' : Nat}
theorem below (t : SG a w gs K) (hb : Below w.heap.size w w') : SG a w' gs K := ⟨t.src.below (hb.mono t.src.lt), src_below t.gr hb t.gr.size, t.lt⟩
theorem pick (t : SG a w gs K) (hs : SrcAt w' gs K') (hg : w.grownBy w' (some gs)) : SG a w' gs K' := ⟨hs, t.gr.trans hg, t.lt⟩
theorem alloc (t : SG a w gs K) (o : Obj) : SG a (w.alloc o) gs K := t.below ((Below.refl _ _).alloc (Nat.le_refl _) o)
theorem up (t : SG a w gs K) (h : K ≤ K') : SG a w gs K' := ⟨t.src.mono h, t.gr, t.lt⟩
end SG
def strLen : Value → Nat
  | .string t => t.size
  | _ => 0
def lines14 : List ByteArray := [⟨#[45, 45, 32, 120, 10]⟩, ⟨#[10]⟩, ⟨#[115, 116, 97, 116, 105, 111, 110, 32, 98, 97, 110, 107, 10]⟩, ⟨#[115, 116, 97, 116, 105, 111, 110, 10]⟩, ⟨#[115, 116, 97, 116, 105, 111, 110, 32, 66, 97, 100, 10]⟩, ⟨#[114, 111, 111, 109, 32, 110, 111, 110, 101, 10]⟩, ⟨#[116, 117, 98, 101, 32, 98, 97, 110, 107, 32, 112, 111, 115, 116, 10]⟩, ⟨#[116, 117, 98, 101, 32, 98, 97, 110, 107, 32, 98, 97, 110, 107, 32, 53, 10]⟩, ⟨#[112, 97, 105, 114, 32, 98, 97, 110, 107, 32, 112, 111, 115, 116, 32, 50, 48, 10]⟩, ⟨#[116, 117, 98, 101, 32, 112, 111, 115, 116, 32, 98, 97, 110, 107, 32, 120, 10]⟩, ⟨#[32, 32, 112, 97, 105, 114, 32, 32, 112, 111, 115, 116, 32, 32, 32, 119, 97, 114, 100, 32, 50, 48, 48, 49, 10]⟩, ⟨#[108, 105, 110, 101, 32, 97, 32, 98, 10]⟩, ⟨#[116, 117, 98, 101, 32, 98, 97, 110, 107, 32, 110, 111, 110, 101, 32, 53, 10]⟩, ⟨#[45, 45, 120, 10]⟩]
theorem lines14_size : ∀ z ∈ lines14, z.size ≤ 30 := by
  intro z hz
  simp only [lines14, List.mem_cons, List.not_mem_nil, or_false] at hz
  rcases hz with rfl | rfl | rfl | rfl | rfl | rfl | rfl | rfl | rfl | rfl | rfl | rfl | rfl | rfl <;> decide
theorem lines14_own (w : World) : (w.alloc (.cells #[.string ⟨#[45, 45, 32, 120, 10]⟩, .string ⟨#[10]⟩, .string ⟨#[115, 116, 97, 116, 105, 111, 110, 32, 98, 97, 110, 107, 10]⟩, .string ⟨#[115, 116, 97, 116, 105, 111, 110, 10]⟩, .string ⟨#[115, 116, 97, 116, 105, 111, 110, 32, 66, 97, 100, 10]⟩, .string ⟨#[114, 111, 111, 109, 32, 110, 111, 110, 101, 10]⟩, .string ⟨#[116, 117, 98, 101, 32, 98, 97, 110, 107, 32, 112, 111, 115, 116, 10]⟩, .string ⟨#[116, 117, 98, 101, 32, 98, 97, 110, 107, 32, 98, 97, 110, 107, 32, 53, 10]⟩, .string ⟨#[112, 97, 105, 114, 32, 98, 97, 110, 107, 32, 112, 111, 115, 116, 32, 50, 48, 10]⟩, .string ⟨#[116, 117, 98, 101, 32, 112, 111, 115, 116, 32, 98, 97, 110, 107, 32, 120, 10]⟩, .string ⟨#[32, 32, 112, 97, 105, 114, 32, 32, 112, 111, 115, 116, 32, 32, 32, 119, 97, 114, 100, 32, 50, 48, 48, 49, 10]⟩, .string ⟨#[108, 105, 110, 101, 32, 97, 32, 98, 10]⟩, .string ⟨#[116, 117, 98, 101, 32, 98, 97, 110, 107, 32, 110, 111, 110, 101, 32, 53, 10]⟩, .string ⟨#[45, 45, 120, 10]⟩] 9)).ownsRow w.heap.size 9 1 (.slice (some ⟨w.heap.size, 0, none⟩) 14 14) 14 (lines14.flatMap encS) := by
  have := World.ownsRow_lit (base := w.heap.size) (e := 9) (size := 1) w #[.string ⟨#[45, 45, 32, 120, 10]⟩, .string ⟨#[10]⟩, .string ⟨#[115, 116, 97, 116, 105, 111, 110, 32, 98, 97, 110, 107, 10]⟩, .string ⟨#[115, 116, 97, 116, 105, 111, 110, 10]⟩, .string ⟨#[115, 116, 97, 116, 105, 111, 110, 32, 66, 97, 100, 10]⟩, .string ⟨#[114, 111, 111, 109, 32, 110, 111, 110, 101, 10]⟩, .string ⟨#[116, 117, 98, 101, 32, 98, 97, 110, 107, 32, 112, 111, 115, 116, 10]⟩, .string ⟨#[116, 117, 98, 101, 32, 98, 97, 110, 107, 32, 98, 97, 110, 107, 32, 53, 10]⟩, .string ⟨#[112, 97, 105, 114, 32, 98, 97, 110, 107, 32, 112, 111, 115, 116, 32, 50, 48, 10]⟩, .string ⟨#[116, 117, 98, 101, 32, 112, 111, 115, 116, 32, 98, 97, 110, 107, 32, 120, 10]⟩, .string ⟨#[32, 32, 112, 97, 105, 114, 32, 32, 112, 111, 115, 116, 32, 32, 32, 119, 97, 114, 100, 32, 50, 48, 48, 49, 10]⟩, .string ⟨#[108, 105, 110, 101, 32, 97, 32, 98, 10]⟩, .string ⟨#[116, 117, 98, 101, 32, 98, 97, 110, 107, 32, 110, 111, 110, 101, 32, 53, 10]⟩, .string ⟨#[45, 45, 120, 10]⟩] 14 (Nat.le_refl _) (by simp [maxLen]) (by simp)
  simpa [lines14, encS] using this
theorem txtL_size {α : Type} {f : α → ByteArray} {m : Nat} {s : ByteArray} {xs : List α} (h : ∀ x ∈ xs, (f x).size ≤ m) : ∀ k, (txtL f s xs k).size ≤ s.size + k * m := by
  intro k
  induction k with
  | zero => simp [txtL]
  | succ k ih =>
    have e : (k + 1) * m = k * m + m := Nat.succ_mul k m
    cases hx : xs[k]? with
    | none => simp only [txtL, hx]; omega
    | some x =>
      rw [txtL_succ hx, ByteArray.size_append]
      have := h x (List.mem_of_getElem? hx)
      omega
theorem schT_size {x : Sch} {n : Nat} (h : ShortX x) (h1 : x.st.length ≤ n) (h2 : x.rm.length ≤ n) (h3 : x.wy.length ≤ n) : (schT x).size ≤ 200 * n := by
  have a := txtL_size (f := stT) (s := ⟨#[]⟩) (xs := x.st) (m := 40) (fun z hz => by have := h.1 z hz; simp only [stT, ByteArray.size_append]; have e : (⟨#[115, 116, 97, 116, 105, 111, 110, 32]⟩ : ByteArray).size = 8 := rfl; have e2 : (⟨#[10]⟩ : ByteArray).size = 1 := rfl; omega) x.st.length
  have b := txtL_size (f := rmT) (s := txtL stT ⟨#[]⟩ x.st x.st.length) (xs := x.rm) (m := 40) (fun z hz => by have := h.2.1 z hz; simp only [rmT, ByteArray.size_append]; have e : (⟨#[114, 111, 111, 109, 32]⟩ : ByteArray).size = 5 := rfl; have e2 : (⟨#[10]⟩ : ByteArray).size = 1 := rfl; omega) x.rm.length
  have c := txtL_size (f := wyT) (s := txtL rmT (txtL stT ⟨#[]⟩ x.st x.st.length) x.rm x.rm.length) (xs := x.wy) (m := 60) (fun y hy => by
    have h3 := h.2.2 y hy
    have h4 := itoaB_size (n := y.metres) h3.2.2.1 (by omega)
    simp only [wyT, ByteArray.size_append]
    have e : (⟨#[116, 117, 98, 101, 32]⟩ : ByteArray).size = 5 := rfl
    have e2 : (⟨#[10]⟩ : ByteArray).size = 1 := rfl
    have e3 : (⟨#[32]⟩ : ByteArray).size = 1 := rfl
    omega) x.wy.length
  have e0 : (⟨#[]⟩ : ByteArray).size = 0 := rfl
  rw [schT]
  omega
theorem TinyX.short {x : Sch} (h : TinyX x) : ShortX x := ⟨h.1.2.2.2.1, h.1.2.2.2.2.1, fun y hy => ⟨(h.1.2.2.2.2.2 y hy).1, (h.1.2.2.2.2.2 y hy).2, h.2 y hy⟩⟩
set_option maxHeartbeats 8000000 in
set_option maxRecDepth 100000 in
theorem l21DrawText_any (gs k : Nat) (w : World) (h : SrcAt w gs k) (hk : k ≤ 9000) :
    Calls Tryz.prog 38 #[.pointer (some ⟨gs, 0, none⟩)] w fun r w' => ∃ t : ByteArray, r = .returned (.string t) ∧ t.size ≤ 20000 ∧ w.grownBy w' (some gs) := by
  have hgl := h.lt
  have hD : Calls Tryz.prog 42 #[.pointer (some ⟨gs, 0, none⟩)] w fun r w' => ∃ A1 n1 c1 A2 n2 c2 A3 n3 c3 x, r = .returned (.agg #[.slice A1 n1 c1, .slice A2 n2 c2, .slice A3 n3 c3]) ∧ OwnX w' w.heap.size ⟨A1, n1, c1, A2, n2, c2, A3, n3, c3⟩ x ∧ TinyX x ∧ SrcAt w' gs (k + 100) ∧ w.grownBy w' (some gs) :=
    (l21Draw_any gs k w h (by omega)).mono fun r w' ⟨⟨A1, n1, c1, A2, n2, c2, A3, n3, c3⟩, x, h⟩ => ⟨A1, n1, c1, A2, n2, c2, A3, n3, c3, x, h⟩
  clear h
  go_enter Tryz.func38, Tryz.ntmps38
  go_wp2_with fail
  refine hD.mono ?_
  rintro r w1 ⟨A1, n1, c1, A2, n2, c2, A3, n3, c3, x, rfl, o1, px, hs1, hg1⟩
  obtain ⟨W2, hW2⟩ : ∃ W2, W2 = w1.alloc (.cells #[.slice A1 n1 c1, .slice A2 n2 c2, .slice A3 n3 c3] 25) := ⟨_, rfl⟩
  have b2 : Below w1.heap.size w1 W2 := by rw [hW2]; exact (Below.refl _ _).alloc (Nat.le_refl _) _
  have T1 : SG w w1 gs (k + 100) := ⟨hs1, hg1, hgl⟩
  have T2 := T1.below b2
  have X2 := (o1.below b2).sl
  have m0 : W2.cell? ⟨w1.heap.size, 0, none⟩ = some (.slice A1 n1 c1) := by rw [hW2]; exact (World.cell?_alloc_at _ _ _ _ rfl).trans rfl
  have m1 : W2.cell? ⟨w1.heap.size, 1, none⟩ = some (.slice A2 n2 c2) := by rw [hW2]; exact (World.cell?_alloc_at _ _ _ _ rfl).trans rfl
  have m2 : W2.cell? ⟨w1.heap.size, 2, none⟩ = some (.slice A3 n3 c3) := by rw [hW2]; exact (World.cell?_alloc_at _ _ _ _ rfl).trans rfl
  have l1 := X2.st.len
  have l2 := X2.rm.len
  have l3 := X2.wy.len
  simp only at l1 l2 l3
  have hf := px.1
  have hn : n1 ≤ 2000000 ∧ n2 ≤ 2000000 ∧ n3 ≤ 2000000 := by have := hf.1; have := hf.2.1; have := hf.2.2.1; omega
  have cT := l21Text_any w1.heap.size ⟨A1, n1, c1, A2, n2, c2, A3, n3, c3⟩ x W2 W2.heap.size (Nat.le_refl _) hn X2 (hid px.short) m0 m1 m2
  have hz := schT_size (n := 8) px.short hf.1 hf.2.1 hf.2.2.1
  obtain ⟨t0, ht0⟩ : ∃ t0, t0 = schT x := ⟨_, rfl⟩
  rw [← ht0] at cT hz
  have HW2 := hid hW2
  have TT2 := hid T2
  clear hD hW2 b2 T1 T2 X2 m0 m1 m2 l1 l2 l3 hf hn o1 px hs1 hg1 ht0
  go_wp2_with fail
  rw [← HW2.out]
  refine cT.mono ?_
  rintro r w3 ⟨rfl, b3⟩
  have T3 := TT2.out.below b3
  clear cT HW2 TT2 b3
  go_wp2_with fail
  refine (pick_any gs (k + 100) 4 w3 T3.src (by omega) (by omega)).mono ?_
  rintro r w4 ⟨q, rfl, q0, q1, hs4, hg4⟩
  have T4 := hid (T3.pick hs4 hg4)
  obtain ⟨q, rfl⟩ : ∃ q' : Nat, q = q' := ⟨q.toNat, by omega⟩
  have q4 : q ≤ 4 := by omega
  clear hs4 hg4 T3 q0 q1
  go_wp2_with fail
  go_loopw [4, 5] (fun vt vk wl => ∃ (t : ByteArray) (j : Nat), j ≤ 4 ∧ t.size ≤ 3000 + 40 * (4 - j) ∧ vt = .string t ∧ vk = .int .i64 (j : Nat) ∧ Hid (SG w wl gs (k + 102 + 2 * (4 - j)))) (fun _ v _ => (intOf v).toNat)
  case atStart => exact ⟨t0, q, q4, by omega, rfl, rfl, hid (T4.out.up (by omega))⟩
  case round =>
    clear T4
    obtain ⟨t, j, hj, htz, rfl, rfl, hT⟩ := hrel
    by_cases hj0 : 0 < j
    · have j0 : (0 : Int) < (j : Int) := by omega
      have NN := hid (lines14_own wr)
      have TA := hid (hT.out.alloc (.cells #[.string ⟨#[45, 45, 32, 120, 10]⟩, .string ⟨#[10]⟩, .string ⟨#[115, 116, 97, 116, 105, 111, 110, 32, 98, 97, 110, 107, 10]⟩, .string ⟨#[115, 116, 97, 116, 105, 111, 110, 10]⟩, .string ⟨#[115, 116, 97, 116, 105, 111, 110, 32, 66, 97, 100, 10]⟩, .string ⟨#[114, 111, 111, 109, 32, 110, 111, 110, 101, 10]⟩, .string ⟨#[116, 117, 98, 101, 32, 98, 97, 110, 107, 32, 112, 111, 115, 116, 10]⟩, .string ⟨#[116, 117, 98, 101, 32, 98, 97, 110, 107, 32, 98, 97, 110, 107, 32, 53, 10]⟩, .string ⟨#[112, 97, 105, 114, 32, 98, 97, 110, 107, 32, 112, 111, 115, 116, 32, 50, 48, 10]⟩, .string ⟨#[116, 117, 98, 101, 32, 112, 111, 115, 116, 32, 98, 97, 110, 107, 32, 120, 10]⟩, .string ⟨#[32, 32, 112, 97, 105, 114, 32, 32, 112, 111, 115, 116, 32, 32, 32, 119, 97, 114, 100, 32, 50, 48, 48, 49, 10]⟩, .string ⟨#[108, 105, 110, 101, 32, 97, 32, 98, 10]⟩, .string ⟨#[116, 117, 98, 101, 32, 98, 97, 110, 107, 32, 110, 111, 110, 101, 32, 53, 10]⟩, .string ⟨#[45, 45, 120, 10]⟩] 9))
      have lw := hT.out.src.lt
      go_wp2_with fail
      refine (text_any gs (k + 102 + 2 * (4 - j)) (some ⟨wr.heap.size, 0, none⟩) 14 14 lines14 _ TA.out.src (by omega) (by omega) (by omega) (own_sl encS_len (by omega) NN.out) (fun b off s e => by injection e with e; injection e with e; omega)).mono ?_
      rintro r w6 ⟨z, rfl, hz6, hs6, hg6⟩
      have zz := lines14_size z hz6
      have T6 := hid ((TA.out.pick hs6 hg6).up (K' := k + 102 + 2 * (4 - (j - 1))) (by omega))
      have sz : (9223372036854775807 < t.size + z.size) = False := by simp; omega
      have ez : (t ++ z).size = t.size + z.size := ByteArray.size_append
      obtain ⟨u, hu⟩ : ∃ u, u = t ++ z := ⟨_, rfl⟩
      rw [← hu] at ez
      have HU := hid hu
      have wj : (j : Int) - 1 = ((j - 1 : Nat) : Int) := by omega
      have WJ := hid wj
      clear hz6 hs6 hg6 TA NN hT hu wj
      go_wp2_with fail
      go_roundw
      all_goals first | exact ⟨u, j - 1, by omega, by omega, by rw [HU.out], by rw [WJ.out], T6⟩ | exact ⟨⟨u, j - 1, by omega, by omega, by rw [HU.out], by rw [WJ.out], T6⟩, by simp [intOf]; omega⟩ | (simp [intOf]; omega)
    · obtain rfl : j = 0 := by omega
      have K3 := hid (hT.out.up (K' := k + 112) (by omega))
      clear hT hj0
      go_wp2_with fail
      refine (pick_any gs (k + 112) 16 wr K3.out.src (by omega) (by omega)).mono ?_
      rintro r w6 ⟨v, rfl, v0, v1, hs6, hg6⟩
      have T6 := hid (K3.out.pick hs6 hg6)
      clear hs6 hg6 K3
      have VN0 : 0 ≤ v := v0
      by_cases e0 : v = 0
      · subst e0
        clear v0 v1 VN0
        go_wp2_with fail
        refine (pick_any gs (k + 112 + 2) 4 w6 T6.out.src (by omega) (by omega)).mono ?_
        rintro r w7 ⟨q2, rfl, q0, q1, hs7, hg7⟩
        have T7 := hid (T6.out.pick hs7 hg7)
        obtain ⟨q2, rfl⟩ : ∃ q' : Nat, q2 = q' := ⟨q2.toNat, by omega⟩
        have q24 : q2 ≤ 4 := by omega
        clear hs7 hg7 T6 q0 q1
        go_wp2_with fail
        go_loopw [4, 6] (fun vt vk wl => ∃ (t : ByteArray) (j : Nat), j ≤ 30 ∧ t.size ≤ 4000 + 2 * (30 - j) ∧ vt = .string t ∧ vk = .int .i64 (j : Nat) ∧ Hid (SG w wl gs (k + 116))) (fun _ v _ => (intOf v).toNat)
        case atStart => exact ⟨t, q2 + 19, by omega, by omega, rfl, by go_num, T7⟩
        case round =>
          clear T7
          obtain ⟨t, j, hj, htz, rfl, rfl, hT⟩ := hrel
          by_cases hj0 : 0 < j
          · have j0 : (0 : Int) < (j : Int) := by omega
            have sz : (9223372036854775807 < t.size + 2) = False := by simp; omega
            have ez : (t ++ (⟨#[63, 10]⟩ : ByteArray)).size = t.size + 2 := ByteArray.size_append
            obtain ⟨u, hu⟩ : ∃ u, u = t ++ (⟨#[63, 10]⟩ : ByteArray) := ⟨_, rfl⟩
            rw [← hu] at ez
            have HU := hid hu
            have wj : (j : Int) - 1 = ((j - 1 : Nat) : Int) := by omega
            have WJ := hid wj
            clear hu wj
            go_wp2_with fail
            go_roundw
            all_goals first | exact ⟨u, j - 1, by omega, by omega, by rw [HU.out], by rw [WJ.out], hT⟩ | exact ⟨⟨u, j - 1, by omega, by omega, by rw [HU.out], by rw [WJ.out], hT⟩, by simp [intOf]; omega⟩ | (simp [intOf]; omega)
          · obtain rfl : j = 0 := by omega
            go_wp2_with fail
            go_ret
            exact ⟨t, rfl, by omega, hT.out.gr⟩
      have n0 : (v == 0) = false := by simpa using e0
      by_cases e1 : v = 1
      · subst e1
        clear v0 v1 VN0 e0 n0
        go_wp2_with fail
        refine (pick_any gs (k + 112 + 2) 2 w6 T6.out.src (by omega) (by omega)).mono ?_
        rintro r w7 ⟨q2, rfl, q0, q1, hs7, hg7⟩
        have T7 := hid (T6.out.pick hs7 hg7)
        obtain ⟨m, hm⟩ : ∃ m, m = 3000 + q2 := ⟨_, rfl⟩
        have m0 : 3000 ≤ m := by omega
        have m1 : m ≤ 3002 := by omega
        have wm : IntKind.i64.wrap (3000 + q2) = m := by rw [IntWalk.i64_in _ (by omega), hm]
        clear hs7 hg7 T6 q0 q1 hm
        go_wp2_with fail
        go_loopw [4] (fun vt wl => ∃ (t : ByteArray), t.size ≤ 6000 ∧ vt = .string t ∧ Hid (SG w wl gs (k + 116))) (fun vt _ => 7000 - strLen vt)
        case atStart => exact ⟨t, by omega, rfl, T7⟩
        case round =>
          clear T7
          obtain ⟨t, htz, rfl, hT⟩ := hrel
          by_cases hj0 : (t.size : Int) < m
          · have sz : (9223372036854775807 < t.size + 1) = False := by simp; omega
            have ez : (t ++ (⟨#[32]⟩ : ByteArray)).size = t.size + 1 := ByteArray.size_append
            obtain ⟨u, hu⟩ : ∃ u, u = t ++ (⟨#[32]⟩ : ByteArray) := ⟨_, rfl⟩
            rw [← hu] at ez
            have HU := hid hu
            clear hu
            go_wp2_with fail
            rw [← HU.out]
            go_roundw
            all_goals first | exact ⟨u, by omega, rfl, hT⟩ | exact ⟨⟨u, by omega, rfl, hT⟩, by simp only [strLen]; omega⟩ | (simp only [strLen]; omega)
          · go_wp2_with fail
            go_ret
            exact ⟨t, rfl, by omega, hT.out.gr⟩
      have n1 : (v == 1) = false := by simpa using e1
      by_cases e2 : v = 2
      · subst e2
        clear v0 v1 VN0 e0 n0 e1 n1
        go_wp2_with fail
        refine (pick_any gs (k + 112 + 2) 3 w6 T6.out.src (by omega) (by omega)).mono ?_
        rintro r w7 ⟨q2, rfl, q0, q1, hs7, hg7⟩
        have T7 := hid (T6.out.pick hs7 hg7)
        obtain ⟨q2, rfl⟩ : ∃ q' : Nat, q2 = q' := ⟨q2.toNat, by omega⟩
        have q24 : q2 ≤ 4 := by omega
        clear hs7 hg7 T6 q0 q1
        go_wp2_with fail
        go_loopw [4, 8] (fun vt vk wl => ∃ (t : ByteArray) (j : Nat), j ≤ 30 ∧ t.size ≤ 4000 + 40 * (30 - j) ∧ vt = .string t ∧ vk = .int .i64 (j : Nat) ∧ Hid (SG w wl gs (k + 116))) (fun _ v _ => (intOf v).toNat)
        case atStart => exact ⟨t, 20 + q2, by omega, by omega, rfl, by go_num, T7⟩
        case round =>
          clear T7
          obtain ⟨t, j, hj, htz, rfl, rfl, hT⟩ := hrel
          by_cases hj0 : 0 < j
          · have j0 : (0 : Int) < (j : Int) := by omega
            have cD := l01Dec_any (j : Int) wr (by omega) (by omega)
            have sX := itoaB_size (n := (j : Int)) (by omega) (by omega)
            rw [itoaV_eq] at cD
            generalize itoaB (j : Int) = X at cD sX
            have sz0 : (9223372036854775807 < 9 + X.size) = False := by simp; omega
            have sz1 : (9223372036854775807 < 9 + X.size + 1) = False := by simp; omega
            have sz2 : (9223372036854775807 < t.size + (9 + X.size + 1)) = False := by simp; omega
            have ez : (t ++ (((⟨#[115, 116, 97, 116, 105, 111, 110, 32, 122]⟩ : ByteArray) ++ X) ++ (⟨#[10]⟩ : ByteArray))).size = t.size + (9 + X.size + 1) := by simp only [ByteArray.size_append]; rfl
            obtain ⟨u, hu⟩ : ∃ u, u = t ++ (((⟨#[115, 116, 97, 116, 105, 111, 110, 32, 122]⟩ : ByteArray) ++ X) ++ (⟨#[10]⟩ : ByteArray)) := ⟨_, rfl⟩
            rw [← hu] at ez
            have HU := hid hu
            have wj : (j : Int) - 1 = ((j - 1 : Nat) : Int) := by omega
            have WJ := hid wj
            clear hu wj
            go_wp2_with fail
            refine cD.mono ?_
            rintro r w8 ⟨rfl, b8⟩
            have T8 := hid (hT.out.below b8)
            clear hT b8 cD
            go_wp2_with fail
            go_roundw
            all_goals first | exact ⟨u, j - 1, by omega, by omega, by rw [HU.out], by rw [WJ.out], T8⟩ | exact ⟨⟨u, j - 1, by omega, by omega, by rw [HU.out], by rw [WJ.out], T8⟩, by simp [intOf]; omega⟩ | (simp [intOf]; omega)
          · obtain rfl : j = 0 := by omega
            go_wp2_with fail
            go_ret
            exact ⟨t, rfl, by omega, hT.out.gr⟩
      have n2 : (v == 2) = false := by simpa using e2
      go_wp2_with fail
      go_ret
      exact ⟨t, rfl, by omega, T6.out.gr⟩
theorem DrawReadScheme_any (v : Value) (w : World) (hv : Bytes w w.heap.size 5000 v) :
    Calls Tryz.prog 14 #[v] w fun r w' => ∃ t : ByteArray, r = .returned (.string t) ∧ t.size ≤ 20000 ∧ Below w.heap.size w w' := by
  have hF := l00From_any v w hv
  clear hv
  go_enter Tryz.func14, Tryz.ntmps14
  go_wp2_with fail
  refine hF.mono ?_
  rintro r w1 ⟨rfl, hs1, b1, z1⟩
  have cD := l21DrawText_any w.heap.size 0 w1 hs1 (by omega)
  clear hF
  go_wp2_with fail
  refine cD.mono ?_
  rintro r w2 ⟨t, rfl, ht, hg⟩
  have b2 := below_src b1 hg (Nat.le_refl _) b1.size
  go_wp2_with fail
  go_ret
  exact ⟨t, rfl, ht, b2⟩
set_option maxHeartbeats 4000000 in
set_option maxRecDepth 100000 in
theorem DrawSchemeText_any (v : Value) (w : World) (hv : Bytes w w.heap.size 5000 v) :
    Calls Tryz.prog 15 #[v] w fun r w' => ∃ A1 n1 c1 A2 n2 c2 A3 n3 c3 x, r = .returned (.agg #[.slice A1 n1 c1, .slice A2 n2 c2, .slice A3 n3 c3]) ∧ OwnX w' w.heap.size ⟨A1, n1, c1, A2, n2, c2, A3, n3, c3⟩ x ∧ FewX 62 x ∧ Below w.heap.size w w' := by
  obtain ⟨W0, hW0⟩ : ∃ W0, W0 = w.alloc (.cells #[.slice none 0 0, .slice none 0 0, .slice none 0 0] 25) := ⟨_, rfl⟩
  have r0 : Blk3 W0 w.heap.size (.slice none 0 0) (.slice none 0 0) (.slice none 0 0) := by rw [hW0]; exact ⟨by go_simp, by go_simp, by go_simp, by go_simp, by go_simp, by go_simp⟩
  have b0 : Below w.heap.size w W0 := by rw [hW0]; exact (Below.refl _ _).alloc (Nat.le_refl _) _
  have z0 : w.heap.size < W0.heap.size := r0.lt
  have hF := l00From_any v W0 ((hv.below b0).more (by omega))
  have HW0 := hid hW0
  clear hW0 hv
  go_enter Tryz.func15, Tryz.ntmps15
  go_wp2_with fail
  rw [← HW0.out]
  refine hF.mono ?_
  rintro r w1 ⟨rfl, hs1, b1, z1⟩
  clear hF
  obtain ⟨gs, hgs⟩ : ∃ gs, gs = W0.heap.size := ⟨_, rfl⟩
  rw [← hgs] at hs1 z1
  have r1 := r0.at_ b1 z0
  have hD : Calls Tryz.prog 40 #[.pointer (some ⟨gs, 0, none⟩)] w1 fun r w' => ∃ A1 n1 c1 A2 n2 c2 A3 n3 c3 x, r = .returned (.agg #[.slice A1 n1 c1, .slice A2 n2 c2, .slice A3 n3 c3]) ∧ OwnX w' w1.heap.size ⟨A1, n1, c1, A2, n2, c2, A3, n3, c3⟩ x ∧ FewX 62 x ∧ SrcAt w' gs (0 + 120) ∧ w1.grownBy w' (some gs) :=
    (l21Bent_any gs 0 w1 hs1 (by omega)).mono fun r w' ⟨⟨A1, n1, c1, A2, n2, c2, A3, n3, c3⟩, x, h⟩ => ⟨A1, n1, c1, A2, n2, c2, A3, n3, c3, x, h⟩
  have c1 := b0.trans (b1.mono b0.size)
  have hgw : w.heap.size < gs := by omega
  go_wp2_with fail
  rw [← hgs]
  refine hD.mono ?_
  rintro r w2 ⟨A1, n1, k1, A2, n2, k2, A3, n3, k3, x, rfl, o2, px, hs2, hg2⟩
  clear hD
  have z2 := hg2.size
  have c2 := hid (below_src c1 hg2 (by omega) c1.size)
  have r2 := r1.grow hg2 (by simp; omega)
  have zc := c1.size
  have o3 := hid o2
  have p0 := set3_0 r2.c0 (.slice A1 n1 k1) (.slice A2 n2 k2) (.slice A3 n3 k3)
  have p1 := set3_1 r2.c1 (.slice A1 n1 k1) (.slice A2 n2 k2) (.slice A3 n3 k3)
  have p2 := set3_2 r2.c2 (.slice A1 n1 k1) (.slice A2 n2 k2) (.slice A3 n3 k3)
  have P := hid (And.intro p0 (And.intro p1 p2))
  have q0 := r2.c0
  have q1 := r2.c1
  have q2 := r2.c2
  have y0 := r2.f0
  have y1 := r2.f1
  have y2 := r2.f2
  have yl := r2.lt
  clear o2 r0 r1 r2 hs1 hs2 hg2 b0 b1 c1 HW0 p0 p1 p2
  go_wp2_with fail
  obtain ⟨P0, P1, P2⟩ := P.out
  refine bodyPost_ret (v := .agg #[.slice A1 n1 k1, .slice A2 n2 k2, .slice A3 n3 k3]) (by simp [results, Tryz.results15, go_sem, P0, P1, P2]) rfl ⟨A1, n1, k1, A2, n2, k2, A3, n3, k3, x, rfl, ?_, px, ?_⟩
  · exact ⟨(ow_set3 (fun e => by have := (o3.out.st.lt _ e).1; omega) o3.out.st).mono (by omega), (ow_set3 (fun e => by have := (o3.out.rm.lt _ e).1; omega) o3.out.rm).mono (by omega), (ow_set3 (fun e => by have := (o3.out.wy.lt _ e).1; omega) o3.out.wy).mono (by omega), o3.out.ap12, o3.out.ap13, o3.out.ap23⟩
  · exact ((c2.out.setCell (p := ⟨w.heap.size, 0, none⟩) (Nat.le_refl _) _).setCell (p := ⟨w.heap.size, 1, none⟩) (Nat.le_refl _) _).setCell (p := ⟨w.heap.size, 2, none⟩) (Nat.le_refl _) _
set_option maxHeartbeats 4000000 in
set_option maxRecDepth 100000 in
theorem DrawFaultText_any (v : Value) (w : World) (hv : Bytes w w.heap.size 5000 v) :
    Calls Tryz.prog 18 #[v] w fun r w' => ∃ l c : Int, r = .returned (.agg #[.int .i64 l, .int .i64 c]) ∧ Below w.heap.size w w' := by
  obtain ⟨W0, hW0⟩ : ∃ W0, W0 = w.alloc (.cells #[.int .i64 0, .int .i64 0] 42) := ⟨_, rfl⟩
  have d0 : W0.cell? ⟨w.heap.size, 0, none⟩ = some (.int .i64 0) := by rw [hW0]; go_simp
  have d1 : W0.cell? ⟨w.heap.size, 1, none⟩ = some (.int .i64 0) := by rw [hW0]; go_simp
  have f0 : W0.frozen? ⟨w.heap.size, 0, none⟩ = false := by rw [hW0]; go_simp
  have f1 : W0.frozen? ⟨w.heap.size, 1, none⟩ = false := by rw [hW0]; go_simp
  have b0 : Below w.heap.size w W0 := by rw [hW0]; exact (Below.refl _ _).alloc (Nat.le_refl _) _
  have z0 : w.heap.size < W0.heap.size := World.block_lt_of_cell? _ _ d0
  have hF := l00From_any v W0 ((hv.below b0).more (by omega))
  have HW0 := hid hW0
  clear hW0 hv
  go_enter Tryz.func18, Tryz.ntmps18
  go_wp2_with fail
  rw [← HW0.out]
  refine hF.mono ?_
  rintro r w1 ⟨rfl, hs1, b1, z1⟩
  clear hF
  obtain ⟨gs, hgs⟩ : ∃ gs, gs = W0.heap.size := ⟨_, rfl⟩
  rw [← hgs] at hs1 z1
  replace d0 := below_cell d0 b1
  replace d1 := below_cell d1 b1
  have ff0 := (b1.frozen (p := ⟨w.heap.size, 0, none⟩) z0).trans f0
  have ff1 := (b1.frozen (p := ⟨w.heap.size, 1, none⟩) z0).trans f1
  have c1 := b0.trans (b1.mono b0.size)
  have hgw : w.heap.size < gs := by omega
  have NN : Hid ((w1.alloc (.cells #[.int .i64 (-1), .int .i64 0, .int .i64 1, .int .i64 8, .int .i64 3001, .int .i64 3002] 2)).ownsRow w1.heap.size 2 1 (.slice (some ⟨w1.heap.size, 0, none⟩) 6 6) 6 (([-1, 0, 1, 8, 3001, 3002] : List Int).flatMap encI)) := by
    have := World.ownsRow_lit (base := w1.heap.size) (e := 2) (size := 1) w1 #[.int .i64 (-1), .int .i64 0, .int .i64 1, .int .i64 8, .int .i64 3001, .int .i64 3002] 6 (Nat.le_refl _) (by simp [maxLen]) (by simp)
    simpa [Hid, encI] using this
  have ne : (some w.heap.size : Option Nat) ≠ some gs := by simp; omega
  have lw1 : w.heap.size < w1.heap.size := by omega
  clear f0 f1 b0 b1
  go_wp2_with fail
  rw [← hgs]
  refine (among_any gs 0 (some ⟨w1.heap.size, 0, none⟩) 6 6 [-1, 0, 1, 8, 3001, 3002] _ (hs1.alloc _) (by omega) (by omega) (by omega) (own_sl encI_len (by omega) NN.out) (fun b off s e => by injection e with e; injection e with e; omega)).mono ?_
  rintro r w2 ⟨l, rfl, hl, hs2, hg2⟩
  have g2 : w1.grownBy w2 (some gs) := (gr_alloc (World.grownBy.refl w1 (some gs))).trans hg2
  replace d0 := g2.cell d0 ne
  replace d1 := g2.cell d1 ne
  replace ff0 := (g2.frozen_far ⟨w.heap.size, 0, none⟩ lw1 ne).trans ff0
  replace ff1 := (g2.frozen_far ⟨w.heap.size, 1, none⟩ lw1 ne).trans ff1
  have c2 := below_src c1 g2 (by omega) c1.size
  have hp := pick_any gs (0 + 2) 11 (w2.alloc (.cells #[.int .i64 l, .int .i64 0] 42)) (hs2.alloc _) (by omega) (by omega)
  have lg2 := hs2.lt
  clear hl hs1 hs2 hg2 NN c1
  have z2 := g2.size
  go_wp2_with fail
  rw [← hgs]
  refine hp.mono ?_
  rintro r w3 ⟨q, rfl, q0, q1, hs3, hg3⟩
  have ne2 : (some w2.heap.size : Option Nat) ≠ some gs := by simp; omega
  have lw2 : w.heap.size < w2.heap.size := by omega
  have a2 : Below w2.heap.size w2 (w2.alloc (.cells #[.int .i64 l, .int .i64 0] 42)) := (Below.refl _ _).alloc (Nat.le_refl _) _
  replace d0 := hg3.cell (below_cell d0 a2) ne
  replace d1 := hg3.cell (below_cell d1 a2) ne
  replace ff0 := (hg3.frozen_far ⟨w.heap.size, 0, none⟩ (by simp; omega) ne).trans ((a2.frozen (p := ⟨w.heap.size, 0, none⟩) lw2).trans ff0)
  replace ff1 := (hg3.frozen_far ⟨w.heap.size, 1, none⟩ (by simp; omega) ne).trans ((a2.frozen (p := ⟨w.heap.size, 1, none⟩) lw2).trans ff1)
  have e0 : w3.cell? ⟨w2.heap.size, 0, none⟩ = some (.int .i64 l) := hg3.cell ((World.cell?_alloc_at _ _ _ _ rfl).trans rfl) ne2
  have e1 : w3.cell? ⟨w2.heap.size, 1, none⟩ = some (.int .i64 0) := hg3.cell ((World.cell?_alloc_at _ _ _ _ rfl).trans rfl) ne2
  have h1 : w3.frozen? ⟨w2.heap.size, 1, none⟩ = false := (hg3.frozen_far ⟨w2.heap.size, 1, none⟩ (by simp) ne2).trans (by go_simp)
  have c3 := hid (below_src (c2.trans (a2.mono c2.size)) hg3 (by omega) (c2.trans (a2.mono c2.size)).size)
  have wq : IntKind.i64.wrap (q - 1) = q - 1 := IntWalk.i64_in _ (by omega)
  have l3 := World.block_lt_of_cell? _ _ e0
  have l4 := World.block_lt_of_cell? _ _ d0
  simp only at l3 l4
  have n34 : w2.heap.size ≠ w.heap.size := by omega
  clear a2 hp c2 g2 hs3 hg3 q0 q1
  go_wp2_with fail
  have P0 : (((w3.setCell ⟨w2.heap.size, 1, none⟩ (.int .i64 (q - 1))).setCell ⟨w.heap.size, 0, none⟩ (.int .i64 l)).setCell ⟨w.heap.size, 1, none⟩ (.int .i64 (q - 1))).cell? ⟨w.heap.size, 0, none⟩ = some (.int .i64 l) := (World.cell?_setCell_other _ _ _ _ (by simp)).trans (World.cell?_setCell_same _ _ _ ((cell_far n34).trans d0))
  have P1 : (((w3.setCell ⟨w2.heap.size, 1, none⟩ (.int .i64 (q - 1))).setCell ⟨w.heap.size, 0, none⟩ (.int .i64 l)).setCell ⟨w.heap.size, 1, none⟩ (.int .i64 (q - 1))).cell? ⟨w.heap.size, 1, none⟩ = some (.int .i64 (q - 1)) := World.cell?_setCell_same _ _ _ ((World.cell?_setCell_other _ _ _ _ (by simp)).trans ((cell_far n34).trans d1))
  refine bodyPost_ret (v := .agg #[.int .i64 l, .int .i64 (q - 1)]) (by simp [results, Tryz.results18, go_sem, P0, P1]) rfl ⟨l, q - 1, rfl, ?_⟩
  exact ((c3.out.setCell (p := ⟨w2.heap.size, 1, none⟩) (Nat.le_of_lt lw2) _).setCell (p := ⟨w.heap.size, 0, none⟩) (Nat.le_refl _) _).setCell (p := ⟨w.heap.size, 1, none⟩) (Nat.le_refl _) _
end Go.Proofs.YtcgkcfmiabninaaGreatDoor
/-
  The library's functions as they lie in this program: laysC174, laysM145, laysM147, lays101. No condition.
-/
namespace Go.Proofs.YtcgkcfmiabninaaGreatDoor
open Go.Shelf
def Tryz.laysC174_ren : Go.Shelf.Ren := ⟨fun | 174 => 84 | 247 => 96 | 245 => 97 | 287 => 109 | 279 => 110 | 280 => 111 | 281 => 112 | 282 => 113 | 321 => 121 | 322 => 122 | 316 => 123 | 171 => 125 | 205 => 124 | 243 => 128 | 246 => 85 | 283 => 98 | 284 => 99 | 285 => 100 | 286 => 101 | 129 => 115 | 317 => 114 | 318 => 116 | 319 => 117 | 320 => 118 | 337 => 126 | 338 => 127 | n => n, fun | 9 => 9 | 3 => 3 | 2 => 2 | 75 => 95 | 85 => 96 | 4 => 4 | 167 => 115 | 5 => 5 | 53 => 81 | 175 => 116 | 46 => 98 | 168 => 118 | 37 => 34 | 0 => 0 | 210 => 136 | 21 => 21 | 127 => 139 | 145 => 142 | 143 => 140 | 171 => 108 | 173 => 111 | 212 => 122 | 51 => 123 | 20 => 20 | 213 => 124 | 232 => 143 | 233 => 144 | 80 => 145 | n => n, fun | 15 => 4 | 16 => 5 | 17 => 1 | 18 => 6 | 19 => 7 | n => n⟩
theorem Tryz.laysC174 : Go.Proofs.LaysC.n174 Tryz.prog Tryz.laysC174_ren := {
  mixed := by kernel_rfl
  f129 := Tryz.func115.trans (congrArg some (by kernel_rfl))
  f171 := Tryz.func125.trans (congrArg some (by kernel_rfl))
  f174 := Tryz.func84.trans (congrArg some (by kernel_rfl))
  f205 := Tryz.func124.trans (congrArg some (by kernel_rfl))
  f243 := Tryz.func128.trans (congrArg some (by kernel_rfl))
  f245 := Tryz.func97.trans (congrArg some (by kernel_rfl))
  f246 := Tryz.func85.trans (congrArg some (by kernel_rfl))
  f247 := Tryz.func96.trans (congrArg some (by kernel_rfl))
  f279 := Tryz.func110.trans (congrArg some (by kernel_rfl))
  f280 := Tryz.func111.trans (congrArg some (by kernel_rfl))
  f281 := Tryz.func112.trans (congrArg some (by kernel_rfl))
  f282 := Tryz.func113.trans (congrArg some (by kernel_rfl))
  f283 := Tryz.func98.trans (congrArg some (by kernel_rfl))
  f284 := Tryz.func99.trans (congrArg some (by kernel_rfl))
  f285 := Tryz.func100.trans (congrArg some (by kernel_rfl))
  f286 := Tryz.func101.trans (congrArg some (by kernel_rfl))
  f287 := Tryz.func109.trans (congrArg some (by kernel_rfl))
  f316 := Tryz.func123.trans (congrArg some (by kernel_rfl))
  f317 := Tryz.func114.trans (congrArg some (by kernel_rfl))
  f318 := Tryz.func116.trans (congrArg some (by kernel_rfl))
  f319 := Tryz.func117.trans (congrArg some (by kernel_rfl))
  f320 := Tryz.func118.trans (congrArg some (by kernel_rfl))
  f321 := Tryz.func121.trans (congrArg some (by kernel_rfl))
  f322 := Tryz.func122.trans (congrArg some (by kernel_rfl))
  f337 := Tryz.func126.trans (congrArg some (by kernel_rfl))
  f338 := Tryz.func127.trans (congrArg some (by kernel_rfl))
  t0 := Tryz.underlying0
  a0 := Tryz.isAgg0
  z0 := Tryz.sizeOf0
  v0 := Tryz.zeroValue0
  t2 := Tryz.underlying2
  a2 := Tryz.isAgg2
  z2 := Tryz.sizeOf2
  v2 := Tryz.zeroValue2
  t3 := Tryz.underlying3
  a3 := Tryz.isAgg3
  z3 := Tryz.sizeOf3
  v3 := Tryz.zeroValue3
  t4 := Tryz.underlying4
  a4 := Tryz.isAgg4
  z4 := Tryz.sizeOf4
  v4 := Tryz.zeroValue4
  t5 := Tryz.underlying5
  a5 := Tryz.isAgg5
  z5 := Tryz.sizeOf5
  v5 := Tryz.zeroValue5
  t9 := Tryz.underlying9
  a9 := Tryz.isAgg9
  z9 := Tryz.sizeOf9
  v9 := Tryz.zeroValue9
  t20 := Tryz.underlying20
  a20 := Tryz.isAgg20
  z20 := Tryz.sizeOf20
  v20 := Tryz.zeroValue20
  t21 := Tryz.underlying21
  a21 := Tryz.isAgg21
  z21 := Tryz.sizeOf21
  v21 := Tryz.zeroValue21
  t37 := Tryz.underlying34
  a37 := Tryz.isAgg34
  z37 := Tryz.sizeOf34
  v37 := Tryz.zeroValue34
  t46 := Tryz.underlying98
  a46 := Tryz.isAgg98
  z46 := Tryz.sizeOf98
  v46 := Tryz.zeroValue98
  t51 := Tryz.underlying123
  a51 := Tryz.isAgg123
  z51 := Tryz.sizeOf123
  v51 := Tryz.zeroValue123
  t53 := Tryz.underlying81
  a53 := Tryz.isAgg81
  z53 := Tryz.sizeOf81
  v53 := Tryz.zeroValue81
  t75 := Tryz.underlying95
  a75 := Tryz.isAgg95
  z75 := Tryz.sizeOf95
  v75 := Tryz.zeroValue95
  t85 := Tryz.underlying96
  a85 := Tryz.isAgg96
  z85 := Tryz.sizeOf96
  v85 := Tryz.zeroValue96
  t127 := Tryz.underlying139
  a127 := Tryz.isAgg139
  z127 := Tryz.sizeOf139
  v127 := Tryz.zeroValue139
  t143 := Tryz.underlying140
  a143 := Tryz.isAgg140
  z143 := Tryz.sizeOf140
  v143 := Tryz.zeroValue140
  t145 := Tryz.underlying142
  a145 := Tryz.isAgg142
  z145 := Tryz.sizeOf142
  v145 := Tryz.zeroValue142
  t167 := Tryz.underlying115
  a167 := Tryz.isAgg115
  z167 := Tryz.sizeOf115
  v167 := Tryz.zeroValue115
  t168 := Tryz.underlying118
  a168 := Tryz.isAgg118
  z168 := Tryz.sizeOf118
  v168 := Tryz.zeroValue118
  t171 := Tryz.underlying108
  a171 := Tryz.isAgg108
  z171 := Tryz.sizeOf108
  v171 := Tryz.zeroValue108
  t173 := Tryz.underlying111
  a173 := Tryz.isAgg111
  z173 := Tryz.sizeOf111
  v173 := Tryz.zeroValue111
  t175 := Tryz.underlying116
  a175 := Tryz.isAgg116
  z175 := Tryz.sizeOf116
  v175 := Tryz.zeroValue116
  t210 := Tryz.underlying136
  a210 := Tryz.isAgg136
  z210 := Tryz.sizeOf136
  v210 := Tryz.zeroValue136
  t212 := Tryz.underlying122
  a212 := Tryz.isAgg122
  z212 := Tryz.sizeOf122
  v212 := Tryz.zeroValue122
  t213 := Tryz.underlying124
  a213 := Tryz.isAgg124
  z213 := Tryz.sizeOf124
  t232 := Tryz.underlying143
  a232 := Tryz.isAgg143
  z232 := Tryz.sizeOf143
  v232 := Tryz.zeroValue143
  t233 := Tryz.underlying144
  a233 := Tryz.isAgg144
  z233 := Tryz.sizeOf144
  v233 := Tryz.zeroValue144
  g15 := by kernel_rfl
  g16 := by kernel_rfl
  g17 := by kernel_rfl
  g18 := by kernel_rfl
  g19 := by kernel_rfl
  t80 := Tryz.underlying145
  a80 := Tryz.isAgg145
  z80 := Tryz.sizeOf145
  v80 := Tryz.zeroValue145
  i0 := by kernel_rfl
  i2 := by kernel_rfl
  i3 := by kernel_rfl
  i4 := by kernel_rfl
  i5 := by kernel_rfl
  i9 := by kernel_rfl
  i20 := by kernel_rfl
  i21 := by kernel_rfl
  i37 := by kernel_rfl
  i46 := by kernel_rfl
  i51 := by kernel_rfl
  i53 := by kernel_rfl
  i75 := by kernel_rfl
  i80 := by kernel_rfl
  i85 := by kernel_rfl
  i127 := by kernel_rfl
  i143 := by kernel_rfl
  i145 := by kernel_rfl
  i167 := by kernel_rfl
  i168 := by kernel_rfl
  i171 := by kernel_rfl
  i173 := by kernel_rfl
  i175 := by kernel_rfl
  i210 := by kernel_rfl
  i212 := by kernel_rfl
  i232 := by kernel_rfl
  i233 := by kernel_rfl
  m15 := by kernel_rfl
  m16 := by kernel_rfl
  m17 := by kernel_rfl
  m18 := by kernel_rfl
  m19 := by kernel_rfl
  c0 := by kernel_rfl
  c2 := by kernel_rfl
  c3 := by kernel_rfl
  c4 := by kernel_rfl
  c5 := by kernel_rfl
  c9 := by kernel_rfl
  c20 := by kernel_rfl
  c21 := by kernel_rfl
  c37 := by kernel_rfl
  c46 := by kernel_rfl
  c51 := by kernel_rfl
  c53 := by kernel_rfl
  c75 := by kernel_rfl
  c80 := by kernel_rfl
  c85 := by kernel_rfl
  c127 := by kernel_rfl
  c143 := by kernel_rfl
  c145 := by kernel_rfl
  c167 := by kernel_rfl
  c168 := by kernel_rfl
  c171 := by kernel_rfl
  c173 := by kernel_rfl
  c175 := by kernel_rfl
  c210 := by kernel_rfl
  c212 := by kernel_rfl
  c213 := by kernel_rfl
  c232 := by kernel_rfl
  c233 := by kernel_rfl }
def Tryz.laysM146_ren : Go.Shelf.Ren := ⟨fun | 146 => 29 | 221 => 62 | 268 => 78 | 138 => 79 | 143 => 80 | 195 => 90 | 197 => 91 | 218 => 92 | 219 => 93 | 260 => 103 | 217 => 104 | 225 => 105 | 224 => 106 | 267 => 107 | 266 => 119 | 314 => 120 | n => n, fun | 9 => 9 | 3 => 3 | 31 => 22 | 4 => 4 | 0 => 0 | 105 => 103 | 21 => 21 | 5 => 5 | 46 => 98 | 119 => 127 | 139 => 130 | 138 => 129 | 146 => 131 | 51 => 123 | n => n, fun | 1 => 0 | 3 => 2 | 4 => 3 | n => n⟩
theorem Tryz.laysM146 : Go.Proofs.LaysM.n146 Tryz.prog Tryz.laysM146_ren := {
  mixed := by kernel_rfl
  f138 := Tryz.func79.trans (congrArg some (by kernel_rfl))
  f143 := Tryz.func80.trans (congrArg some (by kernel_rfl))
  f146 := Tryz.func29.trans (congrArg some (by kernel_rfl))
  f195 := Tryz.func90.trans (congrArg some (by kernel_rfl))
  f197 := Tryz.func91.trans (congrArg some (by kernel_rfl))
  f217 := Tryz.func104.trans (congrArg some (by kernel_rfl))
  f218 := Tryz.func92.trans (congrArg some (by kernel_rfl))
  f219 := Tryz.func93.trans (congrArg some (by kernel_rfl))
  f221 := Tryz.func62.trans (congrArg some (by kernel_rfl))
  f224 := Tryz.func106.trans (congrArg some (by kernel_rfl))
  f225 := Tryz.func105.trans (congrArg some (by kernel_rfl))
  f260 := Tryz.func103.trans (congrArg some (by kernel_rfl))
  f266 := Tryz.func119.trans (congrArg some (by kernel_rfl))
  f267 := Tryz.func107.trans (congrArg some (by kernel_rfl))
  f268 := Tryz.func78.trans (congrArg some (by kernel_rfl))
  f314 := Tryz.func120.trans (congrArg some (by kernel_rfl))
  t0 := Tryz.underlying0
  a0 := Tryz.isAgg0
  z0 := Tryz.sizeOf0
  v0 := Tryz.zeroValue0
  t3 := Tryz.underlying3
  a3 := Tryz.isAgg3
  z3 := Tryz.sizeOf3
  v3 := Tryz.zeroValue3
  t4 := Tryz.underlying4
  a4 := Tryz.isAgg4
  z4 := Tryz.sizeOf4
  v4 := Tryz.zeroValue4
  t5 := Tryz.underlying5
  a5 := Tryz.isAgg5
  z5 := Tryz.sizeOf5
  v5 := Tryz.zeroValue5
  t9 := Tryz.underlying9
  a9 := Tryz.isAgg9
  z9 := Tryz.sizeOf9
  v9 := Tryz.zeroValue9
  t21 := Tryz.underlying21
  a21 := Tryz.isAgg21
  z21 := Tryz.sizeOf21
  v21 := Tryz.zeroValue21
  t31 := Tryz.underlying22
  a31 := Tryz.isAgg22
  z31 := Tryz.sizeOf22
  v31 := Tryz.zeroValue22
  t46 := Tryz.underlying98
  a46 := Tryz.isAgg98
  z46 := Tryz.sizeOf98
  v46 := Tryz.zeroValue98
  t51 := Tryz.underlying123
  a51 := Tryz.isAgg123
  z51 := Tryz.sizeOf123
  v51 := Tryz.zeroValue123
  t105 := Tryz.underlying103
  a105 := Tryz.isAgg103
  z105 := Tryz.sizeOf103
  v105 := Tryz.zeroValue103
  t119 := Tryz.underlying127
  a119 := Tryz.isAgg127
  z119 := Tryz.sizeOf127
  t138 := Tryz.underlying129
  a138 := Tryz.isAgg129
  z138 := Tryz.sizeOf129
  v138 := Tryz.zeroValue129
  t139 := Tryz.underlying130
  a139 := Tryz.isAgg130
  z139 := Tryz.sizeOf130
  v139 := Tryz.zeroValue130
  t146 := Tryz.underlying131
  a146 := Tryz.isAgg131
  z146 := Tryz.sizeOf131
  v146 := Tryz.zeroValue131
  g1 := by kernel_rfl
  g3 := by kernel_rfl
  g4 := by kernel_rfl
  i0 := by kernel_rfl
  i3 := by kernel_rfl
  i4 := by kernel_rfl
  i5 := by kernel_rfl
  i9 := by kernel_rfl
  i21 := by kernel_rfl
  i31 := by kernel_rfl
  i46 := by kernel_rfl
  i51 := by kernel_rfl
  i105 := by kernel_rfl
  i138 := by kernel_rfl
  i139 := by kernel_rfl
  i146 := by kernel_rfl
  m1 := by kernel_rfl
  s1_3 := fun w h => Go.Proofs.cell_of_shapedOpen_int (zero := #[.int .i64 0]) (t := 3) h (of_decide_eq_true (by kernel_rfl)) (by kernel_rfl) rfl (by kernel_rfl) (by kernel_rfl) Tryz.underlying3
  m3 := by kernel_rfl
  m4 := by kernel_rfl }
def Tryz.lays101_ren : Go.Shelf.Ren := ⟨fun | 101 => 83 | 208 => 95 | 206 => 108 | n => n, fun | 9 => 9 | 4 => 4 | 3 => 3 | n => n, fun | n => n⟩
theorem Tryz.lays101 : Go.Proofs.Lays.n101 Tryz.prog Tryz.lays101_ren := {
  mixed := by kernel_rfl
  f101 := Tryz.func83.trans (congrArg some (by kernel_rfl))
  f206 := Tryz.func108.trans (congrArg some (by kernel_rfl))
  f208 := Tryz.func95.trans (congrArg some (by kernel_rfl))
  t3 := Tryz.underlying3
  a3 := Tryz.isAgg3
  z3 := Tryz.sizeOf3
  v3 := Tryz.zeroValue3
  t4 := Tryz.underlying4
  a4 := Tryz.isAgg4
  z4 := Tryz.sizeOf4
  v4 := Tryz.zeroValue4
  t9 := Tryz.underlying9
  a9 := Tryz.isAgg9
  z9 := Tryz.sizeOf9
  v9 := Tryz.zeroValue9 }
theorem maxlen_of (W : World) (h : W.ShapedOpen Tryz.prog) : ∃ m, W.cell? ⟨0, 0, none⟩ = some (.int .i64 m) := Tryz.laysM146.s1_3 W h
end Go.Proofs.YtcgkcfmiabninaaGreatDoor
/-
  Decimal numerals: which texts are the decimal form of a number. No condition.
-/
namespace Go.Proofs.YtcgkcfmiabninaaGreatDoor
open Go.Lib

/-- what stands behind a minus sign -/
def undash (l : List UInt8) : List UInt8 := if l.head? = some 45 then l.tail else l
/-- the number with a decimal form of at most 18 digits -/
def rdN (l : List UInt8) : Option Int :=
  if (undash l).length < 1 ∨ 18 < (undash l).length then none else
  match decFrom 0 (undash l) with
  | none => none
  | some u => if itoa (if l.head? = some 45 then -(u : Int) else u) = l then some (if l.head? = some 45 then -(u : Int) else u) else none
def rdI (l : List UInt8) : Option Int :=
  if 19 < l.length ∨ 18 < (undash l).length then none else
  match parseIntB 64 l with
  | .ok v => if itoa v = l then some v else none
  | _ => none

theorem digitVal_range {b : UInt8} {d : Nat} (h : digitVal b = some d) : d ≤ 9 ∧ d = b.toNat - 48 ∧ 48 ≤ b.toNat ∧ b.toNat ≤ 57 := by
  unfold digitVal at h
  split at h
  · simp only [Option.some.injEq] at h; omega
  · cases h
theorem decFrom_cons (acc : Nat) (c : UInt8) (r : List UInt8) : decFrom acc (c :: r) = if 48 ≤ c.toNat ∧ c.toNat ≤ 57 then decFrom (acc * 10 + (c.toNat - 48)) r else none := by
  by_cases h : 48 ≤ c.toNat ∧ c.toNat ≤ 57
  · simp only [decFrom, digitVal, if_pos h]
  · simp only [decFrom, digitVal, if_neg h]
theorem parse_short : ∀ (l : List UInt8) (k acc : Nat), acc < 10 ^ k → k + l.length ≤ 18 → parseUintM (2 ^ 64 - 1) acc l = match decFrom acc l with | some u => .ok u | none => NumEnd.syntax := by
  intro l
  induction l with
  | nil => intro k acc _ _; rfl
  | cons c r ih =>
    intro k acc ha hk
    rw [decFrom_cons, parseUintM]
    by_cases hc : 48 ≤ c.toNat ∧ c.toNat ≤ 57
    · rw [if_pos hc, if_pos hc]
      simp only [List.length_cons] at hk
      have h17 : 10 ^ k ≤ 10 ^ 17 := Nat.pow_le_pow_right (by omega) (by omega)
      rw [if_neg (by omega), if_neg (by omega)]
      have h18 : acc * 10 + (c.toNat - 48) < 10 ^ (k + 1) := by rw [Nat.pow_succ]; omega
      exact ih (k + 1) _ h18 (by omega)
    · rw [if_neg hc, if_neg hc]
theorem decFrom_below {l : List UInt8} {u : Nat} (h : decFrom 0 l = some u) (hl : l.length ≤ 18) : u < 1000000000000000000 := by
  have h1 := decFrom_lt l 0 u h
  have h2 : 10 ^ l.length ≤ 10 ^ 18 := Nat.pow_le_pow_right (by omega) hl
  omega
theorem decDigits_head {u : Nat} : ∃ c r, decDigits u = c :: r ∧ 48 ≤ c.toNat ∧ c.toNat ≤ 57 := by
  induction u using Nat.strongRecOn with
  | _ u ih =>
    by_cases h : u < 10
    · refine ⟨_, [], decDigits_one h, ?_, ?_⟩
      · simp [UInt8.toNat_ofNat']; omega
      · simp [UInt8.toNat_ofNat']; omega
    · rw [decDigits, dif_neg h]
      obtain ⟨c, r, e, h1, h2⟩ := ih (u / 10) (by omega)
      rw [e]
      exact ⟨c, _, rfl, h1, h2⟩
theorem decDigits_all (u : Nat) : ∀ c ∈ decDigits u, 48 ≤ c.toNat ∧ c.toNat ≤ 57 := by
  induction u using Nat.strongRecOn with
  | _ u ih =>
    by_cases h : u < 10
    · rw [decDigits_one h]
      intro c hc
      obtain rfl := List.mem_singleton.1 hc
      simp [UInt8.toNat_ofNat']; omega
    · rw [decDigits, dif_neg h]
      intro c hc
      rcases List.mem_append.1 hc with hc | hc
      · exact ih (u / 10) (by omega) c hc
      · obtain rfl := List.mem_singleton.1 hc
        simp [UInt8.toNat_ofNat']; omega
theorem decFrom_append : ∀ (a b : List UInt8) (acc : Nat), decFrom acc (a ++ b) = (decFrom acc a).bind fun u => decFrom u b := by
  intro a
  induction a with
  | nil => intro b acc; rfl
  | cons c r ih =>
    intro b acc
    rw [List.cons_append, decFrom_cons, decFrom_cons]
    split
    · exact ih b _
    · rfl
theorem decFrom_digits (u : Nat) : decFrom 0 (decDigits u) = some u := by
  induction u using Nat.strongRecOn with
  | _ u ih =>
    by_cases h : u < 10
    · rw [decDigits_one h, decFrom_cons]
      have e : (UInt8.ofNat (48 + u)).toNat = 48 + u := by simp [UInt8.toNat_ofNat']; omega
      rw [e, if_pos (by omega)]
      simp only [decFrom, Option.some.injEq]; omega
    · have hd : decDigits u = decDigits (u / 10) ++ [UInt8.ofNat (48 + u % 10)] := by rw [decDigits, dif_neg h]
      rw [hd, decFrom_append, ih (u / 10) (by omega)]
      simp only [Option.bind_some]
      rw [decFrom_cons]
      have e : (UInt8.ofNat (48 + u % 10)).toNat = 48 + u % 10 := by simp [UInt8.toNat_ofNat']; omega
      rw [e, if_pos (by omega)]
      simp only [decFrom, Option.some.injEq]; omega
theorem decDigits_len : ∀ (k u : Nat), u < 10 ^ (k + 1) → (decDigits u).length ≤ k + 1 := by
  intro k
  induction k with
  | zero => intro u h; rw [decDigits_one (by omega)]; simp
  | succ k ih =>
    intro u h
    by_cases h1 : u < 10
    · rw [decDigits_one h1]; simp
    · have hd : decDigits u = decDigits (u / 10) ++ [UInt8.ofNat (48 + u % 10)] := by rw [decDigits, dif_neg h1]
      have := ih (u / 10) (by rw [Nat.pow_succ] at h; omega)
      rw [hd, List.length_append]
      simp only [List.length_cons, List.length_nil]
      omega
theorem itoa_pos {n : Int} (h : 0 ≤ n) : itoa n = decDigits n.toNat := by unfold itoa; rw [if_neg (by omega)]
theorem itoa_head (n : Int) : ∃ c r, itoa n = c :: r ∧ (c = 45 ∨ (48 ≤ c.toNat ∧ c.toNat ≤ 57)) := by
  unfold itoa
  split
  · exact ⟨45, _, rfl, .inl rfl⟩
  · obtain ⟨c, r, e, h⟩ := decDigits_head (u := n.toNat)
    exact ⟨c, r, e, .inr h⟩
theorem undash_pos {c : UInt8} {r : List UInt8} (h : c ≠ 45) : undash (c :: r) = c :: r := by simp [undash, h]
theorem undash_neg (r : List UInt8) : undash (45 :: r) = r := by simp [undash]
/-- both ways of reading agree -/
theorem rdI_eq (l : List UInt8) : rdI l = rdN l := by
  unfold rdI rdN
  by_cases h18 : 18 < (undash l).length
  · rw [if_pos (.inr h18), if_pos (.inr h18)]
  · have h19 : l.length ≤ 19 := by
      unfold undash at h18
      split at h18
      · have := List.length_tail (l := l); omega
      · omega
    rw [if_neg (by omega)]
    cases l with
    | nil => simp [parseIntB, undash]
    | cons c r =>
      by_cases h45 : c = 45
      · subst h45
        rw [undash_neg] at h18 ⊢
        have hn : ((45 : UInt8).toNat = 45) := rfl
        simp only [parseIntB, hn, or_true, if_true, List.head?_cons]
        cases r with
        | nil => simp [parseUintB]
        | cons d q =>
          rw [parseUintB, if_neg (by simp), parse_short (d :: q) 0 0 (by omega) (by omega), if_neg (by simp only [List.length_cons] at h18 ⊢; omega)]
          cases hd : decFrom 0 (d :: q) with
          | none => rfl
          | some u =>
            have hu := decFrom_below hd (by omega)
            simp only [not_true, false_and, if_false, true_and]
            rw [if_neg (by simp only [Nat.add_one_sub_one]; omega)]
      · have h45n : c.toNat ≠ 45 := fun e => h45 (UInt8.toNat_inj.1 e)
        rw [undash_pos h45] at h18 ⊢
        have hh : ¬ ((c :: r).head? = some 45) := by simp [h45]
        by_cases h43 : c.toNat = 43
        · have e1 : decFrom 0 (c :: r) = none := by rw [decFrom_cons, if_neg (by omega)]
          rw [e1]
          have e2 : ∀ v, itoa v ≠ c :: r := fun v e => by
            obtain ⟨c', r', e', h⟩ := itoa_head v
            rw [e'] at e
            obtain ⟨rfl, rfl⟩ := List.cons.inj e
            rcases h with rfl | h
            · exact h45 rfl
            · omega
          have key : (match parseIntB 64 (c :: r) with | .ok v => if itoa v = c :: r then some v else none | _ => (none : Option Int)) = none := by
            split
            · rw [if_neg (e2 _)]
            · rfl
          rw [key]
          split <;> rfl
        · simp only [parseIntB, h43, h45n, or_self, if_false]
          rw [parseUintB, if_neg (by simp), parse_short (c :: r) 0 0 (by omega) (by omega), if_neg (by simp only [List.length_cons] at h18 ⊢; omega)]
          cases hd : decFrom 0 (c :: r) with
          | none => rfl
          | some u =>
            have hu := decFrom_below hd (by omega)
            simp only [not_false_eq_true, true_and, false_and, if_false, hh]
            rw [if_neg (by simp only [Nat.add_one_sub_one]; omega)]
theorem rdN_some {l : List UInt8} {n : Int} (h : rdN l = some n) : itoa n = l ∧ -1000000000000000000 < n ∧ n < 1000000000000000000 := by
  unfold rdN at h
  split at h
  · cases h
  · rename_i hl
    cases hd : decFrom 0 (undash l) with
    | none => rw [hd] at h; cases h
    | some u =>
      rw [hd] at h
      have hu := decFrom_below hd (by omega)
      have h2 : (if itoa (if l.head? = some 45 then -(u : Int) else u) = l then some (if l.head? = some 45 then -(u : Int) else u) else none) = some n := h
      clear h
      have h := h2
      by_cases e : itoa (if l.head? = some 45 then -(u : Int) else u) = l
      · rw [if_pos e] at h
        simp only [Option.some.injEq] at h
        rw [h] at e
        refine ⟨e, ?_, ?_⟩ <;> rw [← h] <;> split <;> omega
      · rw [if_neg e] at h
        cases h
theorem undash_digits (u : Nat) : undash (decDigits u) = decDigits u := by
  obtain ⟨c, r, e, h1, h2⟩ := decDigits_head (u := u)
  rw [e]
  exact undash_pos (fun q => by subst q; revert h1; decide)
/-- a number that is not negative and has at most 18 digits is read from its form -/
theorem rdN_itoa {n : Int} (h0 : 0 ≤ n) (h1 : n < 1000000000000000000) : rdN (itoa n) = some n := by
  rw [itoa_pos h0]
  have hl : (decDigits n.toNat).length ≤ 18 := decDigits_len 17 _ (by omega)
  obtain ⟨c, r, e, h2, h3⟩ := decDigits_head (u := n.toNat)
  have hh : ¬ (decDigits n.toNat).head? = some 45 := by
    rw [e]
    simp only [List.head?_cons, Option.some.injEq]
    intro q; subst q; revert h2; decide
  have hne : 1 ≤ (decDigits n.toNat).length := by rw [e]; simp
  unfold rdN
  rw [undash_digits, if_neg (by omega), decFrom_digits]
  simp only [hh, if_false]
  have e2 : itoa ((n.toNat : Nat) : Int) = decDigits n.toNat := by rw [itoa_pos (by omega)]; congr 1
  rw [if_pos e2]
  congr 1
  omega
theorem itoa_digits {n : Int} (h0 : 0 ≤ n) : ∀ c ∈ itoa n, 48 ≤ c.toNat ∧ c.toNat ≤ 57 := by rw [itoa_pos h0]; exact decDigits_all _
end Go.Proofs.YtcgkcfmiabninaaGreatDoor
/-
  Texts cut at a byte, and joined again. No condition.
-/
namespace Go.Proofs.YtcgkcfmiabninaaGreatDoor
open Go.Lib

/-- the parts of a text between bytes b -/
def spl (b : UInt8) : List UInt8 → List (List UInt8)
  | [] => [[]]
  | c :: r => if c = b then [] :: spl b r else match spl b r with | [] => [[c]] | h :: t => (c :: h) :: t
/-- parts with a byte between them -/
def joinB (b : UInt8) : List (List UInt8) → List UInt8
  | [] => []
  | w :: r => match r with | [] => w | _ :: _ => w ++ b :: joinB b r
theorem joinB_one (b : UInt8) (w : List UInt8) : joinB b [w] = w := rfl
theorem joinB_cons (b : UInt8) (w : List UInt8) {r : List (List UInt8)} (h : r ≠ []) : joinB b (w :: r) = w ++ b :: joinB b r := by
  cases r with
  | nil => exact absurd rfl h
  | cons x y => rfl
theorem spl_ne (b : UInt8) (l : List UInt8) : spl b l ≠ [] := by
  cases l with
  | nil => simp [spl]
  | cons c r =>
    simp only [spl]
    split
    · simp
    · split <;> simp
theorem join_spl (b : UInt8) : ∀ l : List UInt8, joinB b (spl b l) = l := by
  intro l
  induction l with
  | nil => rfl
  | cons c r ih =>
    simp only [spl]
    split
    · rename_i h
      rw [joinB_cons b [] (spl_ne b r), ih, h]; rfl
    · cases hs : spl b r with
      | nil => exact absurd hs (spl_ne b r)
      | cons h t =>
        rw [hs] at ih
        simp only
        cases t with
        | nil => rw [joinB_one] at ih ⊢; rw [ih]
        | cons x y =>
          rw [joinB_cons b _ (by simp)] at ih ⊢
          rw [List.cons_append, ih]
theorem spl_plain {b : UInt8} : ∀ {w : List UInt8}, b ∉ w → spl b w = [w] := by
  intro w
  induction w with
  | nil => intro _; rfl
  | cons c r ih =>
    intro h
    simp only [List.mem_cons, not_or] at h
    simp only [spl]
    rw [if_neg (fun e => h.1 e.symm), ih h.2]
theorem spl_cut {b : UInt8} : ∀ {w : List UInt8} (r : List UInt8), b ∉ w → spl b (w ++ b :: r) = w :: spl b r := by
  intro w
  induction w with
  | nil => intro r _; simp [spl]
  | cons c q ih =>
    intro r h
    simp only [List.mem_cons, not_or] at h
    rw [List.cons_append]
    simp only [spl]
    rw [if_neg (fun e => h.1 e.symm), ih r h.2]
theorem spl_join {b : UInt8} : ∀ {ws : List (List UInt8)}, ws ≠ [] → (∀ w ∈ ws, b ∉ w) → spl b (joinB b ws) = ws := by
  intro ws
  induction ws with
  | nil => intro h; exact absurd rfl h
  | cons w r ih =>
    intro _ h
    have hw := h w (by simp)
    cases r with
    | nil => rw [joinB_one, spl_plain hw]
    | cons x y => rw [joinB_cons b w (by simp), spl_cut _ hw, ih (by simp) (fun z hz => h z (by simp [hz]))]
theorem spl_mem (b : UInt8) : ∀ (l : List UInt8), ∀ w ∈ spl b l, b ∉ w := by
  intro l
  induction l with
  | nil => intro w hw; simp only [spl, List.mem_singleton] at hw; subst hw; simp
  | cons c r ih =>
    intro w hw
    simp only [spl] at hw
    split at hw
    · rcases List.mem_cons.1 hw with rfl | hw
      · simp
      · exact ih w hw
    · rename_i hc
      cases hs : spl b r with
      | nil => exact absurd hs (spl_ne b r)
      | cons h t =>
        rw [hs] at hw ih
        simp only at hw
        rcases List.mem_cons.1 hw with rfl | hw
        · have := ih h (by simp)
          simp only [List.mem_cons, not_or]
          exact ⟨fun e => hc e.symm, this⟩
        · exact ih w (by simp [hw])
theorem spl_length (b : UInt8) : ∀ l : List UInt8, (spl b l).length = l.count b + 1 := by
  intro l
  induction l with
  | nil => rfl
  | cons c r ih =>
    simp only [spl]
    split
    · rename_i h
      rw [List.length_cons, ih, h, List.count_cons_self]
    · rename_i h
      rw [List.count_cons_of_ne h]
      cases hs : spl b r with
      | nil => exact absurd hs (spl_ne b r)
      | cons h t => rw [hs] at ih; simpa using ih
/-- what is left of the parts behind the first -/
theorem spl_drop (b : UInt8) (l : List UInt8) : spl b l = match spl b l with | [] => [] | h :: t => h :: t := by cases spl b l <;> rfl

theorem index_plain {b : UInt8} : ∀ {w : List UInt8}, b ∉ w → index w [b] = -1 := by
  intro w h
  rw [index_one]
  induction w with
  | nil => rfl
  | cons c r ih =>
    simp only [List.mem_cons, not_or] at h
    have h2 : (c == b) = false := by simp only [beq_eq_false_iff_ne, ne_eq]; exact fun e => h.1 e.symm
    have := ih h.2
    simp only [indexByte, h2, this]
    rfl
theorem index_mid {b : UInt8} (r : List UInt8) : ∀ {w : List UInt8}, b ∉ w → index (w ++ b :: r) [b] = w.length := by
  intro w h
  refine index_first (by simp) ?_ ?_
  · simp [occAt]
  · intro j hj
    have hx : w[j]? = some w[j] := List.getElem?_eq_getElem hj
    have hd : (w ++ b :: r).drop j = w[j] :: (w ++ b :: r).drop (j + 1) := by
      rw [List.drop_eq_getElem_cons (by simp; omega), List.getElem_append_left hj]
    rw [occAt, hd]
    simp only [List.isPrefixOf, Bool.and_true, beq_eq_false_iff_ne, ne_eq]
    intro e
    exact h (by rw [e]; exact List.getElem_mem hj)
/-- the kit's way of cutting agrees, where there is room for all parts -/
theorem splitK_join {b : UInt8} : ∀ {ws : List (List UInt8)} {k : Nat}, ws ≠ [] → (∀ w ∈ ws, b ∉ w) → ws.length ≤ k + 1 → splitK [b] 0 k (joinB b ws) = ws := by
  intro ws
  induction ws with
  | nil => intro k h; exact absurd rfl h
  | cons w r ih =>
    intro k _ h hk
    have hw := h w (by simp)
    cases r with
    | nil =>
      rw [joinB_one]
      cases k with
      | zero => rfl
      | succ k => rw [splitK, index_plain hw]; rfl
    | cons x y =>
      simp only [List.length_cons] at hk
      obtain ⟨k, rfl⟩ : ∃ j, k = j + 1 := ⟨k - 1, by omega⟩
      rw [joinB_cons b w (by simp), splitK, index_mid _ hw]
      have hne : ¬ (((w.length : Nat) : Int) == -1) = true := by rw [beq_iff_eq]; omega
      rw [if_neg hne]
      have e1 : (((w.length : Nat) : Int)).toNat = w.length := by omega
      have e2 : (w ++ b :: joinB b (x :: y)).take (w.length + 0) = w := by simp
      have e3 : (w ++ b :: joinB b (x :: y)).drop (w.length + [b].length) = joinB b (x :: y) := by
        rw [show [b].length = 1 from rfl, List.drop_append]
        simp
      rw [e1, e2, e3, ih (by simp) (fun z hz => h z (by simp [hz])) (by simpa using hk)]
theorem joinB_len (b : UInt8) : ∀ ws : List (List UInt8), ws.length ≤ (joinB b ws).length + 1 := by
  intro ws
  induction ws with
  | nil => simp
  | cons w r ih =>
    cases r with
    | nil => simp [joinB_one]
    | cons x y => rw [joinB_cons b w (by simp)]; simp only [List.length_cons, List.length_append] at ih ⊢; omega
end Go.Proofs.YtcgkcfmiabninaaGreatDoor
