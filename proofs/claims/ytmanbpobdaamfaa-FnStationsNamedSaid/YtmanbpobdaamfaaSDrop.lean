/-
  DropStation: the program's side. No condition.
-/
import Derived.Test.YtmanbpobdaamfaaSDelW
import Derived.Test.YtmanbpobdaamfaaSByS
import Derived.Deep.RegionHeld3
namespace Go.Proofs.Ytmanbpobdaamfaa
open Go.RowKit
set_option maxHeartbeats 400000

def isS (z y : ByteArray) : Bool := decide (y = z)
def atW (z : ByteArray) (y : Way) : Bool := decide (y.fr = z) || decide (y.to = z)
def dropF (x : Sch) (z : ByteArray) : Sch × Int := if codeX x z = 0 then (⟨stay (isS z) x.st, stay (isS z) x.rm, stay (atW z) x.wy⟩, 0) else (⟨[], [], []⟩, codeX x z)
theorem dropF_len (x : Sch) (z : ByteArray) (HT : Hid (totX x ≤ 1048576)) : (dropF x z).1.st.length ≤ 2000000 ∧ (dropF x z).1.rm.length ≤ 2000000 ∧ (dropF x z).1.wy.length ≤ 2000000 ∧ lenX (dropF x z).1 ≤ 4000000 := by
  have h1 := stay_len (isS z) x.st
  have h2 := stay_len (isS z) x.rm
  have h3 := stay_len (atW z) x.wy
  have := HT.out
  simp only [totX] at this
  unfold dropF
  split
  · simp only [lenX]; omega
  · simp [lenX]
/-- a scheme and a code -/
def XPost (w : World) (R : Sch × Int) (r : Ending) (w' : World) : Prop :=
  ∃ s : SV, r = .returned (.tuple #[s.v, .int .i64 R.2]) ∧ OwnX w' w.heap.size s R.1 ∧ Below w.heap.size w w'
def obA (A : Option Addr) : Option Nat := A.map Addr.block
theorem own_ob (A : Option Addr) (n c : Nat) : (Value.slice A n c).ownBlock = obA A := by cases A <;> rfl
theorem keepO {w w' : World} {lo T k : Nat} {A A2 : Option Addr} {n c n2 c2 m : Nat} {l : List Value} (h : w.ownsRow lo T k (.slice A n c) m l) (hn : ∀ q, obA A2 = some q → obA A ≠ some q) (hg : w.grownBy w' (Value.slice A2 n2 c2).ownBlock) : w'.ownsRow lo T k (.slice A n c) m l :=
  own_keep h (v2 := .slice A2 n2 c2) (fun q h1 h2 => hn q (by rw [← own_ob A2 n2 c2]; exact h1) (by rw [← own_ob A n c]; exact h2)) hg
theorem keepP {w w' : World} {lo T k : Nat} {A A2 : Option Addr} {n c n2 c2 m : Nat} {l : List Value} (h : w.ownsRow lo T k (.slice A n c) m l) (hn : ∀ q, obA A = some q → obA A2 ≠ some q) (hg : w.grownBy w' (Value.slice A2 n2 c2).ownBlock) : w'.ownsRow lo T k (.slice A n c) m l :=
  keepO h (fun q h1 h2 => hn q h2 h1) hg
theorem far3 {w : World} {g : Nat} {a b c : Value} {p : Addr} (h : p.block ≠ g) : (((w.setCell ⟨g, 0, none⟩ a).setCell ⟨g, 1, none⟩ b).setCell ⟨g, 2, none⟩ c).cell? p = w.cell? p := by
  rw [cell_far (p := ⟨g, 2, none⟩) (Ne.symm h), cell_far (p := ⟨g, 1, none⟩) (Ne.symm h), cell_far (p := ⟨g, 0, none⟩) (Ne.symm h)]
theorem set3_0 {w : World} {g : Nat} {u : Value} (h : w.cell? ⟨g, 0, none⟩ = some u) (a b c : Value) : (((w.setCell ⟨g, 0, none⟩ a).setCell ⟨g, 1, none⟩ b).setCell ⟨g, 2, none⟩ c).cell? ⟨g, 0, none⟩ = some a :=
  (World.cell?_setCell_other _ _ _ _ (by simp)).trans ((World.cell?_setCell_other _ _ _ _ (by simp)).trans (World.cell?_setCell_same _ _ _ h))
theorem set3_1 {w : World} {g : Nat} {u : Value} (h : w.cell? ⟨g, 1, none⟩ = some u) (a b c : Value) : (((w.setCell ⟨g, 0, none⟩ a).setCell ⟨g, 1, none⟩ b).setCell ⟨g, 2, none⟩ c).cell? ⟨g, 1, none⟩ = some b :=
  (World.cell?_setCell_other _ _ _ _ (by simp)).trans (World.cell?_setCell_same _ _ _ ((World.cell?_setCell_other _ _ _ _ (by simp)).trans h))
theorem set3_2 {w : World} {g : Nat} {u : Value} (h : w.cell? ⟨g, 2, none⟩ = some u) (a b c : Value) : (((w.setCell ⟨g, 0, none⟩ a).setCell ⟨g, 1, none⟩ b).setCell ⟨g, 2, none⟩ c).cell? ⟨g, 2, none⟩ = some c :=
  World.cell?_setCell_same _ _ _ ((World.cell?_setCell_other _ _ _ _ (by simp)).trans ((World.cell?_setCell_other _ _ _ _ (by simp)).trans h))
theorem ow_set3 {w : World} {lo T k g : Nat} {v a b c : Value} {n : Nat} {l : List Value} (hp : v.ownBlock ≠ some g) (h : w.ownsRow lo T k v n l) : (((w.setCell ⟨g, 0, none⟩ a).setCell ⟨g, 1, none⟩ b).setCell ⟨g, 2, none⟩ c).ownsRow lo T k v n l := ow_set hp (ow_set hp (ow_set hp h))
theorem bl_set3 {B g : Nat} {a w : World} {u v x : Value} (hg : B ≤ g) (h : Below B a w) : Below B a (((w.setCell ⟨g, 0, none⟩ u).setCell ⟨g, 1, none⟩ v).setCell ⟨g, 2, none⟩ x) := bl_set hg (bl_set hg (bl_set hg h))
theorem apO {A A2 : Option Addr} {n c n2 c2 : Nat} (h : ∀ q, obA A = some q → obA A2 ≠ some q) : ∀ q, (Value.slice A n c).ownBlock = some q → (Value.slice A2 n2 c2).ownBlock ≠ some q := fun q h1 h2 => h q (by rw [← own_ob A n c]; exact h1) (by rw [← own_ob A2 n2 c2]; exact h2)
theorem freshO {w w' : World} {lo T k T2 k2 : Nat} {A A2 : Option Addr} {n c n2 c2 m m2 : Nat} {l l2 : List Value} (h : w'.ownsRow w.heap.size T k (.slice A n c) m l) (h2 : w.ownsRow lo T2 k2 (.slice A2 n2 c2) m2 l2) : ∀ q, obA A2 = some q → obA A ≠ some q := fun q h1 h3 => by
  have a1 := (h.lt q (by rw [own_ob]; exact h3)).1
  have a2 := (h2.lt q (by rw [own_ob]; exact h1)).2
  omega
theorem drop1_any (b1 : Nat) (z y : ByteArray) (w : World) (k1 : w.cell? ⟨b1, 0, none⟩ = some (.string z)) :
    Calls Try.prog 54 #[.string y, .pointer (some ⟨b1, 0, none⟩)] w fun r w' => r = .returned (.bool (isS z y)) ∧ Below w.heap.size w w' := by
  have q1 := bs_eq (x := y) (y := z)
  have E := hid (show isS z y = decide (y = z) from rfl)
  generalize decide (y = z) = p1 at q1 E
  go_enter Try.func54, Try.ntmps54
  go_wp2
  go_ret
  exact ⟨retB E.out.symm, Below.refl _ _⟩
theorem drop2_any (b1 : Nat) (z f t : ByteArray) (m : Int) (w : World) (k1 : w.cell? ⟨b1, 0, none⟩ = some (.string z)) :
    Calls Try.prog 59 #[.agg #[.string f, .string t, .int .i64 m], .pointer (some ⟨b1, 0, none⟩)] w fun r w' => r = .returned (.bool (atW z ⟨f, t, m⟩)) ∧ Below w.heap.size w w' := by
  have l1 := World.block_lt_of_cell? _ _ k1
  simp only at l1
  have q1 := bs_eq (x := f) (y := z)
  have q2 := bs_eq (x := t) (y := z)
  have E := hid (show atW z ⟨f, t, m⟩ = (decide (f = z) || decide (t = z)) from rfl)
  generalize decide (f = z) = p1 at q1 E
  generalize decide (t = z) = p2 at q2 E
  cases p1 <;> cases p2
  all_goals go_enter Try.func59, Try.ntmps59
  all_goals go_wp2
  all_goals go_ret
  all_goals exact ⟨retB E.out.symm, (Below.refl _ _).alloc (Nat.le_refl _) _⟩
set_option maxHeartbeats 4000000 in
set_option maxRecDepth 100000 in
theorem implDropStation_any (s : SV) (x : Sch) (z : ByteArray) (w : World) (B : Nat) (hB : B ≤ w.heap.size) (hn : s.n1 ≤ 2000000 ∧ s.n2 ≤ 2000000 ∧ s.n3 ≤ 2000000) (hx : SlX w B s x) (hz : Hid (BigX x)) (_hz : z.size ≤ 9223372036854775807) :
    Calls Try.prog 15 #[s.v, .string z] w (XPost w (dropF x z)) := by
  have eg1 := enters_of Try.func54 (by kernel_rfl) rfl
  have eg2 := enters_of Try.func59 (by kernel_rfl) rfl
  obtain ⟨A1, n1, c1, A2, n2, c2, A3, n3, c3⟩ := s
  simp only [SV.v] at hn ⊢
  obtain ⟨hn1, hn2, hn3⟩ := hn
  obtain ⟨W0, hW0⟩ : ∃ W0, W0 = ((w.alloc (.cells #[.slice A1 n1 c1, .slice A2 n2 c2, .slice A3 n3 c3] 29)).alloc (.cells #[.string z] 9)).alloc (.cells #[.slice none 0 0, .slice none 0 0, .slice none 0 0] 29) := ⟨_, rfl⟩
  have b0 : Below w.heap.size w W0 := by rw [hW0]; exact (((Below.refl _ _).alloc (Nat.le_refl _) _).alloc (by simp) _).alloc (by simp; omega) _
  have z0 : W0.heap.size = w.heap.size + 3 := by rw [hW0]; simp
  have k0 : W0.cell? ⟨w.heap.size, 0, none⟩ = some (.slice A1 n1 c1) := by rw [hW0]; go_simp
  have k1 : W0.cell? ⟨w.heap.size, 1, none⟩ = some (.slice A2 n2 c2) := by rw [hW0]; go_simp
  have k2 : W0.cell? ⟨w.heap.size, 2, none⟩ = some (.slice A3 n3 c3) := by rw [hW0]; go_simp
  have kz : W0.cell? ⟨w.heap.size + 1, 0, none⟩ = some (.string z) := by rw [hW0]; go_simp
  have d0 : W0.cell? ⟨w.heap.size + 1 + 1, 0, none⟩ = some (.slice none 0 0) := by rw [hW0]; go_simp
  have d1 : W0.cell? ⟨w.heap.size + 1 + 1, 1, none⟩ = some (.slice none 0 0) := by rw [hW0]; go_simp
  have d2 : W0.cell? ⟨w.heap.size + 1 + 1, 2, none⟩ = some (.slice none 0 0) := by rw [hW0]; go_simp
  have f0 : W0.frozen? ⟨w.heap.size + 1 + 1, 0, none⟩ = false := by rw [hW0]; go_simp
  have f1 : W0.frozen? ⟨w.heap.size + 1 + 1, 1, none⟩ = false := by rw [hW0]; go_simp
  have f2 : W0.frozen? ⟨w.heap.size + 1 + 1, 2, none⟩ = false := by rw [hW0]; go_simp
  have hx0 := hx.below (b0.mono hB)
  have hc := schemeCode_any ⟨A1, n1, c1, A2, n2, c2, A3, n3, c3⟩ x z W0 B (Nat.le_trans hB b0.size) ⟨hn1, hn2, hn3⟩ hx0 hz
  simp only [SV.v] at hc
  have HW := hid hW0
  clear hW0 hx hz
  by_cases hv : codeX x z = 0
  · have EF : Hid (dropF x z = (⟨stay (isS z) x.st, stay (isS z) x.rm, stay (atW z) x.wy⟩, 0)) := by rw [Hid, dropF, if_pos hv]
    rw [hv] at hc
    have hs1 := hx0.st
    have hs2 := hx0.rm
    have hs3 := hx0.wy
    simp only at hs1 hs2 hs3
    clear hx0 hv
    go_enter Try.func15, Try.ntmps15
    go_wp2_with fail
    rw [← HW.out]
    refine hc.mono ?_
    rintro r w1 ⟨rfl, b1⟩
    have z1 := b1.size
    have hBw := Nat.le_trans hB b0.size
    have cl1 := fun (W : World) (h : Below w1.heap.size w1 W) => cloneS_any A1 n1 c1 x.st W B (by have := h.size; omega) hn1 ((hs1.below (b1.mono hBw)).below (h.mono (by omega)))
    have cl2 := fun (W : World) (h : Below w1.heap.size w1 W) => cloneS_any A2 n2 c2 x.rm W B (by have := h.size; omega) hn2 ((hs2.below (b1.mono hBw)).below (h.mono (by omega)))
    have cl3 := fun (W : World) (h : Below w1.heap.size w1 W) => cloneW_any A3 n3 c3 x.wy W B (by have := h.size; omega) hn3 ((hs3.below (b1.mono hBw)).below (h.mono (by omega)))
    have kz1 := below_cell kz b1
    have dl := fun (A5 : Option Addr) (n5 c5 : Nat) (ys : List ByteArray) (W : World) (h5 : n5 ≤ 2000000) (h : Below w1.heap.size w1 W) (o5 : W.ownsRow w1.heap.size 9 1 (.slice A5 n5 c5) n5 (ys.flatMap encS)) =>
      deleteS_any 54 #[.pointer (some ⟨w.heap.size + 1, 0, none⟩)] (isS z) eg1 w1.heap.size A5 n5 c5 ys W h5 o5
        (fun W2 y _ hg => drop1_any (w.heap.size + 1) z y W2 (below_cell kz1 (h.grown hg (by have := h.size; omega) (fun q hq => (o5.lt q hq).1))))
    have dw := fun (A5 : Option Addr) (n5 c5 : Nat) (ys : List Way) (W : World) (h5 : n5 ≤ 2000000) (h : Below w1.heap.size w1 W) (o5 : W.ownsRow w1.heap.size 54 3 (.slice A5 n5 c5) n5 (ys.flatMap encWay)) =>
      deleteW_any 59 #[.pointer (some ⟨w.heap.size + 1, 0, none⟩)] (atW z) eg2 w1.heap.size A5 n5 c5 ys W h5 o5
        (fun W2 f t m _ hg => drop2_any (w.heap.size + 1) z f t m W2 (below_cell kz1 (h.grown hg (by have := h.size; omega) (fun q hq => (o5.lt q hq).1))))
    replace k0 := below_cell k0 b1
    replace k1 := below_cell k1 b1
    replace k2 := below_cell k2 b1
    have g0 := below_frz d0 f0 b1
    have g1 := below_frz d1 f1 b1
    have g2 := below_frz d2 f2 b1
    replace d0 := below_cell d0 b1
    replace d1 := below_cell d1 b1
    replace d2 := below_cell d2 b1
    clear f0 f1 f2 hs1 hs2 hs3 eg1 eg2 hc
    have hcur : Below w1.heap.size w1 w1.drew := (Below.refl _ _).drew
    have b2 := b0.trans (b1.mono b0.size)
    go_wp2_with fail
    go_region_held3 (fun W => W.cell? ⟨w.heap.size, 0, none⟩ = some (.slice A1 n1 c1) ∧ W.cell? ⟨w.heap.size, 1, none⟩ = some (.slice A2 n2 c2) ∧ W.cell? ⟨w.heap.size, 2, none⟩ = some (.slice A3 n3 c3))
      (first
        | (go_split_ands; exact ⟨below_cell k0 hcur, below_cell k1 hcur, below_cell k2 hcur⟩)
        | (go_split_ands; exact ⟨(far3 (by simp only; omega)).trans (below_cell k0 hcur), (far3 (by simp only; omega)).trans (below_cell k1 hcur), (far3 (by simp only; omega)).trans (below_cell k2 hcur)⟩)
        | go_keep)
      (first
        | (go_at_call 56; (with_reducible refine (cl1 _ hcur).mono ?_); rintro r wa ⟨Aa, ca, rfl, oa, ba⟩; (try have nab := (fun q p1 p2 => freshO oa ob q p2 p1 : ∀ q, obA Aa = some q → obA Ab ≠ some q)); (try have nab := (fun q p1 p2 => freshO oa db q p2 p1 : ∀ q, obA Aa = some q → obA Ab ≠ some q)); (try have nac := (fun q p1 p2 => freshO oa oc q p2 p1 : ∀ q, obA Aa = some q → obA Ac ≠ some q)); (try have nac := (fun q p1 p2 => freshO oa dc q p2 p1 : ∀ q, obA Aa = some q → obA Ac ≠ some q)); (try replace ob := own_below ob ba); (try replace db := own_below db ba); (try replace oc := own_below oc ba); (try replace dc := own_below dc ba); replace oa := oa.mono hcur.size; replace hcur := hcur.trans (ba.mono hcur.size); have e0 := below_cell d0 hcur; have e1 := below_cell d1 hcur; have e2 := below_cell d2 hcur; have h0 := below_frz d0 g0 hcur; have h1 := below_frz d1 g1 hcur; have h2 := below_frz d2 g2 hcur; clear ba)
        | (go_at_call 56; (with_reducible refine (cl2 _ hcur).mono ?_); rintro r wb ⟨Ab, cb, rfl, ob, bb⟩; (try have nab := freshO ob oa); (try have nab := freshO ob da); (try have nbc := (fun q p1 p2 => freshO ob oc q p2 p1 : ∀ q, obA Ab = some q → obA Ac ≠ some q)); (try have nbc := (fun q p1 p2 => freshO ob dc q p2 p1 : ∀ q, obA Ab = some q → obA Ac ≠ some q)); (try replace oa := own_below oa bb); (try replace da := own_below da bb); (try replace oc := own_below oc bb); (try replace dc := own_below dc bb); replace ob := ob.mono hcur.size; replace hcur := hcur.trans (bb.mono hcur.size); have e0 := below_cell d0 hcur; have e1 := below_cell d1 hcur; have e2 := below_cell d2 hcur; have h0 := below_frz d0 g0 hcur; have h1 := below_frz d1 g1 hcur; have h2 := below_frz d2 g2 hcur; clear bb)
        | (go_at_call 58; (with_reducible refine (cl3 _ hcur).mono ?_); rintro r wc ⟨Ac, cc, rfl, oc, bc⟩; (try have nac := freshO oc oa); (try have nac := freshO oc da); (try have nbc := freshO oc ob); (try have nbc := freshO oc db); (try replace oa := own_below oa bc); (try replace da := own_below da bc); (try replace ob := own_below ob bc); (try replace db := own_below db bc); replace oc := oc.mono hcur.size; replace hcur := hcur.trans (bc.mono hcur.size); have e0 := below_cell d0 hcur; have e1 := below_cell d1 hcur; have e2 := below_cell d2 hcur; have h0 := below_frz d0 g0 hcur; have h1 := below_frz d1 g1 hcur; have h2 := below_frz d2 g2 hcur; clear bc)
        | (go_at_call 55; (with_reducible refine (dl Aa n1 ca x.st _ hn1 hcur oa).mono ?_); rintro r wa ⟨ma, rfl, da, ga⟩; (try replace ob := keepO ob nab ga); (try replace db := keepO db nab ga); (try replace oc := keepO oc nac ga); (try replace dc := keepO dc nac ga); replace hcur := hcur.grown ga hcur.size (fun q hq => (oa.lt q hq).1); have e0 := below_cell d0 hcur; have e1 := below_cell d1 hcur; have e2 := below_cell d2 hcur; have h0 := below_frz d0 g0 hcur; have h1 := below_frz d1 g1 hcur; have h2 := below_frz d2 g2 hcur; clear ga oa)
        | (go_at_call 55; (with_reducible refine (dl Ab n2 cb x.rm _ hn2 hcur ob).mono ?_); rintro r wb ⟨mb, rfl, db, gb⟩; (try replace oa := keepP oa nab gb); (try replace da := keepP da nab gb); (try replace oc := keepO oc nbc gb); (try replace dc := keepO dc nbc gb); replace hcur := hcur.grown gb hcur.size (fun q hq => (ob.lt q hq).1); have e0 := below_cell d0 hcur; have e1 := below_cell d1 hcur; have e2 := below_cell d2 hcur; have h0 := below_frz d0 g0 hcur; have h1 := below_frz d1 g1 hcur; have h2 := below_frz d2 g2 hcur; clear gb ob)
        | (go_at_call 57; (with_reducible refine (dw Ac n3 cc x.wy _ hn3 hcur oc).mono ?_); rintro r wc ⟨mc, rfl, dc, gc⟩; (try replace oa := keepP oa nac gc); (try replace da := keepP da nac gc); (try replace ob := keepP ob nbc gc); (try replace db := keepP db nbc gc); replace hcur := hcur.grown gc hcur.size (fun q hq => (oc.lt q hq).1); have e0 := below_cell d0 hcur; have e1 := below_cell d1 hcur; have e2 := below_cell d2 hcur; have h0 := below_frz d0 g0 hcur; have h1 := below_frz d1 g1 hcur; have h2 := below_frz d2 g2 hcur; clear gc oc))
    all_goals
      go_wp2_with fail
      have q0 := set3_0 e0 (.slice Aa ma ca) (.slice Ab mb cb) (.slice Ac mc cc)
      have q1 := set3_1 e1 (.slice Aa ma ca) (.slice Ab mb cb) (.slice Ac mc cc)
      have q2 := set3_2 e2 (.slice Aa ma ca) (.slice Ab mb cb) (.slice Ac mc cc)
      rw [EF.out]
      refine bodyPost_ret (v := .tuple #[.agg #[.slice Aa ma ca, .slice Ab mb cb, .slice Ac mc cc], .int .i64 0]) (by simp [results, Try.results15, go_sem, q0, q1, q2]) rfl ⟨⟨Aa, ma, ca, Ab, mb, cb, Ac, mc, cc⟩, rfl, ⟨?_, ?_, ?_, apO nab, apO nac, apO nbc⟩, bl_set3 (by omega) (b2.trans (hcur.mono b2.size))⟩
      · exact ow_set3 (fun e => by have := (da.lt _ e).1; omega) (da.mono (by omega))
      · exact ow_set3 (fun e => by have := (db.lt _ e).1; omega) (db.mono (by omega))
      · exact ow_set3 (fun e => by have := (dc.lt _ e).1; omega) (dc.mono (by omega))
  · have EF : Hid (dropF x z = (⟨[], [], []⟩, codeX x z)) := by rw [Hid, dropF, if_neg hv]
    generalize codeX x z = q at hc hv EF
    have q1 : (q == 0) = false := by simpa using hv
    have q2 : (q != 0) = true := by simpa using hv
    clear hx0 hv k0 k1 k2 kz eg1 eg2
    go_enter Try.func15, Try.ntmps15
    go_wp2_with fail
    rw [← HW.out]
    refine hc.mono ?_
    rintro r w1 ⟨rfl, b1⟩
    have g0 := below_frz d0 f0 b1
    have g1 := below_frz d1 f1 b1
    have g2 := below_frz d2 f2 b1
    replace d0 := below_cell d0 b1
    replace d1 := below_cell d1 b1
    replace d2 := below_cell d2 b1
    clear f0 f1 f2
    go_wp2_with fail
    have p0 := set3_0 d0 (.slice none 0 0) (.slice none 0 0) (.slice none 0 0)
    have p1 := set3_1 d1 (.slice none 0 0) (.slice none 0 0) (.slice none 0 0)
    have p2 := set3_2 d2 (.slice none 0 0) (.slice none 0 0) (.slice none 0 0)
    rw [EF.out]
    refine bodyPost_ret (v := .tuple #[.agg #[.slice none 0 0, .slice none 0 0, .slice none 0 0], .int .i64 q]) (by simp [results, Try.results15, go_sem, p0, p1, p2]) rfl ⟨⟨none, 0, 0, none, 0, 0, none, 0, 0⟩, rfl, ⟨World.ownsRow_nil _ _ _ _, World.ownsRow_nil _ _ _ _, World.ownsRow_nil _ _ _ _, fun b h => by simp [Value.ownBlock] at h, fun b h => by simp [Value.ownBlock] at h, fun b h => by simp [Value.ownBlock] at h⟩, bl_set3 (by omega) (b0.trans (b1.mono b0.size))⟩
end Go.Proofs.Ytmanbpobdaamfaa
