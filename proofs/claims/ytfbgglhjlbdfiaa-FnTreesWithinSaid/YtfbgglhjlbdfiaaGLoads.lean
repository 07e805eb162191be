/-
  LoadsOf: the program's function and the reference's. No condition.
-/
import Derived.Test.YtfbgglhjlbdfiaaGFn
namespace Go.Proofs.Ytfbgglhjlbdfiaa
open Go.RowKit
set_option maxHeartbeats 400000

theorem flatMap_encI (l : List Int) : l.flatMap encI = l.map (fun z => .int .i64 z) := by
  induction l with
  | nil => rfl
  | cons x r ih => rw [List.flatMap_cons, ih]; rfl
theorem set_encI (l : List Int) (j : Nat) (z : Int) : (l.flatMap encI).set j (.int .i64 z) = (l.set j z).flatMap encI := by
  rw [flatMap_encI, flatMap_encI, List.map_set]
theorem rep_encI (n : Nat) : (madeCells #[.int .i64 0] n).toList = (List.replicate n (0 : Int)).flatMap encI := by
  rw [flatMap_encI, List.map_replicate]
  apply List.ext_getElem
  · simp [madeCells]
  · intro i h1 h2
    simp [madeCells, Nat.mod_one]

/-- whether numbers are demands of places -/
def demOk (css : List (List Int)) (ds : List Int) : Bool := (ds.length + 1 == css.length) && ds.all fun x => inR x 0 1000
set_option maxHeartbeats 1000000 in
theorem l20Demands_any (A : Option Addr) (n c : Nat) (rs : List Row) (A' : Option Addr) (m c' : Nat) (ds : List Int) (w : World) (B : Nat) (hn : n ≤ 2000000) (hm : m ≤ 2000000) (hl : rs.length = n) (hy : Sl w B 1 encI A' m ds) :
    Calls Try.prog 38 #[.slice A n c, .slice A' m c'] w fun r w' => r = .returned (.bool (demOk (cont rs) ds)) ∧ w' = w := by
  have hlp := hy.len
  have hlc : (cont rs).length = n := by rw [cont_len, hl]
  have ED : Hid (demOk (cont rs) ds = ((m + 1 == n) && ds.all fun x => inR x 0 1000)) := by unfold Hid demOk; rw [hlc, hlp]
  clear hlc
  go_enter Try.func38, Try.ntmps38
  go_wp2
  go_loopw [5] (fun i w2 => ∃ k : Nat, k ≤ m ∧ i = .int .i64 k ∧ Hid ((ds.all fun x => inR x 0 1000) = ((ds.drop k).all fun x => inR x 0 1000)) ∧ w2 = w) (fun i _ => m - (intOf i).toNat)
  case atStart => exact ⟨0, Nat.zero_le _, rfl, rfl, rfl⟩
  case round =>
    obtain ⟨k, hk, rfl, he, rfl⟩ := hrel
    by_cases hlt : k < m
    · obtain ⟨x, b, off, Hx, rfl, hbB, c0⟩ := hy.int hlt
      have he2 := he.out
      rw [drop_at Hx.out, List.all_cons] at he2
      have hi := l00In_any x 0 1000
      cases hr : inR x 0 1000 with
      | false =>
        rw [hr, Bool.false_and] at he2
        rw [hr] at hi
        have E2 : Hid (demOk (cont rs) ds = false) := by rw [Hid, ED.out, he2, Bool.and_false]
        clear he he2 hr hy ED
        go_wp2_with (go_at_call 39; refine (hi _).mono ?_; rintro r w2 ⟨rfl, rfl⟩)
        go_ret
        exact ⟨retB E2.out.symm, rfl⟩
      | true =>
        rw [hr, Bool.true_and] at he2
        rw [hr] at hi
        have he3 := hid he2
        clear he he2 hr
        go_wp2_with (go_at_call 39; refine (hi _).mono ?_; rintro r w2 ⟨rfl, rfl⟩)
        go_roundw
        all_goals first | exact ⟨k + 1, by omega, by go_num, he3, by trivial⟩ | exact ⟨⟨k + 1, by omega, by go_num, he3, by trivial⟩, by simp [intOf]; omega⟩ | (simp [intOf]; omega)
    · have : k = m := by omega
      subst this
      have he2 := he.out
      rw [List.drop_of_length_le (by omega)] at he2
      have E2 : Hid (demOk (cont rs) ds = (k + 1 == n)) := by rw [Hid, ED.out, he2]; simp
      clear he he2 ED hy
      by_cases hq : k + 1 = n
      · have E3 : Hid (demOk (cont rs) ds = true) := by rw [Hid, E2.out]; simpa using hq
        clear E2 hlp
        subst hq
        go_wp2
        go_ret
        exact ⟨retB (by rw [E3.out] <;> simp), rfl⟩
      · have E3 : Hid (demOk (cont rs) ds = false) := by rw [Hid, E2.out]; simpa using hq
        have hq2 : ¬ ((k : Int) = (n : Int) - 1) := by omega
        clear E2 hlp
        go_wp2
        go_ret
        exact ⟨retB (by rw [E3.out] <;> simp [hq2]), rfl⟩
theorem areDemands_any (A : Option Addr) (n c : Nat) (rs : List Row) (A' : Option Addr) (m c' : Nat) (ds : List Int) (w : World) (B : Nat) (hB : B ≤ w.heap.size) (hn : n ≤ 2000000) (hm : m ≤ 2000000) (hl : rs.length = n) (hy : Sl w B 1 encI A' m ds) :
    Calls Try.prog 29 #[.slice A n c, .slice A' m c'] w fun r w' => r = .returned (.bool (demOk (cont rs) ds)) ∧ Below w.heap.size w w' := by
  have hlp := hy.len
  have hlc : (cont rs).length = n := by rw [cont_len, hl]
  have ED : demOk (cont rs) ds = ((m + 1 == n) && ds.all fun x => inR x 0 1000) := by unfold demOk; rw [hlc, hlp]
  have ho := outside_any A' m c' ds 0 1000 w B hB hm hy
  have EA : (ds.any fun x => !inR x 0 1000) = !(ds.all fun x => inR x 0 1000) := by
    rw [Bool.eq_iff_iff]; simp [List.any_eq_true, List.all_eq_false]
  rw [EA] at ho
  clear hy hlc EA
  by_cases hq : m + 1 = n
  · have E : Hid (demOk (cont rs) ds = ds.all fun x => inR x 0 1000) := by rw [Hid, ED]; simp [hq]
    generalize (ds.all fun x => inR x 0 1000) = b at ho E
    clear ED hlp
    subst hq
    cases b
    all_goals go_enter Try.func29, Try.ntmps29
    all_goals go_wp2_with (go_at_call 42; refine ho.mono ?_; rintro r w2 ⟨rfl, b2⟩)
    all_goals go_ret
    all_goals exact ⟨retB E.out.symm, b2⟩
  · have E : Hid (demOk (cont rs) ds = false) := by rw [Hid, ED, show (m + 1 == n) = false by simpa using hq]; rfl
    have hq2 : ¬ ((m : Int) = (n : Int) - 1) := by omega
    clear ED hlp ho
    go_enter Try.func29, Try.ntmps29
    go_wp2
    go_ret
    exact ⟨retB E.out.symm, Below.refl _ _⟩

/-- a load on all tubes from a place up -/
def addUp (ps : List Int) : Nat → Int → Int → List Int → List Int
  | 0, _, _, out => out
  | f + 1, p, x, out => if p = 0 then out else addUp ps f (ps.getD (p - 1).toNat 0) x (out.set (p - 1).toNat (out.getD (p - 1).toNat 0 + x))
theorem addUp_zero (ps : List Int) (f : Nat) (x : Int) (out : List Int) : addUp ps f 0 x out = out := by cases f <;> simp [addUp]
def loadK (ps ds : List Int) : Nat → List Int
  | 0 => List.replicate ps.length 0
  | k + 1 => addUp ps ps.length ((k : Int) + 1) (ds.getD k 0) (loadK ps ds k)
theorem addUp_len (ps : List Int) : ∀ (f : Nat) (p x : Int) (out : List Int), (addUp ps f p x out).length = out.length := by
  intro f
  induction f with
  | zero => intro p x out; rfl
  | succ f ih =>
    intro p x out
    unfold addUp
    split
    · rfl
    · rw [ih, List.length_set]
theorem loadK_len (ps ds : List Int) : ∀ k, (loadK ps ds k).length = ps.length := by
  intro k
  induction k with
  | zero => simp [loadK]
  | succ k ih => rw [loadK, addUp_len, ih]
/-- one step up: what is added, what is left -/
theorem addUp_step {ps : List Int} {n d : Nat} {q x z : Int} {o : List Int} (hl : ps.length = n) {j : Nat} (hq : q = (j : Int) + 1) (hz : ps[j]? = some z) (hu : upF ps n q = some d) :
    ∃ d', d = d' + 1 ∧ upF ps n z = some d' ∧ ∀ v, o[j]? = some v → addUp ps d q x o = addUp ps d' z x (o.set j (v + x)) := by
  have hq0 : q ≠ 0 := by omega
  have hj : (q - 1).toNat = j := by omega
  obtain ⟨f, rfl⟩ : ∃ f, n = f + 1 := ⟨n - 1, by have := (List.getElem?_eq_some_iff.1 hz).1; omega⟩
  rw [upF_step _ _ hq0, hj, List.getD, hz] at hu
  obtain ⟨d', hd, rfl⟩ := Option.map_eq_some_iff.1 hu
  refine ⟨d', rfl, (up_mono hd).2 _ (by have := (up_mono hd).1; omega), fun v hv => ?_⟩
  rw [addUp, if_neg hq0, hj, List.getD, hz, List.getD, hv]
  rfl
def bnd (o : List Int) (C : Int) : Prop := ∀ x ∈ o, 0 ≤ x ∧ x ≤ C
theorem bnd_set {o : List Int} {C C' : Int} {j : Nat} {z : Int} (h : bnd o C) (h1 : C ≤ C') (h2 : 0 ≤ z) (h3 : z ≤ C') : bnd (o.set j z) C' := fun x hx => by
  rcases List.mem_or_eq_of_mem_set hx with h' | h'
  · have := h x h'; omega
  · omega
theorem isTree_up {ps : List Int} (h : isTree ps = true) {i : Nat} (hi : i < ps.length) : ∃ d, d ≤ ps.length ∧ upF ps ps.length ((i : Int) + 1) = some d := by
  unfold isTree at h
  rw [List.all_eq_true] at h
  have := h i (by simpa using hi)
  obtain ⟨d, hd⟩ := Option.isSome_iff_exists.1 this
  exact ⟨d, (up_mono hd).1, hd⟩
set_option maxHeartbeats 2000000 in
theorem loadsOf_any (A : Option Addr) (n c : Nat) (ps : List Int) (A' : Option Addr) (c' : Nat) (ds : List Int) (w : World) (B : Nat) (hB : B ≤ w.heap.size) (hn : n ≤ 6) (hx : Sl w B 1 encI A n ps) (hy : Sl w B 1 encI A' n ds) (hp : inP ps) (ht : isTree ps = true) (hd : bnd ds 1000) :
    Calls Try.prog 30 #[.slice A n c, .slice A' n c'] w fun r w' => ∃ A1 c1, r = .returned (.slice A1 n c1) ∧ w'.ownsRow w.heap.size 2 1 (.slice A1 n c1) n ((loadK ps ds n).flatMap encI) ∧ Below w.heap.size w w' := by
  have hl := hx.len
  have hld := hy.len
  obtain ⟨i0, hi, hz0, hz1, hz2⟩ := info_parts int_info
  have hmk : ∀ u : World, (Instr.makeSlice 26 (.int .i64 (n : Int)) (.int .i64 (n : Int))).run Try.prog u =
      .ok (.slice (some ⟨u.heap.size, 0, none⟩) n n) (u.alloc (.cells (madeCells #[.int .i64 0] n) 2)) := fun u => by
    have h := run_make (P := Try.prog) u 26 2 i0 _ Try.underlying26 hi hz0 .i64 .i64 (n : Int) (n : Int) (by omega) (Int.le_refl _) (by rw [hz2]; omega) (by omega)
    simpa [hz1, Value.cells] using h
  clear hi hz0 hz1 hz2
  have hown0 : ((w.alloc (.cells (madeCells #[.int .i64 0] n) 2))).ownsRow w.heap.size 2 1 (.slice (some ⟨w.heap.size, 0, none⟩) n n) n ((List.replicate n (0 : Int)).flatMap encI) := by
    have := World.ownsRow_lit (base := w.heap.size) (e := 2) (size := 1) w (madeCells #[.int .i64 0] n) n (Nat.le_refl _) (by simp only [maxLen]; omega) (by simp [size_madeCells])
    rwa [rep_encI] at this
  have Ht := hid ht
  clear ht
  go_enter Try.func30, Try.ntmps30
  go_wp2
  go_loopw [14] (fun i w1 => ∃ (k : Nat) (o : List Int), k ≤ n ∧ i = .int .i64 k ∧ Hid (loadK ps ds k = o) ∧ Hid (bnd o (6000 * k)) ∧ w1.ownsRow w.heap.size 2 1 (.slice (some ⟨w.heap.size, 0, none⟩) n n) n (o.flatMap encI) ∧ Below w.heap.size w w1) (fun i _ => n - (intOf i).toNat)
  case atStart => exact ⟨0, List.replicate n 0, Nat.zero_le _, rfl, by rw [Hid, loadK, hl], fun x hx => by rw [List.eq_of_mem_replicate hx]; omega, hown0, (Below.refl _ _).alloc (Nat.le_refl _) _⟩
  case round =>
    obtain ⟨k, o, hk, rfl, he, hbd, hown, hb⟩ := hrel
    clear hown0 hmk
    by_cases hlt : k < n
    · obtain ⟨x, bd, od, Hd, rfl, hbd2, d0⟩ := (hy.below (hb.mono hB)).int hlt
      have hxd := hd x (List.mem_of_getElem? Hd.out)
      obtain ⟨d, hdn, hup⟩ := isTree_up Ht.out (i := k) (by omega)
      rw [hl] at hup hdn
      have EK : Hid (loadK ps ds (k + 1) = addUp ps d ((k : Int) + 1) x o) := by
        have h1 : ∀ (f d : Nat) (p : Int) (o : List Int), upF ps d p = some d → d ≤ f → addUp ps f p x o = addUp ps d p x o := by
          intro f
          induction f with
          | zero => intro d p o h1 h2; obtain rfl : d = 0 := (by omega); rfl
          | succ f ih =>
            intro d p o h1 h2
            by_cases hp0 : p = 0
            · subst hp0; rw [addUp_zero, addUp_zero]
            · cases d with
              | zero => simp [upF, hp0] at h1
              | succ d =>
                rw [upF_step _ _ hp0] at h1
                obtain ⟨d2, hd2, h3⟩ := Option.map_eq_some_iff.1 h1
                obtain rfl : d2 = d := by omega
                rw [addUp, addUp, if_neg hp0, if_neg hp0]
                exact ih _ _ _ hd2 (by omega)
        rw [Hid, loadK, List.getD, Hd.out, he.out, hl]
        exact h1 _ _ _ _ ((up_mono hup).2 d (Nat.le_refl _)) hdn
      have Hup := hid hup
      have hx2 : 0 ≤ x := hxd.1
      have hx3 : x ≤ 1000 := hxd.2
      have k60 : (0 : Int) ≤ 6000 * (k : Int) ∧ 6000 * (k : Int) ≤ 36000 := by omega
      clear he hup hxd hy
      go_wp2
      go_loopw [8] (fun s w1 => ∃ (q : Int) (d : Nat) (o : List Int) (C : Int), s = .int .i64 q ∧ 0 ≤ q ∧ q ≤ n ∧ d ≤ n ∧ Hid (upF ps n q = some d) ∧ Hid (loadK ps ds (k + 1) = addUp ps d q x o) ∧ Hid (bnd o C) ∧ 0 ≤ C ∧ C ≤ 6000 * k + 1000 * (6 - d) ∧ w1.ownsRow w.heap.size 2 1 (.slice (some ⟨w.heap.size, 0, none⟩) n n) n (o.flatMap encI) ∧ Below w.heap.size w w1) (fun s _ => (upF ps n (intOf s)).getD 0)
      case atStart => exact ⟨(k : Int) + 1, d, o, 6000 * k, rfl, by omega, by omega, hdn, Hup, EK, hbd, by omega, by omega, hown, hb⟩
      case round =>
        clear hown hb EK hbd Hup hdn d0
        obtain ⟨q, d, o, C, rfl, q0, q1, hdn, hup, EK, hbd, c0, c1, hown, hb⟩ := hrel
        by_cases hq : q = 0
        · subst hq
          have E : Hid (loadK ps ds (k + 1) = o) := by rw [Hid, EK.out, addUp_zero]
          have G : Hid (bnd o (6000 * ((k + 1 : Nat) : Int))) := fun y hy => by have := hbd.out y hy; omega
          clear EK hup hbd hx
          go_wp2
          go_roundw
          all_goals first | exact ⟨k + 1, o, by omega, by go_num, E, G, hown, hb⟩ | exact ⟨⟨k + 1, o, by omega, by go_num, E, G, hown, hb⟩, by simp [intOf]; omega⟩ | (simp [intOf]; omega)
        · obtain ⟨j, hj⟩ : ∃ j : Nat, q = (j : Int) + 1 := ⟨(q - 1).toNat, by omega⟩
          have hjn : j < n := by omega
          obtain ⟨z, b, off, Hz, rfl, hbB, e0⟩ := (hx.below (hb.mono hB)).int hjn
          have hz := hp z (List.mem_of_getElem? Hz.out)
          rw [hl] at hz
          have hol : o.length = n := by
            have := hown.1
            rw [flatMap_len encI_len, Nat.mul_one, Nat.mul_one] at this
            exact this
          obtain ⟨v, hv⟩ : ∃ v, o[j]? = some v := ⟨_, List.getElem?_eq_getElem (by omega)⟩
          have hvb := hbd.out v (List.mem_of_getElem? hv)
          obtain ⟨d', rfl, hup2, hstep⟩ := addUp_step (x := x) (o := o) hl hj Hz.out hup.out
          have E := EK.out
          rw [hstep v hv] at E
          have EK2 := hid E
          have HM : Hid ((upF ps n z).getD 0 < (upF ps n q).getD 0) := by rw [Hid, hup2, hup.out]; simp
          have Hup2 := hid hup2
          obtain ⟨w0, w00⟩ := own_int hown hv
          have hs2 := hown.stored j (.int .i64 (v + x))
          rw [set_encI] at hs2
          have G : Hid (bnd (o.set j (v + x)) (C + 1000)) := bnd_set hbd.out (by omega) (by omega) (by omega)
          have hz0 := hz.1
          have hz1 := hz.2
          have hb2 : Below w.heap.size w (wr.setCell ⟨w.heap.size, j, none⟩ (.int .i64 (v + x))) := hb.setCell (by simp) _
          have e1 : (wr.setCell ⟨w.heap.size, j, none⟩ (.int .i64 (v + x))).cell? ⟨b, off + j, none⟩ = some (.int .i64 z) := (cell_far (by show w.heap.size ≠ b; omega)).trans e0
          have hs3 := hs2.1
          obtain ⟨hv0, hv1⟩ := hvb
          have hCC : C + 1000 ≤ 6000 * k + 1000 * (6 - (d' : Int)) := by omega
          clear EK hup hbd hx hstep E hup2 hz hown hol hv Hz hp hs2
          subst hj
          go_wp2
          go_roundw
          case measure => simpa [intOf] using HM.out
          case rel => exact ⟨z, d', _, C + 1000, rfl, hz0, hz1, by omega, Hup2, EK2, G, by omega, hCC, hs3, hb2⟩
    · have : k = n := by omega
      subst this
      have E := he.out
      clear he hx hy hbd
      subst E
      go_wp2
      go_ret
      exact ⟨_, _, rfl, hown, hb⟩
end Go.Proofs.Ytfbgglhjlbdfiaa
