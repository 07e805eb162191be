/-
  The program's run of a queue: the same order and starts. No condition beyond a valid queue.
-/
import Derived.Test.YtfhlooegeklpaaaQRun
import Derived.Test.YtfhlooegeklpaaaCmp
import Derived.Deep.DeepCutAuto
namespace Go.Proofs.Ytfhlooegeklpaaa
open Go.RowKit
set_option maxHeartbeats 400000

theorem hasI_any (o : List Int) (z : Int) : (o.any fun y => z == y) = hasI o z := by
  unfold hasI; congr 1; funext y; rw [Bool.eq_iff_iff, beq_iff_eq, beq_iff_eq]; exact eq_comm

theorem served1_any (a tk c tick age : Int) (ga gt : Nat) (w : World) (h1 : 0 ≤ age) (h2 : age ≤ 10000) (h3 : 0 ≤ a) (h4 : a ≤ tick) (h5 : tick ≤ 100000) (h6 : 0 ≤ c) (h7 : c ≤ 9)
    (ca : w.cell? ⟨ga, 0, none⟩ = some (.int .i64 age)) (ct : w.cell? ⟨gt, 0, none⟩ = some (.int .i64 tick)) :
    Calls Try.prog 44 #[.agg #[.int .i64 a, .int .i64 tk, .int .i64 c], .pointer (some ⟨ga, 0, none⟩), .pointer (some ⟨gt, 0, none⟩)] w fun e w' => e = .returned (.int .i64 (cls age tick ⟨a, tk, c⟩)) ∧ Below w.heap.size w w' := by
  have la := World.block_lt_of_cell? _ _ ca
  have lt := World.block_lt_of_cell? _ _ ct
  by_cases h0 : age = 0
  · subst h0
    go_enter Try.func44, Try.ntmps44
    go_wp2
    go_ret
    refine ⟨retI (by simp [cls]), ?_⟩
    repeat (first | with_reducible assumption | with_reducible exact Below.refl _ _ | with_reducible refine bl_drew ?_ | with_reducible refine bl_drewN ?_ | ((with_reducible refine bl_set ?_ ?_); focus (first | (simp; done) | (simp; omega) | omega)) | ((with_reducible refine bl_alloc ?_ ?_); focus (first | (simp; done) | (simp; omega) | omega)))
  · have hd : 0 ≤ (tick - a) / age := Int.ediv_nonneg (by omega) h1
    have hd2 : (tick - a) / age ≤ 100000 := Int.le_trans (Int.ediv_le_self _ (by omega)) (by omega)
    have e : cls age tick ⟨a, tk, c⟩ = max 0 (c - (tick - a) / age) := by simp [cls, h0]
    have He := hid e
    clear e
    have h0' : (age == 0) = false := by simpa using h0
    have w1 : IntKind.i64.wrap (tick - a) = tick - a := IntWalk.i64_in _ (by omega)
    have w2 : (tick - a).tdiv age = (tick - a) / age := Int.tdiv_eq_ediv_of_nonneg (by omega)
    have w3 : IntKind.i64.wrap ((tick - a) / age) = (tick - a) / age := IntWalk.i64_in _ (by omega)
    have w4 : IntKind.i64.wrap (c - (tick - a) / age) = c - (tick - a) / age := IntWalk.i64_in _ (by omega)
    clear hd hd2
    go_enter Try.func44, Try.ntmps44
    go_wp2
    go_quiet (fail)
    go_wp2
    all_goals go_ret
    all_goals refine ⟨retI (by rw [He.out]; omega), ?_⟩
    all_goals exact below_drewN ((Below.refl _ _).alloc (Nat.le_refl _) _) _

/-- in whatever order the three blocks of the start have been laid -/
def StartRel (w : World) (age : Int) (n : Nat) (s6 s7 s8 : Value) (w1 : World) : Prop :=
  ∃ go gs gt, s6 = .slice (some ⟨go, 0, none⟩) 0 0 ∧ s7 = .slice (some ⟨gs, 0, none⟩) n n ∧ s8 = .pointer (some ⟨gt, 0, none⟩) ∧ go ≠ gs ∧ go ≠ gt ∧ gs ≠ gt ∧ w.heap.size + 1 ≤ gt ∧ gt < w1.heap.size ∧ w.heap.size + 1 ≤ go ∧ w.heap.size + 1 ≤ gs ∧
    w1.ownsRow (w.heap.size + 1) 2 1 (.slice (some ⟨go, 0, none⟩) 0 0) 0 [] ∧ w1.ownsRow (w.heap.size + 1) 2 1 (.slice (some ⟨gs, 0, none⟩) n n) n ((List.replicate n (0 : Int)).flatMap encI) ∧
    w1.cell? ⟨gt, 0, none⟩ = some (.int .i64 0) ∧ w1.frozen? ⟨gt, 0, none⟩ = false ∧ w1.cell? ⟨w.heap.size, 0, none⟩ = some (.int .i64 age) ∧ Below w.heap.size w w1

theorem own_lit {W : World} {base e size g n : Nat} {cs : Array Value} {l : List Value} (hg : g = W.heap.size) (hb : base ≤ W.heap.size) (hm : n ≤ 2000000) (hs : cs.size = n * size) (hl : cs.toList = l) :
    (W.alloc (.cells cs e)).ownsRow base e size (.slice (some ⟨g, 0, none⟩) n n) n l := by
  subst hg hl
  exact World.ownsRow_lit W cs n hb (by simp only [maxLen]; omega) hs

theorem startRel0 (w : World) (age : Int) (n : Nat) (hn : n ≤ 12) : StartRel w age n (.slice (some ⟨w.heap.size + 1, 0, none⟩) 0 0) (.slice (some ⟨w.heap.size + 1 + 1, 0, none⟩) n n) (.pointer (some ⟨w.heap.size + 1 + 1 + 1, 0, none⟩))
    ((((w.alloc (Obj.cells #[Value.int IntKind.i64 age] 2)).alloc (Obj.cells #[] 2)).alloc (Obj.cells (madeCells #[Value.int IntKind.i64 0] n) 2)).alloc (Obj.cells #[Value.int IntKind.i64 0] 2)).drew := by
  refine ⟨_, _, _, rfl, rfl, rfl, by omega, by omega, by omega, by omega, by simp, by omega, by omega, ?_, ?_, by go_simp, by go_simp, by go_simp, ?_⟩
  · refine World.ownsRow.drew ?_
    repeat (first | exact own_lit (by simp) (by simp) (by omega) rfl rfl | refine World.ownsRow.alloc ?_ _)
  · refine World.ownsRow.drew ?_
    repeat (first | exact own_lit (by simp) (by simp) (by omega) (by rw [size_madeCells]; omega) (made_ints n) | refine World.ownsRow.alloc ?_ _)
  · repeat (first | with_reducible assumption | with_reducible exact Below.refl _ _ | with_reducible refine bl_drew ?_ | with_reducible refine bl_drewN ?_ | ((with_reducible refine bl_set ?_ ?_); focus (first | (simp; done) | (simp; omega) | omega)) | ((with_reducible refine bl_alloc ?_ ?_); focus (first | (simp; done) | (simp; omega) | omega)))
theorem startRel1 (w : World) (age : Int) (n : Nat) (hn : n ≤ 12) : StartRel w age n (.slice (some ⟨w.heap.size + 1, 0, none⟩) 0 0) (.slice (some ⟨w.heap.size + 1 + 1 + 1, 0, none⟩) n n) (.pointer (some ⟨w.heap.size + 1 + 1, 0, none⟩))
    ((((w.alloc (Obj.cells #[Value.int IntKind.i64 age] 2)).alloc (Obj.cells #[] 2)).alloc (Obj.cells #[Value.int IntKind.i64 0] 2)).alloc (Obj.cells (madeCells #[Value.int IntKind.i64 0] n) 2)).drew := by
  refine ⟨_, _, _, rfl, rfl, rfl, by omega, by omega, by omega, by omega, by simp, by omega, by omega, ?_, ?_, by go_simp, by go_simp, by go_simp, ?_⟩
  · refine World.ownsRow.drew ?_
    repeat (first | exact own_lit (by simp) (by simp) (by omega) rfl rfl | refine World.ownsRow.alloc ?_ _)
  · refine World.ownsRow.drew ?_
    repeat (first | exact own_lit (by simp) (by simp) (by omega) (by rw [size_madeCells]; omega) (made_ints n) | refine World.ownsRow.alloc ?_ _)
  · repeat (first | with_reducible assumption | with_reducible exact Below.refl _ _ | with_reducible refine bl_drew ?_ | with_reducible refine bl_drewN ?_ | ((with_reducible refine bl_set ?_ ?_); focus (first | (simp; done) | (simp; omega) | omega)) | ((with_reducible refine bl_alloc ?_ ?_); focus (first | (simp; done) | (simp; omega) | omega)))
theorem startRel2 (w : World) (age : Int) (n : Nat) (hn : n ≤ 12) : StartRel w age n (.slice (some ⟨w.heap.size + 1 + 1, 0, none⟩) 0 0) (.slice (some ⟨w.heap.size + 1, 0, none⟩) n n) (.pointer (some ⟨w.heap.size + 1 + 1 + 1, 0, none⟩))
    ((((w.alloc (Obj.cells #[Value.int IntKind.i64 age] 2)).alloc (Obj.cells (madeCells #[Value.int IntKind.i64 0] n) 2)).alloc (Obj.cells #[] 2)).alloc (Obj.cells #[Value.int IntKind.i64 0] 2)).drew := by
  refine ⟨_, _, _, rfl, rfl, rfl, by omega, by omega, by omega, by omega, by simp, by omega, by omega, ?_, ?_, by go_simp, by go_simp, by go_simp, ?_⟩
  · refine World.ownsRow.drew ?_
    repeat (first | exact own_lit (by simp) (by simp) (by omega) rfl rfl | refine World.ownsRow.alloc ?_ _)
  · refine World.ownsRow.drew ?_
    repeat (first | exact own_lit (by simp) (by simp) (by omega) (by rw [size_madeCells]; omega) (made_ints n) | refine World.ownsRow.alloc ?_ _)
  · repeat (first | with_reducible assumption | with_reducible exact Below.refl _ _ | with_reducible refine bl_drew ?_ | with_reducible refine bl_drewN ?_ | ((with_reducible refine bl_set ?_ ?_); focus (first | (simp; done) | (simp; omega) | omega)) | ((with_reducible refine bl_alloc ?_ ?_); focus (first | (simp; done) | (simp; omega) | omega)))
theorem startRel3 (w : World) (age : Int) (n : Nat) (hn : n ≤ 12) : StartRel w age n (.slice (some ⟨w.heap.size + 1 + 1 + 1, 0, none⟩) 0 0) (.slice (some ⟨w.heap.size + 1, 0, none⟩) n n) (.pointer (some ⟨w.heap.size + 1 + 1, 0, none⟩))
    ((((w.alloc (Obj.cells #[Value.int IntKind.i64 age] 2)).alloc (Obj.cells (madeCells #[Value.int IntKind.i64 0] n) 2)).alloc (Obj.cells #[Value.int IntKind.i64 0] 2)).alloc (Obj.cells #[] 2)).drew := by
  refine ⟨_, _, _, rfl, rfl, rfl, by omega, by omega, by omega, by omega, by simp, by omega, by omega, ?_, ?_, by go_simp, by go_simp, by go_simp, ?_⟩
  · refine World.ownsRow.drew ?_
    repeat (first | exact own_lit (by simp) (by simp) (by omega) rfl rfl | refine World.ownsRow.alloc ?_ _)
  · refine World.ownsRow.drew ?_
    repeat (first | exact own_lit (by simp) (by simp) (by omega) (by rw [size_madeCells]; omega) (made_ints n) | refine World.ownsRow.alloc ?_ _)
  · repeat (first | with_reducible assumption | with_reducible exact Below.refl _ _ | with_reducible refine bl_drew ?_ | with_reducible refine bl_drewN ?_ | ((with_reducible refine bl_set ?_ ?_); focus (first | (simp; done) | (simp; omega) | omega)) | ((with_reducible refine bl_alloc ?_ ?_); focus (first | (simp; done) | (simp; omega) | omega)))
theorem startRel4 (w : World) (age : Int) (n : Nat) (hn : n ≤ 12) : StartRel w age n (.slice (some ⟨w.heap.size + 1 + 1, 0, none⟩) 0 0) (.slice (some ⟨w.heap.size + 1 + 1 + 1, 0, none⟩) n n) (.pointer (some ⟨w.heap.size + 1, 0, none⟩))
    ((((w.alloc (Obj.cells #[Value.int IntKind.i64 age] 2)).alloc (Obj.cells #[Value.int IntKind.i64 0] 2)).alloc (Obj.cells #[] 2)).alloc (Obj.cells (madeCells #[Value.int IntKind.i64 0] n) 2)).drew := by
  refine ⟨_, _, _, rfl, rfl, rfl, by omega, by omega, by omega, by omega, by simp, by omega, by omega, ?_, ?_, by go_simp, by go_simp, by go_simp, ?_⟩
  · refine World.ownsRow.drew ?_
    repeat (first | exact own_lit (by simp) (by simp) (by omega) rfl rfl | refine World.ownsRow.alloc ?_ _)
  · refine World.ownsRow.drew ?_
    repeat (first | exact own_lit (by simp) (by simp) (by omega) (by rw [size_madeCells]; omega) (made_ints n) | refine World.ownsRow.alloc ?_ _)
  · repeat (first | with_reducible assumption | with_reducible exact Below.refl _ _ | with_reducible refine bl_drew ?_ | with_reducible refine bl_drewN ?_ | ((with_reducible refine bl_set ?_ ?_); focus (first | (simp; done) | (simp; omega) | omega)) | ((with_reducible refine bl_alloc ?_ ?_); focus (first | (simp; done) | (simp; omega) | omega)))
theorem startRel5 (w : World) (age : Int) (n : Nat) (hn : n ≤ 12) : StartRel w age n (.slice (some ⟨w.heap.size + 1 + 1 + 1, 0, none⟩) 0 0) (.slice (some ⟨w.heap.size + 1 + 1, 0, none⟩) n n) (.pointer (some ⟨w.heap.size + 1, 0, none⟩))
    ((((w.alloc (Obj.cells #[Value.int IntKind.i64 age] 2)).alloc (Obj.cells #[Value.int IntKind.i64 0] 2)).alloc (Obj.cells (madeCells #[Value.int IntKind.i64 0] n) 2)).alloc (Obj.cells #[] 2)).drew := by
  refine ⟨_, _, _, rfl, rfl, rfl, by omega, by omega, by omega, by omega, by simp, by omega, by omega, ?_, ?_, by go_simp, by go_simp, by go_simp, ?_⟩
  · refine World.ownsRow.drew ?_
    repeat (first | exact own_lit (by simp) (by simp) (by omega) rfl rfl | refine World.ownsRow.alloc ?_ _)
  · refine World.ownsRow.drew ?_
    repeat (first | exact own_lit (by simp) (by simp) (by omega) (by rw [size_madeCells]; omega) (made_ints n) | refine World.ownsRow.alloc ?_ _)
  · repeat (first | with_reducible assumption | with_reducible exact Below.refl _ _ | with_reducible refine bl_drew ?_ | with_reducible refine bl_drewN ?_ | ((with_reducible refine bl_set ?_ ?_); focus (first | (simp; done) | (simp; omega) | omega)) | ((with_reducible refine bl_alloc ?_ ?_); focus (first | (simp; done) | (simp; omega) | omega)))

/-- the state at the head of a round -/
def SRel (w : World) (n : Nat) (xs : List Item) (age : Int) (gs gt g : Nat) (ov : Value) (w1 : World) : Prop :=
  ∃ o s t, w1.ownsRow (w.heap.size + 1) 2 1 ov o.length (o.flatMap encI) ∧ ov.ownBlock ≠ some gs ∧ ov.ownBlock ≠ some gt ∧ w1.ownsRow (w.heap.size + 1) 2 1 (.slice (some ⟨gs, 0, none⟩) n n) n (s.flatMap encI) ∧
    w1.cell? ⟨gt, 0, none⟩ = some (.int .i64 t) ∧ w1.frozen? ⟨gt, 0, none⟩ = false ∧ w1.cell? ⟨w.heap.size, 0, none⟩ = some (.int .i64 age) ∧
    0 ≤ t ∧ t ≤ 10000 + 1000 * o.length ∧ o.length ≤ n ∧ need xs o age t ≤ g ∧ servedQ xs age = runQ xs age g o s t ∧ Below w.heap.size w w1

/-- what one sending leaves -/
def StepRel (w : World) (n : Nat) (o s : List Int) (t : Int) (j : Nat) (age : Int) (gs gt : Nat) (s6 : Value) (w1 : World) : Prop :=
  ∃ A' c', s6 = .slice A' (o.length + 1) c' ∧ w1.ownsRow (w.heap.size + 1) 2 1 (.slice A' (o.length + 1) c') (o.length + 1) ((o ++ [(j : Int)]).flatMap encI) ∧ (Value.slice A' (o.length + 1) c').ownBlock ≠ some gs ∧
    (Value.slice A' (o.length + 1) c').ownBlock ≠ some gt ∧ w1.ownsRow (w.heap.size + 1) 2 1 (.slice (some ⟨gs, 0, none⟩) n n) n ((s.set j t).flatMap encI) ∧
    w1.cell? ⟨gt, 0, none⟩ = some (.int .i64 t) ∧ w1.frozen? ⟨gt, 0, none⟩ = false ∧ w1.cell? ⟨w.heap.size, 0, none⟩ = some (.int .i64 age) ∧ Below w.heap.size w w1

theorem or_lt (ca cb a b : Int) : orI (cmpI ca cb) (cmpI a b) < 0 ↔ (ca < cb ∨ (ca = cb ∧ a < b)) := by
  unfold orI cmpI
  (repeat' split) <;> omega

set_option maxRecDepth 100000 in
set_option maxHeartbeats 4000000 in
theorem served_any (A : Option Addr) (n c : Nat) (xs : List Item) (age : Int) (w : World) (B : Nat) (hB : B ≤ w.heap.size) (hx : Sl w B 3 encItem A n xs) (hv : validQ xs = true) (h1 : 0 ≤ age) (h2 : age ≤ 10000) :
    Calls Try.prog 36 #[.slice A n c, .int .i64 age] w (RunPost w n xs age) := by
  have hn : n ≤ 12 := by rw [← hx.len]; exact validQ_len hv
  have Hv := hid hv
  clear hv
  have hmk := make_ints n (by omega)
  go_enter Try.func36, Try.ntmps36
  go_upto_region 1 with fail
  go_cut [6, 7, 8] (fun s6 s7 s8 w1 => StartRel w age n s6 s7 s8 w1)
  case first =>
    go_region_with (fail)
    all_goals go_wp2_with fail
    all_goals go_meet
    all_goals first | exact startRel0 _ _ _ hn | exact startRel1 _ _ _ hn | exact startRel2 _ _ _ hn | exact startRel3 _ _ _ hn | exact startRel4 _ _ _ hn | exact startRel5 _ _ _ hn
  case rest =>
    clear hmk
    obtain ⟨go, gs, gt, rfl, rfl, rfl, n1, n2, n3, n4, n5, n6, n7, o1, o2, cT, fT, cA, hbc⟩ := hcut
    have Ho1 := hid o1
    have Ho2 := hid o2
    clear o1 o2
    go_wp2_with fail
    go_loopg [6] (2 * n) (fun g ov w1 => SRel w n xs age gs gt g ov w1)
    case atStart =>
      refine ⟨[], List.replicate n 0, 0, Ho1.out, by simp [Value.ownBlock, n1], by simp [Value.ownBlock, n2], Ho2.out, cT, fT, cA, by omega, by simp, by simp, ?_, ?_, hbc⟩
      · rw [← hx.len]; exact need_start xs age
      · rw [← hx.len]; rfl
    case round =>
      clear Ho1 Ho2 cT fT cA hbc n5
      obtain ⟨o, s, t, ho, hne1, hne2, hs, cT, fT, cA, ht0, ht1, hon, hneed, hrun, hb⟩ := hrel
      obtain ⟨Ao, co, rfl, _⟩ := own_form ho
      have Hrun := hid hrun
      clear hrun
      have hx1 := hx.below (hb.mono hB)
      have ho1 := own_sl encI_len (by omega) ho
      have hol := hx.len
      have lT := World.block_lt_of_cell? _ _ cT
      have lA := World.block_lt_of_cell? _ _ cA
      by_cases hlt : o.length < n
      · obtain ⟨wo, rfl⟩ : ∃ wo : World, wo = wr := ⟨_, rfl⟩
        go_wp2_with fail
        go_loopw [10, 11, 26] (fun s10 s11 s26 w1 => ∃ k bv nv, k ≤ n ∧ s26 = .int .i64 (k : Nat) ∧ s10 = .int .i64 bv ∧ s11 = .int .i64 nv ∧ Found xs o t bv ∧ Hid (bestQ xs o age t = bestFrom xs o age t bv k (xs.drop k)) ∧
            Hid (nextFrom o t (-1) 0 xs = nextFrom o t nv k (xs.drop k)) ∧ Below wo.heap.size wo w1) (fun _ _ s26 _ => n - (intOf s26).toNat)
        case atStart => exact ⟨0, -1, -1, Nat.zero_le _, rfl, rfl, rfl, .inl (by omega), hid rfl, hid rfl, Below.refl _ _⟩
        case round =>
          obtain ⟨k, bv, nv, hk, rfl, rfl, rfl, hf, he, hen, hbi⟩ := hrel
          by_cases hltk : k < n
          · obtain ⟨x, y, z, b, off, Hx, rfl, hbB, c0, c1, c2⟩ := (hx1.below (hbi.mono (Nat.le_trans hB hb.size))).item hltk
            have hcon := Contains_int Ao o.length co o k (wr.alloc (.cells #[.int .i64 x, .int .i64 y, .int .i64 z] 43)) _ (by omega) ((ho1.below hbi).alloc hbi.size _)
            rw [hasI_any] at hcon
            have lT2 : gt < wr.heap.size := Nat.lt_of_lt_of_le lT hbi.size
            have lA2 : w.heap.size < wr.heap.size := Nat.lt_of_lt_of_le lA hbi.size
            have lb : b < wr.heap.size := by have := hb.size; omega
            have cT2 := (hbi.cell (p := ⟨gt, 0, none⟩) lT).trans cT
            have cA2 := (hbi.cell (p := ⟨w.heap.size, 0, none⟩) lA).trans cA
            have he2 := he.out
            have hen2 := hen.out
            rw [drop_at Hx.out, bestFrom] at he2
            rw [drop_at Hx.out, nextFrom] at hen2
            have hsf := hf.step (age := age) Hx.out
            have go_on : ∀ bv' nv', Hid (stepBest xs o age t bv k ⟨x, y, z⟩ = bv') → Hid (stepNext o t nv k ⟨x, y, z⟩ = nv') → Found xs o t bv' ∧ Hid (bestQ xs o age t = bestFrom xs o age t bv' (k + 1) (xs.drop (k + 1))) ∧ Hid (nextFrom o t (-1) 0 xs = nextFrom o t nv' (k + 1) (xs.drop (k + 1))) :=
              fun bv' nv' e e' => by rw [← e.out, ← e'.out]; exact ⟨hsf, he2, hen2⟩
            have hvx := validQ_item Hv.out Hx.out
            simp only at hvx
            obtain ⟨v1, v2, v3, v4, v5, v6⟩ := hvx
            have hba := hbi.alloc hbi.size (.cells #[.int .i64 x, .int .i64 y, .int .i64 z] 43)
            clear he hen he2 hen2 hsf cT cA
            cases hh : hasI o k with
            | true =>
              rw [hh] at hcon
              obtain ⟨f1, f2, f3⟩ := go_on bv nv (by unfold stepBest Hid; rw [if_pos (by simp [hh])]) (by unfold stepNext Hid; rw [hh]; rfl)
              clear go_on hh hf hx hx1 ho1
              go_wp2_with (go_at_call 45; refine hcon.mono ?_; rintro e w' ⟨rfl, rfl⟩)
              go_roundw
              all_goals first | exact ⟨k + 1, bv, nv, by omega, by go_num, rfl, rfl, f1, f2, f3, hba⟩ | exact ⟨⟨k + 1, bv, nv, by omega, by go_num, rfl, rfl, f1, f2, f3, hba⟩, by simp [intOf]; omega⟩ | (simp [intOf]; omega)
            | false =>
              rw [hh] at hcon
              by_cases ha : t < x
              · by_cases q1 : nv < 0
                · obtain ⟨f1, f2, f3⟩ := go_on bv x (by unfold stepBest Hid; rw [if_pos (by simp [ha])]) (by unfold stepNext Hid; rw [hh]; simp [ha, q1])
                  clear go_on hh hf hx hx1 ho1
                  go_wp2_with (go_at_call 45; refine hcon.mono ?_; rintro e w' ⟨rfl, rfl⟩)
                  go_roundw
                  all_goals first | exact ⟨k + 1, bv, x, by omega, by go_num, rfl, rfl, f1, f2, f3, hba⟩ | exact ⟨⟨k + 1, bv, x, by omega, by go_num, rfl, rfl, f1, f2, f3, hba⟩, by simp [intOf]; omega⟩ | (simp [intOf]; omega)
                · by_cases q2 : x < nv
                  · obtain ⟨f1, f2, f3⟩ := go_on bv x (by unfold stepBest Hid; rw [if_pos (by simp [ha])]) (by unfold stepNext Hid; rw [hh]; simp [ha, q2])
                    clear go_on hh hf hx hx1 ho1
                    go_wp2_with (go_at_call 45; refine hcon.mono ?_; rintro e w' ⟨rfl, rfl⟩)
                    go_roundw
                    all_goals first | exact ⟨k + 1, bv, x, by omega, by go_num, rfl, rfl, f1, f2, f3, hba⟩ | exact ⟨⟨k + 1, bv, x, by omega, by go_num, rfl, rfl, f1, f2, f3, hba⟩, by simp [intOf]; omega⟩ | (simp [intOf]; omega)
                  · obtain ⟨f1, f2, f3⟩ := go_on bv nv (by unfold stepBest Hid; rw [if_pos (by simp [ha])]) (by unfold stepNext Hid; rw [hh]; simp [ha, q1, q2])
                    clear go_on hh hf hx hx1 ho1
                    go_wp2_with (go_at_call 45; refine hcon.mono ?_; rintro e w' ⟨rfl, rfl⟩)
                    go_roundw
                    all_goals first | exact ⟨k + 1, bv, nv, by omega, by go_num, rfl, rfl, f1, f2, f3, hba⟩ | exact ⟨⟨k + 1, bv, nv, by omega, by go_num, rfl, rfl, f1, f2, f3, hba⟩, by simp [intOf]; omega⟩ | (simp [intOf]; omega)
              · by_cases hneg : bv < 0
                · obtain ⟨f1, f2, f3⟩ := go_on k nv (by unfold stepBest Hid; rw [if_neg (by simp [hh, ha]), if_pos hneg]) (by unfold stepNext Hid; rw [hh]; simp [ha])
                  clear go_on hh hf hx hx1 ho1
                  go_wp2_with (go_at_call 45; refine hcon.mono ?_; rintro e w' ⟨rfl, rfl⟩)
                  have hd : decide (bv < 0) = true := by simpa using hneg
                  go_quiet (fail)
                  go_wp2_with fail
                  have hbq := below_drewN hba nq
                  go_roundw
                  all_goals first | exact ⟨k + 1, k, nv, by omega, by go_num, rfl, rfl, f1, f2, f3, hbq⟩ | exact ⟨⟨k + 1, k, nv, by omega, by go_num, rfl, rfl, f1, f2, f3, hbq⟩, by simp [intOf]; omega⟩ | (simp [intOf]; omega)
                · rcases hf with h | ⟨j, ⟨x', y', z'⟩, rfl, hj, hoj, haj⟩
                  · omega
                  · have hjn : j < n := by rw [← hx.len]; exact (List.getElem?_eq_some_iff.1 hj).1
                    obtain ⟨c0', c1', c2'⟩ := (hx1.below (hbi.mono (Nat.le_trans hB hb.size))).itemAt hj
                    have hv := validQ_item Hv.out hj
                    simp only at hv haj
                    obtain ⟨v1', v2', v3', v4', v5', v6'⟩ := hv
                    have hca := fun W a b => served1_any x y z t age w.heap.size gt W h1 h2 v1 (by omega) (by omega) v5 v6 a b
                    have hcb := fun W a b => served1_any x' y' z' t age w.heap.size gt W h1 h2 v1' haj (by omega) v5' v6' a b
                    have hst : Hid (stepBest xs o age t j k ⟨x, y, z⟩ = if (decide (cls age t ⟨x, y, z⟩ < cls age t ⟨x', y', z'⟩) || (decide (cls age t ⟨x, y, z⟩ = cls age t ⟨x', y', z'⟩) && decide (x < x'))) then (k : Int) else j) := by
                      unfold stepBest Hid; rw [if_neg (by simp [hh, ha]), if_neg hneg, Int.toNat_natCast, hj]; rfl
                    have hsn : Hid (stepNext o t nv k ⟨x, y, z⟩ = nv) := by unfold stepNext Hid; rw [hh]; simp [ha]
                    generalize cls age t ⟨x, y, z⟩ = ca at hca hst
                    generalize cls age t ⟨x', y', z'⟩ = cb at hcb hst
                    have hneg2 : decide ((j : Int) < 0) = false := by simp
                    have Hj := hid hj
                    clear hh hoj hj hx hx1 ho1 hneg
                    go_wp2_with (go_at_call 45; refine hcon.mono ?_; rintro e w' ⟨rfl, rfl⟩)
                    go_region_held3 (fun W => W.cell? ⟨wr.heap.size, 0, none⟩ = some (.int .i64 x) ∧ W.cell? ⟨wr.heap.size, 1, none⟩ = some (.int .i64 y) ∧ W.cell? ⟨wr.heap.size, 2, none⟩ = some (.int .i64 z) ∧
                        W.cell? ⟨b, off + j * 3, none⟩ = some (.int .i64 x') ∧ W.cell? ⟨b, off + j * 3 + 1, none⟩ = some (.int .i64 y') ∧ W.cell? ⟨b, off + j * 3 + 2, none⟩ = some (.int .i64 z') ∧
                        W.cell? ⟨w.heap.size, 0, none⟩ = some (.int .i64 age) ∧ W.cell? ⟨gt, 0, none⟩ = some (.int .i64 t))
                      (first
                        | go_keep
                        | (go_split_ands; refine ⟨below_cell (by assumption) bb2, below_cell (by assumption) bb2, below_cell (by assumption) bb2, below_cell (by assumption) bb2, below_cell (by assumption) bb2, below_cell (by assumption) bb2, below_cell (by assumption) bb2, below_cell (by assumption) bb2⟩)
                        | (go_split_ands; refine ⟨below_cell (by assumption) bb1, below_cell (by assumption) bb1, below_cell (by assumption) bb1, below_cell (by assumption) bb1, below_cell (by assumption) bb1, below_cell (by assumption) bb1, below_cell (by assumption) bb1, below_cell (by assumption) bb1⟩))
                      (first
                        | (go_at_call_of 44 (Value.int IntKind.i64 z); refine (hca _ (by go_split_ands; assumption) (by go_split_ands; assumption)).mono ?_; rintro e w1 ⟨rfl, bb1⟩)
                        | (go_at_call_of 44 (Value.int IntKind.i64 z'); refine (hcb _ (by go_split_ands; assumption) (by go_split_ands; assumption)).mono ?_; rintro e w2 ⟨rfl, bb2⟩)
                        | (go_at_call 47; refine (Compare_any _ _ _).mono ?_; rintro e w1 ⟨rfl, rfl⟩)
                        | (go_at_call 46; refine (Or_any (cmpI ca cb) (cmpI x x') _ _ _ _ ?_ ?_).mono ?_; go_simp; go_simp; rintro e w1 ⟨rfl, rfl⟩))
                    have hbq : Below wo.heap.size wo (w1.alloc (.cells #[.int .i64 (cmpI ca cb), .int .i64 (cmpI x x')] 3)) := by
                      have hb1 := (hba.drew.trans (bb1.mono hba.size)).trans (bb2.mono (Nat.le_trans hba.size bb1.size))
                      exact hb1.alloc hb1.size _
                    have hst := hst.out
                    by_cases hor : orI (cmpI ca cb) (cmpI x x') < 0
                    · have hor2 := (or_lt _ _ _ _).1 hor
                      obtain ⟨f1, f2, f3⟩ := go_on k nv (by rw [hst]; unfold Hid; rw [if_pos (by simpa using hor2)]) hsn
                      clear go_on hst hsn hor2 bb1 bb2
                      go_wp2_with fail
                      go_roundw
                      all_goals first | exact ⟨k + 1, k, nv, by omega, by go_num, rfl, rfl, f1, f2, f3, hbq⟩ | exact ⟨⟨k + 1, k, nv, by omega, by go_num, rfl, rfl, f1, f2, f3, hbq⟩, by simp [intOf]; omega⟩ | (simp [intOf]; omega)
                    · have hor2 := mt (or_lt _ _ _ _).2 hor
                      obtain ⟨f1, f2, f3⟩ := go_on j nv (by rw [hst]; unfold Hid; rw [if_neg (by simpa using hor2)]) hsn
                      clear go_on hst hsn hor2 bb1 bb2
                      go_wp2_with fail
                      go_roundw
                      all_goals first | exact ⟨k + 1, j, nv, by omega, by go_num, rfl, rfl, f1, f2, f3, hbq⟩ | exact ⟨⟨k + 1, j, nv, by omega, by go_num, rfl, rfl, f1, f2, f3, hbq⟩, by simp [intOf]; omega⟩ | (simp [intOf]; omega)
          · have : k = n := by omega
            subst this
            have he2 := he.out
            have hen2 := hen.out
            rw [List.drop_of_length_le (show xs.length ≤ k by omega), bestFrom] at he2
            rw [List.drop_of_length_le (show xs.length ≤ k by omega), nextFrom] at hen2
            have hv2 : validQ xs = true := Hv.out
            have lT2 : gt < wr.heap.size := Nat.lt_of_lt_of_le lT hbi.size
            have cT2 := (hbi.cell (p := ⟨gt, 0, none⟩) lT).trans cT
            have cA2 := (hbi.cell (p := ⟨w.heap.size, 0, none⟩) lA).trans cA
            have fT2 := (hbi.frozen (p := ⟨gt, 0, none⟩) lT).trans fT
            have ho2 := own_below ho hbi
            have hs2 := own_below hs hbi
            have hx2 := hx1.below (hbi.mono (Nat.le_trans hB hb.size))
            have hb2 := hb.trans (hbi.mono hb.size)
            have hrun := Hrun.out
            clear he hen cT cA fT ho hs hx hx1 ho1 hb hbi lT lA
            cases gk with
            | zero => unfold need at hneed; rw [if_pos (by omega)] at hneed; split at hneed <;> omega
            | succ g =>
              rw [runQ, if_pos (by omega)] at hrun
              by_cases hk0 : bv < 0
              · have hid1 := round_idle (xs := xs) (o := o) (age := age) (t := t) hv2 (by omega) (by rw [he2]; exact hk0)
                have hmin : nv = minQ xs o := by
                  rw [← hen2]
                  exact nextFrom_min xs (-1) 0 fun j x hx => by rw [Nat.zero_add]; exact bestQ_none (age := age) (by rw [he2]; exact hk0) hx
                rw [if_neg (by omega), ← hmin] at hrun
                rw [← hmin] at hid1
                obtain ⟨m1, m2, _, m4⟩ := hid1
                have Hrun2 := hid hrun
                clear hrun Hrun hmin he2 hen2 hv2
                go_wp2_with fail
                go_roundg g
                case measure => omega
                case rel =>
                  refine ⟨o, s, nv, ownsRow_setCell_other ho2 hne2 _, hne1, hne2, ownsRow_setCell_other hs2 (by simp [Value.ownBlock]; exact n3) _, ?_, ?_, (cell_far (by show gt ≠ w.heap.size; omega)).trans cA2, m1, by omega, hon, by omega, Hrun2.out, ?_⟩
                  · go_simp
                  · go_simp
                  · repeat (first | with_reducible assumption | with_reducible exact Below.refl _ _ | with_reducible refine bl_drew ?_ | with_reducible refine bl_drewN ?_ | ((with_reducible refine bl_set ?_ ?_); focus (first | (simp; done) | (simp; omega) | omega)) | ((with_reducible refine bl_alloc ?_ ?_); focus (first | (simp; done) | (simp; omega) | omega)))
              · rcases hf with h | ⟨j, ⟨x, y, z⟩, rfl, hj, hoj, haj⟩
                · omega
                · obtain ⟨j', ⟨x', y', z'⟩, e', _, hj', _, _, hdec⟩ := round_sent (xs := xs) (o := o) (age := age) (t := t) (by omega) (by rw [he2]; omega)
                  rw [he2] at e'
                  obtain rfl : j = j' := by omega
                  obtain ⟨rfl, rfl, rfl⟩ : x = x' ∧ y = y' ∧ z = z' := by have := hj.symm.trans hj'; simpa using this
                  rw [he2, if_pos (by omega), Int.toNat_natCast, List.getD_eq_getElem?_getD, hj, Option.getD_some] at hrun
                  have hdec' := hdec (t + y)
                  have hvj := validQ_item hv2 hj
                  simp only at hvj hrun haj
                  obtain ⟨v1, v2, v3, v4, v5, v6⟩ := hvj
                  have hjn : j < k := by rw [← hol]; exact (List.getElem?_eq_some_iff.1 hj).1
                  obtain ⟨b, off, rfl, hbB, c0, c1, c2⟩ := hx2.itemAt' (by omega) hj
                  have Hrun2 := hid hrun
                  have hj0 : decide ((j : Int) < 0) = false := by simp
                  clear hrun Hrun he2 hen2 hv2 hj' hdec e' hj hoj hk0 c0 c2
                  go_upto_region 17 with fail
                  go_cut [6] (fun s6 w1 => StepRel w k o s t j age gs gt s6 w1)
                  case first =>
                    obtain ⟨i0, hi, hz0, hz1, hz2⟩ := info_parts int_info
                    have hlo := ho2.lt
                    have hws := hb2.size
                    have jn0 : (0 : Int) ≤ (j : Int) := by omega
                    have jn1 : (j : Int) < (k : Int) := by omega
                    go_region_held3 (fun W => W.cell? ⟨gt, 0, none⟩ = some (.int .i64 t))
                      (first
                        | go_keep
                        | (go_split_ands; exact hg3.cell (by assumption) (Ne.symm hne2)))
                      ((refine step_append_lies _ (by rfl) _ _ _ (by rfl) (w.heap.size + 1) 2 i0 _ 1 8 Try.underlying36 hi hz0 hz1 hz2 rfl (by omega) (.slice Ao o.length co) o.length (o.flatMap encI) (by rfl) ((ho2.alloc _).drew) ⟨wr.heap.size, 0, none⟩ 1 1 [.int .i64 (j : Nat)] (by rfl) (by rfl) (cell_one_new wr _ _) (by simp [Value.oneCell']) (by omega) (by simp only [maxLen]; omega) (by omega) (by simp; omega) (wr.heap.size + 1) (by simp) ?_; intro gg cap w3 ho3 hg3 hat3 hlt3; have hs3 := own_kept (v2 := .slice Ao o.length co) ((hs2.alloc _).drew) hg3 hne1; obtain ⟨⟨u, e0⟩, f0⟩ := own_at hs3 (Below.refl _ _) j (by omega)))
                    go_wp2_with fail
                    go_meet
                    case rel =>
                      rw [snoc_encI] at ho3
                      have hs4 := hs3.stored j (.int .i64 t)
                      rw [set_encI] at hs4
                      have hgs := (own_lt hs2).2
                      have g1 : (Value.slice (some ⟨gg, 0, none⟩) (o.length + 1) cap).ownBlock ≠ some gs := by
                        rcases hat3 with h | h
                        · rw [h] at hne1; exact hne1
                        · simp [Value.ownBlock]; omega
                      have g2 : (Value.slice (some ⟨gg, 0, none⟩) (o.length + 1) cap).ownBlock ≠ some gt := by
                        rcases hat3 with h | h
                        · rw [h] at hne2; exact hne2
                        · simp [Value.ownBlock]; omega
                      have hb3 : Below w.heap.size w w3 := ((hb2.alloc hb2.size _).drew).grown hg3 (by simp; omega) (fun q hq => by have := (hlo q hq).1; omega)
                      have cA3 : w3.cell? ⟨w.heap.size, 0, none⟩ = some (.int .i64 age) := hg3.cell (below_cell cA2 (((Below.refl _ _).alloc (Nat.le_refl _) _).drew)) (fun e => by have h9 := (hlo _ e.symm).1; simp only at h9; omega)
                      have cT3 : w3.cell? ⟨gt, 0, none⟩ = some (.int .i64 t) := hg3.cell (below_cell cT2 (((Below.refl _ _).alloc (Nat.le_refl _) _).drew)) (Ne.symm hne2)
                      have fT3 : w3.frozen? ⟨gt, 0, none⟩ = false := by
                        rw [World.frozen?_of_block (hg3.block gt (by simp; omega) (Ne.symm hne2)), dr_frz, World.frozen?_alloc_past _ _ _ lT2]; exact fT2
                      refine ⟨_, _, rfl, ho3.kept hs4.2 (.inr g1), g1, g2, hs4.1, (cell_far (by show gs ≠ gt; omega)).trans cT3, by simpa using fT3, (cell_far (by show gs ≠ w.heap.size; omega)).trans cA3, ?_⟩
                      repeat (first | with_reducible assumption | with_reducible exact Below.refl _ _ | with_reducible refine bl_drew ?_ | with_reducible refine bl_drewN ?_ | ((with_reducible refine bl_set ?_ ?_); focus (first | (simp; done) | (simp; omega) | omega)) | ((with_reducible refine bl_alloc ?_ ?_); focus (first | (simp; done) | (simp; omega) | omega)))
                  case rest =>
                    obtain ⟨A', c', rfl, ho3, g1, g2, hs3, cT3, fT3, cA3, hb3⟩ := hcut
                    have hbw : b < w.heap.size := by omega
                    have c1' : wc.cell? ⟨b, off + j * 3 + 1, none⟩ = some (.int .i64 y) := (hb3.cell (p := ⟨b, off + j * 3 + 1, none⟩) hbw).trans ((hb2.cell (p := ⟨b, off + j * 3 + 1, none⟩) hbw).symm.trans c1)
                    clear ho2 hs2 hx2 hb2 cT2 cA2 fT2 c1 lT2
                    have lT3 := World.block_lt_of_cell? _ _ cT3
                    have hsum : Hid (IntKind.i64.wrap (t + y) = t + y) := IntWalk.i64_in _ (by omega)
                    go_wp2_with fail
                    go_region_with (fail)
                    all_goals go_wp2_with fail
                    all_goals go_roundg g
                    all_goals first
                      | omega
                      | (refine ⟨o ++ [(j : Int)], s.set j t, t + y, ownsRow_setCell_other (by rw [List.length_append]; exact ho3) g2 _, g1, g2, ownsRow_setCell_other hs3 (by simp [Value.ownBlock]; exact n3) _, ?_, ?_, (cell_far (by show gt ≠ w.heap.size; omega)).trans cA3, by omega, by simp; omega, by simp; omega, by omega, Hrun2.out, ?_⟩
                         · rw [dr_cell, hsum.out]; exact World.cell?_setCell_same _ _ _ cT3
                         · simpa using fT3
                         · repeat (first | with_reducible assumption | with_reducible exact Below.refl _ _ | with_reducible refine bl_drew ?_ | with_reducible refine bl_drewN ?_ | ((with_reducible refine bl_set ?_ ?_); focus (first | (simp; done) | (simp; omega) | omega)) | ((with_reducible refine bl_alloc ?_ ?_); focus (first | (simp; done) | (simp; omega) | omega))))
      · have hfin := runQ_done (xs := xs) (age := age) (g := gk) (o := o) (s := s) (t := t) (by omega)
        have e1 : orderQ xs age = o := by unfold orderQ; rw [Hrun.out, hfin]
        have e2 : startsQ xs age = s := by unfold startsQ; rw [Hrun.out, hfin]
        have hlen : o.length = n := by omega
        have E1 := hid e1
        have E2 := hid e2
        have HL := hid hlen
        clear hfin e1 e2 hx hx1 ho1 hlen
        go_wp2_with fail
        go_ret2
        refine ⟨Ao, co, some ⟨gs, 0, none⟩, n, by rw [HL.out]; rfl, ?_, ?_, hb⟩
        · rw [E1.out, ← HL.out]; exact ho.mono (by omega)
        · rw [E2.out]; exact hs.mono (by omega)
end Go.Proofs.Ytfhlooegeklpaaa
