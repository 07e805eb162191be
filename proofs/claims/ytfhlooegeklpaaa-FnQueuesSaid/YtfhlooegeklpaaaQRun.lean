/-
  The reference's run of a queue: order and starts. No condition beyond a valid queue.
-/
import Derived.Test.YtfhlooegeklpaaaQWalk
namespace Go.Proofs.Ytfhlooegeklpaaa
open Go.RowKit
set_option maxHeartbeats 400000

theorem make_ints (n : Nat) (hn : n ≤ 2000000) : ∀ u : World, (Instr.makeSlice 36 (.int .i64 (n : Int)) (.int .i64 (n : Int))).run Try.prog u =
      .ok (.slice (some ⟨u.heap.size, 0, none⟩) n n) (u.alloc (.cells (madeCells #[.int .i64 0] n) 2)) := fun u => by
  obtain ⟨i0, hi, hz0, hz1, hz2⟩ := info_parts int_info
  have h := run_make (P := Try.prog) u 36 2 i0 _ Try.underlying36 hi hz0 .i64 .i64 (n : Int) (n : Int) (by omega) (Int.le_refl _) (by rw [hz2]; omega) (by omega)
  simpa [hz1, Value.cells] using h
theorem flatMap_encI (l : List Int) : l.flatMap encI = l.map (Value.int .i64) := by
  induction l with
  | nil => rfl
  | cons x r ih => simp only [List.flatMap_cons, List.map_cons, ih, encI]; rfl
theorem made_ints (n : Nat) : (madeCells #[.int .i64 0] n).toList = (List.replicate n (0 : Int)).flatMap encI := by
  rw [toList_madeCells_one, flatMap_encI, List.map_replicate]
theorem set_encI (l : List Int) (j : Nat) (z : Int) : (l.flatMap encI).set j (.int .i64 z) = (l.set j z).flatMap encI := by
  rw [flatMap_encI, flatMap_encI, List.map_set]
theorem snoc_encI (l : List Int) (z : Int) : l.flatMap encI ++ [.int .i64 z] = (l ++ [z]).flatMap encI := by
  rw [List.flatMap_append]; rfl
/-- an own row is kept where another one grows -/
theorem own_kept {w w' : World} {lo T k : Nat} {v v2 : Value} {n : Nat} {l : List Value} (h : w.ownsRow lo T k v n l) (hg : w.grownBy w' v2.ownBlock) (hne : v2.ownBlock ≠ v.ownBlock) : w'.ownsRow lo T k v n l := by
  refine h.kept hg ?_
  cases hv : v.ownBlock with
  | none => exact .inl rfl
  | some b => exact .inr (by rw [← hv]; exact Ne.symm hne)

def RunPost (w : World) (n : Nat) (xs : List Item) (age : Int) (e : Ending) (w' : World) : Prop :=
  ∃ A c A' c', e = .returned (.tuple #[.slice A n c, .slice A' n c']) ∧ w'.ownsRow w.heap.size 2 1 (.slice A n c) n ((orderQ xs age).flatMap encI) ∧
    w'.ownsRow w.heap.size 2 1 (.slice A' n c') n ((startsQ xs age).flatMap encI) ∧ Below w.heap.size w w'
def RunRel (w : World) (n : Nat) (xs : List Item) (age : Int) (gs g : Nat) (ov : Value) (tick : Value) (w1 : World) : Prop :=
  ∃ o s t, w1.ownsRow w.heap.size 2 1 ov o.length (o.flatMap encI) ∧ ov.ownBlock ≠ some gs ∧ w1.ownsRow w.heap.size 2 1 (.slice (some ⟨gs, 0, none⟩) n n) n (s.flatMap encI) ∧
    tick = .int .i64 t ∧ 0 ≤ t ∧ t ≤ 10000 + 1000 * o.length ∧ o.length ≤ n ∧ need xs o age t ≤ g ∧ servedQ xs age = runQ xs age g o s t ∧ Below w.heap.size w w1
theorem runQ_done {xs : List Item} {age : Int} {g : Nat} {o s : List Int} {t : Int} (h : ¬ o.length < xs.length) : runQ xs age g o s t = (o, s) := by
  cases g with
  | zero => rfl
  | succ g => rw [runQ, if_neg h]

theorem l22Run_any (A : Option Addr) (n c : Nat) (xs : List Item) (age : Int) (w : World) (B : Nat) (hB : B ≤ w.heap.size) (hx : Sl w B 3 encItem A n xs) (hv : validQ xs = true) (h1 : 0 ≤ age) (h2 : age ≤ 10000) :
    Calls Try.prog 37 #[.slice A n c, .int .i64 age] w (RunPost w n xs age) := by
  have hn : n ≤ 12 := by rw [← hx.len]; exact validQ_len hv
  have Hv := hid hv
  clear hv
  have hmk := make_ints n (by omega)
  go_enter Try.func37, Try.ntmps37
  go_wp2_with fail
  clear hmk
  go_loopg [6, 8] (2 * n) (fun g ov tick w1 => RunRel w n xs age (w.heap.size + 1) g ov tick w1)
  case atStart =>
    have o1 : ((w.alloc (.cells #[] 2)).alloc (.cells (madeCells #[.int .i64 0] n) 2)).ownsRow w.heap.size 2 1 (.slice (some ⟨w.heap.size, 0, none⟩) 0 0) 0 [] :=
      (World.ownsRow_lit w #[] 0 (Nat.le_refl _) (by simp [maxLen]) rfl).alloc _
    have o2 := World.ownsRow_lit (base := w.heap.size) (e := 2) (size := 1) (w.alloc (.cells #[] 2)) (madeCells #[.int .i64 0] n) n (by simp) (by simp only [maxLen]; omega) (by rw [size_madeCells]; omega)
    rw [made_ints, show (w.alloc (.cells #[] 2)).heap.size = w.heap.size + 1 by simp] at o2
    refine ⟨[], List.replicate n 0, 0, o1, by simp [Value.ownBlock], o2, rfl, by omega, by simp, by simp, ?_, ?_, ?_⟩
    · rw [← hx.len]; exact need_start xs age
    · rw [← hx.len]; rfl
    · repeat (first | with_reducible assumption | with_reducible exact Below.refl _ _ | with_reducible refine bl_drew ?_ | with_reducible refine bl_drewN ?_ | ((with_reducible refine bl_set ?_ ?_); focus (first | (simp; done) | (simp; omega) | omega)) | ((with_reducible refine bl_alloc ?_ ?_); focus (first | (simp; done) | (simp; omega) | omega)))
  case round =>
    obtain ⟨o, s, t, ho, hne, hs, rfl, ht0, ht1, hon, hneed, hrun, hb⟩ := hrel
    obtain ⟨Ao, co, rfl, _⟩ := own_form ho
    have Hrun := hid hrun
    clear hrun
    have hx1 := hx.below (hb.mono hB)
    have ho1 := own_sl encI_len (by omega) ho
    have hol := hx.len
    by_cases hlt : o.length < n
    · have hcall := l22Next_any A n c xs Ao o.length co o t age wr wr.heap.size (Nat.le_refl _) (by omega) (by omega) (hx1.more (Nat.le_trans hB hb.size)) ho1 Hv.out h1 h2 ht0 (by omega)
      have hrun := Hrun.out
      cases gk with
      | zero => unfold need at hneed; rw [if_pos (by omega)] at hneed; split at hneed <;> omega
      | succ g =>
        rw [runQ, if_pos (by omega)] at hrun
        by_cases hk : 0 ≤ bestQ xs o age t
        · rw [if_pos hk] at hrun
          obtain ⟨j, ⟨x, y, z⟩, e, hjn, hj, hoj, haj, hdec⟩ := round_sent (by omega) hk
          have hdec' := hdec (t + y)
          rw [e, Int.toNat_natCast, List.getD_eq_getElem?_getD, hj, Option.getD_some] at hrun
          rw [e] at hcall
          clear hdec e hk
          obtain ⟨v1, v2, v3, v4, v5, v6⟩ := validQ_item Hv.out hj
          simp only at v1 v2 v3 v4 v5 v6 haj hrun
          have Hrun2 := hid hrun
          have Hj := hid hj
          obtain ⟨b, off, rfl, hbB, _, _, _⟩ := hx1.itemAt' hjn hj
          clear hrun hj hoj Hrun hx
          obtain ⟨i0, hi, hz0, hz1, hz2⟩ := info_parts int_info
          go_wp2_with fail
          refine hcall.mono ?_
          rintro e w1 ⟨rfl, b1⟩
          have hb1 := hb.trans (b1.mono hb.size)
          have ho2 := own_below ho b1
          have hs2 := own_below hs b1
          have hx2 := hx1.below (b1.mono (Nat.le_trans hB hb.size))
          clear ho hs hx1 ho1 hcall
          have hlo := ho2.lt
          have hnew := fun W (hW : Below w.heap.size w W) => (hx2.keep (w' := W) fun p hp => by rw [hW.cell (Nat.lt_of_lt_of_le hp hB), hb1.cell (Nat.lt_of_lt_of_le hp hB)]).itemAt Hj.out
          go_wp2_with (at_builtin; refine wpList_append_own_at _ rfl _ _ 36 rfl w.heap.size 2 i0 (.int .i64 0) 1 8 Try.underlying36 hi hz0 hz1 hz2 rfl (by omega) (.slice Ao o.length co) o.length (o.flatMap encI) rfl (ho2.alloc _) ⟨w1.heap.size, 0, none⟩ 1 1 [.int .i64 (j : Nat)] rfl rfl (cell_one_new _ _ _) (by simp [Value.oneCell']) (by simp only [maxLen]; omega) (by omega) (by have := hb1.size; simp; omega) ?_; intro v' w2 ho3 hg3 _ hat3; have hb2 : Below w.heap.size w w2 := (hb1.alloc hb1.size _).grown hg3 (by have := hb1.size; simp; omega) (fun k hk => (hlo k hk).1); have hs3 := own_kept (hs2.alloc _) hg3 hne; obtain ⟨⟨u, e0⟩, f0⟩ := own_at hs3 (Below.refl _ _) j (by omega); have c1 : (w2.setCell ⟨w.heap.size + 1, j, none⟩ (.int .i64 t)).cell? ⟨b, off + j * 3 + 1, none⟩ = some (.int .i64 y) := (cell_far (by show w.heap.size + 1 ≠ b; omega)).trans (hnew _ hb2).2.1)
          go_roundg g
          case measure => omega
          case rel =>
            rw [snoc_encI] at ho3
            have hs4 := hs3.stored j (.int .i64 t)
            rw [set_encI] at hs4
            have hgs := (own_lt hs2).2
            have hne3 : v'.ownBlock ≠ some (w.heap.size + 1) := by
              rcases hat3 with h | h
              · rw [h]; exact hne
              · rw [h]; simp; omega
            refine ⟨o ++ [(j : Int)], s.set j t, t + y, ?_, hne3, hs4.1, rfl, by omega, by simp; omega, by simp; omega, by omega, Hrun2.out, ?_⟩
            · rw [List.length_append]
              exact ho3.kept hs4.2 (.inr hne3)
            · repeat (first | with_reducible assumption | with_reducible exact Below.refl _ _ | with_reducible refine bl_drew ?_ | with_reducible refine bl_drewN ?_ | ((with_reducible refine bl_set ?_ ?_); focus (first | (simp; done) | (simp; omega) | omega)) | ((with_reducible refine bl_alloc ?_ ?_); focus (first | (simp; done) | (simp; omega) | omega)))
        · rw [if_neg hk] at hrun
          have hid1 := round_idle Hv.out (by omega) (Int.lt_of_not_ge hk)
          generalize bestQ xs o age t = kb at hcall hk
          obtain ⟨m1, m2, _, m4⟩ := hid1
          have Hrun2 := hid hrun
          clear hrun Hrun
          go_wp2_with fail
          refine hcall.mono ?_
          rintro e w1 ⟨rfl, b1⟩
          have hb1 := hb.trans (b1.mono hb.size)
          have ho2 := own_below ho b1
          have hs2 := own_below hs b1
          have hx2 := hx1.below (b1.mono (Nat.le_trans hB hb.size))
          have ho1' := own_sl encI_len (by omega) ho2
          clear ho hs hx1 ho1 hcall hx
          go_wp2_with fail
          go_loop [10, 11] (fun nx i => ∃ k nv, k ≤ n ∧ i = .int .i64 (k : Nat) ∧ nx = .int .i64 nv ∧ Hid (minQ xs o = minFrom o nv k (xs.drop k))) (fun _ i => n - (intOf i).toNat)
          case atStart => exact ⟨0, -1, Nat.zero_le _, rfl, rfl, hid rfl⟩
          case round =>
            obtain ⟨k, nv, hkn, rfl, rfl, he⟩ := hrel
            by_cases hltk : k < n
            · obtain ⟨x, y, z, b, off, Hx, rfl, hbB, c0, c1, c2⟩ := hx2.item hltk
              have he2 := he.out
              rw [drop_at Hx.out, minFrom] at he2
              have hhas := l00Has_any Ao o.length co o k w1 _ (by omega) ho1'
              have go_on : ∀ nv', Hid (stepMin o nv k ⟨x, y, z⟩ = nv') → Hid (minQ xs o = minFrom o nv' (k + 1) (xs.drop (k + 1))) := fun nv' e => by rw [← e.out]; exact he2
              clear he he2 hx2
              cases hh : hasI o k with
              | true =>
                rw [hh] at hhas
                have He := go_on nv (by unfold stepMin Hid; rw [hh]; rfl)
                clear go_on hh
                go_wp2_with (go_at_call 49; refine hhas.mono ?_; rintro e w' ⟨rfl, rfl⟩)
                go_round
                case rel => exact ⟨k + 1, nv, by omega, by go_num, rfl, He⟩
                case measure => simp [intOf]; omega
              | false =>
                rw [hh] at hhas
                by_cases q1 : nv < 0
                · have He := go_on x (by unfold stepMin Hid; rw [hh]; simp [q1])
                  clear go_on hh
                  go_wp2_with (go_at_call 49; refine hhas.mono ?_; rintro e w' ⟨rfl, rfl⟩)
                  go_round
                  case rel => exact ⟨k + 1, x, by omega, by go_num, rfl, He⟩
                  case measure => simp [intOf]; omega
                · by_cases q2 : x < nv
                  · have He := go_on x (by unfold stepMin Hid; rw [hh]; simp [q2])
                    clear go_on hh
                    go_wp2_with (go_at_call 49; refine hhas.mono ?_; rintro e w' ⟨rfl, rfl⟩)
                    go_round
                    case rel => exact ⟨k + 1, x, by omega, by go_num, rfl, He⟩
                    case measure => simp [intOf]; omega
                  · have He := go_on nv (by unfold stepMin Hid; rw [hh]; simp [q1, q2])
                    clear go_on hh
                    go_wp2_with (go_at_call 49; refine hhas.mono ?_; rintro e w' ⟨rfl, rfl⟩)
                    go_round
                    case rel => exact ⟨k + 1, nv, by omega, by go_num, rfl, He⟩
                    case measure => simp [intOf]; omega
            · have : k = n := by omega
              subst this
              have he2 := he.out
              rw [List.drop_of_length_le (by omega), minFrom] at he2
              have He := hid he2
              clear he he2
              go_wp2_with fail
              go_roundg g
              case measure => omega
              case rel => exact ⟨o, s, nv, ho2, hne, hs2, rfl, by rw [← He.out]; exact m1, by rw [← He.out]; omega, hon, by rw [← He.out]; omega, by rw [← He.out]; exact Hrun2.out, hb1⟩
    · have hfin := runQ_done (xs := xs) (age := age) (g := gk) (o := o) (s := s) (t := t) (by omega)
      have e1 : orderQ xs age = o := by unfold orderQ; rw [Hrun.out, hfin]
      have e2 : startsQ xs age = s := by unfold startsQ; rw [Hrun.out, hfin]
      have hlen : o.length = n := by omega
      have E1 := hid e1
      have E2 := hid e2
      have HL := hid hlen
      clear hfin e1 e2 hx hx1 ho1 hlen
      go_wp2_with fail
      go_ret2
      refine ⟨Ao, co, some ⟨w.heap.size + 1, 0, none⟩, n, by rw [HL.out]; rfl, ?_, ?_, hb⟩
      · rw [E1.out, ← HL.out]; exact ho
      · rw [E2.out]; exact hs
end Go.Proofs.Ytfhlooegeklpaaa
