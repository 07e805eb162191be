/-
  What the laws over schemes lean on: texts looked into and compared, schemes that lie in variables, small schemes. No condition.
-/
import Derived.Test.YtmanbpobdaamfaaLHelp
import Derived.Test.YtmanbpobdaamfaaSNamedP
import Derived.Test.YtmanbpobdaamfaaSSame
import Derived.Test.YtmanbpobdaamfaaSBy
import Derived.Test.YtmanbpobdaamfaaSByS
import Derived.Test.YtmanbpobdaamfaaSDropS
import Derived.Test.YtmanbpobdaamfaaSRenS
import Derived.Test.YtmanbpobdaamfaaSAsk
namespace Go.Proofs.Ytmanbpobdaamfaa
open Go.RowKit
set_option maxHeartbeats 400000

theorem f6word_any (A : Option Addr) (n c : Nat) (xs : List ByteArray) (z : ByteArray) (w : World) (B : Nat) (hn : n ≤ 2000000) (hx : Sl w B 1 encS A n xs) :
    Calls Try.prog 31 #[.slice A n c, .string z] w fun r w' => r = .returned (.bool (hasS xs z)) ∧ w' = w := by
  go_enter Try.func31, Try.ntmps31
  go_wp2
  go_loop [5] (fun i => ∃ k : Nat, k ≤ n ∧ i = .int .i64 k ∧ Hid (hasS xs z = hasS (xs.drop k) z)) (fun i => n - (intOf i).toNat)
  case atStart => exact ⟨0, Nat.zero_le _, rfl, hid rfl⟩
  case round =>
    obtain ⟨k, hk, rfl, he⟩ := hrel
    by_cases hlt : k < n
    · obtain ⟨y, b, off, Hy, rfl, hbB, c0⟩ := hx.str hlt
      have he2 := he.out
      rw [drop_at Hy.out] at he2
      clear he hx
      by_cases q : y = z
      · have He2 : Hid (hasS xs z = true) := by rw [he2]; simp [Hid, hasS, q]
        have q1 := bs_in q
        subst q
        clear he2
        go_wp2
        go_ret
        exact ⟨retB He2.out.symm, rfl⟩
      · have He2 : Hid (hasS xs z = hasS (xs.drop (k + 1)) z) := by rw [he2]; simp [Hid, hasS, q]
        have q1 := bs_ne q
        clear he2 q
        go_wp2
        go_round
        case rel => exact ⟨k + 1, by omega, by go_num, He2⟩
        case measure => simp [intOf]; omega
    · have : k = n := by omega
      subst this
      have he2 := he.out
      rw [List.drop_of_length_le (by rw [hx.len]; omega)] at he2
      have He2 := hid he2
      clear he he2
      go_wp2
      go_ret
      exact ⟨retB (by rw [He2.out]; rfl), rfl⟩
theorem f6word_no (A : Option Addr) (n c : Nat) (xs : List ByteArray) (z : ByteArray) (w : World) (B : Nat) (hn : n ≤ 2000000) (hx : Sl w B 1 encS A n xs) (h : hasS xs z = false) :
    Calls Try.prog 31 #[.slice A n c, .string z] w fun r w' => r = .returned (.bool false) ∧ Below w.heap.size w w' :=
  (f6word_any A n c xs z w B hn hx).mono fun r w' h' => ⟨by rw [h'.1, h], by rw [h'.2]; exact Below.refl _ _⟩
theorem f6texts_yes (A : Option Addr) (n c : Nat) (A' : Option Addr) (n' c' : Nat) (xs : List ByteArray) (w : World) (B : Nat) (hn : n ≤ 2000000) (hx : Sl w B 1 encS A n xs) (hy : Sl w B 1 encS A' n' xs) :
    Calls Try.prog 30 #[.slice A n c, .slice A' n' c'] w fun e w' => e = .returned (.bool true) ∧ Below w.heap.size w w' := by
  obtain rfl : n = n' := hx.len.symm.trans hy.len
  go_enter Try.func30, Try.ntmps30
  go_wp2
  go_loopw [5] (fun i w1 => ∃ k : Nat, k ≤ n ∧ i = .int .i64 k ∧ Below w.heap.size w w1 ∧ ∀ p v, w.cell? p = some v → w1.cell? p = some v) (fun i _ => n - (intOf i).toNat)
  case atStart => exact ⟨0, Nat.zero_le _, rfl, Below.refl _ _, fun p v h => h⟩
  case round =>
    obtain ⟨k, hk, rfl, hb, hkp⟩ := hrel
    by_cases hlt : k < n
    · obtain ⟨x, b, off, Hx, rfl, hbB, c0⟩ := hx.str hlt
      obtain ⟨x', b', off', Hy, rfl, hbB', c0'⟩ := hy.str hlt
      obtain rfl : x = x' := by have := Hx.out.symm.trans Hy.out; simpa using this
      replace c0 := hkp _ _ c0
      replace c0' := hkp _ _ c0'
      have HK := hid hkp
      have i0 : (0 : Int) ≤ (k : Int) := by omega
      have i1 : (k : Int) < (n : Int) := by omega
      have q1 : (x.toList == x.toList) = true := bs_in rfl
      clear hx hy hkp
      go_wp2
      go_quiet (fail)
      go_wp2
      have hb2 := below_drewN hb nq
      go_roundw
      all_goals first | exact ⟨k + 1, by omega, by go_num, hb2, HK.out⟩ | exact ⟨⟨k + 1, by omega, by go_num, hb2, HK.out⟩, by simp [intOf]; omega⟩ | (simp [intOf]; omega)
    · go_wp2
      go_ret
      exact ⟨rfl, hb⟩
/-- three slices that lie in a block -/
structure At3 (w : World) (g : Nat) (A1 : Option Addr) (n1 c1 : Nat) (A2 : Option Addr) (n2 c2 : Nat) (A3 : Option Addr) (n3 c3 : Nat) : Prop where
  c0 : w.cell? ⟨g, 0, none⟩ = some (.slice A1 n1 c1)
  c1 : w.cell? ⟨g, 1, none⟩ = some (.slice A2 n2 c2)
  c2 : w.cell? ⟨g, 2, none⟩ = some (.slice A3 n3 c3)
namespace At3
variable {w w' : World} {g : Nat} {A1 : Option Addr} {n1 c1 : Nat} {A2 : Option Addr} {n2 c2 : Nat} {A3 : Option Addr} {n3 c3 : Nat}
theorem lift (h : At3 w g A1 n1 c1 A2 n2 c2 A3 n3 c3) (hb : Below w.heap.size w w') : At3 w' g A1 n1 c1 A2 n2 c2 A3 n3 c3 := ⟨below_cell h.c0 hb, below_cell h.c1 hb, below_cell h.c2 hb⟩
theorem lt (h : At3 w g A1 n1 c1 A2 n2 c2 A3 n3 c3) : g < w.heap.size := World.block_lt_of_cell? _ _ h.c0
end At3
theorem SlX.lift {w w' : World} {s : SV} {x : Sch} (h : SlX w w.heap.size s x) (hb : Below w.heap.size w w') : SlX w' w'.heap.size s x := (h.below hb).more hb.size
theorem SlI.lift {w w' : World} {A : Option Addr} {n : Nat} {xs : List Int} (h : Sl w w.heap.size 1 encI A n xs) (hb : Below w.heap.size w w') : Sl w' w'.heap.size 1 encI A n xs := (h.below hb).more hb.size
theorem SlT.lift {w w' : World} {A : Option Addr} {n : Nat} {xs : List ByteArray} (h : Sl w w.heap.size 1 encS A n xs) (hb : Below w.heap.size w w') : Sl w' w'.heap.size 1 encS A n xs := (h.below hb).more hb.size
/-- the parts of a scheme are few and short, the names of an asked one among them -/
def SmX (x : Sch) : Prop := x.st.length ≤ 62 ∧ x.rm.length ≤ 62 ∧ x.wy.length ≤ 62 ∧ (∀ z ∈ x.st, z.size ≤ 13) ∧ (∀ z ∈ x.rm, z.size ≤ 13) ∧ ∀ y ∈ x.wy, y.fr.size ≤ 13 ∧ y.to.size ≤ 13
theorem FewX.sm {x : Sch} (h : FewX 62 x) : SmX x := ⟨h.1, h.2.1, h.2.2.1, fun z hz => Nat.le_succ_of_le (h.2.2.2.1 z hz), fun z hz => Nat.le_succ_of_le (h.2.2.2.2.1 z hz), fun y hy => ⟨Nat.le_succ_of_le (h.2.2.2.2.2 y hy).1, Nat.le_succ_of_le (h.2.2.2.2.2 y hy).2⟩⟩
theorem SmX.big {x : Sch} (h : SmX x) : BigX x := ⟨fun z hz => by have := h.2.2.2.1 z hz; omega, fun z hz => by have := h.2.2.2.2.1 z hz; omega, fun y hy => by have := h.2.2.2.2.2 y hy; omega⟩
theorem SmX.nil : SmX ⟨[], [], []⟩ := ⟨by simp, by simp, by simp, by simp, by simp, by simp⟩
theorem renS_sz {z t y : ByteArray} (ht : t.size ≤ 13) (hy : y.size ≤ 13) : (renS z t y).size ≤ 13 := by unfold renS; split <;> assumption
theorem SmX.ren {x : Sch} {z t : ByteArray} (h : SmX x) (ht : t.size ≤ 13) : SmX (renF x z t).1 := by
  unfold renF
  split
  · split
    · split
      · exact SmX.nil
      · refine ⟨by simpa using h.1, by simpa using h.2.1, by simpa using h.2.2.1, fun y hy => ?_, fun y hy => ?_, fun y hy => ?_⟩
        · obtain ⟨a, ha, rfl⟩ := List.mem_map.1 hy
          exact renS_sz ht (h.2.2.2.1 a ha)
        · obtain ⟨a, ha, rfl⟩ := List.mem_map.1 hy
          exact renS_sz ht (h.2.2.2.2.1 a ha)
        · obtain ⟨a, ha, rfl⟩ := List.mem_map.1 hy
          exact ⟨renS_sz ht (h.2.2.2.2.2 a ha).1, renS_sz ht (h.2.2.2.2.2 a ha).2⟩
    · exact SmX.nil
  · exact SmX.nil
theorem SmX.drop {x : Sch} {z : ByteArray} (h : SmX x) : SmX (dropF x z).1 := by
  unfold dropF
  split
  · refine ⟨Nat.le_trans (stay_sub _ _).length_le h.1, Nat.le_trans (stay_sub _ _).length_le h.2.1, Nat.le_trans (stay_sub _ _).length_le h.2.2.1, fun y hy => h.2.2.2.1 y (stay_mem.1 hy).1, fun y hy => h.2.2.2.2.1 y (stay_mem.1 hy).1, fun y hy => h.2.2.2.2.2 y (stay_mem.1 hy).1⟩
  · exact SmX.nil
theorem SmX.num {w : World} {B : Nat} {s : SV} {x : Sch} (h : SmX x) (hx : SlX w B s x) : s.n1 ≤ 2000000 ∧ s.n2 ≤ 2000000 ∧ s.n3 ≤ 2000000 := by
  have h1 := hx.st.len
  have h2 := hx.rm.len
  have h3 := hx.wy.len
  have := h.1
  have := h.2.1
  have := h.2.2.1
  omega
theorem XPost.parts {P : Program} {f : Nat} {args : Array Value} {w : World} {R : Sch × Int} (h : Calls P f args w (XPost w R)) :
    Calls P f args w fun r w' => ∃ A1 n1 c1 A2 n2 c2 A3 n3 c3, r = .returned (.tuple #[.agg #[.slice A1 n1 c1, .slice A2 n2 c2, .slice A3 n3 c3], .int .i64 R.2]) ∧ OwnX w' w.heap.size ⟨A1, n1, c1, A2, n2, c2, A3, n3, c3⟩ R.1 ∧ Below w.heap.size w w' :=
  h.mono fun r w' ⟨⟨A1, n1, c1, A2, n2, c2, A3, n3, c3⟩, h⟩ => ⟨A1, n1, c1, A2, n2, c2, A3, n3, c3, h⟩
theorem fromF_sm {x : Sch} {z : ByteArray} (h : SmX x) : (fromF x z).1.length ≤ 62 := by
  unfold fromF
  split
  · exact Nat.le_trans (idxF_len _ _ _) h.2.2.1
  · simp
theorem oneF_sm {x : Sch} (h : SmX x) : (oneF x).1.length ≤ 62 := by
  unfold oneF
  split
  · exact Nat.le_trans (idxF_len _ _ _) h.2.2.1
  · simp
theorem byF_sm {x : Sch} {f t : Bool} (h : SmX x) : (byF x f t).1.length ≤ 62 := by
  unfold byF
  split
  · refine Nat.le_trans ?_ h.1
    first | exact stay_len _ _ | exact List.length_filter_le _ _
  · simp
end Go.Proofs.Ytmanbpobdaamfaa
