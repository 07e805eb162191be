/-
  A text cut at a byte: the reference's loop. No condition.
-/
import Derived.Test.YtngfhpklakhehaaGreatDoorStr
import Derived.Test.YtngfhpklakhehaaGreatDoorRSplP
import Derived.Test.YtngfhpklakhehaaGreatDoorBasic
namespace Go.Proofs.YtngfhpklakhehaaGreatDoor
open Go.RowKit
set_option maxHeartbeats 400000

theorem str_info : (Tryz.prog.info? 9).map (fun i => (i.zero, i.size, i.bytes)) = some (some (.string ByteArray.empty), 1, 16) := by kernel_rfl
/-- the bytes of some texts -/
def bytesL (xs : List ByteArray) : List (List UInt8) := xs.map fun z => z.data.toList
theorem ext_data (s : ByteArray) (a b : Nat) : (s.extract a b).data.toList = (s.data.toList.drop a).take (b - a) := Lib.extract_data s a b
theorem ext_end (s : ByteArray) (a : Nat) : (s.extract a s.size).data.toList = s.data.toList.drop a := Lib.extract_to_end s a
theorem bs_get {s : ByteArray} {k : Nat} (h : k < s.size) : s.data.toList[k]? = some s[k] := by
  rw [List.getElem?_eq_getElem (by simpa using h)]; rfl
theorem bs_len (s : ByteArray) : s.data.toList.length = s.size := by simp
/-- a piece that ends at the byte -/
theorem spl_piece {s : ByteArray} {b : UInt8} {f k : Nat} (hfk : f ≤ k) (hk : k < s.size) (hb : s[k] = b) (hno : ∀ j, f ≤ j → j < k → s.data.toList[j]? ≠ some b) :
    spl b (s.data.toList.drop f) = (s.extract f k).data.toList :: spl b (s.data.toList.drop (k + 1)) := by
  have h1 : s.data.toList.drop f = (s.extract f k).data.toList ++ b :: s.data.toList.drop (k + 1) := by
    rw [ext_data]
    conv => lhs; rw [← List.take_append_drop (k - f) (s.data.toList.drop f)]
    rw [List.drop_drop, show f + (k - f) = k by omega, drop_at (bs_get hk), hb]
  have h2 : b ∉ (s.extract f k).data.toList := fun hm => by
    rw [ext_data] at hm
    obtain ⟨j, hj⟩ := List.mem_iff_getElem?.1 hm
    rw [List.getElem?_take] at hj
    split at hj
    · rw [List.getElem?_drop] at hj
      exact hno (f + j) (by omega) (by omega) hj
    · cases hj
  rw [h1, spl_cut _ h2]
theorem spl_last {s : ByteArray} {b : UInt8} {f : Nat} (hno : ∀ j, f ≤ j → j < s.size → s.data.toList[j]? ≠ some b) : spl b (s.data.toList.drop f) = [(s.extract f s.size).data.toList] := by
  have h2 : b ∉ s.data.toList.drop f := fun hm => by
    obtain ⟨j, hj⟩ := List.mem_iff_getElem?.1 hm
    rw [List.getElem?_drop] at hj
    have := (List.getElem?_eq_some_iff.1 hj).1
    rw [bs_len] at this
    exact hno (f + j) (by omega) (by omega) hj
  rw [spl_plain h2, ext_end]
theorem snocS (l : List ByteArray) (x : ByteArray) : l.flatMap encS ++ [.string x] = (l ++ [x]).flatMap encS := by simp [encS]
theorem bytesL_snoc (l : List ByteArray) (x : ByteArray) : bytesL (l ++ [x]) = bytesL l ++ [x.data.toList] := by simp [bytesL]
/-- the parts of a text in a list of one's own -/
def PartsP (w : World) (ws : List (List UInt8)) (r : Ending) (w' : World) : Prop :=
  ∃ (g c : Nat) (xs : List ByteArray), r = .returned (.slice (some ⟨g, 0, none⟩) xs.length c) ∧ bytesL xs = ws ∧ w'.ownsRow w.heap.size 9 1 (.slice (some ⟨g, 0, none⟩) xs.length c) xs.length (xs.flatMap encS) ∧ Below w.heap.size w w'
set_option maxHeartbeats 4000000 in
set_option maxRecDepth 100000 in
theorem l01Split_any (s : ByteArray) (b : UInt8) (w : World) (hs : s.size ≤ 1048576) :
    Calls Tryz.prog 47 #[.string s, .int .u8 (b.toNat : Int)] w (PartsP w (spl b s.data.toList)) := by
  obtain ⟨i0, hi, hz0, hz1, hz2⟩ := info_parts str_info
  have o0 := World.ownsRow_lit (base := w.heap.size) (e := 9) (size := 1) w #[] 0 (Nat.le_refl _) (by simp [maxLen]) (by simp)
  have O0 := hid o0
  clear o0
  go_enter Tryz.func47, Tryz.ntmps47
  go_wp2_with fail
  go_loopw [5, 6, 7] (fun vo vf vi wl => ∃ (g c f k : Nat) (xs : List ByteArray), k ≤ s.size ∧ f ≤ k ∧ xs.length ≤ k ∧ vo = .slice (some ⟨g, 0, none⟩) xs.length c ∧ vf = .int .i64 (f : Nat) ∧ vi = .int .i64 (k : Nat) ∧ Hid (spl b s.data.toList = bytesL xs ++ spl b (s.data.toList.drop f)) ∧ Hid (∀ j, f ≤ j → j < k → s.data.toList[j]? ≠ some b) ∧ Hid (wl.ownsRow w.heap.size 9 1 (.slice (some ⟨g, 0, none⟩) xs.length c) xs.length (xs.flatMap encS)) ∧ Below w.heap.size w wl) (fun _ _ i _ => s.size - (intOf i).toNat)
  case atStart => exact ⟨_, _, 0, 0, [], by omega, by omega, by simp, rfl, rfl, rfl, hid (by simp [bytesL]), hid (fun j h1 h2 => by omega), O0, (Below.refl _ _).alloc (Nat.le_refl _) _⟩
  case round =>
    clear O0
    obtain ⟨g, c, f, k, xs, hk, hfk, hxk, rfl, rfl, rfl, hE, hN, hO, hb⟩ := hrel
    have hbs := hb.size
    have hlo := hO.out.lt
    by_cases hlt : k < s.size
    · by_cases hc : s[k] = b
      · have e1 : (((s[k].toNat : Nat) : Int) == ((b.toNat : Nat) : Int)) = true := by rw [hc]; simp
        have E2 : Hid (spl b s.data.toList = bytesL (xs ++ [s.extract f k]) ++ spl b (s.data.toList.drop (k + 1))) := by
          rw [Hid, hE.out, spl_piece hfk hlt hc hN.out, bytesL_snoc]; simp
        have N2 : Hid (∀ j, k + 1 ≤ j → j < k + 1 → s.data.toList[j]? ≠ some b) := fun j h1 h2 => by omega
        have hlen : (xs ++ [s.extract f k]).length = xs.length + 1 := by simp
        have HL := hid hlen
        have f1 : (f : Int) ≤ (k : Int) := by omega
        have f2 : (k : Int) ≤ (s.size : Int) := by omega
        clear hE hN hc hlen
        go_wp2_with (at_builtin; refine wpList_append_lies _ rfl _ _ 59 rfl w.heap.size 9 i0 (.string ByteArray.empty) 1 16 Tryz.underlying59 hi hz0 hz1 hz2 rfl (by omega) (.slice (some ⟨g, 0, none⟩) xs.length c) xs.length (xs.flatMap encS) rfl (hO.out.alloc _) ⟨wr.heap.size, 0, none⟩ 1 1 [.string (s.extract f k)] rfl rfl (World.news_of_block (cs := #[.string (s.extract f k)]) (t := 9) (fr := (0, 0)) (heap_alloc_new _ _)) (by simp [Value.oneCell']) (by omega) (by simp only [maxLen]; omega) (by omega) (by simp; omega) (wr.heap.size + 1) (by simp) ?_; intro gg cap w3 ho3 hg3 hat3 hlt3)
        rw [snocS] at ho3
        have O3 : Hid (w3.ownsRow w.heap.size 9 1 (.slice (some ⟨gg, 0, none⟩) (xs ++ [s.extract f k]).length cap) (xs ++ [s.extract f k]).length ((xs ++ [s.extract f k]).flatMap encS)) := by rw [HL.out]; exact hid ho3
        have b3 : Below w.heap.size w w3 := (hb.alloc hbs _).grown hg3 (by simp; omega) (fun q hq => (hlo q hq).1)
        clear hO ho3 hg3 hat3 hlo hlt3
        go_roundw
        all_goals first | exact ⟨_, _, k + 1, k + 1, xs ++ [s.extract f k], by omega, by omega, by rw [HL.out]; omega, by rw [HL.out], by go_num, by go_num, E2, N2, O3, b3⟩ | exact ⟨⟨_, _, k + 1, k + 1, xs ++ [s.extract f k], by omega, by omega, by rw [HL.out]; omega, by rw [HL.out], by go_num, by go_num, E2, N2, O3, b3⟩, by simp [intOf]; omega⟩ | (simp [intOf]; omega)
      · have e1 : (((s[k].toNat : Nat) : Int) == ((b.toNat : Nat) : Int)) = false := by
          rw [beq_eq_false_iff_ne]
          intro e
          exact hc (UInt8.toNat_inj.1 (by omega))
        have N2 : Hid (∀ j, f ≤ j → j < k + 1 → s.data.toList[j]? ≠ some b) := fun j h1 h2 => by
          rcases Nat.lt_or_ge j k with h3 | h3
          · exact hN.out j h1 h3
          · obtain rfl : j = k := by omega
            rw [bs_get hlt]
            exact fun e => hc (Option.some.inj e)
        clear hc hN
        go_wp2_with fail
        go_roundw
        all_goals first | exact ⟨_, _, f, k + 1, xs, by omega, by omega, by omega, rfl, rfl, by go_num, hE, N2, hO, hb⟩ | exact ⟨⟨_, _, f, k + 1, xs, by omega, by omega, by omega, rfl, rfl, by go_num, hE, N2, hO, hb⟩, by simp [intOf]; omega⟩ | (simp [intOf]; omega)
    · obtain rfl : k = s.size := by omega
      have E2 : Hid (spl b s.data.toList = bytesL (xs ++ [s.extract f s.size])) := by
        rw [Hid, hE.out, spl_last hN.out, bytesL_snoc]
      have hlen : (xs ++ [s.extract f s.size]).length = xs.length + 1 := by simp
      have HL := hid hlen
      have f1 : (f : Int) ≤ (s.size : Int) := by omega
      clear hE hN hlen
      go_wp2_with (at_builtin; refine wpList_append_lies _ rfl _ _ 59 rfl w.heap.size 9 i0 (.string ByteArray.empty) 1 16 Tryz.underlying59 hi hz0 hz1 hz2 rfl (by omega) (.slice (some ⟨g, 0, none⟩) xs.length c) xs.length (xs.flatMap encS) rfl (hO.out.alloc _) ⟨wr.heap.size, 0, none⟩ 1 1 [.string (s.extract f s.size)] rfl rfl (World.news_of_block (cs := #[.string (s.extract f s.size)]) (t := 9) (fr := (0, 0)) (heap_alloc_new _ _)) (by simp [Value.oneCell']) (by omega) (by simp only [maxLen]; omega) (by omega) (by simp; omega) (wr.heap.size + 1) (by simp) ?_; intro gg cap w3 ho3 hg3 hat3 hlt3)
      rw [snocS] at ho3
      have O3 : Hid (w3.ownsRow w.heap.size 9 1 (.slice (some ⟨gg, 0, none⟩) (xs ++ [s.extract f s.size]).length cap) (xs ++ [s.extract f s.size]).length ((xs ++ [s.extract f s.size]).flatMap encS)) := by rw [HL.out]; exact hid ho3
      have b3 : Below w.heap.size w w3 := (hb.alloc hbs _).grown hg3 (by simp; omega) (fun q hq => (hlo q hq).1)
      clear hO ho3 hg3 hat3 hlo hlt3
      go_wp2_with fail
      go_ret
      exact ⟨gg, cap, xs ++ [s.extract f s.size], (by rw [HL.out]; rfl), E2.out.symm, O3.out, b3⟩
end Go.Proofs.YtngfhpklakhehaaGreatDoor
