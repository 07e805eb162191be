/-
  The marks of strings. No condition.
-/
import Derived.Test.YtmanbpobdaamfaaStr
import Derived.Test.YtmanbpobdaamfaaAfter
import Derived.Laws.IdiomStrings
namespace Go.Proofs.Ytmanbpobdaamfaa
open Go.RowKit
set_option maxHeartbeats 400000

theorem bs_ext {x y : ByteArray} (h : x.data.toList = y.data.toList) : x = y := by
  obtain ⟨⟨a⟩⟩ := x
  obtain ⟨⟨b⟩⟩ := y
  simp only at h
  rw [h]
theorem bs_app (x y : ByteArray) : (x ++ y).data.toList = x.data.toList ++ y.data.toList := by simp
set_option maxHeartbeats 2000000 in
set_option maxRecDepth 100000 in
theorem markText_any (m : Int) (w : World) (h0 : 0 ≤ m) (h1 : m ≤ 90000000) :
    Calls Try.prog 76 #[.int .i64 m] w fun r w' => r = .returned (.string (mtxt m)) ∧ Below w.heap.size w w' := by
  by_cases hz : m ≤ 0
  · have E : Hid (mtxt m = ⟨#[109, 48]⟩) := by simp [Hid, mtxt, hz]
    go_enter Try.func76, Try.ntmps76
    go_wp2
    go_ret
    exact ⟨by rw [E.out]; rfl, Below.refl _ _⟩
  · obtain ⟨n, rfl⟩ : ∃ n : Nat, m = n := ⟨m.toNat, by omega⟩
    have E : Hid (mtxt n = ⟨(109 :: digs n n).toArray⟩) := by (rw [Hid, mtxt, if_neg hz, Int.toNat_natCast])
    go_enter Try.func76, Try.ntmps76
    go_wp2
    go_loopw [0, 3] (fun k s w1 => ∃ (q : Nat) (o : ByteArray), k = .int .i64 q ∧ s = .string o ∧ o.size + q ≤ n ∧ Hid (digs n n = digs q q ++ o.data.toList) ∧ Below w.heap.size w w1) (fun k _ _ => (intOf k).toNat)
    case atStart => exact ⟨n, ⟨#[]⟩, rfl, rfl, Nat.le_of_eq (Nat.zero_add _), (List.append_nil _).symm, Below.refl _ _⟩
    case round =>
      obtain ⟨q, o, rfl, rfl, hs, he, hb⟩ := hrel
      by_cases hq : 0 < q
      · have hb1 : ((UInt8.ofNat (48 + q % 10)).toNat : Int) = 48 + (q : Int) % 10 := by
          rw [UInt8.toNat_ofNat', Nat.mod_eq_of_lt (by omega)]; omega
        have hdg := digs_step hq
        generalize UInt8.ofNat (48 + q % 10) = ch at hb1 hdg
        have hcv : (convert 36 9 (.slice (some ⟨wr.heap.size, 0, none⟩) 1 1)).run Try.prog (wr.alloc (.cells #[.int .u8 (48 + (q : Int) % 10)] 5)) = .ok (.string ⟨#[ch]⟩) (wr.alloc (.cells #[.int .u8 (48 + (q : Int) % 10)] 5)) := by
          have := run_convert_bytes_back (P := Try.prog) (wr.alloc (.cells #[.int .u8 (48 + (q : Int) % 10)] 5)) 36 9 5 ⟨wr.heap.size, 0, none⟩ 1 [ch] Try.underlying36 Try.underlying5 Try.underlying9 (fun j hj => by
            simp at hj
            subst hj
            simp only [List.getElem_cons_zero, hb1]
            go_simp)
          exact this
        have E2 : Hid (digs n n = digs (q / 10) (q / 10) ++ ((⟨#[ch]⟩ : ByteArray) ++ o).data.toList) := by
          rw [Hid, he.out, hdg, bs_app, List.append_assoc]
        have hsz : ((⟨#[ch]⟩ : ByteArray) ++ o).size = 1 + o.size := by simp [ByteArray.size_append]; rfl
        have hsz2 : ((⟨#[ch]⟩ : ByteArray) ++ o).size + q / 10 ≤ n := by omega
        have hbw : Below w.heap.size w (wr.alloc (.cells #[.int .u8 (48 + (q : Int) % 10)] 5)) := hb.alloc hb.size _
        have hone : (⟨#[ch]⟩ : ByteArray).size ≤ 1 := Nat.le_refl _
        clear hb1 hsz he hdg
        go_wp2
        go_roundw
        case rel => exact ⟨q / 10, _, by go_num, rfl, hsz2, E2, hbw⟩
        case measure => simp [intOf]; omega
      · have : q = 0 := by omega
        subst this
        have E2 : Hid ((⟨#[109]⟩ : ByteArray) ++ o = mtxt n) := by
          rw [Hid, E.out]
          apply bs_ext
          rw [bs_app, he.out, digs_zero]
          rfl
        clear he E
        go_wp2
        rw [E2.out]
        go_ret
        exact ⟨rfl, hb⟩
end Go.Proofs.Ytmanbpobdaamfaa
