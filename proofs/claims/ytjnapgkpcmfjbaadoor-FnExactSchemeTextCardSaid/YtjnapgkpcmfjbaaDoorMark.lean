/-
  The marks of strings. No condition.
-/
import Derived.Test.YtjnapgkpcmfjbaaDoorStr
import Derived.Test.YtjnapgkpcmfjbaaDoorAfter
import Derived.Laws.IdiomStrings
namespace Go.Proofs.YtjnapgkpcmfjbaaDoor
open Go.RowKit
set_option maxHeartbeats 400000

theorem bs_ext {x y : ByteArray} (h : x.data.toList = y.data.toList) : x = y := by
  obtain ⟨⟨a⟩⟩ := x
  obtain ⟨⟨b⟩⟩ := y
  simp only at h
  rw [h]
theorem bs_app (x y : ByteArray) : (x ++ y).data.toList = x.data.toList ++ y.data.toList := by simp
end Go.Proofs.YtjnapgkpcmfjbaaDoor
