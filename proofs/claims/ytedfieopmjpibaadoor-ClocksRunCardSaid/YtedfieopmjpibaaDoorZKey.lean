/-
  Keys: only, base.Key and splitref2.Key by contracts: both answer keyB.
-/
import Derived.Test.YtedfieopmjpibaaDoorZNum
import Derived.Lib.Bytealg
import Derived.Lib.IndexAny
import Derived.Lib.Strings
namespace Go.Proofs.YtedfieopmjpibaaDoor
open Go Go.RowKit

theorem take_snoc (s : ByteArray) (k : Nat) (h : k < s.size) : s.data.toList.take (k + 1) = s.data.toList.take k ++ [s[k]] := by
  rw [List.take_succ_eq_append_getElem (by simpa using h)]; rfl

/-- has l none but bytes of m? -/
def onlyB (l m : List UInt8) : Bool := l.all fun c => m.contains c
theorem onlyB_snoc (l m : List UInt8) (c : UInt8) : onlyB (l ++ [c]) m = (onlyB l m && m.contains c) := by simp [onlyB]
theorem onlyB_no {l m : List UInt8} {c : UInt8} (h : c ∈ l) (h' : m.contains c = false) : onlyB l m = false := by
  unfold onlyB
  rw [List.all_eq_false]
  exact ⟨c, h, by simpa using h'⟩
theorem byte_back (c : UInt8) : ((c.toNat : Int)).toNat.toUInt8 = c := by simp

end Go.Proofs.YtedfieopmjpibaaDoor
