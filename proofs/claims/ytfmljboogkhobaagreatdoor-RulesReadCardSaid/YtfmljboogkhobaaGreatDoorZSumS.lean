/-
  Strings that are added up, as a law of its own for a walk. No Go text is named here.
-/
import Derived.Test.YtfmljboogkhobaaGreatDoorZTxt2
import Derived.Laws.Concat
namespace Go.Proofs.YtfmljboogkhobaaGreatDoor
open Go Go.RowKit TxtP

/-- strings that are added up, as a law of its own -/
def sumS (a b : ByteArray) : ByteArray := a ++ b
def AddOk (a b : ByteArray) : Prop := a.size + b.size ≤ 1000000
theorem run_sumS {P : Program} {w : World} (a b : ByteArray) (h : AddOk a b) : (Op.stringOp .add a b).run P w = .ok (.string (sumS a b)) w := by
  refine run_string_add_sum _ _ _ ?_
  unfold AddOk at h
  omega
theorem sumS_data (a b : ByteArray) : (sumS a b).data.toList = a.data.toList ++ b.data.toList := by
  unfold sumS
  rw [ByteArray.data_append, Array.toList_append]
theorem sumS_size (a b : ByteArray) : (sumS a b).size = a.size + b.size := by
  unfold sumS
  rw [ByteArray.size_append]
theorem addOk_of {a b : ByteArray} (h1 : a.size ≤ 200000) (h2 : b.size ≤ 200000) : AddOk a b := by unfold AddOk; omega
end Go.Proofs.YtfmljboogkhobaaGreatDoor
