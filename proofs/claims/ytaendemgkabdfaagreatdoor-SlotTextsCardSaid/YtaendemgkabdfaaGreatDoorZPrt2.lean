/-
  A press's line: the reference's closure by its contract.
-/
import Derived.Test.YtaendemgkabdfaaGreatDoorZPrt1
import Derived.Test.YtaendemgkabdfaaGreatDoorZAppAny
import Derived.RegionTactic
import Derived.ChangeAlike
import Derived.BigRegion
namespace Go.Proofs.YtaendemgkabdfaaGreatDoor
open Go Go.RowKit TxtP

def wordsL : List ByteArray := ⟨#[]⟩ :: kindsL
theorem idx_shift (x : ByteArray) : ∀ (zs : List ByteArray) (k : Nat), Lib.idxFromS zs x (k + 1) = if Lib.idxFromS zs x k < 0 then -1 else Lib.idxFromS zs x k + 1
  | [], k => by unfold Lib.idxFromS; rfl
  | z :: zs, k => by
    unfold Lib.idxFromS
    split
    · rw [if_neg (by omega)]; omega
    · exact idx_shift x zs (k + 1)
theorem idx_words {b : ByteArray} (h : ¬ b = ⟨#[]⟩) : Lib.idxOfS wordsL b = if Lib.idxOfS kindsL b < 0 then -1 else Lib.idxOfS kindsL b + 1 := by
  unfold wordsL Lib.idxOfS
  rw [Lib.idxFromS, if_neg (by intro h2; first | exact h h2.symm | exact h h2 | (simp at h2; first | exact h h2.symm | exact h h2)), idx_shift]

theorem Sq.blk {w0 W W' : World} {l : List Rsc} (h : Sq w0 W l) {g : Nat} {t : TypeId} {cs : Array Value} (k : Below W.heap.size W W') (hb : Blk W' g t cs) (hg : W.heap.size ≤ g) : Sq w0 W' (rBlk g t cs :: l) := by
  refine h.new_ (r := rBlk g t cs) k hb (rBlk_ok _ _ _) (fun g' hg' => ?_)
  have : g' = g := hg'
  subst this
  exact ⟨hg, Blk.lt hb⟩
end Go.Proofs.YtaendemgkabdfaaGreatDoor
