/-
  A press's line: the reference's closure by its contract.
-/
import Derived.Test.YthbcogekfdllmaaGreatDoorZRatMake4
import Derived.Test.YthbcogekfdllmaaGreatDoorZCntS
import Derived.RegionTactic
import Derived.ChangeAlike
import Derived.BigRegion
namespace Go.Proofs.YthbcogekfdllmaaGreatDoor
open Go Go.RowKit TxtP

theorem Sq.blk {w0 W W' : World} {l : List Rsc} (h : Sq w0 W l) {g : Nat} {t : TypeId} {cs : Array Value} (k : Below W.heap.size W W') (hb : Blk W' g t cs) (hg : W.heap.size ≤ g) : Sq w0 W' (rBlk g t cs :: l) := by
  refine h.new_ (r := rBlk g t cs) k hb (rBlk_ok _ _ _) (fun g' hg' => ?_)
  have : g' = g := hg'
  subst this
  exact ⟨hg, Blk.lt hb⟩
end Go.Proofs.YthbcogekfdllmaaGreatDoor
