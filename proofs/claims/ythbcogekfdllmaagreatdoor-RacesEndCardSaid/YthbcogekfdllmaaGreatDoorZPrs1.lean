/-
  What is wrong with presses: CheckPresses, fault and their twins of the reference by contracts. (Printed by gen_prs1.py.)
-/
import Derived.Test.YthbcogekfdllmaaGreatDoorZFlat
import Derived.Test.YthbcogekfdllmaaGreatDoorZBs
namespace Go.Proofs.YthbcogekfdllmaaGreatDoor
open Go Go.RowKit

def pBeh (pv : Option Int) (x : Int) : Bool := match pv with
  | none => false
  | some y => decide (x < y)
end Go.Proofs.YthbcogekfdllmaaGreatDoor
