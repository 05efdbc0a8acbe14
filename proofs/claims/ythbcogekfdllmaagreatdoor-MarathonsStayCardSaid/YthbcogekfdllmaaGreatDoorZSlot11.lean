/-
  marathon.Clashes by a contract; slices.Equal of places and of pairs: two slices that read alike are equal. (Printed by gen_slot11.py.)
-/
import Derived.Test.YthbcogekfdllmaaGreatDoorZSlot9
namespace Go.Proofs.YthbcogekfdllmaaGreatDoor
open Go Go.RowKit

def ClashS (l : List Pr) (er : Int) (w : World) (e : Ending) (w' : World) : Prop :=
  ∃ v, e = .returned (.tuple #[v, .int .i64 er]) ∧ w'.ownsRow w.heap.size 75 2 v l.length (l.flatMap prC) ∧ Below w.heap.size w w'

end Go.Proofs.YthbcogekfdllmaaGreatDoor
