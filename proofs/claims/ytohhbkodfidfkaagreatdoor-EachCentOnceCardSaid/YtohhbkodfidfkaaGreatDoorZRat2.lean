/-
  nearest, plus, ExpectedOf by contracts.
-/
import Derived.Test.YtohhbkodfidfkaaGreatDoorZRat1
namespace Go.Proofs.YtohhbkodfidfkaaGreatDoor
open Go Go.RowKit

end Go.Proofs.YtohhbkodfidfkaaGreatDoor
