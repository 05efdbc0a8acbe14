/-
  nearest, plus, ExpectedOf by contracts.
-/
import Derived.Test.YtejadhehmcifoaaGreatDoorZRat1
namespace Go.Proofs.YtejadhehmcifoaaGreatDoor
open Go Go.RowKit

end Go.Proofs.YtejadhehmcifoaaGreatDoor
