/-
  splitref2.RatedFault by a contract: it answers ratedF.
-/
import Derived.Test.YtknojcomgccpeaaGreatDoorZRated
namespace Go.Proofs.YtknojcomgccpeaaGreatDoor
open Go Go.RowKit

end Go.Proofs.YtknojcomgccpeaaGreatDoor
