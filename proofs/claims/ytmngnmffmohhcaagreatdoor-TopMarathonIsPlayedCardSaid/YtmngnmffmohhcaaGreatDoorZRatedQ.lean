/-
  splitref2.RatedFault by a contract: it answers ratedF.
-/
import Derived.Test.YtmngnmffmohhcaaGreatDoorZRatFault
namespace Go.Proofs.YtmngnmffmohhcaaGreatDoor
open Go Go.RowKit

end Go.Proofs.YtmngnmffmohhcaaGreatDoor
