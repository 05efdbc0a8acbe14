/-
  splitref2.RatedFault by a contract: it answers ratedF.
-/
import Derived.Test.YtedfieopmjpibaaGreatDoorZRatFault
namespace Go.Proofs.YtedfieopmjpibaaGreatDoor
open Go Go.RowKit

end Go.Proofs.YtedfieopmjpibaaGreatDoor
