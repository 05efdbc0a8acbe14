/-
  splitref2.RatedFault by a contract: it answers ratedF.
-/
import Derived.Test.YtabchlockmicpaaDoorZRatFault
namespace Go.Proofs.YtabchlockmicpaaDoor
open Go Go.RowKit

end Go.Proofs.YtabchlockmicpaaDoor
