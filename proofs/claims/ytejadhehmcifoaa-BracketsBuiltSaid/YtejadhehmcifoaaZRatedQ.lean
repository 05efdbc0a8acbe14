/-
  splitref2.RatedFault by a contract: it answers ratedF.
-/
import Derived.Test.YtejadhehmcifoaaZRatFault
namespace Go.Proofs.Ytejadhehmcifoaa
open Go Go.RowKit

end Go.Proofs.Ytejadhehmcifoaa
