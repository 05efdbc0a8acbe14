/-
  splitref2.RatedFault by a contract: it answers ratedF.
-/
import Derived.Test.YtedfieopmjpibaaDoorZRated
namespace Go.Proofs.YtedfieopmjpibaaDoor
open Go Go.RowKit

end Go.Proofs.YtedfieopmjpibaaDoor
