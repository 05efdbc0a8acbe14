/-
  nearest, plus, ExpectedOf by contracts.
-/
import Derived.Test.YtabchlockmicpaaDoorZRat1
namespace Go.Proofs.YtabchlockmicpaaDoor
open Go Go.RowKit

end Go.Proofs.YtabchlockmicpaaDoor
