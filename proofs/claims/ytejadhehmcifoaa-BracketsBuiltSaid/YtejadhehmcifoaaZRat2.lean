/-
  nearest, plus, ExpectedOf by contracts.
-/
import Derived.Test.YtejadhehmcifoaaZRat1
namespace Go.Proofs.Ytejadhehmcifoaa
open Go Go.RowKit

end Go.Proofs.Ytejadhehmcifoaa
