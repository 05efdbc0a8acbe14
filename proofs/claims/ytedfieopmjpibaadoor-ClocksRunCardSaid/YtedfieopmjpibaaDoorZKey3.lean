/-
  splitref2.Key by a contract: it answers keyB.
-/
import Derived.Test.YtedfieopmjpibaaDoorZKey2
import Derived.Lib.IndexBytes
namespace Go.Proofs.YtedfieopmjpibaaDoor
open Go Go.RowKit

def allOk (l : List UInt8) : Bool := l.all okB
end Go.Proofs.YtedfieopmjpibaaDoor
