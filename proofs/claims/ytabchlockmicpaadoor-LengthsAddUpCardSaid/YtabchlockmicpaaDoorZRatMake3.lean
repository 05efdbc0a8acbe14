/-
  Rated players as the stream makes them, nearly always right ones, by a contract.
-/
import Derived.Test.YtabchlockmicpaaDoorZRatMake
namespace Go.Proofs.YtabchlockmicpaaDoor
open Go Go.RowKit

def names2 : List ByteArray := [⟨#[]⟩, ⟨#[97, 110, 110]⟩]

end Go.Proofs.YtabchlockmicpaaDoor
