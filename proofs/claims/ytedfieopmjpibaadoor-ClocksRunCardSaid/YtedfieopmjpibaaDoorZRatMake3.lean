/-
  Rated players as the stream makes them, nearly always right ones, by a contract.
-/
import Derived.Test.YtedfieopmjpibaaDoorZRatMake2
namespace Go.Proofs.YtedfieopmjpibaaDoor
open Go Go.RowKit

def names2 : List ByteArray := [⟨#[]⟩, ⟨#[97, 110, 110]⟩]

end Go.Proofs.YtedfieopmjpibaaDoor
