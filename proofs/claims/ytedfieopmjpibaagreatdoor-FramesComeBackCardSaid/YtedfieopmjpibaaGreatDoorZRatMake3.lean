/-
  Rated players as the stream makes them, nearly always right ones, by a contract.
-/
import Derived.Test.YtedfieopmjpibaaGreatDoorZRatMake
namespace Go.Proofs.YtedfieopmjpibaaGreatDoor
open Go Go.RowKit

def names2 : List ByteArray := [⟨#[]⟩, ⟨#[97, 110, 110]⟩]

end Go.Proofs.YtedfieopmjpibaaGreatDoor
