/-
  splitref2.ExpectedOf by a contract.
-/
import Derived.Test.YtejadhehmcifoaaGreatDoorZRat2
namespace Go.Proofs.YtejadhehmcifoaaGreatDoor
open Go Go.RowKit

/-- two right ratings' expectation, before it is brought to lowest terms -/
def expN (aN aD bN bD : Int) : Int := min (max (aN * bD - bN * aD + 400 * aD * bD) 0) (800 * aD * bD)
def expD (aD bD : Int) : Int := 800 * aD * bD

end Go.Proofs.YtejadhehmcifoaaGreatDoor
