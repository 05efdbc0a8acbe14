/-
  nearest, plus, ExpectedOf by contracts.
-/
import Derived.Test.YtaendemgkabdfaaGreatDoorZRat1
namespace Go.Proofs.YtaendemgkabdfaaGreatDoor
open Go Go.RowKit

end Go.Proofs.YtaendemgkabdfaaGreatDoor
/-
  splitref2.ExpectedOf by a contract.
-/
namespace Go.Proofs.YtaendemgkabdfaaGreatDoor
open Go Go.RowKit

/-- two right ratings' expectation, before it is brought to lowest terms -/
def expN (aN aD bN bD : Int) : Int := min (max (aN * bD - bN * aD + 400 * aD * bD) 0) (800 * aD * bD)
def expD (aD bD : Int) : Int := 800 * aD * bD

end Go.Proofs.YtaendemgkabdfaaGreatDoor
