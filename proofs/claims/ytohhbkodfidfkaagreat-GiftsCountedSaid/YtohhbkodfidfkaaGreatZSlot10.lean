/-
  marathon.CheckAway and splitref2.AwayFault by contracts: both answer awayF. (Printed by gen_slot10.py.)
-/
import Derived.Test.YtohhbkodfidfkaaGreatZSlot4
import Derived.Test.YtohhbkodfidfkaaGreatZSlotPure
import Derived.Deep.RegionHeld3
import Derived.Test.YtohhbkodfidfkaaGreatZSlot8
namespace Go.Proofs.YtohhbkodfidfkaaGreat
open Go Go.RowKit
attribute [local go_sem ↓] Go.wp_at_zero Go.wp_at_succ

end Go.Proofs.YtohhbkodfidfkaaGreat
/-
  marathon.Clashes by a contract; slices.Equal of places and of pairs: two slices that read alike are equal. (Printed by gen_slot11.py.)
-/
namespace Go.Proofs.YtohhbkodfidfkaaGreat
open Go Go.RowKit

def clashE (rest : Int) (xs : List Slt) : Int := if slotsF xs = 0 then if outB rest 0 86400000 = true then 1 else 0 else slotsF xs
/-- what Clashes answers -/
def clashL (rest : Int) (xs : List Slt) : List Pr := if clashE rest xs = 0 then clF xs rest else []
end Go.Proofs.YtohhbkodfidfkaaGreat
