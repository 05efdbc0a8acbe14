/-
  marathon.CheckSlots and splitref2.SlotsFault by contracts: both answer slotsF. (Printed by gen_slot3.py.)
-/
import Derived.Test.YtedfieopmjpibaaDoorZSlot2
import Derived.Deep.RegionLaw
import Derived.Deep.RegionWith
import Derived.Deep.DrawnRows
namespace Go.Proofs.YtedfieopmjpibaaDoor
open Go Go.RowKit
attribute [local go_sem ↓] Go.wp_at_zero Go.wp_at_succ

end Go.Proofs.YtedfieopmjpibaaDoor
