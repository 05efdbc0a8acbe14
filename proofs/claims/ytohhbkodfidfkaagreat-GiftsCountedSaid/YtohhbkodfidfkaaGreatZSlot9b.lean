/-
  marathon.clashes and splitref2.ClashesOf by contracts: both answer clF. (Printed by gen_slot9.py.)
-/
import Derived.Test.YtohhbkodfidfkaaGreatZSlot8
import Derived.Deep.RegionHeld3
import Derived.Deep.LoopGhost
import Derived.Deep.DeepCutAuto
namespace Go.Proofs.YtohhbkodfidfkaaGreat
open Go Go.RowKit
attribute [local go_sem ↓] Go.wp_at_zero Go.wp_at_succ


end Go.Proofs.YtohhbkodfidfkaaGreat
