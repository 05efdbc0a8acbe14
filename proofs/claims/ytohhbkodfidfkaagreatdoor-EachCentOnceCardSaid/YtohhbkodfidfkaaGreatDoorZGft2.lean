/-
  GiftListFault of the reference by a contract. (Printed by gen_gft1.py.)
-/
import Derived.Test.YtohhbkodfidfkaaGreatDoorZBid7
import Derived.Test.YtohhbkodfidfkaaGreatDoorZGft1
namespace Go.Proofs.YtohhbkodfidfkaaGreatDoor
open Go Go.RowKit
attribute [local go_sem ↓] Go.wp_at_zero Go.wp_at_succ

end Go.Proofs.YtohhbkodfidfkaaGreatDoor
