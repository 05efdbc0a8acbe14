/-
  marathon.find, splitref2.SlotAt and marathon.slotFault by contracts. (Printed by gen_slot2.py.)
-/
import Derived.Test.YtedfieopmjpibaaDoorZSlot1
namespace Go.Proofs.YtedfieopmjpibaaDoor
open Go Go.RowKit

end Go.Proofs.YtedfieopmjpibaaDoor
