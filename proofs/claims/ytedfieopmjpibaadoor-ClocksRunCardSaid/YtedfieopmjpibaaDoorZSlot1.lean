/-
  base.Rising, splitref2.rising, slices.Index and slices.Contains of strings by contracts. (Printed by gen_slot1.py.)
-/
import Derived.Test.YtedfieopmjpibaaDoorZSlotPure
import Derived.Test.YtedfieopmjpibaaDoorZKey3
import Derived.Test.YtedfieopmjpibaaDoorZRated
namespace Go.Proofs.YtedfieopmjpibaaDoor
open Go Go.RowKit

end Go.Proofs.YtedfieopmjpibaaDoor
