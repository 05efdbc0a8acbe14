/-
  The stream's RightRule and Rule by contracts: strings within bounds. (Printed by gen_ruls.py.)
-/
import Derived.Test.YtfhdknppldobiaaGreatDoorZSep
import Derived.Test.YtfhdknppldobiaaGreatDoorZTxt1
import Derived.Laws.Concat
import Derived.Deep.DeepCutAuto
namespace Go.Proofs.YtfhdknppldobiaaGreatDoor
open Go Go.RowKit TxtP

def ruK : Nat → Nat
  | 0 => 3
  | d + 1 => 3 * ruK d + 4
theorem ruK_le (d : Nat) (h : d ≤ 4) : ruK d ≤ 1000 := by
  have : ∀ e : Fin 5, ruK e.1 ≤ 1000 := by decide
  exact this ⟨d, by omega⟩
end Go.Proofs.YtfhdknppldobiaaGreatDoor
