/-
  BracketsEnd: the plain law: the strongest two meet at last.
-/
import Derived.Test.YtejadhehmcifoaaGreatDoorZBrkPure
import Derived.Test.YtejadhehmcifoaaGreatDoorZBrk3
import Derived.Lib.MinMaxS
namespace Go.Proofs.YtejadhehmcifoaaGreatDoor
open Go Go.RowKit

def pStrE (r : Int) : ByteArray := ⟨#[112]⟩ ++ Utf8.encode r
def nmK (n : Nat) : List ByteArray := (List.range n).map (fun i : Nat => pStrE (97 + (i : Int)))
/-- who is stronger -/
def winE (g : Gm) : ByteArray := if emB (Lib.minS g.1 g.2) = true then Lib.maxS g.1 g.2 else Lib.minS g.1 g.2
def endG : List Gm := [(⟨#[112, 97]⟩, ⟨#[112, 98]⟩)]
def okBr : Nat → List Gm → Bool
  | 0, _ => false
  | f + 1, gs => if gs.length ≤ 1 then decide (gs = endG) else decide (gs.length ∈ pw6) && decide (brfE gs = 0) && decide (advW gs (gs.map winE) = 0) && okBr f (twos id (gs.map winE))
set_option maxRecDepth 100000 in
theorem okBr_all : ∀ n : Fin 21, 3 ≤ n.1 → brkE (nmK n.1) = 0 ∧ okBr 6 (brkL (nmK n.1)) = true := by decide +kernel
end Go.Proofs.YtejadhehmcifoaaGreatDoor
