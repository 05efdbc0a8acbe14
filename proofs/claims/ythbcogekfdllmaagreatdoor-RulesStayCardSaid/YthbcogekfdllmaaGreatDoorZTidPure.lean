/-
  What Tidy writes, in plain words: the program's and the reference's, and that they are one. No Go text is named here.
-/
import Derived.Test.YthbcogekfdllmaaGreatDoorZChkPure2
import Derived.Lib.Join
import Derived.Lib.SlicesCompact
namespace Go.Proofs.YthbcogekfdllmaaGreatDoor
open Go Go.RowKit

def kindOf : Nd → Int
  | .node k _ _ => k
end Go.Proofs.YthbcogekfdllmaaGreatDoor
/-
  Whether a rule holds, and who is to blame, in plain words: the program's tree and the reference's. No Go text is named here.
-/
namespace Go.Proofs.YthbcogekfdllmaaGreatDoor
open Go Go.RowKit

def notV : List Bool → Bool
  | b :: _ => !b
  | [] => false
def holF (is : Atm → Bool) : Nd → Bool
  | .node kind ks a =>
    if kind = 4 then is a
    else if kind = 3 then notV (ks.attach.map fun k => holF is k.1)
    else if kind = 1 then (ks.attach.map fun k => holF is k.1).any id
    else (ks.attach.map fun k => holF is k.1).all id
termination_by t => SizeOf.sizeOf t
decreasing_by
  all_goals
    have := List.sizeOf_lt_of_mem k.2
    simp only [Nd.node.sizeOf_spec]
    omega
theorem holF_eq (is : Atm → Bool) (kind : Int) (ks : List Nd) (a : Atm) : holF is (.node kind ks a) =
    if kind = 4 then is a else if kind = 3 then notV (ks.map (holF is)) else if kind = 1 then (ks.map (holF is)).any id else (ks.map (holF is)).all id := by
  rw [holF]
  have e1 : (ks.attach.map fun k => holF is k.1) = ks.map (holF is) := List.attach_map_val (l := ks) (f := holF is)
  rw [e1]
theorem hol_leaf (is : Atm → Bool) (a : Atm) : holF is (.node 4 [] a) = is a := by rw [holF_eq, if_pos rfl]
theorem hol_not (is : Atm → Bool) (k : Nd) (a : Atm) : holF is (.node 3 [k] a) = !holF is k := by rw [holF_eq, if_neg (by decide), if_pos rfl]; rfl
end Go.Proofs.YthbcogekfdllmaaGreatDoor
