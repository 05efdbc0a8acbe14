/-
  Moved, in plain words. No Go text is named here.
-/
import Derived.Test.YtejadhehmcifoaaGreatDoorZDrpPure
namespace Go.Proofs.YtejadhehmcifoaaGreatDoor
open Go Go.RowKit

/-- what is wrong with an order, the keys 'dn' being taken -/
def movG (xs : List Slt) : List ByteArray → List ByteArray → Int
  | _, [] => 0
  | dn, k :: os => if findL xs k < 0 then 8 else if memS dn k = true then 6 else movG xs (dn ++ [k]) os
def movE (xs : List Slt) (os : List ByteArray) : Int := if os.length ≠ xs.length then 3 else movG xs [] os
/-- the slots of an order -/
def movL (xs : List Slt) (os : List ByteArray) : List Slt := os.filterMap (fun k => xs[(findL xs k).toNat]?)
theorem movG_step (xs : List Slt) (os : List ByteArray) (k : Nat) (hk : k < os.length) : movG xs (os.take k) (os.drop k) = if findL xs os[k] < 0 then 8 else if memS (os.take k) os[k] = true then 6 else movG xs (os.take (k + 1)) (os.drop (k + 1)) := by
  rw [List.drop_eq_getElem_cons hk, movG, List.take_succ_eq_append_getElem hk]
end Go.Proofs.YtejadhehmcifoaaGreatDoor
