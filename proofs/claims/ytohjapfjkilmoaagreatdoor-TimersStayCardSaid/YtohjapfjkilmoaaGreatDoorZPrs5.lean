/-
  The clock's times by a contract.
-/
import Derived.Test.YtohjapfjkilmoaaGreatDoorZPrs3
namespace Go.Proofs.YtohjapfjkilmoaaGreatDoor
open Go Go.RowKit

def timesP (c : Clk) : Int × Int := if c.phase = 3 then (c.end_.1, c.end_.2.1) else (c.real, c.game)
end Go.Proofs.YtohjapfjkilmoaaGreatDoor
