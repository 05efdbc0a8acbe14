/-
  DERIVED. GIVEN WITH THE SEED: THE CARDS: each row of YtohjapfjkilmoaaGreatDoorRows.lean that lists a variable, with what it lists TIED to the program's text (the seventh form; the later family's looks); each row that meets fmt, with fmt's text TOLD by the authors' own Lean function (tested against real Go, not proved from fmt's source: count such statements apart). THE CARD IS WHAT COUNTS. Prove the row's statement (the work); the ties are given (YtohjapfjkilmoaaGreatDoorTie.lean); close each card by the builder's one call (the guide's Derived/Test/ToyasCard.lean, 'card_holds'). Laid BY PROGRAM, IN A SANDBOX (cutbox-door.mjs). By AI agents, Wed Nov 11 2026. No macro, syntax, notation, axiom, sorry.
-/
import Derived.Test.YtohjapfjkilmoaaGreatDoorRows
import GoSem.ClaimSeven
namespace Go.Proofs.YtohjapfjkilmoaaGreatDoor
namespace Rows

/-- THE TIED CARD OF 'splitkeep2.TimersStay'. -/
def timersStayCard : Claim7 := { stood := { row := timersStayRow, standIns := [], harness := (true, "d708834f3d86df692a06e79c123093460e63d0d58b02184b50d14f60245c2ce5"), looks := true }, kinds := [], alts := [], laidByText := true, laidKinds := [.data, .data, .data, .sentinel, .sentinel], laidTests := true, laidLooks := .later }
def TimersStayCardSaid : Prop := Claim7.holds Tryz.pinned (.plain (OpenSpec.ofChange timersStaySpec)) timersStayCard

/-- THE SECOND FORM's CARD OF 'splitkeep2.TimersStay'. -/
def timersStayUptoCard : Claim7 := { stood := { row := timersStayUptoRow, standIns := [], harness := (true, "d708834f3d86df692a06e79c123093460e63d0d58b02184b50d14f60245c2ce5"), looks := true }, kinds := [], alts := [], laidByText := true, laidKinds := [.data, .data, .data, .sentinel, .sentinel], laidTests := true, laidLooks := .later }
def TimersStayUptoCardSaid : Prop := Claim7.holds Tryz.pinned (.plain (OpenSpec.upto timersStaySpec)) timersStayUptoCard
end Rows
end Go.Proofs.YtohjapfjkilmoaaGreatDoor
