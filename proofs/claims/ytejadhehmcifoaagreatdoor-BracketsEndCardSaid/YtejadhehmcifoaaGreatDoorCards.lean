/-
  DERIVED. GIVEN WITH THE SEED: THE CARDS: each row of YtejadhehmcifoaaGreatDoorRows.lean that lists a variable, with what it lists TIED to the program's text (the seventh form; the later family's looks); each row that meets fmt, with fmt's text TOLD by the authors' own Lean function (tested against real Go, not proved from fmt's source: count such statements apart). THE CARD IS WHAT COUNTS. Prove the row's statement (the work); the ties are given (YtejadhehmcifoaaGreatDoorTie.lean); close each card by the builder's one call (the guide's Derived/Test/ToyasCard.lean, 'card_holds'). Laid BY PROGRAM, IN A SANDBOX (cutbox-door.mjs). By AI agents, Wed Nov 11 2026. No macro, syntax, notation, axiom, sorry.
-/
import Derived.Test.YtejadhehmcifoaaGreatDoorRows
import GoSem.ClaimSeven
namespace Go.Proofs.YtejadhehmcifoaaGreatDoor
namespace Rows

/-- THE TIED CARD OF 'splitkeep2.BracketsEnd'. -/
def bracketsEndCard : Claim7 := { stood := { row := bracketsEndRow, standIns := [], harness := (true, "7d39af2046ef94283a59124b715093efdfd6328f2673122e416dfd85171628b9"), looks := true }, kinds := [], alts := [], laidByText := true, laidKinds := [.data, .data, .data, .sentinel, .sentinel], laidTests := true, laidLooks := .later }
def BracketsEndCardSaid : Prop := Claim7.holds Tryz.pinned (.plain (OpenSpec.ofChange bracketsEndSpec)) bracketsEndCard

/-- THE TIED CARD OF 'splitkeep2.OrdersClashLeast'. -/
def ordersClashLeastCard : Claim7 := { stood := { row := ordersClashLeastRow, standIns := [], harness := (true, "7d39af2046ef94283a59124b715093efdfd6328f2673122e416dfd85171628b9"), looks := true }, kinds := [], alts := [], laidByText := true, laidKinds := [.data, .data, .data, .sentinel, .sentinel], laidTests := true, laidLooks := .later }
def OrdersClashLeastCardSaid : Prop := Claim7.holds Tryz.pinned (.plain (OpenSpec.ofChange ordersClashLeastSpec)) ordersClashLeastCard

/-- THE SECOND FORM's CARD OF 'splitkeep2.BracketsEnd'. -/
def bracketsEndUptoCard : Claim7 := { stood := { row := bracketsEndUptoRow, standIns := [], harness := (true, "7d39af2046ef94283a59124b715093efdfd6328f2673122e416dfd85171628b9"), looks := true }, kinds := [], alts := [], laidByText := true, laidKinds := [.data, .data, .data, .sentinel, .sentinel], laidTests := true, laidLooks := .later }
def BracketsEndUptoCardSaid : Prop := Claim7.holds Tryz.pinned (.plain (OpenSpec.upto bracketsEndSpec)) bracketsEndUptoCard

/-- THE SECOND FORM's CARD OF 'splitkeep2.OrdersClashLeast'. -/
def ordersClashLeastUptoCard : Claim7 := { stood := { row := ordersClashLeastUptoRow, standIns := [], harness := (true, "7d39af2046ef94283a59124b715093efdfd6328f2673122e416dfd85171628b9"), looks := true }, kinds := [], alts := [], laidByText := true, laidKinds := [.data, .data, .data, .sentinel, .sentinel], laidTests := true, laidLooks := .later }
def OrdersClashLeastUptoCardSaid : Prop := Claim7.holds Tryz.pinned (.plain (OpenSpec.upto ordersClashLeastSpec)) ordersClashLeastUptoCard
end Rows
end Go.Proofs.YtejadhehmcifoaaGreatDoor
