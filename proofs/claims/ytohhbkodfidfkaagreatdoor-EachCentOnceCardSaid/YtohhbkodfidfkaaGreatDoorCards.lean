/-
  DERIVED. GIVEN WITH THE SEED: THE CARDS: each row of YtohhbkodfidfkaaGreatDoorRows.lean that lists a variable, with what it lists TIED to the program's text (the seventh form; the later family's looks); each row that meets fmt, with fmt's text TOLD by the authors' own Lean function (tested against real Go, not proved from fmt's source: count such statements apart). THE CARD IS WHAT COUNTS. Prove the row's statement (the work); the ties are given (YtohhbkodfidfkaaGreatDoorTie.lean); close each card by the builder's one call (the guide's Derived/Test/ToyasCard.lean, 'card_holds'). Laid BY PROGRAM, IN A SANDBOX (cutbox-door.mjs). By AI agents, Wed Nov 11 2026. No macro, syntax, notation, axiom, sorry.
-/
import Derived.Test.YtohhbkodfidfkaaGreatDoorRows
import GoSem.ClaimSeven
namespace Go.Proofs.YtohhbkodfidfkaaGreatDoor
namespace Rows

/-- THE TIED CARD OF 'splitkeep2.DroppedFits'. -/
def droppedFitsCard : Claim7 := { stood := { row := droppedFitsRow, standIns := [], harness := (true, "42d14253a86fd66835f4007ef53f27d458eb774df2380f6f759965a017534847"), looks := true }, kinds := [], alts := [], laidByText := true, laidKinds := [.data, .data, .data, .sentinel, .sentinel], laidTests := true, laidLooks := .later }
def DroppedFitsCardSaid : Prop := Claim7.holds Tryz.pinned (.plain (OpenSpec.ofChange droppedFitsSpec)) droppedFitsCard

/-- THE TIED CARD OF 'splitkeep2.BracketsEnd'. -/
def bracketsEndCard : Claim7 := { stood := { row := bracketsEndRow, standIns := [], harness := (true, "42d14253a86fd66835f4007ef53f27d458eb774df2380f6f759965a017534847"), looks := true }, kinds := [], alts := [], laidByText := true, laidKinds := [.data, .data, .data, .sentinel, .sentinel], laidTests := true, laidLooks := .later }
def BracketsEndCardSaid : Prop := Claim7.holds Tryz.pinned (.plain (OpenSpec.ofChange bracketsEndSpec)) bracketsEndCard

/-- THE TIED CARD OF 'splitkeep2.OrdersClashLeast'. -/
def ordersClashLeastCard : Claim7 := { stood := { row := ordersClashLeastRow, standIns := [], harness := (true, "42d14253a86fd66835f4007ef53f27d458eb774df2380f6f759965a017534847"), looks := true }, kinds := [], alts := [], laidByText := true, laidKinds := [.data, .data, .data, .sentinel, .sentinel], laidTests := true, laidLooks := .later }
def OrdersClashLeastCardSaid : Prop := Claim7.holds Tryz.pinned (.plain (OpenSpec.ofChange ordersClashLeastSpec)) ordersClashLeastCard

/-- THE TIED CARD OF 'splitkeep2.EachCentOnce'. -/
def eachCentOnceCard : Claim7 := { stood := { row := eachCentOnceRow, standIns := [], harness := (true, "42d14253a86fd66835f4007ef53f27d458eb774df2380f6f759965a017534847"), looks := true }, kinds := [], alts := [], laidByText := true, laidKinds := [.data, .data, .data, .sentinel, .sentinel], laidTests := true, laidLooks := .later }
def EachCentOnceCardSaid : Prop := Claim7.holds Tryz.pinned (.plain (OpenSpec.ofChange eachCentOnceSpec)) eachCentOnceCard

/-- THE SECOND FORM's CARD OF 'splitkeep2.DroppedFits'. -/
def droppedFitsUptoCard : Claim7 := { stood := { row := droppedFitsUptoRow, standIns := [], harness := (true, "42d14253a86fd66835f4007ef53f27d458eb774df2380f6f759965a017534847"), looks := true }, kinds := [], alts := [], laidByText := true, laidKinds := [.data, .data, .data, .sentinel, .sentinel], laidTests := true, laidLooks := .later }
def DroppedFitsUptoCardSaid : Prop := Claim7.holds Tryz.pinned (.plain (OpenSpec.upto droppedFitsSpec)) droppedFitsUptoCard

/-- THE SECOND FORM's CARD OF 'splitkeep2.BracketsEnd'. -/
def bracketsEndUptoCard : Claim7 := { stood := { row := bracketsEndUptoRow, standIns := [], harness := (true, "42d14253a86fd66835f4007ef53f27d458eb774df2380f6f759965a017534847"), looks := true }, kinds := [], alts := [], laidByText := true, laidKinds := [.data, .data, .data, .sentinel, .sentinel], laidTests := true, laidLooks := .later }
def BracketsEndUptoCardSaid : Prop := Claim7.holds Tryz.pinned (.plain (OpenSpec.upto bracketsEndSpec)) bracketsEndUptoCard

/-- THE SECOND FORM's CARD OF 'splitkeep2.OrdersClashLeast'. -/
def ordersClashLeastUptoCard : Claim7 := { stood := { row := ordersClashLeastUptoRow, standIns := [], harness := (true, "42d14253a86fd66835f4007ef53f27d458eb774df2380f6f759965a017534847"), looks := true }, kinds := [], alts := [], laidByText := true, laidKinds := [.data, .data, .data, .sentinel, .sentinel], laidTests := true, laidLooks := .later }
def OrdersClashLeastUptoCardSaid : Prop := Claim7.holds Tryz.pinned (.plain (OpenSpec.upto ordersClashLeastSpec)) ordersClashLeastUptoCard

/-- THE SECOND FORM's CARD OF 'splitkeep2.EachCentOnce'. -/
def eachCentOnceUptoCard : Claim7 := { stood := { row := eachCentOnceUptoRow, standIns := [], harness := (true, "42d14253a86fd66835f4007ef53f27d458eb774df2380f6f759965a017534847"), looks := true }, kinds := [], alts := [], laidByText := true, laidKinds := [.data, .data, .data, .sentinel, .sentinel], laidTests := true, laidLooks := .later }
def EachCentOnceUptoCardSaid : Prop := Claim7.holds Tryz.pinned (.plain (OpenSpec.upto eachCentOnceSpec)) eachCentOnceUptoCard
end Rows
end Go.Proofs.YtohhbkodfidfkaaGreatDoor
