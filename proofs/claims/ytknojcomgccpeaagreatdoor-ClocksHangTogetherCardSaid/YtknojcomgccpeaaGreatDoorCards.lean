/-
  DERIVED. GIVEN WITH THE SEED: THE CARDS: each row of YtknojcomgccpeaaGreatDoorRows.lean that lists a variable, with what it lists TIED to the program's text (the seventh form; the later family's looks); each row that meets fmt, with fmt's text TOLD by the authors' own Lean function (tested against real Go, not proved from fmt's source: count such statements apart). THE CARD IS WHAT COUNTS. Prove the row's statement (the work); the ties are given (YtknojcomgccpeaaGreatDoorTie.lean); close each card by the builder's one call (the guide's Derived/Test/ToyasCard.lean, 'card_holds'). Laid BY PROGRAM, IN A SANDBOX (cutbox-door.mjs). By AI agents, Wed Nov 11 2026. No macro, syntax, notation, axiom, sorry.
-/
import Derived.Test.YtknojcomgccpeaaGreatDoorRows
import GoSem.ClaimSeven
namespace Go.Proofs.YtknojcomgccpeaaGreatDoor
namespace Rows

/-- THE TIED CARD OF 'splitkeep2.DroppedFits'. -/
def droppedFitsCard : Claim7 := { stood := { row := droppedFitsRow, standIns := [], harness := (true, "b29b8110013d5439e8a4691a076d820cea5a51565c059bd4a6079f51b5f5242e"), looks := true }, kinds := [], alts := [], laidByText := true, laidKinds := [.data, .data, .data, .sentinel, .sentinel], laidTests := true, laidLooks := .later }
def DroppedFitsCardSaid : Prop := Claim7.holds Tryz.pinned (.plain (OpenSpec.ofChange droppedFitsSpec)) droppedFitsCard

/-- THE TIED CARD OF 'splitkeep2.BracketsEnd'. -/
def bracketsEndCard : Claim7 := { stood := { row := bracketsEndRow, standIns := [], harness := (true, "b29b8110013d5439e8a4691a076d820cea5a51565c059bd4a6079f51b5f5242e"), looks := true }, kinds := [], alts := [], laidByText := true, laidKinds := [.data, .data, .data, .sentinel, .sentinel], laidTests := true, laidLooks := .later }
def BracketsEndCardSaid : Prop := Claim7.holds Tryz.pinned (.plain (OpenSpec.ofChange bracketsEndSpec)) bracketsEndCard

/-- THE TIED CARD OF 'splitkeep2.UndoneIsAsIfNot'. -/
def undoneIsAsIfNotCard : Claim7 := { stood := { row := undoneIsAsIfNotRow, standIns := [], harness := (true, "b29b8110013d5439e8a4691a076d820cea5a51565c059bd4a6079f51b5f5242e"), looks := true }, kinds := [], alts := [], laidByText := true, laidKinds := [.data, .data, .data, .sentinel, .sentinel], laidTests := true, laidLooks := .later }
def UndoneIsAsIfNotCardSaid : Prop := Claim7.holds Tryz.pinned (.plain (OpenSpec.ofChange undoneIsAsIfNotSpec)) undoneIsAsIfNotCard

/-- THE TIED CARD OF 'splitkeep2.RefusedPressesSayNothing'. -/
def refusedPressesSayNothingCard : Claim7 := { stood := { row := refusedPressesSayNothingRow, standIns := [], harness := (true, "b29b8110013d5439e8a4691a076d820cea5a51565c059bd4a6079f51b5f5242e"), looks := true }, kinds := [], alts := [], laidByText := true, laidKinds := [.data, .data, .data, .sentinel, .sentinel], laidTests := true, laidLooks := .later }
def RefusedPressesSayNothingCardSaid : Prop := Claim7.holds Tryz.pinned (.plain (OpenSpec.ofChange refusedPressesSayNothingSpec)) refusedPressesSayNothingCard

/-- THE TIED CARD OF 'splitkeep2.ClocksHangTogether'. -/
def clocksHangTogetherCard : Claim7 := { stood := { row := clocksHangTogetherRow, standIns := [], harness := (true, "b29b8110013d5439e8a4691a076d820cea5a51565c059bd4a6079f51b5f5242e"), looks := true }, kinds := [], alts := [], laidByText := true, laidKinds := [.data, .data, .data, .sentinel, .sentinel], laidTests := true, laidLooks := .later }
def ClocksHangTogetherCardSaid : Prop := Claim7.holds Tryz.pinned (.plain (OpenSpec.ofChange clocksHangTogetherSpec)) clocksHangTogetherCard

/-- THE SECOND FORM's CARD OF 'splitkeep2.DroppedFits'. -/
def droppedFitsUptoCard : Claim7 := { stood := { row := droppedFitsUptoRow, standIns := [], harness := (true, "b29b8110013d5439e8a4691a076d820cea5a51565c059bd4a6079f51b5f5242e"), looks := true }, kinds := [], alts := [], laidByText := true, laidKinds := [.data, .data, .data, .sentinel, .sentinel], laidTests := true, laidLooks := .later }
def DroppedFitsUptoCardSaid : Prop := Claim7.holds Tryz.pinned (.plain (OpenSpec.upto droppedFitsSpec)) droppedFitsUptoCard

/-- THE SECOND FORM's CARD OF 'splitkeep2.BracketsEnd'. -/
def bracketsEndUptoCard : Claim7 := { stood := { row := bracketsEndUptoRow, standIns := [], harness := (true, "b29b8110013d5439e8a4691a076d820cea5a51565c059bd4a6079f51b5f5242e"), looks := true }, kinds := [], alts := [], laidByText := true, laidKinds := [.data, .data, .data, .sentinel, .sentinel], laidTests := true, laidLooks := .later }
def BracketsEndUptoCardSaid : Prop := Claim7.holds Tryz.pinned (.plain (OpenSpec.upto bracketsEndSpec)) bracketsEndUptoCard

/-- THE SECOND FORM's CARD OF 'splitkeep2.UndoneIsAsIfNot'. -/
def undoneIsAsIfNotUptoCard : Claim7 := { stood := { row := undoneIsAsIfNotUptoRow, standIns := [], harness := (true, "b29b8110013d5439e8a4691a076d820cea5a51565c059bd4a6079f51b5f5242e"), looks := true }, kinds := [], alts := [], laidByText := true, laidKinds := [.data, .data, .data, .sentinel, .sentinel], laidTests := true, laidLooks := .later }
def UndoneIsAsIfNotUptoCardSaid : Prop := Claim7.holds Tryz.pinned (.plain (OpenSpec.upto undoneIsAsIfNotSpec)) undoneIsAsIfNotUptoCard

/-- THE SECOND FORM's CARD OF 'splitkeep2.RefusedPressesSayNothing'. -/
def refusedPressesSayNothingUptoCard : Claim7 := { stood := { row := refusedPressesSayNothingUptoRow, standIns := [], harness := (true, "b29b8110013d5439e8a4691a076d820cea5a51565c059bd4a6079f51b5f5242e"), looks := true }, kinds := [], alts := [], laidByText := true, laidKinds := [.data, .data, .data, .sentinel, .sentinel], laidTests := true, laidLooks := .later }
def RefusedPressesSayNothingUptoCardSaid : Prop := Claim7.holds Tryz.pinned (.plain (OpenSpec.upto refusedPressesSayNothingSpec)) refusedPressesSayNothingUptoCard

/-- THE SECOND FORM's CARD OF 'splitkeep2.ClocksHangTogether'. -/
def clocksHangTogetherUptoCard : Claim7 := { stood := { row := clocksHangTogetherUptoRow, standIns := [], harness := (true, "b29b8110013d5439e8a4691a076d820cea5a51565c059bd4a6079f51b5f5242e"), looks := true }, kinds := [], alts := [], laidByText := true, laidKinds := [.data, .data, .data, .sentinel, .sentinel], laidTests := true, laidLooks := .later }
def ClocksHangTogetherUptoCardSaid : Prop := Claim7.holds Tryz.pinned (.plain (OpenSpec.upto clocksHangTogetherSpec)) clocksHangTogetherUptoCard
end Rows
end Go.Proofs.YtknojcomgccpeaaGreatDoor
