/-
  DERIVED. GIVEN WITH THE SEED: THE CARDS: each row of YtgpgnilgloojhaaDoorRows.lean that lists a variable, with what it lists TIED to the program's text (the seventh form; the later family's looks); each row that meets fmt, with fmt's text TOLD by the authors' own Lean function (tested against real Go, not proved from fmt's source: count such statements apart). THE CARD IS WHAT COUNTS. Prove the row's statement (the work); the ties are given (YtgpgnilgloojhaaDoorTie.lean); close each card by the builder's one call (the guide's Derived/Test/ToyasCard.lean, 'card_holds'). Laid BY PROGRAM, IN A SANDBOX (cutbox-door.mjs). By AI agents, Wed Nov 11 2026. No macro, syntax, notation, axiom, sorry.
-/
import Derived.Test.YtgpgnilgloojhaaDoorRows
import GoSem.ClaimSeven
namespace Go.Proofs.YtgpgnilgloojhaaDoor
namespace Rows

/-- THE TIED CARD OF 'splitlaw2.CutsMeasured'. -/
def cutsMeasuredCard : Claim7 := { stood := { row := cutsMeasuredRow, standIns := [], harness := (true, "009f2cde77dce1f0734978b3e5fa7f8b69a07d8a7263ac6efba40041062b7ed1"), looks := true }, kinds := [], alts := [], laidByText := true, laidKinds := [.data, .data, .data], laidTests := true, laidLooks := .later }
def CutsMeasuredCardSaid : Prop := Claim7.holds Tryd.pinned (.plain (OpenSpec.ofChange cutsMeasuredSpec)) cutsMeasuredCard

/-- THE TIED CARD OF 'splitlaw2.FramesTimed'. -/
def framesTimedCard : Claim7 := { stood := { row := framesTimedRow, standIns := [], harness := (true, "009f2cde77dce1f0734978b3e5fa7f8b69a07d8a7263ac6efba40041062b7ed1"), looks := true }, kinds := [], alts := [], laidByText := true, laidKinds := [.data, .data, .data], laidTests := true, laidLooks := .later }
def FramesTimedCardSaid : Prop := Claim7.holds Tryd.pinned (.plain (OpenSpec.ofChange framesTimedSpec)) framesTimedCard

/-- THE TIED CARD OF 'splitlaw2.PressesFollowed'. -/
def pressesFollowedCard : Claim7 := { stood := { row := pressesFollowedRow, standIns := [], harness := (true, "009f2cde77dce1f0734978b3e5fa7f8b69a07d8a7263ac6efba40041062b7ed1"), looks := true }, kinds := [], alts := [], laidByText := true, laidKinds := [.data, .data, .data], laidTests := true, laidLooks := .later }
def PressesFollowedCardSaid : Prop := Claim7.holds Tryd.pinned (.plain (OpenSpec.ofChange pressesFollowedSpec)) pressesFollowedCard

/-- THE TIED CARD OF 'splitlaw2.ClocksRun'. -/
def clocksRunCard : Claim7 := { stood := { row := clocksRunRow, standIns := [], harness := (true, "009f2cde77dce1f0734978b3e5fa7f8b69a07d8a7263ac6efba40041062b7ed1"), looks := true }, kinds := [], alts := [], laidByText := true, laidKinds := [.data, .data, .data], laidTests := true, laidLooks := .later }
def ClocksRunCardSaid : Prop := Claim7.holds Tryd.pinned (.plain (OpenSpec.ofChange clocksRunSpec)) clocksRunCard

/-- THE TIED CARD OF 'splitlaw2.TimesWritten'. -/
def timesWrittenCard : Claim7 := { stood := { row := timesWrittenRow, standIns := [], harness := (true, "009f2cde77dce1f0734978b3e5fa7f8b69a07d8a7263ac6efba40041062b7ed1"), looks := true }, kinds := [], alts := [], laidByText := true, laidKinds := [.data, .data, .data, .data, .sentinel, .sentinel, .pinned], laidTests := true, laidLooks := .later }
def TimesWrittenCardSaid : Prop := Claim7.holds Tryd.pinned (.plain (OpenSpec.ofChange timesWrittenSpec)) timesWrittenCard

/-- THE SECOND FORM's CARD OF 'splitlaw2.CutsMeasured'. -/
def cutsMeasuredUptoCard : Claim7 := { stood := { row := cutsMeasuredUptoRow, standIns := [], harness := (true, "009f2cde77dce1f0734978b3e5fa7f8b69a07d8a7263ac6efba40041062b7ed1"), looks := true }, kinds := [], alts := [], laidByText := true, laidKinds := [.data, .data, .data], laidTests := true, laidLooks := .later }
def CutsMeasuredUptoCardSaid : Prop := Claim7.holds Tryd.pinned (.plain (OpenSpec.upto cutsMeasuredSpec)) cutsMeasuredUptoCard

/-- THE SECOND FORM's CARD OF 'splitlaw2.FramesTimed'. -/
def framesTimedUptoCard : Claim7 := { stood := { row := framesTimedUptoRow, standIns := [], harness := (true, "009f2cde77dce1f0734978b3e5fa7f8b69a07d8a7263ac6efba40041062b7ed1"), looks := true }, kinds := [], alts := [], laidByText := true, laidKinds := [.data, .data, .data], laidTests := true, laidLooks := .later }
def FramesTimedUptoCardSaid : Prop := Claim7.holds Tryd.pinned (.plain (OpenSpec.upto framesTimedSpec)) framesTimedUptoCard

/-- THE SECOND FORM's CARD OF 'splitlaw2.PressesFollowed'. -/
def pressesFollowedUptoCard : Claim7 := { stood := { row := pressesFollowedUptoRow, standIns := [], harness := (true, "009f2cde77dce1f0734978b3e5fa7f8b69a07d8a7263ac6efba40041062b7ed1"), looks := true }, kinds := [], alts := [], laidByText := true, laidKinds := [.data, .data, .data], laidTests := true, laidLooks := .later }
def PressesFollowedUptoCardSaid : Prop := Claim7.holds Tryd.pinned (.plain (OpenSpec.upto pressesFollowedSpec)) pressesFollowedUptoCard

/-- THE SECOND FORM's CARD OF 'splitlaw2.ClocksRun'. -/
def clocksRunUptoCard : Claim7 := { stood := { row := clocksRunUptoRow, standIns := [], harness := (true, "009f2cde77dce1f0734978b3e5fa7f8b69a07d8a7263ac6efba40041062b7ed1"), looks := true }, kinds := [], alts := [], laidByText := true, laidKinds := [.data, .data, .data], laidTests := true, laidLooks := .later }
def ClocksRunUptoCardSaid : Prop := Claim7.holds Tryd.pinned (.plain (OpenSpec.upto clocksRunSpec)) clocksRunUptoCard

/-- THE SECOND FORM's CARD OF 'splitlaw2.TimesWritten'. -/
def timesWrittenUptoCard : Claim7 := { stood := { row := timesWrittenUptoRow, standIns := [], harness := (true, "009f2cde77dce1f0734978b3e5fa7f8b69a07d8a7263ac6efba40041062b7ed1"), looks := true }, kinds := [], alts := [], laidByText := true, laidKinds := [.data, .data, .data, .data, .sentinel, .sentinel, .pinned], laidTests := true, laidLooks := .later }
def TimesWrittenUptoCardSaid : Prop := Claim7.holds Tryd.pinned (.plain (OpenSpec.upto timesWrittenSpec)) timesWrittenUptoCard
end Rows
end Go.Proofs.YtgpgnilgloojhaaDoor
