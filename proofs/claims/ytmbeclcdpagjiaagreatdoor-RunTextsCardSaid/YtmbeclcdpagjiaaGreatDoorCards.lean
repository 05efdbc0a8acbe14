/-
  DERIVED. GIVEN WITH THE SEED: THE CARDS: each row of YtmbeclcdpagjiaaGreatDoorRows.lean that lists a variable, with what it lists TIED to the program's text (the seventh form; the later family's looks); each row that meets fmt, with fmt's text TOLD by the authors' own Lean function (tested against real Go, not proved from fmt's source: count such statements apart). THE CARD IS WHAT COUNTS. Prove the row's statement (the work); the ties are given (YtmbeclcdpagjiaaGreatDoorTie.lean); close each card by the builder's one call (the guide's Derived/Test/ToyasCard.lean, 'card_holds'). Laid BY PROGRAM, IN A SANDBOX (cutbox-door.mjs). By AI agents, Wed Nov 11 2026. No macro, syntax, notation, axiom, sorry.
-/
import Derived.Test.YtmbeclcdpagjiaaGreatDoorRows
import GoSem.ClaimSeven
namespace Go.Proofs.YtmbeclcdpagjiaaGreatDoor
namespace Rows

/-- THE TIED CARD OF 'splitlaw2.RulesRead'. -/
def rulesReadCard : Claim7 := { stood := { row := rulesReadRow, standIns := [], harness := (true, "72d669ac36639f75173a4be405f938f9cd74cbdd57a6337096b8032e3ee93e83"), looks := true }, kinds := [], alts := [], laidByText := true, laidKinds := [.data, .data, .data, .sentinel, .sentinel], laidTests := true, laidLooks := .later }
def RulesReadCardSaid : Prop := Claim7.holds Tryz.pinned (.plain (OpenSpec.ofChange rulesReadSpec)) rulesReadCard

/-- THE TIED CARD OF 'splitlaw2.RunTexts'. -/
def runTextsCard : Claim7 := { stood := { row := runTextsRow, standIns := [], harness := (true, "72d669ac36639f75173a4be405f938f9cd74cbdd57a6337096b8032e3ee93e83"), looks := true }, kinds := [], alts := [], laidByText := true, laidKinds := [.data, .data, .data, .data, .sentinel, .sentinel, .pinned], laidTests := true, laidLooks := .later }
def RunTextsCardSaid : Prop := Claim7.holds Tryz.pinned (.plain (OpenSpec.ofChange runTextsSpec)) runTextsCard

/-- THE TIED CARD OF 'splitlaw2.RunsChecked'. -/
def runsCheckedCard : Claim7 := { stood := { row := runsCheckedRow, standIns := [], harness := (true, "72d669ac36639f75173a4be405f938f9cd74cbdd57a6337096b8032e3ee93e83"), looks := true }, kinds := [], alts := [], laidByText := true, laidKinds := [.data, .data, .data, .sentinel, .sentinel], laidTests := true, laidLooks := .later }
def RunsCheckedCardSaid : Prop := Claim7.holds Tryz.pinned (.plain (OpenSpec.ofChange runsCheckedSpec)) runsCheckedCard

/-- THE SECOND FORM's CARD OF 'splitlaw2.RulesRead'. -/
def rulesReadUptoCard : Claim7 := { stood := { row := rulesReadUptoRow, standIns := [], harness := (true, "72d669ac36639f75173a4be405f938f9cd74cbdd57a6337096b8032e3ee93e83"), looks := true }, kinds := [], alts := [], laidByText := true, laidKinds := [.data, .data, .data, .sentinel, .sentinel], laidTests := true, laidLooks := .later }
def RulesReadUptoCardSaid : Prop := Claim7.holds Tryz.pinned (.plain (OpenSpec.upto rulesReadSpec)) rulesReadUptoCard

/-- THE SECOND FORM's CARD OF 'splitlaw2.RunTexts'. -/
def runTextsUptoCard : Claim7 := { stood := { row := runTextsUptoRow, standIns := [], harness := (true, "72d669ac36639f75173a4be405f938f9cd74cbdd57a6337096b8032e3ee93e83"), looks := true }, kinds := [], alts := [], laidByText := true, laidKinds := [.data, .data, .data, .data, .sentinel, .sentinel, .pinned], laidTests := true, laidLooks := .later }
def RunTextsUptoCardSaid : Prop := Claim7.holds Tryz.pinned (.plain (OpenSpec.upto runTextsSpec)) runTextsUptoCard

/-- THE SECOND FORM's CARD OF 'splitlaw2.RunsChecked'. -/
def runsCheckedUptoCard : Claim7 := { stood := { row := runsCheckedUptoRow, standIns := [], harness := (true, "72d669ac36639f75173a4be405f938f9cd74cbdd57a6337096b8032e3ee93e83"), looks := true }, kinds := [], alts := [], laidByText := true, laidKinds := [.data, .data, .data, .sentinel, .sentinel], laidTests := true, laidLooks := .later }
def RunsCheckedUptoCardSaid : Prop := Claim7.holds Tryz.pinned (.plain (OpenSpec.upto runsCheckedSpec)) runsCheckedUptoCard
end Rows
end Go.Proofs.YtmbeclcdpagjiaaGreatDoor
