/-
  DERIVED. GIVEN WITH THE SEED: THE CARDS: each row of YtaendemgkabdfaaGreatDoorRows.lean that lists a variable, with what it lists TIED to the program's text (the seventh form; the later family's looks); each row that meets fmt, with fmt's text TOLD by the authors' own Lean function (tested against real Go, not proved from fmt's source: count such statements apart). THE CARD IS WHAT COUNTS. Prove the row's statement (the work); the ties are given (YtaendemgkabdfaaGreatDoorTie.lean); close each card by the builder's one call (the guide's Derived/Test/ToyasCard.lean, 'card_holds'). Laid BY PROGRAM, IN A SANDBOX (cutbox-door.mjs). By AI agents, Wed Nov 11 2026. No macro, syntax, notation, axiom, sorry.
-/
import Derived.Test.YtaendemgkabdfaaGreatDoorRows
import GoSem.ClaimSeven
namespace Go.Proofs.YtaendemgkabdfaaGreatDoor
namespace Rows

/-- THE TIED CARD OF 'splitlaw2.RaceTexts'. -/
def raceTextsCard : Claim7 := { stood := { row := raceTextsRow, standIns := [], harness := (true, "e2b02eb1892136947c1c81bd75ad14671be06376937fb2eac278cc2c83153e87"), looks := true }, kinds := [], alts := [], laidByText := true, laidKinds := [.data, .data, .data, .data, .sentinel, .sentinel, .pinned], laidTests := true, laidLooks := .later }
def RaceTextsCardSaid : Prop := Claim7.holds Tryz.pinned (.plain (OpenSpec.ofChange raceTextsSpec)) raceTextsCard

/-- THE TIED CARD OF 'splitlaw2.SlotTexts'. -/
def slotTextsCard : Claim7 := { stood := { row := slotTextsRow, standIns := [], harness := (true, "e2b02eb1892136947c1c81bd75ad14671be06376937fb2eac278cc2c83153e87"), looks := true }, kinds := [], alts := [], laidByText := true, laidKinds := [.data, .data, .data, .data, .sentinel, .sentinel, .pinned], laidTests := true, laidLooks := .later }
def SlotTextsCardSaid : Prop := Claim7.holds Tryz.pinned (.plain (OpenSpec.ofChange slotTextsSpec)) slotTextsCard

/-- THE SECOND FORM's CARD OF 'splitlaw2.RaceTexts'. -/
def raceTextsUptoCard : Claim7 := { stood := { row := raceTextsUptoRow, standIns := [], harness := (true, "e2b02eb1892136947c1c81bd75ad14671be06376937fb2eac278cc2c83153e87"), looks := true }, kinds := [], alts := [], laidByText := true, laidKinds := [.data, .data, .data, .data, .sentinel, .sentinel, .pinned], laidTests := true, laidLooks := .later }
def RaceTextsUptoCardSaid : Prop := Claim7.holds Tryz.pinned (.plain (OpenSpec.upto raceTextsSpec)) raceTextsUptoCard

/-- THE SECOND FORM's CARD OF 'splitlaw2.SlotTexts'. -/
def slotTextsUptoCard : Claim7 := { stood := { row := slotTextsUptoRow, standIns := [], harness := (true, "e2b02eb1892136947c1c81bd75ad14671be06376937fb2eac278cc2c83153e87"), looks := true }, kinds := [], alts := [], laidByText := true, laidKinds := [.data, .data, .data, .data, .sentinel, .sentinel, .pinned], laidTests := true, laidLooks := .later }
def SlotTextsUptoCardSaid : Prop := Claim7.holds Tryz.pinned (.plain (OpenSpec.upto slotTextsSpec)) slotTextsUptoCard
end Rows
end Go.Proofs.YtaendemgkabdfaaGreatDoor
