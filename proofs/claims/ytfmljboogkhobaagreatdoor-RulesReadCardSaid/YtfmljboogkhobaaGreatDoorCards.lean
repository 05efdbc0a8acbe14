/-
  DERIVED. GIVEN WITH THE SEED: THE CARDS: each row of YtfmljboogkhobaaGreatDoorRows.lean that lists a variable, with what it lists TIED to the program's text (the seventh form; the later family's looks); each row that meets fmt, with fmt's text TOLD by the authors' own Lean function (tested against real Go, not proved from fmt's source: count such statements apart). THE CARD IS WHAT COUNTS. Prove the row's statement (the work); the ties are given (YtfmljboogkhobaaGreatDoorTie.lean); close each card by the builder's one call (the guide's Derived/Test/ToyasCard.lean, 'card_holds'). Laid BY PROGRAM, IN A SANDBOX (cutbox-door.mjs). By AI agents, Wed Nov 11 2026. No macro, syntax, notation, axiom, sorry.
-/
import Derived.Test.YtfmljboogkhobaaGreatDoorRows
import GoSem.ClaimSeven
namespace Go.Proofs.YtfmljboogkhobaaGreatDoor
namespace Rows

/-- THE TIED CARD OF 'splitlaw2.RulesRead'. -/
def rulesReadCard : Claim7 := { stood := { row := rulesReadRow, standIns := [], harness := (true, "1673c7854d8604a4c6e48b637afd69e8d0ff3db594fb0c9e5714ea8cd78394ac"), looks := true }, kinds := [], alts := [], laidByText := true, laidKinds := [.data, .data, .data, .sentinel, .sentinel], laidTests := true, laidLooks := .later }
def RulesReadCardSaid : Prop := Claim7.holds Tryz.pinned (.plain (OpenSpec.ofChange rulesReadSpec)) rulesReadCard

/-- THE TIED CARD OF 'splitlaw2.RunsChecked'. -/
def runsCheckedCard : Claim7 := { stood := { row := runsCheckedRow, standIns := [], harness := (true, "1673c7854d8604a4c6e48b637afd69e8d0ff3db594fb0c9e5714ea8cd78394ac"), looks := true }, kinds := [], alts := [], laidByText := true, laidKinds := [.data, .data, .data, .sentinel, .sentinel], laidTests := true, laidLooks := .later }
def RunsCheckedCardSaid : Prop := Claim7.holds Tryz.pinned (.plain (OpenSpec.ofChange runsCheckedSpec)) runsCheckedCard

/-- THE TIED CARD OF 'splitlaw2.VersionsCount'. -/
def versionsCountCard : Claim7 := { stood := { row := versionsCountRow, standIns := [], harness := (true, "1673c7854d8604a4c6e48b637afd69e8d0ff3db594fb0c9e5714ea8cd78394ac"), looks := true }, kinds := [], alts := [], laidByText := true, laidKinds := [.data, .data, .data, .data, .sentinel, .sentinel, .pinned], laidTests := true, laidLooks := .later }
def VersionsCountCardSaid : Prop := Claim7.holds Tryz.pinned (.plain (OpenSpec.ofChange versionsCountSpec)) versionsCountCard

/-- THE TIED CARD OF 'splitlaw2.RulesCompared'. -/
def rulesComparedCard : Claim7 := { stood := { row := rulesComparedRow, standIns := [], harness := (true, "1673c7854d8604a4c6e48b637afd69e8d0ff3db594fb0c9e5714ea8cd78394ac"), looks := true }, kinds := [], alts := [], laidByText := true, laidKinds := [.data, .data, .data, .sentinel, .sentinel], laidTests := true, laidLooks := .later }
def RulesComparedCardSaid : Prop := Claim7.holds Tryz.pinned (.plain (OpenSpec.ofChange rulesComparedSpec)) rulesComparedCard

/-- THE TIED CARD OF 'splitlaw2.RulesHold'. -/
def rulesHoldCard : Claim7 := { stood := { row := rulesHoldRow, standIns := [], harness := (true, "1673c7854d8604a4c6e48b637afd69e8d0ff3db594fb0c9e5714ea8cd78394ac"), looks := true }, kinds := [], alts := [], laidByText := true, laidKinds := [.data, .data, .data, .data, .sentinel, .sentinel, .pinned], laidTests := true, laidLooks := .later }
def RulesHoldCardSaid : Prop := Claim7.holds Tryz.pinned (.plain (OpenSpec.ofChange rulesHoldSpec)) rulesHoldCard

/-- THE SECOND FORM's CARD OF 'splitlaw2.RulesRead'. -/
def rulesReadUptoCard : Claim7 := { stood := { row := rulesReadUptoRow, standIns := [], harness := (true, "1673c7854d8604a4c6e48b637afd69e8d0ff3db594fb0c9e5714ea8cd78394ac"), looks := true }, kinds := [], alts := [], laidByText := true, laidKinds := [.data, .data, .data, .sentinel, .sentinel], laidTests := true, laidLooks := .later }
def RulesReadUptoCardSaid : Prop := Claim7.holds Tryz.pinned (.plain (OpenSpec.upto rulesReadSpec)) rulesReadUptoCard

/-- THE SECOND FORM's CARD OF 'splitlaw2.RunsChecked'. -/
def runsCheckedUptoCard : Claim7 := { stood := { row := runsCheckedUptoRow, standIns := [], harness := (true, "1673c7854d8604a4c6e48b637afd69e8d0ff3db594fb0c9e5714ea8cd78394ac"), looks := true }, kinds := [], alts := [], laidByText := true, laidKinds := [.data, .data, .data, .sentinel, .sentinel], laidTests := true, laidLooks := .later }
def RunsCheckedUptoCardSaid : Prop := Claim7.holds Tryz.pinned (.plain (OpenSpec.upto runsCheckedSpec)) runsCheckedUptoCard

/-- THE SECOND FORM's CARD OF 'splitlaw2.VersionsCount'. -/
def versionsCountUptoCard : Claim7 := { stood := { row := versionsCountUptoRow, standIns := [], harness := (true, "1673c7854d8604a4c6e48b637afd69e8d0ff3db594fb0c9e5714ea8cd78394ac"), looks := true }, kinds := [], alts := [], laidByText := true, laidKinds := [.data, .data, .data, .data, .sentinel, .sentinel, .pinned], laidTests := true, laidLooks := .later }
def VersionsCountUptoCardSaid : Prop := Claim7.holds Tryz.pinned (.plain (OpenSpec.upto versionsCountSpec)) versionsCountUptoCard

/-- THE SECOND FORM's CARD OF 'splitlaw2.RulesCompared'. -/
def rulesComparedUptoCard : Claim7 := { stood := { row := rulesComparedUptoRow, standIns := [], harness := (true, "1673c7854d8604a4c6e48b637afd69e8d0ff3db594fb0c9e5714ea8cd78394ac"), looks := true }, kinds := [], alts := [], laidByText := true, laidKinds := [.data, .data, .data, .sentinel, .sentinel], laidTests := true, laidLooks := .later }
def RulesComparedUptoCardSaid : Prop := Claim7.holds Tryz.pinned (.plain (OpenSpec.upto rulesComparedSpec)) rulesComparedUptoCard

/-- THE SECOND FORM's CARD OF 'splitlaw2.RulesHold'. -/
def rulesHoldUptoCard : Claim7 := { stood := { row := rulesHoldUptoRow, standIns := [], harness := (true, "1673c7854d8604a4c6e48b637afd69e8d0ff3db594fb0c9e5714ea8cd78394ac"), looks := true }, kinds := [], alts := [], laidByText := true, laidKinds := [.data, .data, .data, .data, .sentinel, .sentinel, .pinned], laidTests := true, laidLooks := .later }
def RulesHoldUptoCardSaid : Prop := Claim7.holds Tryz.pinned (.plain (OpenSpec.upto rulesHoldSpec)) rulesHoldUptoCard
end Rows
end Go.Proofs.YtfmljboogkhobaaGreatDoor
