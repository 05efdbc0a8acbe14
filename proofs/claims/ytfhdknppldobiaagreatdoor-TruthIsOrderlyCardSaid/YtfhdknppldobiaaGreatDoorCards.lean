/-
  DERIVED. GIVEN WITH THE SEED: THE CARDS: each row of YtfhdknppldobiaaGreatDoorRows.lean that lists a variable, with what it lists TIED to the program's text (the seventh form; the later family's looks); each row that meets fmt, with fmt's text TOLD by the authors' own Lean function (tested against real Go, not proved from fmt's source: count such statements apart). THE CARD IS WHAT COUNTS. Prove the row's statement (the work); the ties are given (YtfhdknppldobiaaGreatDoorTie.lean); close each card by the builder's one call (the guide's Derived/Test/ToyasCard.lean, 'card_holds'). Laid BY PROGRAM, IN A SANDBOX (cutbox-door.mjs). By AI agents, Wed Nov 11 2026. No macro, syntax, notation, axiom, sorry.
-/
import Derived.Test.YtfhdknppldobiaaGreatDoorRows
import GoSem.ClaimSeven
namespace Go.Proofs.YtfhdknppldobiaaGreatDoor
namespace Rows

/-- THE TIED CARD OF 'splitkeep2.CountsByDate'. -/
def countsByDateCard : Claim7 := { stood := { row := countsByDateRow, standIns := [], harness := (true, "4a11d407581db12a55b07b98681c5f7d42831cbc6d200cd340abf6a8eccd8433"), looks := true }, kinds := [], alts := [], laidByText := true, laidKinds := [.data, .data, .data, .sentinel, .sentinel], laidTests := true, laidLooks := .later }
def CountsByDateCardSaid : Prop := Claim7.holds Tryz.pinned (.plain (OpenSpec.ofChange countsByDateSpec)) countsByDateCard

/-- THE TIED CARD OF 'splitlaw2.VersionsCount'. -/
def versionsCountCard : Claim7 := { stood := { row := versionsCountRow, standIns := [], harness := (true, "4a11d407581db12a55b07b98681c5f7d42831cbc6d200cd340abf6a8eccd8433"), looks := true }, kinds := [], alts := [], laidByText := true, laidKinds := [.data, .data, .data, .data, .sentinel, .sentinel, .pinned], laidTests := true, laidLooks := .later }
def VersionsCountCardSaid : Prop := Claim7.holds Tryz.pinned (.plain (OpenSpec.ofChange versionsCountSpec)) versionsCountCard

/-- THE TIED CARD OF 'splitlaw2.RulesCompared'. -/
def rulesComparedCard : Claim7 := { stood := { row := rulesComparedRow, standIns := [], harness := (true, "4a11d407581db12a55b07b98681c5f7d42831cbc6d200cd340abf6a8eccd8433"), looks := true }, kinds := [], alts := [], laidByText := true, laidKinds := [.data, .data, .data, .sentinel, .sentinel], laidTests := true, laidLooks := .later }
def RulesComparedCardSaid : Prop := Claim7.holds Tryz.pinned (.plain (OpenSpec.ofChange rulesComparedSpec)) rulesComparedCard

/-- THE TIED CARD OF 'splitkeep2.TidyStaysTidy'. -/
def tidyStaysTidyCard : Claim7 := { stood := { row := tidyStaysTidyRow, standIns := [], harness := (true, "4a11d407581db12a55b07b98681c5f7d42831cbc6d200cd340abf6a8eccd8433"), looks := true }, kinds := [], alts := [], laidByText := true, laidKinds := [.data, .data, .data, .sentinel, .sentinel], laidTests := true, laidLooks := .later }
def TidyStaysTidyCardSaid : Prop := Claim7.holds Tryz.pinned (.plain (OpenSpec.ofChange tidyStaysTidySpec)) tidyStaysTidyCard

/-- THE TIED CARD OF 'splitkeep2.BlameIsJust'. -/
def blameIsJustCard : Claim7 := { stood := { row := blameIsJustRow, standIns := [], harness := (true, "4a11d407581db12a55b07b98681c5f7d42831cbc6d200cd340abf6a8eccd8433"), looks := true }, kinds := [], alts := [], laidByText := true, laidKinds := [.data, .data, .data, .sentinel, .sentinel], laidTests := true, laidLooks := .later }
def BlameIsJustCardSaid : Prop := Claim7.holds Tryz.pinned (.plain (OpenSpec.ofChange blameIsJustSpec)) blameIsJustCard

/-- THE TIED CARD OF 'splitkeep2.TruthIsOrderly'. -/
def truthIsOrderlyCard : Claim7 := { stood := { row := truthIsOrderlyRow, standIns := [], harness := (true, "4a11d407581db12a55b07b98681c5f7d42831cbc6d200cd340abf6a8eccd8433"), looks := true }, kinds := [], alts := [], laidByText := true, laidKinds := [.data, .data, .data, .sentinel, .sentinel], laidTests := true, laidLooks := .later }
def TruthIsOrderlyCardSaid : Prop := Claim7.holds Tryz.pinned (.plain (OpenSpec.ofChange truthIsOrderlySpec)) truthIsOrderlyCard

/-- THE TIED CARD OF 'splitlaw2.RulesHold'. -/
def rulesHoldCard : Claim7 := { stood := { row := rulesHoldRow, standIns := [], harness := (true, "4a11d407581db12a55b07b98681c5f7d42831cbc6d200cd340abf6a8eccd8433"), looks := true }, kinds := [], alts := [], laidByText := true, laidKinds := [.data, .data, .data, .data, .sentinel, .sentinel, .pinned], laidTests := true, laidLooks := .later }
def RulesHoldCardSaid : Prop := Claim7.holds Tryz.pinned (.plain (OpenSpec.ofChange rulesHoldSpec)) rulesHoldCard

/-- THE TIED CARD OF 'splitkeep2.RulesStay'. -/
def rulesStayCard : Claim7 := { stood := { row := rulesStayRow, standIns := [], harness := (true, "4a11d407581db12a55b07b98681c5f7d42831cbc6d200cd340abf6a8eccd8433"), looks := true }, kinds := [], alts := [], laidByText := true, laidKinds := [.data, .data, .data, .data, .sentinel, .sentinel, .pinned], laidTests := true, laidLooks := .later }
def RulesStayCardSaid : Prop := Claim7.holds Tryz.pinned (.plain (OpenSpec.ofChange rulesStaySpec)) rulesStayCard

/-- THE SECOND FORM's CARD OF 'splitkeep2.CountsByDate'. -/
def countsByDateUptoCard : Claim7 := { stood := { row := countsByDateUptoRow, standIns := [], harness := (true, "4a11d407581db12a55b07b98681c5f7d42831cbc6d200cd340abf6a8eccd8433"), looks := true }, kinds := [], alts := [], laidByText := true, laidKinds := [.data, .data, .data, .sentinel, .sentinel], laidTests := true, laidLooks := .later }
def CountsByDateUptoCardSaid : Prop := Claim7.holds Tryz.pinned (.plain (OpenSpec.upto countsByDateSpec)) countsByDateUptoCard

/-- THE SECOND FORM's CARD OF 'splitlaw2.VersionsCount'. -/
def versionsCountUptoCard : Claim7 := { stood := { row := versionsCountUptoRow, standIns := [], harness := (true, "4a11d407581db12a55b07b98681c5f7d42831cbc6d200cd340abf6a8eccd8433"), looks := true }, kinds := [], alts := [], laidByText := true, laidKinds := [.data, .data, .data, .data, .sentinel, .sentinel, .pinned], laidTests := true, laidLooks := .later }
def VersionsCountUptoCardSaid : Prop := Claim7.holds Tryz.pinned (.plain (OpenSpec.upto versionsCountSpec)) versionsCountUptoCard

/-- THE SECOND FORM's CARD OF 'splitlaw2.RulesCompared'. -/
def rulesComparedUptoCard : Claim7 := { stood := { row := rulesComparedUptoRow, standIns := [], harness := (true, "4a11d407581db12a55b07b98681c5f7d42831cbc6d200cd340abf6a8eccd8433"), looks := true }, kinds := [], alts := [], laidByText := true, laidKinds := [.data, .data, .data, .sentinel, .sentinel], laidTests := true, laidLooks := .later }
def RulesComparedUptoCardSaid : Prop := Claim7.holds Tryz.pinned (.plain (OpenSpec.upto rulesComparedSpec)) rulesComparedUptoCard

/-- THE SECOND FORM's CARD OF 'splitkeep2.TidyStaysTidy'. -/
def tidyStaysTidyUptoCard : Claim7 := { stood := { row := tidyStaysTidyUptoRow, standIns := [], harness := (true, "4a11d407581db12a55b07b98681c5f7d42831cbc6d200cd340abf6a8eccd8433"), looks := true }, kinds := [], alts := [], laidByText := true, laidKinds := [.data, .data, .data, .sentinel, .sentinel], laidTests := true, laidLooks := .later }
def TidyStaysTidyUptoCardSaid : Prop := Claim7.holds Tryz.pinned (.plain (OpenSpec.upto tidyStaysTidySpec)) tidyStaysTidyUptoCard

/-- THE SECOND FORM's CARD OF 'splitkeep2.BlameIsJust'. -/
def blameIsJustUptoCard : Claim7 := { stood := { row := blameIsJustUptoRow, standIns := [], harness := (true, "4a11d407581db12a55b07b98681c5f7d42831cbc6d200cd340abf6a8eccd8433"), looks := true }, kinds := [], alts := [], laidByText := true, laidKinds := [.data, .data, .data, .sentinel, .sentinel], laidTests := true, laidLooks := .later }
def BlameIsJustUptoCardSaid : Prop := Claim7.holds Tryz.pinned (.plain (OpenSpec.upto blameIsJustSpec)) blameIsJustUptoCard

/-- THE SECOND FORM's CARD OF 'splitkeep2.TruthIsOrderly'. -/
def truthIsOrderlyUptoCard : Claim7 := { stood := { row := truthIsOrderlyUptoRow, standIns := [], harness := (true, "4a11d407581db12a55b07b98681c5f7d42831cbc6d200cd340abf6a8eccd8433"), looks := true }, kinds := [], alts := [], laidByText := true, laidKinds := [.data, .data, .data, .sentinel, .sentinel], laidTests := true, laidLooks := .later }
def TruthIsOrderlyUptoCardSaid : Prop := Claim7.holds Tryz.pinned (.plain (OpenSpec.upto truthIsOrderlySpec)) truthIsOrderlyUptoCard

/-- THE SECOND FORM's CARD OF 'splitlaw2.RulesHold'. -/
def rulesHoldUptoCard : Claim7 := { stood := { row := rulesHoldUptoRow, standIns := [], harness := (true, "4a11d407581db12a55b07b98681c5f7d42831cbc6d200cd340abf6a8eccd8433"), looks := true }, kinds := [], alts := [], laidByText := true, laidKinds := [.data, .data, .data, .data, .sentinel, .sentinel, .pinned], laidTests := true, laidLooks := .later }
def RulesHoldUptoCardSaid : Prop := Claim7.holds Tryz.pinned (.plain (OpenSpec.upto rulesHoldSpec)) rulesHoldUptoCard

/-- THE SECOND FORM's CARD OF 'splitkeep2.RulesStay'. -/
def rulesStayUptoCard : Claim7 := { stood := { row := rulesStayUptoRow, standIns := [], harness := (true, "4a11d407581db12a55b07b98681c5f7d42831cbc6d200cd340abf6a8eccd8433"), looks := true }, kinds := [], alts := [], laidByText := true, laidKinds := [.data, .data, .data, .data, .sentinel, .sentinel, .pinned], laidTests := true, laidLooks := .later }
def RulesStayUptoCardSaid : Prop := Claim7.holds Tryz.pinned (.plain (OpenSpec.upto rulesStaySpec)) rulesStayUptoCard
end Rows
end Go.Proofs.YtfhdknppldobiaaGreatDoor
