/-
  DERIVED. GIVEN WITH THE SEED: THE CARDS: each row of YthbcogekfdllmaaGreatDoorRows.lean that lists a variable, with what it lists TIED to the program's text (the seventh form; the later family's looks); each row that meets fmt, with fmt's text TOLD by the authors' own Lean function (tested against real Go, not proved from fmt's source: count such statements apart). THE CARD IS WHAT COUNTS. Prove the row's statement (the work); the ties are given (YthbcogekfdllmaaGreatDoorTie.lean); close each card by the builder's one call (the guide's Derived/Test/ToyasCard.lean, 'card_holds'). Laid BY PROGRAM, IN A SANDBOX (cutbox-door.mjs). By AI agents, Wed Nov 11 2026. No macro, syntax, notation, axiom, sorry.
-/
import Derived.Test.YthbcogekfdllmaaGreatDoorRows
import GoSem.ClaimSeven
namespace Go.Proofs.YthbcogekfdllmaaGreatDoor
namespace Rows

/-- THE TIED CARD OF 'splitkeep2.RacesEnd'. -/
def racesEndCard : Claim7 := { stood := { row := racesEndRow, standIns := [], harness := (true, "a5335ecba453d2eb7442c8d39f663bcabbfc674f1a8431d58502cf95508c7901"), looks := true }, kinds := [], alts := [], laidByText := true, laidKinds := [.data, .data, .data, .sentinel, .sentinel], laidTests := true, laidLooks := .later }
def RacesEndCardSaid : Prop := Claim7.holds Tryz.pinned (.plain (OpenSpec.ofChange racesEndSpec)) racesEndCard

/-- THE TIED CARD OF 'splitkeep2.MarathonsStay'. -/
def marathonsStayCard : Claim7 := { stood := { row := marathonsStayRow, standIns := [], harness := (true, "a5335ecba453d2eb7442c8d39f663bcabbfc674f1a8431d58502cf95508c7901"), looks := true }, kinds := [], alts := [], laidByText := true, laidKinds := [.data, .data, .data, .sentinel, .sentinel], laidTests := true, laidLooks := .later }
def MarathonsStayCardSaid : Prop := Claim7.holds Tryz.pinned (.plain (OpenSpec.ofChange marathonsStaySpec)) marathonsStayCard

/-- THE TIED CARD OF 'splitkeep2.RulesStay'. -/
def rulesStayCard : Claim7 := { stood := { row := rulesStayRow, standIns := [], harness := (true, "a5335ecba453d2eb7442c8d39f663bcabbfc674f1a8431d58502cf95508c7901"), looks := true }, kinds := [], alts := [], laidByText := true, laidKinds := [.data, .data, .data, .data, .sentinel, .sentinel, .pinned], laidTests := true, laidLooks := .later }
def RulesStayCardSaid : Prop := Claim7.holds Tryz.pinned (.plain (OpenSpec.ofChange rulesStaySpec)) rulesStayCard

/-- THE SECOND FORM's CARD OF 'splitkeep2.RacesEnd'. -/
def racesEndUptoCard : Claim7 := { stood := { row := racesEndUptoRow, standIns := [], harness := (true, "a5335ecba453d2eb7442c8d39f663bcabbfc674f1a8431d58502cf95508c7901"), looks := true }, kinds := [], alts := [], laidByText := true, laidKinds := [.data, .data, .data, .sentinel, .sentinel], laidTests := true, laidLooks := .later }
def RacesEndUptoCardSaid : Prop := Claim7.holds Tryz.pinned (.plain (OpenSpec.upto racesEndSpec)) racesEndUptoCard

/-- THE SECOND FORM's CARD OF 'splitkeep2.MarathonsStay'. -/
def marathonsStayUptoCard : Claim7 := { stood := { row := marathonsStayUptoRow, standIns := [], harness := (true, "a5335ecba453d2eb7442c8d39f663bcabbfc674f1a8431d58502cf95508c7901"), looks := true }, kinds := [], alts := [], laidByText := true, laidKinds := [.data, .data, .data, .sentinel, .sentinel], laidTests := true, laidLooks := .later }
def MarathonsStayUptoCardSaid : Prop := Claim7.holds Tryz.pinned (.plain (OpenSpec.upto marathonsStaySpec)) marathonsStayUptoCard

/-- THE SECOND FORM's CARD OF 'splitkeep2.RulesStay'. -/
def rulesStayUptoCard : Claim7 := { stood := { row := rulesStayUptoRow, standIns := [], harness := (true, "a5335ecba453d2eb7442c8d39f663bcabbfc674f1a8431d58502cf95508c7901"), looks := true }, kinds := [], alts := [], laidByText := true, laidKinds := [.data, .data, .data, .data, .sentinel, .sentinel, .pinned], laidTests := true, laidLooks := .later }
def RulesStayUptoCardSaid : Prop := Claim7.holds Tryz.pinned (.plain (OpenSpec.upto rulesStaySpec)) rulesStayUptoCard
end Rows
end Go.Proofs.YthbcogekfdllmaaGreatDoor
