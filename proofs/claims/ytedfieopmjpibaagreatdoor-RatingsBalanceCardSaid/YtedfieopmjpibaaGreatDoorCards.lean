/-
  DERIVED. GIVEN WITH THE SEED: THE CARDS: each row of YtedfieopmjpibaaGreatDoorRows.lean that lists a variable, with what it lists TIED to the program's text (the seventh form; the later family's looks); each row that meets fmt, with fmt's text TOLD by the authors' own Lean function (tested against real Go, not proved from fmt's source: count such statements apart). THE CARD IS WHAT COUNTS. Prove the row's statement (the work); the ties are given (YtedfieopmjpibaaGreatDoorTie.lean); close each card by the builder's one call (the guide's Derived/Test/ToyasCard.lean, 'card_holds'). Laid BY PROGRAM, IN A SANDBOX (cutbox-door.mjs). By AI agents, Wed Nov 11 2026. No macro, syntax, notation, axiom, sorry.
-/
import Derived.Test.YtedfieopmjpibaaGreatDoorRows
import GoSem.ClaimSeven
namespace Go.Proofs.YtedfieopmjpibaaGreatDoor
namespace Rows

/-- THE TIED CARD OF 'splitkeep2.FramesComeBack'. -/
def framesComeBackCard : Claim7 := { stood := { row := framesComeBackRow, standIns := [], harness := (true, "9f63c6f10df901ad99c6b5d5c4c1dbade3c69dd7e27415548150df5bc77a4048"), looks := true }, kinds := [], alts := [], laidByText := true, laidKinds := [.data, .data, .data, .sentinel, .sentinel], laidTests := true, laidLooks := .later }
def FramesComeBackCardSaid : Prop := Claim7.holds Tryz.pinned (.plain (OpenSpec.ofChange framesComeBackSpec)) framesComeBackCard

/-- THE TIED CARD OF 'splitkeep2.RatingsBalance'. -/
def ratingsBalanceCard : Claim7 := { stood := { row := ratingsBalanceRow, standIns := [], harness := (true, "9f63c6f10df901ad99c6b5d5c4c1dbade3c69dd7e27415548150df5bc77a4048"), looks := true }, kinds := [], alts := [], laidByText := true, laidKinds := [.data, .data, .data, .sentinel, .sentinel], laidTests := true, laidLooks := .later }
def RatingsBalanceCardSaid : Prop := Claim7.holds Tryz.pinned (.plain (OpenSpec.ofChange ratingsBalanceSpec)) ratingsBalanceCard

/-- THE TIED CARD OF 'splitkeep2.SlotsFollow'. -/
def slotsFollowCard : Claim7 := { stood := { row := slotsFollowRow, standIns := [], harness := (true, "9f63c6f10df901ad99c6b5d5c4c1dbade3c69dd7e27415548150df5bc77a4048"), looks := true }, kinds := [], alts := [], laidByText := true, laidKinds := [.data, .data, .data, .sentinel, .sentinel], laidTests := true, laidLooks := .later }
def SlotsFollowCardSaid : Prop := Claim7.holds Tryz.pinned (.plain (OpenSpec.ofChange slotsFollowSpec)) slotsFollowCard

/-- THE SECOND FORM's CARD OF 'splitkeep2.FramesComeBack'. -/
def framesComeBackUptoCard : Claim7 := { stood := { row := framesComeBackUptoRow, standIns := [], harness := (true, "9f63c6f10df901ad99c6b5d5c4c1dbade3c69dd7e27415548150df5bc77a4048"), looks := true }, kinds := [], alts := [], laidByText := true, laidKinds := [.data, .data, .data, .sentinel, .sentinel], laidTests := true, laidLooks := .later }
def FramesComeBackUptoCardSaid : Prop := Claim7.holds Tryz.pinned (.plain (OpenSpec.upto framesComeBackSpec)) framesComeBackUptoCard

/-- THE SECOND FORM's CARD OF 'splitkeep2.RatingsBalance'. -/
def ratingsBalanceUptoCard : Claim7 := { stood := { row := ratingsBalanceUptoRow, standIns := [], harness := (true, "9f63c6f10df901ad99c6b5d5c4c1dbade3c69dd7e27415548150df5bc77a4048"), looks := true }, kinds := [], alts := [], laidByText := true, laidKinds := [.data, .data, .data, .sentinel, .sentinel], laidTests := true, laidLooks := .later }
def RatingsBalanceUptoCardSaid : Prop := Claim7.holds Tryz.pinned (.plain (OpenSpec.upto ratingsBalanceSpec)) ratingsBalanceUptoCard

/-- THE SECOND FORM's CARD OF 'splitkeep2.SlotsFollow'. -/
def slotsFollowUptoCard : Claim7 := { stood := { row := slotsFollowUptoRow, standIns := [], harness := (true, "9f63c6f10df901ad99c6b5d5c4c1dbade3c69dd7e27415548150df5bc77a4048"), looks := true }, kinds := [], alts := [], laidByText := true, laidKinds := [.data, .data, .data, .sentinel, .sentinel], laidTests := true, laidLooks := .later }
def SlotsFollowUptoCardSaid : Prop := Claim7.holds Tryz.pinned (.plain (OpenSpec.upto slotsFollowSpec)) slotsFollowUptoCard
end Rows
end Go.Proofs.YtedfieopmjpibaaGreatDoor
