/-
  DERIVED. GIVEN WITH THE SEED: THE CARDS: each row of YtedfieopmjpibaaDoorRows.lean that lists a variable, with what it lists TIED to the program's text (the seventh form; the later family's looks); each row that meets fmt, with fmt's text TOLD by the authors' own Lean function (tested against real Go, not proved from fmt's source: count such statements apart). THE CARD IS WHAT COUNTS. Prove the row's statement (the work); the ties are given (YtedfieopmjpibaaDoorTie.lean); close each card by the builder's one call (the guide's Derived/Test/ToyasCard.lean, 'card_holds'). Laid BY PROGRAM, IN A SANDBOX (cutbox-door.mjs). By AI agents, Wed Nov 11 2026. No macro, syntax, notation, axiom, sorry.
-/
import Derived.Test.YtedfieopmjpibaaDoorRows
import GoSem.ClaimSeven
namespace Go.Proofs.YtedfieopmjpibaaDoor
namespace Rows

/-- THE TIED CARD OF 'splitlaw2.PressesFollowed'. -/
def pressesFollowedCard : Claim7 := { stood := { row := pressesFollowedRow, standIns := [], harness := (true, "727bd387caabe09fabf1bf3c490f849f9c38cb48a0224aaa0721569185d998fe"), looks := false }, kinds := [], alts := [], laidByText := true, laidKinds := [.data, .data, .data], laidTests := true, laidLooks := .later }
def PressesFollowedCardSaid : Prop := Claim7.holds Tryd.pinned (.plain (OpenSpec.ofChange pressesFollowedSpec)) pressesFollowedCard

/-- THE TIED CARD OF 'splitlaw2.ClocksRun'. -/
def clocksRunCard : Claim7 := { stood := { row := clocksRunRow, standIns := [], harness := (true, "727bd387caabe09fabf1bf3c490f849f9c38cb48a0224aaa0721569185d998fe"), looks := false }, kinds := [], alts := [], laidByText := true, laidKinds := [.data, .data, .data], laidTests := true, laidLooks := .later }
def ClocksRunCardSaid : Prop := Claim7.holds Tryd.pinned (.plain (OpenSpec.ofChange clocksRunSpec)) clocksRunCard

/-- THE SECOND FORM's CARD OF 'splitlaw2.PressesFollowed'. -/
def pressesFollowedUptoCard : Claim7 := { stood := { row := pressesFollowedUptoRow, standIns := [], harness := (true, "727bd387caabe09fabf1bf3c490f849f9c38cb48a0224aaa0721569185d998fe"), looks := false }, kinds := [], alts := [], laidByText := true, laidKinds := [.data, .data, .data], laidTests := true, laidLooks := .later }
def PressesFollowedUptoCardSaid : Prop := Claim7.holds Tryd.pinned (.plain (OpenSpec.upto pressesFollowedSpec)) pressesFollowedUptoCard

/-- THE SECOND FORM's CARD OF 'splitlaw2.ClocksRun'. -/
def clocksRunUptoCard : Claim7 := { stood := { row := clocksRunUptoRow, standIns := [], harness := (true, "727bd387caabe09fabf1bf3c490f849f9c38cb48a0224aaa0721569185d998fe"), looks := false }, kinds := [], alts := [], laidByText := true, laidKinds := [.data, .data, .data], laidTests := true, laidLooks := .later }
def ClocksRunUptoCardSaid : Prop := Claim7.holds Tryd.pinned (.plain (OpenSpec.upto clocksRunSpec)) clocksRunUptoCard
end Rows
end Go.Proofs.YtedfieopmjpibaaDoor
