/-
  DERIVED. GIVEN WITH THE SEED: THE CARDS: each row of YtipbhgefcmekpaaGreatDoorRows.lean that lists a variable, with what it lists TIED to the program's text (the seventh form; the later family's looks); each row that meets fmt, with fmt's text TOLD by the authors' own Lean function (tested against real Go, not proved from fmt's source: count such statements apart). THE CARD IS WHAT COUNTS. Prove the row's statement (the work); the ties are given (YtipbhgefcmekpaaGreatDoorTie.lean); close each card by the builder's one call (the guide's Derived/Test/ToyasCard.lean, 'card_holds'). Laid BY PROGRAM, IN A SANDBOX (cutbox-door.mjs). By AI agents, Wed Nov 11 2026. No macro, syntax, notation, axiom, sorry.
-/
import Derived.Test.YtipbhgefcmekpaaGreatDoorRows
import GoSem.ClaimSeven
namespace Go.Proofs.YtipbhgefcmekpaaGreatDoor
namespace Rows

/-- THE TIED CARD OF 'splitkeep2.TimesComeBack'. -/
def timesComeBackCard : Claim7 := { stood := { row := timesComeBackRow, standIns := [], harness := (true, "1daf9e62cd31103e0c8915121e83976f0a349e1a6682cc8c0d76d82cb494422e"), looks := true }, kinds := [], alts := [], laidByText := true, laidKinds := [.data, .data, .data, .data, .sentinel, .sentinel, .pinned], laidTests := true, laidLooks := .later }
def TimesComeBackCardSaid : Prop := Claim7.holds Tryz.pinned (.plain (OpenSpec.ofChange timesComeBackSpec)) timesComeBackCard

/-- THE SECOND FORM's CARD OF 'splitkeep2.TimesComeBack'. -/
def timesComeBackUptoCard : Claim7 := { stood := { row := timesComeBackUptoRow, standIns := [], harness := (true, "1daf9e62cd31103e0c8915121e83976f0a349e1a6682cc8c0d76d82cb494422e"), looks := true }, kinds := [], alts := [], laidByText := true, laidKinds := [.data, .data, .data, .data, .sentinel, .sentinel, .pinned], laidTests := true, laidLooks := .later }
def TimesComeBackUptoCardSaid : Prop := Claim7.holds Tryz.pinned (.plain (OpenSpec.upto timesComeBackSpec)) timesComeBackUptoCard
end Rows
end Go.Proofs.YtipbhgefcmekpaaGreatDoor
