/-
  DERIVED. GIVEN WITH THE SEED: THE CARDS: each row of YtlkapcjofgpiiaaGreatDoorRows.lean that lists a variable, with what it lists TIED to the program's text (the seventh form; the later family's looks); each row that meets fmt, with fmt's text TOLD by the authors' own Lean function (tested against real Go, not proved from fmt's source: count such statements apart). THE CARD IS WHAT COUNTS. Prove the row's statement (the work); the ties are given (YtlkapcjofgpiiaaGreatDoorTie.lean); close each card by the builder's one call (the guide's Derived/Test/ToyasCard.lean, 'card_holds'). Laid BY PROGRAM, IN A SANDBOX (cutbox-door.mjs). By AI agents, Wed Nov 11 2026. No macro, syntax, notation, axiom, sorry.
-/
import Derived.Test.YtlkapcjofgpiiaaGreatDoorRows
import GoSem.ClaimSeven
namespace Go.Proofs.YtlkapcjofgpiiaaGreatDoor
namespace Rows

/-- THE TIED CARD OF 'splitkeep2.CountsByDate'. -/
def countsByDateCard : Claim7 := { stood := { row := countsByDateRow, standIns := [], harness := (true, "a2626e5aed12a5b4056b865e83f4a76f2f6b6c449cce10ab6d1c989cfb78a007"), looks := true }, kinds := [], alts := [], laidByText := true, laidKinds := [.data, .data, .data, .sentinel, .sentinel], laidTests := true, laidLooks := .later }
def CountsByDateCardSaid : Prop := Claim7.holds Tryz.pinned (.plain (OpenSpec.ofChange countsByDateSpec)) countsByDateCard

/-- THE TIED CARD OF 'splitlaw2.VersionsCount'. -/
def versionsCountCard : Claim7 := { stood := { row := versionsCountRow, standIns := [], harness := (true, "a2626e5aed12a5b4056b865e83f4a76f2f6b6c449cce10ab6d1c989cfb78a007"), looks := true }, kinds := [], alts := [], laidByText := true, laidKinds := [.data, .data, .data, .data, .sentinel, .sentinel, .pinned], laidTests := true, laidLooks := .later }
def VersionsCountCardSaid : Prop := Claim7.holds Tryz.pinned (.plain (OpenSpec.ofChange versionsCountSpec)) versionsCountCard

/-- THE SECOND FORM's CARD OF 'splitkeep2.CountsByDate'. -/
def countsByDateUptoCard : Claim7 := { stood := { row := countsByDateUptoRow, standIns := [], harness := (true, "a2626e5aed12a5b4056b865e83f4a76f2f6b6c449cce10ab6d1c989cfb78a007"), looks := true }, kinds := [], alts := [], laidByText := true, laidKinds := [.data, .data, .data, .sentinel, .sentinel], laidTests := true, laidLooks := .later }
def CountsByDateUptoCardSaid : Prop := Claim7.holds Tryz.pinned (.plain (OpenSpec.upto countsByDateSpec)) countsByDateUptoCard

/-- THE SECOND FORM's CARD OF 'splitlaw2.VersionsCount'. -/
def versionsCountUptoCard : Claim7 := { stood := { row := versionsCountUptoRow, standIns := [], harness := (true, "a2626e5aed12a5b4056b865e83f4a76f2f6b6c449cce10ab6d1c989cfb78a007"), looks := true }, kinds := [], alts := [], laidByText := true, laidKinds := [.data, .data, .data, .data, .sentinel, .sentinel, .pinned], laidTests := true, laidLooks := .later }
def VersionsCountUptoCardSaid : Prop := Claim7.holds Tryz.pinned (.plain (OpenSpec.upto versionsCountSpec)) versionsCountUptoCard
end Rows
end Go.Proofs.YtlkapcjofgpiiaaGreatDoor
