/-
  DERIVED. GIVEN WITH THE SEED: THE CARDS: each row of YticbbehfphnbhaaDoorRows.lean that lists a variable, with what it lists TIED to the program's text (the seventh form; the later family's looks); each row that meets fmt, with fmt's text TOLD by the authors' own Lean function (tested against real Go, not proved from fmt's source: count such statements apart). THE CARD IS WHAT COUNTS. Prove the row's statement (the work); the ties are given (YticbbehfphnbhaaDoorTie.lean); close each card by the builder's one call (the guide's Derived/Test/ToyasCard.lean, 'card_holds'). Laid BY PROGRAM, IN A SANDBOX (cutbox-door.mjs). By AI agents, Wed Nov 11 2026. No macro, syntax, notation, axiom, sorry.
-/
import Derived.Test.YticbbehfphnbhaaDoorRows
import GoSem.ClaimSeven
namespace Go.Proofs.YticbbehfphnbhaaDoor
namespace Rows

/-- THE TIED CARD OF 'splitlaw2.TimesWritten'. -/
def timesWrittenCard : Claim7 := { stood := { row := timesWrittenRow, standIns := [], harness := (true, "a2e3dcefe94d0ab1181d3ebd84d6b47fe940d8e0649fba68b9a2e1276b067417"), looks := true }, kinds := [], alts := [], laidByText := true, laidKinds := [.data, .data, .data, .data, .sentinel, .sentinel, .pinned], laidTests := true, laidLooks := .later }
def TimesWrittenCardSaid : Prop := Claim7.holds Tryd.pinned (.plain (OpenSpec.ofChange timesWrittenSpec)) timesWrittenCard

/-- THE SECOND FORM's CARD OF 'splitlaw2.TimesWritten'. -/
def timesWrittenUptoCard : Claim7 := { stood := { row := timesWrittenUptoRow, standIns := [], harness := (true, "a2e3dcefe94d0ab1181d3ebd84d6b47fe940d8e0649fba68b9a2e1276b067417"), looks := true }, kinds := [], alts := [], laidByText := true, laidKinds := [.data, .data, .data, .data, .sentinel, .sentinel, .pinned], laidTests := true, laidLooks := .later }
def TimesWrittenUptoCardSaid : Prop := Claim7.holds Tryd.pinned (.plain (OpenSpec.upto timesWrittenSpec)) timesWrittenUptoCard
end Rows
end Go.Proofs.YticbbehfphnbhaaDoor
