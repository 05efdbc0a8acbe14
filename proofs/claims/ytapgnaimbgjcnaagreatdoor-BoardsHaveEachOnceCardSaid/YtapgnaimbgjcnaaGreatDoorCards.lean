/-
  DERIVED. GIVEN WITH THE SEED: THE CARDS: each row of YtapgnaimbgjcnaaGreatDoorRows.lean that lists a variable, with what it lists TIED to the program's text (the seventh form; the later family's looks); each row that meets fmt, with fmt's text TOLD by the authors' own Lean function (tested against real Go, not proved from fmt's source: count such statements apart). THE CARD IS WHAT COUNTS. Prove the row's statement (the work); the ties are given (YtapgnaimbgjcnaaGreatDoorTie.lean); close each card by the builder's one call (the guide's Derived/Test/ToyasCard.lean, 'card_holds'). Laid BY PROGRAM, IN A SANDBOX (cutbox-door.mjs). By AI agents, Wed Nov 11 2026. No macro, syntax, notation, axiom, sorry.
-/
import Derived.Test.YtapgnaimbgjcnaaGreatDoorRows
import GoSem.ClaimSeven
namespace Go.Proofs.YtapgnaimbgjcnaaGreatDoor
namespace Rows

/-- THE TIED CARD OF 'splitlaw2.RecordsReign'. -/
def recordsReignCard : Claim7 := { stood := { row := recordsReignRow, standIns := [], harness := (true, "9a4cbbba8f0e1466e615c2b0c17e34ab305e3f18e4f56a0b34fc2788da90ad5b"), looks := true }, kinds := [], alts := [], laidByText := true, laidKinds := [.data, .data, .data], laidTests := true, laidLooks := .later }
def RecordsReignCardSaid : Prop := Claim7.holds Tryz.pinned (.plain (OpenSpec.ofChange recordsReignSpec)) recordsReignCard

/-- THE TIED CARD OF 'splitlaw2.BoardsPay'. -/
def boardsPayCard : Claim7 := { stood := { row := boardsPayRow, standIns := [], harness := (true, "9a4cbbba8f0e1466e615c2b0c17e34ab305e3f18e4f56a0b34fc2788da90ad5b"), looks := true }, kinds := [], alts := [], laidByText := true, laidKinds := [.data, .data, .data], laidTests := true, laidLooks := .later }
def BoardsPayCardSaid : Prop := Claim7.holds Tryz.pinned (.plain (OpenSpec.ofChange boardsPaySpec)) boardsPayCard

/-- THE TIED CARD OF 'splitkeep2.BansEnd'. -/
def bansEndCard : Claim7 := { stood := { row := bansEndRow, standIns := [], harness := (true, "9a4cbbba8f0e1466e615c2b0c17e34ab305e3f18e4f56a0b34fc2788da90ad5b"), looks := true }, kinds := [], alts := [], laidByText := true, laidKinds := [.data, .data, .data, .sentinel, .sentinel], laidTests := true, laidLooks := .later }
def BansEndCardSaid : Prop := Claim7.holds Tryz.pinned (.plain (OpenSpec.ofChange bansEndSpec)) bansEndCard

/-- THE TIED CARD OF 'splitkeep2.BoardsHaveEachOnce'. -/
def boardsHaveEachOnceCard : Claim7 := { stood := { row := boardsHaveEachOnceRow, standIns := [], harness := (true, "9a4cbbba8f0e1466e615c2b0c17e34ab305e3f18e4f56a0b34fc2788da90ad5b"), looks := true }, kinds := [], alts := [], laidByText := true, laidKinds := [.data, .data, .data, .sentinel, .sentinel], laidTests := true, laidLooks := .later }
def BoardsHaveEachOnceCardSaid : Prop := Claim7.holds Tryz.pinned (.plain (OpenSpec.ofChange boardsHaveEachOnceSpec)) boardsHaveEachOnceCard

/-- THE TIED CARD OF 'splitkeep2.RecordsFall'. -/
def recordsFallCard : Claim7 := { stood := { row := recordsFallRow, standIns := [], harness := (true, "9a4cbbba8f0e1466e615c2b0c17e34ab305e3f18e4f56a0b34fc2788da90ad5b"), looks := true }, kinds := [], alts := [], laidByText := true, laidKinds := [.data, .data, .data, .sentinel, .sentinel], laidTests := true, laidLooks := .later }
def RecordsFallCardSaid : Prop := Claim7.holds Tryz.pinned (.plain (OpenSpec.ofChange recordsFallSpec)) recordsFallCard

/-- THE SECOND FORM's CARD OF 'splitlaw2.RecordsReign'. -/
def recordsReignUptoCard : Claim7 := { stood := { row := recordsReignUptoRow, standIns := [], harness := (true, "9a4cbbba8f0e1466e615c2b0c17e34ab305e3f18e4f56a0b34fc2788da90ad5b"), looks := true }, kinds := [], alts := [], laidByText := true, laidKinds := [.data, .data, .data], laidTests := true, laidLooks := .later }
def RecordsReignUptoCardSaid : Prop := Claim7.holds Tryz.pinned (.plain (OpenSpec.upto recordsReignSpec)) recordsReignUptoCard

/-- THE SECOND FORM's CARD OF 'splitlaw2.BoardsPay'. -/
def boardsPayUptoCard : Claim7 := { stood := { row := boardsPayUptoRow, standIns := [], harness := (true, "9a4cbbba8f0e1466e615c2b0c17e34ab305e3f18e4f56a0b34fc2788da90ad5b"), looks := true }, kinds := [], alts := [], laidByText := true, laidKinds := [.data, .data, .data], laidTests := true, laidLooks := .later }
def BoardsPayUptoCardSaid : Prop := Claim7.holds Tryz.pinned (.plain (OpenSpec.upto boardsPaySpec)) boardsPayUptoCard

/-- THE SECOND FORM's CARD OF 'splitkeep2.BansEnd'. -/
def bansEndUptoCard : Claim7 := { stood := { row := bansEndUptoRow, standIns := [], harness := (true, "9a4cbbba8f0e1466e615c2b0c17e34ab305e3f18e4f56a0b34fc2788da90ad5b"), looks := true }, kinds := [], alts := [], laidByText := true, laidKinds := [.data, .data, .data, .sentinel, .sentinel], laidTests := true, laidLooks := .later }
def BansEndUptoCardSaid : Prop := Claim7.holds Tryz.pinned (.plain (OpenSpec.upto bansEndSpec)) bansEndUptoCard

/-- THE SECOND FORM's CARD OF 'splitkeep2.BoardsHaveEachOnce'. -/
def boardsHaveEachOnceUptoCard : Claim7 := { stood := { row := boardsHaveEachOnceUptoRow, standIns := [], harness := (true, "9a4cbbba8f0e1466e615c2b0c17e34ab305e3f18e4f56a0b34fc2788da90ad5b"), looks := true }, kinds := [], alts := [], laidByText := true, laidKinds := [.data, .data, .data, .sentinel, .sentinel], laidTests := true, laidLooks := .later }
def BoardsHaveEachOnceUptoCardSaid : Prop := Claim7.holds Tryz.pinned (.plain (OpenSpec.upto boardsHaveEachOnceSpec)) boardsHaveEachOnceUptoCard

/-- THE SECOND FORM's CARD OF 'splitkeep2.RecordsFall'. -/
def recordsFallUptoCard : Claim7 := { stood := { row := recordsFallUptoRow, standIns := [], harness := (true, "9a4cbbba8f0e1466e615c2b0c17e34ab305e3f18e4f56a0b34fc2788da90ad5b"), looks := true }, kinds := [], alts := [], laidByText := true, laidKinds := [.data, .data, .data, .sentinel, .sentinel], laidTests := true, laidLooks := .later }
def RecordsFallUptoCardSaid : Prop := Claim7.holds Tryz.pinned (.plain (OpenSpec.upto recordsFallSpec)) recordsFallUptoCard
end Rows
end Go.Proofs.YtapgnaimbgjcnaaGreatDoor
