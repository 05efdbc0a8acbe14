/-
  slices.Equal of games: true of the same games.
-/
import Derived.Test.YtejadhehmcifoaaGreatDoorZBrkPure
import Derived.Test.YtejadhehmcifoaaGreatDoorZBrk2
import Derived.BigQuiet
import Derived.ChangeKeysEq
namespace Go.Proofs.YtejadhehmcifoaaGreatDoor
open Go Go.RowKit

theorem neq_gm (a b : ByteArray) (w : World) : (binOp .neq 32 (.agg #[.string a, .string b]) (.agg #[.string a, .string b])).run Tryz.prog w = .ok (.bool false) w := by
  have h : Tryz.prog.underlying 32 = some (.array 2 9) := Tryz.underlying32
  obtain ⟨i0, hi, _, _, _⟩ := info_parts (show (Tryz.prog.info? 9).map (fun i => (i.zero, i.size, i.bytes)) = some (some (.string ⟨#[]⟩), 1, 16) by kernel_rfl)
  have e := run_equalIn_array (P := Tryz.prog) w 9999 (t := 32) (e := 9) (n := 2) (i := i0) #[.string a, .string b] #[.string a, .string b] h hi
  have hc : Tryz.prog.cellsOf 9 = 1 := by kernel_rfl
  simp [go_sem]
  rw [e, hc]
  simp [Op.eqItems, List.range_succ, go_sem]
attribute [local go_sem ↓ high] neq_gm
end Go.Proofs.YtejadhehmcifoaaGreatDoor
