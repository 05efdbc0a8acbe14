/-
  marathon.Drop by a contract.
-/
import Derived.Test.YtejadhehmcifoaaGreatDoorZDrpPure
import Derived.Test.YtejadhehmcifoaaGreatDoorZSlot5
import Derived.Test.YtejadhehmcifoaaGreatDoorZSlot1
import Derived.Test.YtejadhehmcifoaaGreatDoorZLow
import Derived.Deep.DeepCutAuto
import Derived.Deep.RegionHeld3
import Derived.RegionTactic
import Derived.ChangeAlike
import Derived.BigRegion
namespace Go.Proofs.YtejadhehmcifoaaGreatDoor
open Go Go.RowKit
attribute [local go_sem ↓] Go.wp_at_zero Go.wp_at_succ

theorem info_int3 : (Tryz.prog.info? 3).map (fun i => (i.zero, i.size, i.bytes)) = some (some (.int .i64 0), 1, 8) := by kernel_rfl
theorem info_str3 : (Tryz.prog.info? 9).map (fun i => (i.zero, i.size, i.bytes)) = some (some (.string ⟨#[]⟩), 1, 16) := by kernel_rfl
/-- strings in new memory, and what is wrong -/
def DropS (L : List ByteArray) (E : Int) (w : World) (e : Ending) (w' : World) : Prop :=
  ∃ v, e = .returned (.tuple #[v, .int .i64 E]) ∧ w'.ownsRow w.heap.size 9 1 v L.length (strsV L) ∧ Below w.heap.size w w'
theorem DropS.bad {E : Int} {w w' : World} (h : Below w.heap.size w w') : DropS [] E w (.returned (.tuple #[.slice none 0 0, .int .i64 E])) w' := ⟨_, rfl, World.ownsRow_nil _ _ _ _, h⟩

end Go.Proofs.YtejadhehmcifoaaGreatDoor
