/-
  The closures of clashes and ClashesOf, and slices.ContainsFunc over names with each, by contracts. (Printed by gen_slot8.py.)
-/
import Derived.Test.YtohhbkodfidfkaaGreatZSlot7
import Derived.Test.YtohhbkodfidfkaaGreatZSlotPure
import Derived.Deep.RegionHeld3
import Derived.Deep.LoopGhost
import Derived.Deep.DeepCutAuto
namespace Go.Proofs.YtohhbkodfidfkaaGreat
open Go Go.RowKit


end Go.Proofs.YtohhbkodfidfkaaGreat
/-
  marathon.clashes and splitref2.ClashesOf by contracts: both answer clF. (Printed by gen_slot9.py.)
-/
namespace Go.Proofs.YtohhbkodfidfkaaGreat
open Go Go.RowKit
attribute [local go_sem ↓] Go.wp_at_zero Go.wp_at_succ

theorem one2 {x y : Value} (hx : x.oneCell' = true) (hy : y.oneCell' = true) : ∀ v ∈ [x, y], v.oneCell' = true := by
  intro v hv
  simp at hv
  rcases hv with rfl | rfl <;> assumption
theorem cast1 (q : Nat) : ((q + 1 : Nat) : Int) = (q : Int) + 1 := by omega
theorem clN (a b n : Nat) (ha : a ≤ n * n) (hb : b ≤ n) (hn : n ≤ 1000) : a + b + 1 ≤ 1001001 := by
  have : n * n ≤ 1000 * 1000 := Nat.mul_le_mul hn hn
  omega
theorem clTo_le (xs : List Slt) (rest : Int) (k n : Nat) (hk : k ≤ n) (hl : xs.length = n) : (clTo xs rest k).length ≤ n * n := by
  have := clTo_len xs rest k
  rw [hl] at this
  exact Nat.le_trans this (Nat.mul_le_mul_right _ hk)

end Go.Proofs.YtohhbkodfidfkaaGreat
