/-
  Presses as values: what a new one takes, and lists of them in cells.
-/
import Derived.Test.YtaendemgkabdfaaGreatDoorZPrs1
namespace Go.Proofs.YtaendemgkabdfaaGreatDoor
open Go Go.RowKit

theorem one2p {x y : Value} (hx : x.oneCell' = true) (hy : y.oneCell' = true) : ∀ u ∈ [x, y], u.oneCell' = true := by
  intro u hu
  simp at hu
  rcases hu with rfl | rfl <;> assumption
theorem flat_pz (l : List Pz) (p : Pz) : (l ++ [p]).flatMap pzC = l.flatMap pzC ++ pzC p := flat_snoc pzC l p
end Go.Proofs.YtaendemgkabdfaaGreatDoor
