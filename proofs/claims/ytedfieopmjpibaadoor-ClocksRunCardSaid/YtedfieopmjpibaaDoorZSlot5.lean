/-
  marathon.timetable and splitref2.PlacesOf by contracts: both answer placesF. (Printed by gen_slot5.py.)
-/
import Derived.Test.YtedfieopmjpibaaDoorZSlot4
import Derived.Test.YtedfieopmjpibaaDoorZBs
namespace Go.Proofs.YtedfieopmjpibaaDoor
open Go Go.RowKit
attribute [local go_sem ↓] Go.wp_at_zero Go.wp_at_succ

theorem one4 {x y z u : Value} (hx : x.oneCell' = true) (hy : y.oneCell' = true) (hz : z.oneCell' = true) (hu : u.oneCell' = true) : ∀ v ∈ [x, y, z, u], v.oneCell' = true := by
  intro v hv
  simp at hv
  rcases hv with rfl | rfl | rfl | rfl <;> assumption
theorem own_at {v : Value} {g n c H : Nat} (h : v.ownBlock = some g ∨ g = H) : (Value.slice (some ⟨g, 0, none⟩) n c).ownBlock = v.ownBlock ∨ (Value.slice (some ⟨g, 0, none⟩) n c).ownBlock = some H := by
  rcases h with h | rfl
  · exact .inl h.symm
  · exact .inr rfl
end Go.Proofs.YtedfieopmjpibaaDoor
