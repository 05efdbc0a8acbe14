/-
  Aways of the stream by a contract. (Printed by gen_slot14.py.)
-/
import Derived.Test.YtohhbkodfidfkaaGreatZSlot12
import Derived.Test.YtohhbkodfidfkaaGreatZSlotPure
import Derived.Test.YtohhbkodfidfkaaGreatZSlot8
namespace Go.Proofs.YtohhbkodfidfkaaGreat
open Go Go.RowKit
attribute [local go_sem ↓] Go.wp_at_zero Go.wp_at_succ

def PrOks (ps : List Pr) : Prop := ∀ p ∈ ps, PrOk p
theorem PrOks.snoc {ps : List Pr} {p : Pr} (h : PrOks ps) (hp : PrOk p) : PrOks (ps ++ [p]) := by
  intro y hy
  rcases List.mem_append.1 hy with hy | hy
  · exact h y hy
  · simp at hy; subst hy; exact hp
end Go.Proofs.YtohhbkodfidfkaaGreat
