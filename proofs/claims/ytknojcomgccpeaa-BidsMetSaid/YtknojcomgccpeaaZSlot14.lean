/-
  Aways of the stream by a contract. (Printed by gen_slot14.py.)
-/
import Derived.Test.YtknojcomgccpeaaZSlot12
import Derived.Test.YtknojcomgccpeaaZSlotPure
import Derived.Test.YtknojcomgccpeaaZSlot8
namespace Go.Proofs.Ytknojcomgccpeaa
open Go Go.RowKit
attribute [local go_sem ↓] Go.wp_at_zero Go.wp_at_succ

def PrOks (ps : List Pr) : Prop := ∀ p ∈ ps, PrOk p
theorem PrOks.snoc {ps : List Pr} {p : Pr} (h : PrOks ps) (hp : PrOk p) : PrOks (ps ++ [p]) := by
  intro y hy
  rcases List.mem_append.1 hy with hy | hy
  · exact h y hy
  · simp at hy; subst hy; exact hp
/-- pairs in new memory, drawn -/
def AwaysS (b K m : Nat) (w : World) (e : Ending) (w' : World) : Prop :=
  ∃ (v : Value) (ps : List Pr), e = .returned v ∧ ps.length ≤ m ∧ PrOks ps ∧ Sp w b K w' [rOwn w.heap.size 63 2 v ps.length (ps.flatMap prC)]

end Go.Proofs.Ytknojcomgccpeaa
