/-
  The stream's Segments by a contract; an own list that is cut short.
-/
import Derived.Test.YtmngnmffmohhcaaGreatDoorZPrsPure
import Derived.Test.YtmngnmffmohhcaaGreatDoorZSep
namespace Go.Proofs.YtmngnmffmohhcaaGreatDoor
open Go Go.RowKit

theorem own_short {w : World} {base : Nat} {e : TypeId} {size n k c : Nat} {A : Option Addr} {xs : List Value} (h : w.ownsRow base e size (.slice A n c) n xs) (hk : k ≤ n) (hA : A ≠ none) : w.ownsRow base e size (.slice A k c) k (xs.take (k * size)) := by
  have h1 := h.1
  refine ⟨?_, ?_⟩
  · rw [List.length_take, h1]
    exact Nat.min_eq_left (Nat.mul_le_mul_right _ hk)
  · rcases h.2 with ⟨he, _⟩ | ⟨g, cap, cur, he, hb, hg, h2, h3, h4, h5⟩
    · injection he with he _ _
      exact absurd he hA
    · injection he with he1 he2 he3
      subst he1 he3
      refine .inr ⟨g, c, cur, rfl, hb, hg, Nat.le_trans hk h2, h3, h4, ?_⟩
      rw [← h5, List.take_take, Nat.min_eq_left (Nat.mul_le_mul_right _ hk)]
end Go.Proofs.YtmngnmffmohhcaaGreatDoor
