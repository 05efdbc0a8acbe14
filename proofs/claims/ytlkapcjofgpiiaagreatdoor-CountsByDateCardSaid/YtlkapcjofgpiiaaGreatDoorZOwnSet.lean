/-
  Cells stored into a row of the call's own; a shorter slice of it; append to a slice without room. No Go text is named here.
-/
import Derived.Test.YtlkapcjofgpiiaaGreatDoorZSq
import Derived.ArgAppend
import Derived.RegionTactic
namespace Go.Proofs.YtlkapcjofgpiiaaGreatDoor
open Go Go.RowKit

theorem own_short {w : World} {base : Nat} {e : TypeId} {size n k c : Nat} {A : Option Addr} {xs : List Value} (h : w.ownsRow base e size (.slice A n c) n xs) (hk : k ≤ n) (hA : A ≠ none) : w.ownsRow base e size (.slice A k c) k (xs.take (k * size)) := by
  have h1 := h.1
  refine ⟨?_, ?_⟩
  · rw [List.length_take, h1]
    exact Nat.min_eq_left (Nat.mul_le_mul_right _ hk)
  · rcases h.2 with ⟨he, _⟩ | ⟨g, cap, cur, he, hb, hg, h2, h3, h4, h5⟩
    · injection he with he _ _
      exact absurd he hA
    · injection he with he1 he2 he3
      subst he1 he3
      refine .inr ⟨g, c, cur, rfl, hb, hg, Nat.le_trans hk h2, h3, h4, ?_⟩
      rw [← h5, List.take_take, Nat.min_eq_left (Nat.mul_le_mul_right _ hk)]

section
variable {w W : World} {l : List Rsc}
theorem Sq.short {base : Nat} {e : TypeId} {size n k g c : Nat} {xs : List Value} (h : Sq w W (rOwn base e size (.slice (some ⟨g, 0, none⟩) n c) n xs :: l)) (hk : k ≤ n) : Sq w W (rOwn base e size (.slice (some ⟨g, 0, none⟩) k c) k (xs.take (k * size)) :: l) :=
  h.turn (row := none) (World.grownBy.refl W _) (fun _ hk => by cases hk) (own_short h.head hk (by simp)) (rOwn_ok _ _ _ _ _ _) (fun q hq => ⟨.inl hq, (h.hp.new _ (List.mem_cons_self ..) q hq).2⟩)
end

end Go.Proofs.YtlkapcjofgpiiaaGreatDoor
