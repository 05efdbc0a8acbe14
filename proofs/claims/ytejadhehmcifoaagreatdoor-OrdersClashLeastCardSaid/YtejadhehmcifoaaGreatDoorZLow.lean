/-
  Two laws that many texts want: cells set above a mark; where the first one lies. No Go text is named here.
-/
import Derived.Test.YtejadhehmcifoaaGreatDoorZSep
import Derived.Test.YtejadhehmcifoaaGreatDoorZLivePure
namespace Go.Proofs.YtejadhehmcifoaaGreatDoor
open Go Go.RowKit

theorem below_setCells {B g : Nat} {w : World} (hg : B ≤ g) : ∀ (vs : List Value) (o : Nat) (W : World), Below B w W → Below B w (W.setCells g o vs)
  | [], _, _, h => h
  | v :: r, o, _W, h => below_setCells hg r (o + 1) _ (h.setCell (p := ⟨g, o, none⟩) hg v)
theorem ixOf_split {α : Type} (p : α → Bool) : ∀ l : List α, (ixOf p l = -1 ∧ ∀ i (hi : i < l.length), p l[i] = false) ∨ (∃ k : Nat, ∃ hk : k < l.length, ixOf p l = k ∧ p l[k] = true ∧ ∀ i (hi : i < k), p (l[i]'(Nat.lt_trans hi hk)) = false)
  | [] => .inl ⟨rfl, by intro i hi; simp at hi⟩
  | a :: l => by
    cases hp : p a
    · rcases ixOf_split p l with ⟨h1, h2⟩ | ⟨k, hk, h1, h2, h3⟩
      · refine .inl ⟨ixOf_no p _ (fun i hi => ?_), fun i hi => ?_⟩
        all_goals
          cases i with
          | zero => exact hp
          | succ i => exact h2 i (by simpa using hi)
      · refine .inr ⟨k + 1, by simpa using hk, ?_, by simpa using h2, ?_⟩
        · refine ixOf_at p (a :: l) (k + 1) (by simpa using hk) (fun i hi => ?_) (by simpa using h2)
          cases i with
          | zero => exact hp
          | succ i => exact h3 i (by omega)
        · intro i hi
          cases i with
          | zero => exact hp
          | succ i => exact h3 i (by omega)
    · exact .inr ⟨0, by simp, ixOf_at p (a :: l) 0 (by simp) (by intro i hi; omega) hp, hp, by intro i hi; omega⟩
end Go.Proofs.YtejadhehmcifoaaGreatDoor
