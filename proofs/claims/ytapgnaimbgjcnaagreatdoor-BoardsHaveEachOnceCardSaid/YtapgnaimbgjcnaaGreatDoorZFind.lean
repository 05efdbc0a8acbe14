/-
  race.find and splitref2.ratedAt by contracts: both answer findR: the place of somebody in a list, or -1.
-/
import Derived.Test.YtapgnaimbgjcnaaGreatDoorZFlat
namespace Go.Proofs.YtapgnaimbgjcnaaGreatDoor
open Go Go.RowKit
def ixOf {α : Type} (p : α → Bool) : List α → Int
 | [] => -1
 | a :: l => if p a = true then 0 else if ixOf p l = -1 then -1 else ixOf p l + 1
theorem ixOf_ge {α : Type} (p : α → Bool) : ∀ l : List α, -1 ≤ ixOf p l ∧ ixOf p l < l.length
 | [] => by simp [ixOf]
 | a :: l => by
   have := ixOf_ge p l
   unfold ixOf
   simp only [List.length_cons]
   split
   · omega
   · split <;> omega
theorem ixOf_at {α : Type} (p : α → Bool) : ∀ (l : List α) (k : Nat) (hk : k < l.length), (∀ i (hi : i < k), p (l[i]'(Nat.lt_trans hi hk)) = false) → p l[k] = true → ixOf p l = k
 | a :: l, 0, hk, _, h => by simp only [List.getElem_cons_zero] at h; simp [ixOf, h]
 | a :: l, k + 1, hk, h0, h => by
   have ha := h0 0 (by omega)
   simp only [List.getElem_cons_zero] at ha
   simp only [List.getElem_cons_succ] at h
   have := ixOf_at p l k (by simpa using hk) (fun i hi => by have := h0 (i + 1) (by omega); simpa using this) h
   simp only [ixOf, ha, this]
   first | (simp; done) | (simp; omega)
theorem ixOf_no {α : Type} (p : α → Bool) : ∀ (l : List α), (∀ i (hi : i < l.length), p l[i] = false) → ixOf p l = -1
 | [], _ => rfl
 | a :: l, h => by
   have ha := h 0 (by simp)
   simp only [List.getElem_cons_zero] at ha
   have := ixOf_no p l (fun i hi => by have := h (i + 1) (by simpa using hi); simpa using this)
   simp [ixOf, ha, this]
def eqS (a b : ByteArray) : Bool := a.toList == b.toList
end Go.Proofs.YtapgnaimbgjcnaaGreatDoor
