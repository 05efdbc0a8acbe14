/-
  How numbers of rules are read: base.Number and the reference's Number as one function.
-/
import Derived.Test.YtfmljboogkhobaaGreatDoorZTxt1
import Derived.Test.YtfmljboogkhobaaGreatDoorZFits
import Derived.Test.YtfmljboogkhobaaGreatDoorZRulPure
namespace Go.Proofs.YtfmljboogkhobaaGreatDoor
open Go Go.RowKit TxtP

def numF (x : ByteArray) : Int × Bool := (if numB x.data.toList 9 = true then numI x.data.toList else 0, numB x.data.toList 9)
theorem numF_c : NumC numF := fun x W hx => number_calls x 9 (by decide) W (by unfold maxLen; omega)
theorem numF_qc : NumQC numF := fun x W hx ht => (numberQ_calls x 9 (by decide) W (by unfold maxLen; omega) ht).mono (fun e w' ⟨v, he, hv, hb⟩ => by
  obtain ⟨z, _, _, rfl, hz⟩ := hv
  exact ⟨z, he, fun h => by
    have h : numB x.data.toList 9 = true := h
    show z = if numB x.data.toList 9 = true then numI x.data.toList else 0
    rw [if_pos h]
    exact hz h, hb⟩)
theorem numF_body {x : ByteArray} (h : (numF x).2 = true) : body x.data.toList ≠ [] ∧ (body x.data.toList).length ≤ 9 ∧ (body x.data.toList).all isDig = true := by
  have h : numB x.data.toList 9 = true := h
  obtain ⟨a, b, c, _⟩ := numB_iff.1 h
  exact ⟨a, b, c⟩
theorem numF_ok : NumOk numF := by
  intro x h
  obtain ⟨a, b, c⟩ := numF_body h
  refine ⟨fun e => ?_, fun e => ?_, fun e => ?_⟩
  · rw [ba_nil e] at a; exact a rfl
  · rw [e] at c; exact absurd c (by decide)
  · rw [e] at c; exact absurd c (by decide)
theorem numF_z : NumZ numF := by
  intro x h
  obtain ⟨a, b, c⟩ := numF_body h
  have := (body_len x.data.toList).2
  have e : x.data.toList.length = x.size := by simp
  omega
end Go.Proofs.YtfmljboogkhobaaGreatDoor
