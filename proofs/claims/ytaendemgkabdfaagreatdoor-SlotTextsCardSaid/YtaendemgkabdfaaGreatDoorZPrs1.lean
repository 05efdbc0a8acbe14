/-
  What is wrong with presses: CheckPresses, fault and their twins of the reference by contracts. (Printed by gen_prs1.py.)
-/
import Derived.Test.YtaendemgkabdfaaGreatDoorZPrsPure
import Derived.Test.YtaendemgkabdfaaGreatDoorZSlot5
namespace Go.Proofs.YtaendemgkabdfaaGreatDoor
open Go Go.RowKit

def pBeh (pv : Option Int) (x : Int) : Bool := match pv with
  | none => false
  | some y => decide (x < y)
def prE (pv : Option Int) (p : Pz) : Int := if momB p.1 = true then (if outB p.2 1 9 = true then 4 else if pBeh pv p.1 = true then 7 else 0) else 1
def prG : Option Int → List Pz → Int
  | _, [] => 0
  | pv, p :: l => if prE pv p = 0 then prG (some p.1) l else prE pv p
/-- what is wrong with presses -/
def prF (l : List Pz) : Int := if 2000 < l.length then 2 else prG none l
def pPrev (l : List Pz) (k : Nat) : Option Int := match k with
  | 0 => none
  | k + 1 => (l[k]?).map fun p => p.1
theorem prG_step (l : List Pz) (k : Nat) (hk : k < l.length) : prG (pPrev l k) (l.drop k) = if prE (pPrev l k) l[k] = 0 then prG (pPrev l (k + 1)) (l.drop (k + 1)) else prE (pPrev l k) l[k] := by
  have hp : pPrev l (k + 1) = some l[k].1 := by simp [pPrev, List.getElem?_eq_getElem hk]
  rw [List.drop_eq_getElem_cons hk, prG, hp]
def segF (n : Int) (l : List Pz) : Int := if outB n 1 100 = true then 1 else prF l
theorem prE_ok {pv : Option Int} {p : Pz} (h : prE pv p = 0) : (0 ≤ p.1 ∧ p.1 ≤ 345686399999) ∧ (1 ≤ p.2 ∧ p.2 ≤ 9) ∧ pBeh pv p.1 = false := by
  unfold prE at h
  by_cases h1 : momB p.1 = true
  · rw [if_pos h1] at h
    by_cases h2 : outB p.2 1 9 = true
    · rw [if_pos h2] at h; exact absurd h (by decide)
    · rw [if_neg h2] at h
      by_cases h3 : pBeh pv p.1 = true
      · rw [if_pos h3] at h; exact absurd h (by decide)
      · refine ⟨?_, ?_, by simpa using h3⟩
        · unfold momB outB at h1; simp at h1; exact h1
        · unfold outB at h2; simp at h2; omega
  · rw [if_neg h1] at h; exact absurd h (by decide)
theorem prG_ok : ∀ (l : List Pz) (pv : Option Int), prG pv l = 0 → (∀ p ∈ l, (0 ≤ p.1 ∧ p.1 ≤ 345686399999) ∧ (1 ≤ p.2 ∧ p.2 ≤ 9)) ∧ (∀ i (h : i + 1 < l.length), l[i].1 ≤ l[i + 1].1) ∧ (∀ (h : 0 < l.length), pBeh pv l[0].1 = false)
  | [], _, _ => ⟨(by intro p hp; cases hp), fun i h => absurd h (by simp), fun h => absurd h (by simp)⟩
  | p :: l, pv, h => by
    rw [prG] at h
    by_cases h0 : prE pv p = 0
    · rw [if_pos h0] at h
      obtain ⟨a1, a2, a3⟩ := prE_ok h0
      obtain ⟨b1, b2, b3⟩ := prG_ok l (some p.1) h
      refine ⟨fun q hq => ?_, fun i hi => ?_, fun _ => a3⟩
      · rcases List.mem_cons.1 hq with rfl | hq
        · exact ⟨a1, a2⟩
        · exact b1 q hq
      · cases i with
        | zero =>
          have := b3 (by simp at hi; omega)
          unfold pBeh at this
          simp at this
          simpa using this
        | succ i => simpa using b2 i (by simp at hi; omega)
    · rw [if_neg h0] at h; exact absurd h h0
theorem prF_ok {l : List Pz} (h : prF l = 0) : PzOk l ∧ l.length ≤ 2000 := by
  unfold prF at h
  by_cases hl : 2000 < l.length
  · rw [if_pos hl] at h; exact absurd h (by decide)
  · rw [if_neg hl] at h
    obtain ⟨h1, h2, _⟩ := prG_ok l none h
    exact ⟨⟨fun p hp => (h1 p hp).1, fun p hp => (h1 p hp).2, h2⟩, by omega⟩

end Go.Proofs.YtaendemgkabdfaaGreatDoor
