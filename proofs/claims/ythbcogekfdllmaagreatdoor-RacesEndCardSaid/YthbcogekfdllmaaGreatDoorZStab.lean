/-
  Insertion sort is stable: by a weak order it makes what it makes by the order in which ties go by their first places. No Go text is named here.
-/
import Derived.Sort.Defs
import Derived.Test.YthbcogekfdllmaaGreatDoorZBase
namespace Go.Proofs.YthbcogekfdllmaaGreatDoor
open Go Go.RowKit Go.Sort
section
variable {α : Type} [Inhabited α]
theorem swp_get {d : Array α} {i j : Nat} (hi : i < d.size) (hj : j < d.size) (p : Nat) : (swp d i j)[p]! = if p = j then d[i]! else if p = i then d[j]! else d[p]! := by
  unfold swp
  by_cases hp : p < d.size
  · rw [getElem!_pos ((d.setIfInBounds i d[j]!).setIfInBounds j d[i]!) p (by simpa using hp)]
    rw [Array.getElem_setIfInBounds (by simpa using hp)]
    by_cases h1 : p = j
    · rw [if_pos h1.symm, if_pos h1]
    · rw [if_neg (fun e => h1 e.symm), if_neg h1, Array.getElem_setIfInBounds hp]
      by_cases h2 : p = i
      · rw [if_pos h2.symm, if_pos h2]
      · rw [if_neg (fun e => h2 e.symm), if_neg h2, getElem!_pos d p hp]
  · rw [if_neg (by omega), if_neg (by omega), getElem!_neg _ p (by simpa using hp), getElem!_neg d p hp]
theorem swp_size (d : Array α) (i j : Nat) : (swp d i j).size = d.size := by unfold swp; simp
theorem insInner_eq {lt lt2 : α → α → Bool} {R : α → α → Prop} (h : ∀ u v, R u v → lt2 v u = lt v u) (a : Nat) : ∀ (j : Nat) (d : Array α), j < d.size → (∀ i, i < j → R d[i]! d[j]!) → insInner lt a j d = insInner lt2 a j d
  | 0, _, _, _ => rfl
  | j + 1, d, hj, hR => by
    have e := h d[j]! d[j + 1]! (hR j (Nat.lt_succ_self j))
    rw [insInner, insInner, e]
    split
    · refine insInner_eq h a j (swp d (j + 1) j) (by rw [swp_size]; omega) (fun i hi => ?_)
      rw [swp_get hj (by omega), swp_get hj (by omega), if_neg (by omega), if_neg (by omega), if_pos rfl]
      exact hR i (by omega)
    · rfl
theorem insInner_mem (lt : α → α → Bool) (a : Nat) : ∀ (j : Nat) (d : Array α), j < d.size → (insInner lt a j d).size = d.size ∧ (∀ p, j < p → (insInner lt a j d)[p]! = d[p]!) ∧ ∀ p, p ≤ j → ∃ x, x ≤ j ∧ (insInner lt a j d)[p]! = d[x]!
  | 0, d, _ => ⟨rfl, fun _ _ => rfl, fun p hp => ⟨p, hp, rfl⟩⟩
  | j + 1, d, hj => by
    rw [insInner]
    split
    · obtain ⟨h1, h2, h3⟩ := insInner_mem lt a j (swp d (j + 1) j) (by rw [swp_size]; omega)
      refine ⟨by rw [h1, swp_size], fun p hp => ?_, fun p hp => ?_⟩
      · rw [h2 p (by omega), swp_get hj (by omega), if_neg (by omega), if_neg (by omega)]
      · have hx : ∀ x, x ≤ j + 1 → ∃ y, y ≤ j + 1 ∧ (swp d (j + 1) j)[x]! = d[y]! := fun x hx => by
          rw [swp_get hj (by omega)]
          split
          · exact ⟨j + 1, Nat.le_refl _, rfl⟩
          · split
            · exact ⟨j, by omega, rfl⟩
            · exact ⟨x, hx, rfl⟩
        rcases Nat.lt_or_ge j p with hpj | hpj
        · rw [h2 p hpj]
          exact hx p hp
        · obtain ⟨x, hx1, hx2⟩ := h3 p hpj
          rw [hx2]
          exact hx x (by omega)
    · exact ⟨rfl, fun _ _ => rfl, fun p hp => ⟨p, hp, rfl⟩⟩
theorem insOuter_def (lt : α → α → Bool) (a b i : Nat) (d : Array α) : insOuter lt a b i d = if i < b then insOuter lt a b (i + 1) (insInner lt a i d) else d := by rw [insOuter]
theorem insOuter_eq {lt lt2 : α → α → Bool} {R : α → α → Prop} (h : ∀ u v, R u v → lt2 v u = lt v u) (a b : Nat) : ∀ (k i : Nat) (d : Array α), b - i = k → b ≤ d.size → (∀ p q, p < q → i ≤ q → q < d.size → R d[p]! d[q]!) → insOuter lt a b i d = insOuter lt2 a b i d
  | 0, i, d, hk, _, _ => by
    rw [insOuter_def lt a b i d, insOuter_def lt2 a b i d, if_neg (by omega), if_neg (by omega)]
  | k + 1, i, d, hk, hb, hR => by
    rw [insOuter_def lt a b i d, insOuter_def lt2 a b i d, if_pos (by omega), if_pos (by omega)]
    have hi : i < d.size := by omega
    have e := insInner_eq h a i d hi (fun p hp => hR p i hp (Nat.le_refl _) hi)
    rw [← e]
    obtain ⟨h1, h2, h3⟩ := insInner_mem lt a i d hi
    refine insOuter_eq h a b k (i + 1) _ (by omega) (by rw [h1]; exact hb) (fun p q hpq hq hqs => ?_)
    rw [h1] at hqs
    rw [h2 q (by omega)]
    rcases Nat.lt_or_ge i p with hp | hp
    · rw [h2 p hp]
      exact hR p q hpq (by omega) hqs
    · obtain ⟨x, hx1, hx2⟩ := h3 p hp
      rw [hx2]
      exact hR x q (by omega) (by omega) hqs
/-- ties stay as they were -/
theorem ins_stable {lt lt2 : α → α → Bool} {R : α → α → Prop} (h : ∀ u v, R u v → lt2 v u = lt v u) (d : Array α) (hR : ∀ p q, p < q → q < d.size → R d[p]! d[q]!) : insertionSort lt d 0 d.size = insertionSort lt2 d 0 d.size :=
  insOuter_eq h 0 d.size _ 1 d rfl (Nat.le_refl _) (fun p q hpq _ hq => hR p q hpq hq)
end
end Go.Proofs.YthbcogekfdllmaaGreatDoor
