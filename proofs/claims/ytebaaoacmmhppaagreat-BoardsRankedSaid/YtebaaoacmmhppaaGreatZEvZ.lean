/-
  Events that are drawn have a property that all drawn ones have: the sort makes no new ones. No walk.
-/
import Derived.Test.YtebaaoacmmhppaaGreatZEv11
namespace Go.Proofs.YtebaaoacmmhppaaGreat
open Go Go.RowKit Go.Sort

section
variable {α : Type} [Inhabited α] {P : α → Prop}
def PA (P : α → Prop) (d : Array α) : Prop := ∀ i : Nat, P d[i]!
theorem PA.swp {d : Array α} (h : PA P d) (a b : Nat) : PA P (swp d a b) := by
  intro i
  unfold Go.Sort.swp
  by_cases hi : i < d.size
  · by_cases hb : i = b
    · subst hb
      rw [getElem!_set_same _ _ _ (by simpa using hi)]
      exact h a
    · rw [getElem!_set_other _ _ _ _ hb]
      by_cases ha : i = a
      · subst ha
        rw [getElem!_set_same _ _ _ hi]
        exact h b
      · rw [getElem!_set_other _ _ _ _ ha]
        exact h i
  · have h2 := h i
    rw [getElem!_neg d i hi] at h2
    rw [getElem!_neg ((d.setIfInBounds a d[b]!).setIfInBounds b d[a]!) i (by simpa using hi)]
    exact h2
theorem PA.swapR : ∀ (n a b : Nat) {d : Array α}, PA P d → PA P (swapR n a b d)
  | 0, _, _, _, h => h
  | n + 1, a, b, _, h => PA.swapR n (a + 1) (b + 1) (h.swp a b)
theorem PA.rotR : ∀ (f i m j : Nat) {d : Array α}, PA P d → PA P (rotR f i m j d)
  | 0, _, _, _, _, h => h
  | f + 1, i, m, j, d, h => by
    unfold Go.Proofs.YtebaaoacmmhppaaGreat.rotR
    split
    · exact h.swapR _ _ _
    · split
      · exact PA.rotR f _ _ _ (h.swapR _ _ _)
      · exact PA.rotR f _ _ _ (h.swapR _ _ _)
theorem PA.shU : ∀ (n k : Nat) {d : Array α}, PA P d → PA P (shU n k d)
  | 0, _, _, h => h
  | n + 1, k, _, h => PA.shU n (k + 1) (h.swp k (k + 1))
theorem PA.shD : ∀ (n k : Nat) {d : Array α}, PA P d → PA P (shD n k d)
  | 0, _, _, h => h
  | n + 1, k, _, h => PA.shD n (k - 1) (h.swp k (k - 1))
theorem PA.symT {d : Array α} (h : PA P d) (s m e : Nat) : PA P (symT s m e d) := by
  unfold Go.Proofs.YtebaaoacmmhppaaGreat.symT
  split
  · exact h.rotR _ _ _ _
  · exact h
theorem PA.symR (lt : α → α → Bool) : ∀ (f a m b : Nat) {d : Array α}, PA P d → PA P (symR lt f a m b d)
  | 0, _, _, _, _, h => h
  | f + 1, a, m, b, d, h => by
    unfold Go.Proofs.YtebaaoacmmhppaaGreat.symR
    split
    · exact h.shU _ _
    · split
      · exact h.shD _ _
      · have h1 := h.symT (symI lt a m b ((a + b) / 2) d) m ((a + b) / 2 + m - symI lt a m b ((a + b) / 2) d)
        simp only
        split
        · refine PA.symR lt f _ _ _ ?_
          split
          · exact PA.symR lt f _ _ _ h1
          · exact h1
        · split
          · exact PA.symR lt f _ _ _ h1
          · exact h1
theorem PA.perm {a b : Nat} {d d' : Array α} (h : PA P d) (hp : PermIn a b d d') : PA P d' := by
  intro i
  obtain ⟨h1, h2, h3⟩ := hp
  by_cases hi : i < a ∨ b ≤ i
  · rw [h2 i hi]
    exact h i
  · by_cases hz : i < d'.size
    · have hm : d'[i]! ∈ (d'.extract a b).toList := by
        rw [getElem!_pos d' i hz]
        have hsz : i - a < (d'.extract a b).size := by rw [Array.size_extract]; omega
        have e : (d'.extract a b)[i - a] = d'[i] := by
          rw [Array.getElem_extract]
          congr 1
          omega
        rw [← e]
        exact Array.getElem_mem_toList hsz
      have hm2 := h3.mem_iff.1 hm
      obtain ⟨j, hj, he⟩ := List.getElem_of_mem hm2
      have hj2 : j < (d.extract a b).size := by rw [← Array.length_toList]; exact hj
      rw [← he, Array.getElem_toList, Array.getElem_extract]
      have hj3 : a + j < d.size := by rw [Array.size_extract] at hj2; omega
      have := h (a + j)
      rw [getElem!_pos d _ hj3] at this
      exact this
    · have h4 := h i
      rw [getElem!_neg d i (by omega)] at h4
      rw [getElem!_neg d' i hz]
      exact h4
end
theorem sev_P {P : Bev → Prop} (h0 : P (default : Bev)) {xs : List Bev} (h : ∀ x ∈ xs, P x) : ∀ x ∈ sev xs, P x := by
  have hd : PA P xs.toArray := fun i => by
    by_cases hi : i < xs.toArray.size
    · rw [getElem!_pos _ i hi]
      exact h _ (by simp)
    · rw [getElem!_neg _ i hi]
      exact h0
  have hs : PA P (stbF (ltOf ordBev) xs.length xs.toArray) := by
    unfold stbF
    split
    · exact hd.perm (insertionSort_holds swo_bev _ _ _ (Nat.zero_le _) (by simp)).1
    · rename_i hn
      have h1 : PA P (insR (ltOf ordBev) xs.toArray 0 20) := hd.perm (insertionSort_holds swo_bev _ _ _ (by omega) (by simp; omega)).1
      have hz : (insR (ltOf ordBev) xs.toArray 0 20).size = xs.length := by rw [insR_size swo_bev _ _ _ (by omega) (by simp; omega)]; simp
      split
      · exact h1.perm (insertionSort_holds swo_bev _ _ _ (by omega) (by omega)).1
      · exact PA.symR _ _ _ _ _ (h1.perm (insertionSort_holds swo_bev _ _ _ (by omega) (by omega)).1)
  intro x hx
  unfold sev at hx
  obtain ⟨i, hi, rfl⟩ := List.getElem_of_mem hx
  have hi2 : i < (stbF (ltOf ordBev) xs.length xs.toArray).size := by simpa using hi
  have := hs i
  rw [getElem!_pos _ i hi2] at this
  rw [Array.getElem_toList]
  exact this
theorem evnX_P {P : Bev → Prop} (h0 : P (default : Bev)) {L : List Bev} (h : ∀ x ∈ L, P x) : ∀ x ∈ evnX L, P x :=
  fun x hx => sev_P h0 h x (cpE_mem (sev L).length (Nat.le_refl _) x hx)
theorem evnX_Z {L : List Bev} (h : EvZs L) : EvZs (evnX L) := evnX_P (P := EvZ) ⟨by decide, by decide, by decide, by decide⟩ h
theorem EvZs.bevW {L : List Bev} (h : EvZs L) : ∀ x ∈ L, BevW x := fun x hx => ⟨Nat.le_trans (h x hx).i (by decide), Nat.le_trans (h x hx).w (by decide), Nat.le_trans (h x hx).b (by decide), Nat.le_trans (h x hx).c (by decide)⟩
end Go.Proofs.YtebaaoacmmhppaaGreat
