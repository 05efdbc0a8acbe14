/-
  Events that are drawn have a property that all drawn ones have: the sort makes no new ones. No walk.
-/
import Derived.Test.YtebaaoacmmhppaaGreatZEv11
import Derived.Test.YtebaaoacmmhppaaGreatZSlotPure
import Derived.Test.YtebaaoacmmhppaaGreatZRatMake4
import Derived.Test.YtebaaoacmmhppaaGreatZMapR
import Derived.Deep.RegionLaw
import Derived.Deep.QuietTactic
import Derived.BigQuiet
namespace Go.Proofs.YtebaaoacmmhppaaGreat
open Go Go.RowKit Go.Sort

section
variable {α : Type} [Inhabited α] {P : α → Prop}
def PA (P : α → Prop) (d : Array α) : Prop := ∀ i : Nat, P d[i]!
theorem PA.swp {d : Array α} (h : PA P d) (a b : Nat) : PA P (swp d a b) := by
  intro i
  unfold Go.Sort.swp
  by_cases hi : i < d.size
  · by_cases hb : i = b
    · subst hb
      rw [getElem!_set_same _ _ _ (by simpa using hi)]
      exact h a
    · rw [getElem!_set_other _ _ _ _ hb]
      by_cases ha : i = a
      · subst ha
        rw [getElem!_set_same _ _ _ hi]
        exact h b
      · rw [getElem!_set_other _ _ _ _ ha]
        exact h i
  · have h2 := h i
    rw [getElem!_neg d i hi] at h2
    rw [getElem!_neg ((d.setIfInBounds a d[b]!).setIfInBounds b d[a]!) i (by simpa using hi)]
    exact h2
theorem PA.swapR : ∀ (n a b : Nat) {d : Array α}, PA P d → PA P (swapR n a b d)
  | 0, _, _, _, h => h
  | n + 1, a, b, _, h => PA.swapR n (a + 1) (b + 1) (h.swp a b)
theorem PA.rotR : ∀ (f i m j : Nat) {d : Array α}, PA P d → PA P (rotR f i m j d)
  | 0, _, _, _, _, h => h
  | f + 1, i, m, j, d, h => by
    unfold Go.Proofs.YtebaaoacmmhppaaGreat.rotR
    split
    · exact h.swapR _ _ _
    · split
      · exact PA.rotR f _ _ _ (h.swapR _ _ _)
      · exact PA.rotR f _ _ _ (h.swapR _ _ _)
theorem PA.shU : ∀ (n k : Nat) {d : Array α}, PA P d → PA P (shU n k d)
  | 0, _, _, h => h
  | n + 1, k, _, h => PA.shU n (k + 1) (h.swp k (k + 1))
theorem PA.shD : ∀ (n k : Nat) {d : Array α}, PA P d → PA P (shD n k d)
  | 0, _, _, h => h
  | n + 1, k, _, h => PA.shD n (k - 1) (h.swp k (k - 1))
theorem PA.symT {d : Array α} (h : PA P d) (s m e : Nat) : PA P (symT s m e d) := by
  unfold Go.Proofs.YtebaaoacmmhppaaGreat.symT
  split
  · exact h.rotR _ _ _ _
  · exact h
theorem PA.symR (lt : α → α → Bool) : ∀ (f a m b : Nat) {d : Array α}, PA P d → PA P (symR lt f a m b d)
  | 0, _, _, _, _, h => h
  | f + 1, a, m, b, d, h => by
    unfold Go.Proofs.YtebaaoacmmhppaaGreat.symR
    split
    · exact h.shU _ _
    · split
      · exact h.shD _ _
      · have h1 := h.symT (symI lt a m b ((a + b) / 2) d) m ((a + b) / 2 + m - symI lt a m b ((a + b) / 2) d)
        simp only
        split
        · refine PA.symR lt f _ _ _ ?_
          split
          · exact PA.symR lt f _ _ _ h1
          · exact h1
        · split
          · exact PA.symR lt f _ _ _ h1
          · exact h1
theorem PA.perm {a b : Nat} {d d' : Array α} (h : PA P d) (hp : PermIn a b d d') : PA P d' := by
  intro i
  obtain ⟨h1, h2, h3⟩ := hp
  by_cases hi : i < a ∨ b ≤ i
  · rw [h2 i hi]
    exact h i
  · by_cases hz : i < d'.size
    · have hm : d'[i]! ∈ (d'.extract a b).toList := by
        rw [getElem!_pos d' i hz]
        have hsz : i - a < (d'.extract a b).size := by rw [Array.size_extract]; omega
        have e : (d'.extract a b)[i - a] = d'[i] := by
          rw [Array.getElem_extract]
          congr 1
          omega
        rw [← e]
        exact Array.getElem_mem_toList hsz
      have hm2 := h3.mem_iff.1 hm
      obtain ⟨j, hj, he⟩ := List.getElem_of_mem hm2
      have hj2 : j < (d.extract a b).size := by rw [← Array.length_toList]; exact hj
      rw [← he, Array.getElem_toList, Array.getElem_extract]
      have hj3 : a + j < d.size := by rw [Array.size_extract] at hj2; omega
      have := h (a + j)
      rw [getElem!_pos d _ hj3] at this
      exact this
    · have h4 := h i
      rw [getElem!_neg d i (by omega)] at h4
      rw [getElem!_neg d' i hz]
      exact h4
end
theorem sev_P {P : Bev → Prop} (h0 : P (default : Bev)) {xs : List Bev} (h : ∀ x ∈ xs, P x) : ∀ x ∈ sev xs, P x := by
  have hd : PA P xs.toArray := fun i => by
    by_cases hi : i < xs.toArray.size
    · rw [getElem!_pos _ i hi]
      exact h _ (by simp)
    · rw [getElem!_neg _ i hi]
      exact h0
  have hs : PA P (stbF (ltOf ordBev) xs.length xs.toArray) := by
    unfold stbF
    split
    · exact hd.perm (insertionSort_holds swo_bev _ _ _ (Nat.zero_le _) (by simp)).1
    · rename_i hn
      have h1 : PA P (insR (ltOf ordBev) xs.toArray 0 20) := hd.perm (insertionSort_holds swo_bev _ _ _ (by omega) (by simp; omega)).1
      have hz : (insR (ltOf ordBev) xs.toArray 0 20).size = xs.length := by rw [insR_size swo_bev _ _ _ (by omega) (by simp; omega)]; simp
      split
      · exact h1.perm (insertionSort_holds swo_bev _ _ _ (by omega) (by omega)).1
      · exact PA.symR _ _ _ _ _ (h1.perm (insertionSort_holds swo_bev _ _ _ (by omega) (by omega)).1)
  intro x hx
  unfold sev at hx
  obtain ⟨i, hi, rfl⟩ := List.getElem_of_mem hx
  have hi2 := hi
  rw [Array.length_toList] at hi2
  have := hs i
  rw [getElem!_pos _ i hi2] at this
  rw [Array.getElem_toList]
  exact this
theorem evnX_P {P : Bev → Prop} (h0 : P (default : Bev)) {L : List Bev} (h : ∀ x ∈ L, P x) : ∀ x ∈ evnX L, P x :=
  fun x hx => sev_P h0 h x (cpE_mem (sev L).length (Nat.le_refl _) x hx)
theorem evnX_Z {L : List Bev} (h : EvZs L) : EvZs (evnX L) := evnX_P (P := EvZ) ⟨by decide, by decide, by decide, by decide⟩ h
theorem EvZs.bevW {L : List Bev} (h : EvZs L) : ∀ x ∈ L, BevW x := fun x hx => ⟨Nat.le_trans (h x hx).i (by decide), Nat.le_trans (h x hx).w (by decide), Nat.le_trans (h x hx).b (by decide), Nat.le_trans (h x hx).c (by decide)⟩
end Go.Proofs.YtebaaoacmmhppaaGreat
/-
  slices.Equal over events by a contract: two slices that read alike are equal. (Printed out of XEqual.)
-/
namespace Go.Proofs.YtebaaoacmmhppaaGreat
open Go Go.RowKit

set_option maxRecDepth 100000 in
theorem equalEv_calls (b : Nat) (A A2 : Option Addr) (n c c2 : Nat) (rs : List Bev) (w : World) (hr : Rd w b 8 (.slice A n c) n (rs.flatMap bevC)) (hr2 : Rd w b 8 (.slice A2 n c2) n (rs.flatMap bevC)) :
    Calls Tryz.prog 38 #[.slice A n c, .slice A2 n c2] w (QRet (.bool true) w) := by
  obtain ⟨hl, hnc, hcm, hcells⟩ := hr.cells bevC_len (by omega)
  obtain ⟨_, _, hcm2, hcells2⟩ := hr2.cells bevC_len (by omega)
  unfold maxLen at hcm hcm2
  have HL := Lib.hid hl
  have HC := Lib.hid hcells
  have HC2 := Lib.hid hcells2
  have hnn : ((n : Int) != (n : Int)) = false := by simp
  clear hcells hcells2 hl hr hr2
  go_enter Tryz.func38, Tryz.ntmps38
  go_wp2_with fail
  go_loopw [13] (fun i wr => ∃ k nq : Nat, k ≤ n ∧ i = .int .i64 k ∧ wr = w.drewN nq) (fun i _ => n - (intOf i).toNat)
  case atStart => exact ⟨0, 0, Nat.zero_le _, rfl, rfl⟩
  case round =>
    obtain ⟨k, nq, hk, rfl, rfl⟩ := hrel
    by_cases hlt : k < n
    · have hkr : k < rs.length := by rw [HL.out]; exact hlt
      obtain ⟨g, o, hA, _, hcs⟩ := HC.out (by omega)
      obtain ⟨g2, o2, hA2, _, hcs2⟩ := HC2.out (by omega)
      subst hA hA2
      have c0 := hcs k hkr 0 (by omega)
      have c1 := hcs k hkr 1 (by omega)
      have d2 := hcs k hkr 2 (by omega)
      have c3 := hcs k hkr 3 (by omega)
      have c4 := hcs k hkr 4 (by omega)
      have c5 := hcs k hkr 5 (by omega)
      have c6 := hcs k hkr 6 (by omega)
      have c7 := hcs k hkr 7 (by omega)
      have x0 := hcs2 k hkr 0 (by omega)
      have x1 := hcs2 k hkr 1 (by omega)
      have x2 := hcs2 k hkr 2 (by omega)
      have x3 := hcs2 k hkr 3 (by omega)
      have x4 := hcs2 k hkr 4 (by omega)
      have x5 := hcs2 k hkr 5 (by omega)
      have x6 := hcs2 k hkr 6 (by omega)
      have x7 := hcs2 k hkr 7 (by omega)
      simp only [bevC, Nat.add_zero, List.getElem?_cons_zero, List.getElem?_cons_succ] at c0 x0 c1 x1 d2 x2 c3 x3 c4 x4 c5 x5 c6 x6 c7 x7
      have hk0 : (0 : Int) ≤ (k : Int) := by omega
      have hk1 : (k : Int) < (n : Int) := by omega
      clear hcs hcs2
      go_wp2_with fail
      go_quiet (fail)
      go_wp2_with fail
      go_roundw
      case rel => exact ⟨k + 1, _, by omega, by go_num, rfl⟩
      case measure => simp [intOf]; omega
    · obtain rfl : k = n := by omega
      go_wp2_with fail
      go_ret
      exact ⟨rfl, nq, rfl⟩
end Go.Proofs.YtebaaoacmmhppaaGreat
/-
  slices.Equal over ints by a contract: two slices that read alike are equal.
-/
namespace Go.Proofs.YtebaaoacmmhppaaGreat
open Go Go.RowKit
attribute [local go_sem ↓] Go.wp_at_zero Go.wp_at_succ

set_option maxRecDepth 100000 in
theorem equalIn_calls (b : Nat) (A A2 : Option Addr) (n c c2 : Nat) (l : List Int) (w : World) (hr : Rd w b 1 (.slice A n c) n (l.map (Value.int .i64))) (hr2 : Rd w b 1 (.slice A2 n c2) n (l.map (Value.int .i64))) :
    Calls Tryz.prog 39 #[.slice A n c, .slice A2 n c2] w (QRet (.bool true) w) := by
  obtain ⟨A', c', e1, _, hcm, e4, _, e6⟩ := hr
  injection e1 with ea eb ec
  subst ea ec
  obtain ⟨A3, c3, f1, _, hcm2, _, _, f6⟩ := hr2
  injection f1 with fa fb fc
  subst fa fc
  unfold maxLen at hcm hcm2
  have hl : l.length = n := by simpa using e4
  have HL := Lib.hid hl
  have HC := Lib.hid e6
  have HC2 := Lib.hid f6
  have hnn : ((n : Int) != (n : Int)) = false := by simp
  clear e6 f6 e4 hl
  go_enter Tryz.func39, Tryz.ntmps39
  go_wp2_with fail
  go_loopw [13] (fun i wr => ∃ k nq : Nat, k ≤ n ∧ i = .int .i64 k ∧ wr = w.drewN nq) (fun i _ => n - (intOf i).toNat)
  case atStart => exact ⟨0, 0, Nat.zero_le _, rfl, rfl⟩
  case round =>
    obtain ⟨k, nq, hk, rfl, rfl⟩ := hrel
    by_cases hlt : k < n
    · have hkr : k < l.length := by rw [HL.out]; exact hlt
      obtain ⟨g, o, hA, _, hcs⟩ := HC.out (by omega)
      obtain ⟨g2, o2, hA2, _, hcs2⟩ := HC2.out (by omega)
      subst hA hA2
      have c0 := hcs k _ (by rw [List.getElem?_map, List.getElem?_eq_getElem hkr]; rfl)
      have x0 := hcs2 k _ (by rw [List.getElem?_map, List.getElem?_eq_getElem hkr]; rfl)
      have hk0 : (0 : Int) ≤ (k : Int) := by omega
      have hk1 : (k : Int) < (n : Int) := by omega
      clear hcs hcs2
      obtain ⟨z, hz⟩ : ∃ z, l[k] = z := ⟨_, rfl⟩
      rw [hz] at c0 x0
      clear hz
      go_wp2_with fail
      go_quiet (fail)
      go_wp2_with fail
      go_roundw
      case rel => exact ⟨k + 1, _, by omega, by go_num, rfl⟩
      case measure => simp [intOf]; omega
    · obtain rfl : k = n := by omega
      go_wp2_with fail
      go_ret
      exact ⟨rfl, nq, rfl⟩
end Go.Proofs.YtebaaoacmmhppaaGreat
/-
  slices.Equal of strings, the reference's SameSlot, and EqualFunc of slots with it: true of slots that say the same.
-/
namespace Go.Proofs.YtebaaoacmmhppaaGreat
open Go Go.RowKit
attribute [local go_sem ↓] Go.wp_at_zero Go.wp_at_succ

set_option maxRecDepth 100000 in
theorem equalStr_calls (b : Nat) (A A2 : Option Addr) (n c c2 : Nat) (hs : List ByteArray) (w : World) (hr : Rd w b 1 (.slice A n c) n (strsV hs)) (hr2 : Rd w b 1 (.slice A2 n c2) n (strsV hs)) :
    Calls Tryz.prog 24 #[.slice A n c, .slice A2 n c2] w (QRet (.bool true) w) := by
  obtain ⟨hl, hnc, hcm, hcells⟩ := strs_cells hr
  obtain ⟨_, _, hcm2, hcells2⟩ := strs_cells hr2
  unfold maxLen at hcm hcm2
  have HL := Lib.hid hl
  have HC := Lib.hid hcells
  have HC2 := Lib.hid hcells2
  have hnn : ((n : Int) != (n : Int)) = false := by simp
  clear hcells hcells2 hl hr hr2
  go_enter Tryz.func24, Tryz.ntmps24
  go_wp2_with fail
  go_loopw [13] (fun i wr => ∃ k nq : Nat, k ≤ n ∧ i = .int .i64 k ∧ wr = w.drewN nq) (fun i _ => n - (intOf i).toNat)
  case atStart => exact ⟨0, 0, Nat.zero_le _, rfl, rfl⟩
  case round =>
    obtain ⟨k, nq, hk, rfl, rfl⟩ := hrel
    by_cases hlt : k < n
    · have hkr : k < hs.length := by rw [HL.out]; exact hlt
      obtain ⟨g, o, hA, _, hcs⟩ := HC.out (by omega)
      obtain ⟨g2, o2, hA2, _, hcs2⟩ := HC2.out (by omega)
      subst hA hA2
      have c0 := hcs k hkr
      have x0 := hcs2 k hkr
      have hk0 : (0 : Int) ≤ (k : Int) := by omega
      have hk1 : (k : Int) < (n : Int) := by omega
      clear hcs hcs2
      go_wp2_with fail
      go_quiet (fail)
      go_wp2_with fail
      go_roundw
      case rel => exact ⟨k + 1, _, by omega, by go_num, rfl⟩
      case measure => simp [intOf]; omega
    · obtain rfl : k = n := by omega
      go_wp2_with fail
      go_ret
      exact ⟨rfl, nq, rfl⟩
end Go.Proofs.YtebaaoacmmhppaaGreat
