/-
  Events that are drawn have a property that all drawn ones have: the sort makes no new ones. No walk.
-/
import Derived.Test.YtapgnaimbgjcnaaGreatDoorZEv11
import Derived.Test.YtapgnaimbgjcnaaGreatDoorZRecP
import Derived.Test.YtapgnaimbgjcnaaGreatDoorZRatMake4
import Derived.Test.YtapgnaimbgjcnaaGreatDoorZSlotPure
import Derived.Test.YtapgnaimbgjcnaaGreatDoorZFlat
import Derived.Deep.RegionLaw
import Derived.Deep.QuietTactic
import Derived.BigQuiet
import Derived.Test.YtapgnaimbgjcnaaGreatDoorZLawStart
import Derived.Deep.DeepCutAuto
import Derived.Test.YtapgnaimbgjcnaaGreatDoorZEv1W
import Derived.Test.YtapgnaimbgjcnaaGreatDoorZStrX
namespace Go.Proofs.YtapgnaimbgjcnaaGreatDoor
open Go Go.RowKit Go.Sort
section
variable {α : Type} [Inhabited α] {P : α → Prop}
def PA (P : α → Prop) (d : Array α) : Prop := ∀ i : Nat, P d[i]!
theorem PA.swp {d : Array α} (h : PA P d) (a b : Nat) : PA P (swp d a b) := by
 intro i
 unfold Go.Sort.swp
 by_cases hi : i < d.size
 · by_cases hb : i = b
   · subst hb
     rw [getElem!_set_same _ _ _ (by simpa using hi)]
     exact h a
   · rw [getElem!_set_other _ _ _ _ hb]
     by_cases ha : i = a
     · subst ha
       rw [getElem!_set_same _ _ _ hi]
       exact h b
     · rw [getElem!_set_other _ _ _ _ ha]
       exact h i
 · have h2 := h i
   rw [getElem!_neg d i hi] at h2
   rw [getElem!_neg ((d.setIfInBounds a d[b]!).setIfInBounds b d[a]!) i (by simpa using hi)]
   exact h2
theorem PA.swapR : ∀ (n a b : Nat) {d : Array α}, PA P d → PA P (swapR n a b d)
 | 0, _, _, _, h => h
 | n + 1, a, b, _, h => PA.swapR n (a + 1) (b + 1) (h.swp a b)
theorem PA.rotR : ∀ (f i m j : Nat) {d : Array α}, PA P d → PA P (rotR f i m j d)
 | 0, _, _, _, _, h => h
 | f + 1, i, m, j, d, h => by
   unfold Go.Proofs.YtapgnaimbgjcnaaGreatDoor.rotR
   split
   · exact h.swapR _ _ _
   · split
     · exact PA.rotR f _ _ _ (h.swapR _ _ _)
     · exact PA.rotR f _ _ _ (h.swapR _ _ _)
theorem PA.shU : ∀ (n k : Nat) {d : Array α}, PA P d → PA P (shU n k d)
 | 0, _, _, h => h
 | n + 1, k, _, h => PA.shU n (k + 1) (h.swp k (k + 1))
theorem PA.shD : ∀ (n k : Nat) {d : Array α}, PA P d → PA P (shD n k d)
 | 0, _, _, h => h
 | n + 1, k, _, h => PA.shD n (k - 1) (h.swp k (k - 1))
theorem PA.symT {d : Array α} (h : PA P d) (s m e : Nat) : PA P (symT s m e d) := by
 unfold Go.Proofs.YtapgnaimbgjcnaaGreatDoor.symT
 split
 · exact h.rotR _ _ _ _
 · exact h
theorem PA.symR (lt : α → α → Bool) : ∀ (f a m b : Nat) {d : Array α}, PA P d → PA P (symR lt f a m b d)
 | 0, _, _, _, _, h => h
 | f + 1, a, m, b, d, h => by
   unfold Go.Proofs.YtapgnaimbgjcnaaGreatDoor.symR
   split
   · exact h.shU _ _
   · split
     · exact h.shD _ _
     · have h1 := h.symT (symI lt a m b ((a + b) / 2) d) m ((a + b) / 2 + m - symI lt a m b ((a + b) / 2) d)
       simp only
       split
       · refine PA.symR lt f _ _ _ ?_
         split
         · exact PA.symR lt f _ _ _ h1
         · exact h1
       · split
         · exact PA.symR lt f _ _ _ h1
         · exact h1
theorem PA.perm {a b : Nat} {d d' : Array α} (h : PA P d) (hp : PermIn a b d d') : PA P d' := by
 intro i
 obtain ⟨h1, h2, h3⟩ := hp
 by_cases hi : i < a ∨ b ≤ i
 · rw [h2 i hi]
   exact h i
 · by_cases hz : i < d'.size
   · have hm : d'[i]! ∈ (d'.extract a b).toList := by
      rw [getElem!_pos d' i hz]
      have hsz : i - a < (d'.extract a b).size := by rw [Array.size_extract]; omega
      have e : (d'.extract a b)[i - a] = d'[i] := by
       rw [Array.getElem_extract]
       congr 1
       omega
      rw [← e]
      exact Array.getElem_mem_toList hsz
     have hm2 := h3.mem_iff.1 hm
     obtain ⟨j, hj, he⟩ := List.getElem_of_mem hm2
     have hj2 : j < (d.extract a b).size := by rw [← Array.length_toList]; exact hj
     rw [← he, Array.getElem_toList, Array.getElem_extract]
     have hj3 : a + j < d.size := by rw [Array.size_extract] at hj2; omega
     have := h (a + j)
     rw [getElem!_pos d _ hj3] at this
     exact this
   · have h4 := h i
     rw [getElem!_neg d i (by omega)] at h4
     rw [getElem!_neg d' i hz]
     exact h4
end
theorem sev_P {P : Bev → Prop} (h0 : P (default : Bev)) {xs : List Bev} (h : ∀ x ∈ xs, P x) : ∀ x ∈ sev xs, P x := by
 have hd : PA P xs.toArray := fun i => by
  by_cases hi : i < xs.toArray.size
  · rw [getElem!_pos _ i hi]
    exact h _ (by simp)
  · rw [getElem!_neg _ i hi]
    exact h0
 have hs : PA P (stbF (ltOf ordBev) xs.length xs.toArray) := by
  unfold stbF
  split
  · exact hd.perm (insertionSort_holds swo_bev _ _ _ (Nat.zero_le _) (by simp)).1
  · rename_i hn
    have h1 : PA P (insR (ltOf ordBev) xs.toArray 0 20) := hd.perm (insertionSort_holds swo_bev _ _ _ (by omega) (by simp; omega)).1
    have hz : (insR (ltOf ordBev) xs.toArray 0 20).size = xs.length := by rw [insR_size swo_bev _ _ _ (by omega) (by simp; omega)]; simp
    split
    · exact h1.perm (insertionSort_holds swo_bev _ _ _ (by omega) (by omega)).1
    · exact PA.symR _ _ _ _ _ (h1.perm (insertionSort_holds swo_bev _ _ _ (by omega) (by omega)).1)
 intro x hx
 unfold sev at hx
 obtain ⟨i, hi, rfl⟩ := List.getElem_of_mem hx
 have hi2 := hi
 rw [Array.length_toList] at hi2
 have := hs i
 rw [getElem!_pos _ i hi2] at this
 rw [Array.getElem_toList]
 exact this
theorem evnX_P {P : Bev → Prop} (h0 : P (default : Bev)) {L : List Bev} (h : ∀ x ∈ L, P x) : ∀ x ∈ evnX L, P x :=
 fun x hx => sev_P h0 h x (cpE_mem (sev L).length (Nat.le_refl _) x hx)
theorem evnX_Z {L : List Bev} (h : EvZs L) : EvZs (evnX L) := evnX_P (P := EvZ) ⟨by decide, by decide, by decide, by decide⟩ h
theorem EvZs.bevW {L : List Bev} (h : EvZs L) : ∀ x ∈ L, BevW x := fun x hx => ⟨Nat.le_trans (h x hx).i (by decide), Nat.le_trans (h x hx).w (by decide), Nat.le_trans (h x hx).b (by decide), Nat.le_trans (h x hx).c (by decide)⟩
end Go.Proofs.YtapgnaimbgjcnaaGreatDoor
/-
  slices.Equal over reigns by a contract: two slices that read alike are equal. (Printed out of XEqual.)
-/
namespace Go.Proofs.YtapgnaimbgjcnaaGreatDoor
open Go Go.RowKit
set_option maxRecDepth 100000 in
theorem equalRg_calls (b : Nat) (A A2 : Option Addr) (n c c2 : Nat) (rs : List Rgn) (w : World) (hr : Rd w b 5 (.slice A n c) n (rs.flatMap rgnC)) (hr2 : Rd w b 5 (.slice A2 n c2) n (rs.flatMap rgnC)) :
 Calls Tryz.prog 22 #[.slice A n c, .slice A2 n c2] w (QRet (.bool true) w) := by
 obtain ⟨hl, hnc, hcm, hcells⟩ := hr.cells rgnC_len (by omega)
 obtain ⟨_, _, hcm2, hcells2⟩ := hr2.cells rgnC_len (by omega)
 unfold maxLen at hcm hcm2
 have HL := Lib.hid hl
 have HC := Lib.hid hcells
 have HC2 := Lib.hid hcells2
 have hnn : ((n : Int) != (n : Int)) = false := by simp
 clear hcells hcells2 hl hr hr2
 go_enter Tryz.func22, Tryz.ntmps22
 go_wp2_with fail
 go_loopw [13] (fun i wr => ∃ k nq : Nat, k ≤ n ∧ i = .int .i64 k ∧ wr = w.drewN nq) (fun i _ => n - (intOf i).toNat)
 case atStart => exact ⟨0, 0, Nat.zero_le _, rfl, rfl⟩
 case round =>
  obtain ⟨k, nq, hk, rfl, rfl⟩ := hrel
  by_cases hlt : k < n
  · have hkr : k < rs.length := by rw [HL.out]; exact hlt
    obtain ⟨g, o, hA, _, hcs⟩ := HC.out (by omega)
    obtain ⟨g2, o2, hA2, _, hcs2⟩ := HC2.out (by omega)
    subst hA hA2
    have c0 := hcs k hkr 0 (by omega)
    have c1 := hcs k hkr 1 (by omega)
    have d2 := hcs k hkr 2 (by omega)
    have c3 := hcs k hkr 3 (by omega)
    have c4 := hcs k hkr 4 (by omega)
    have x0 := hcs2 k hkr 0 (by omega)
    have x1 := hcs2 k hkr 1 (by omega)
    have x2 := hcs2 k hkr 2 (by omega)
    have x3 := hcs2 k hkr 3 (by omega)
    have x4 := hcs2 k hkr 4 (by omega)
    simp only [rgnC, Nat.add_zero, List.getElem?_cons_zero, List.getElem?_cons_succ] at c0 x0 c1 x1 d2 x2 c3 x3 c4 x4
    have hk0 : (0 : Int) ≤ (k : Int) := by omega
    have hk1 : (k : Int) < (n : Int) := by omega
    clear hcs hcs2
    go_wp2_with fail
    go_quiet (fail)
    go_wp2_with fail
    go_roundw
    case rel => exact ⟨k + 1, _, by omega, by go_num, rfl⟩
    case measure => simp [intOf]; omega
  · obtain rfl : k = n := by omega
    go_wp2_with fail
    go_ret
    exact ⟨rfl, nq, rfl⟩
end Go.Proofs.YtapgnaimbgjcnaaGreatDoor
/-
  Slices.Equal of pairs, the reference's SameRun, and EqualFunc of runs with it: true of runs that say the same. (Printed by gen_eqrun.py.)
-/
namespace Go.Proofs.YtapgnaimbgjcnaaGreatDoor
open Go Go.RowKit
attribute [local go_sem ↓] Go.wp_at_zero Go.wp_at_succ
set_option maxRecDepth 100000 in
theorem equalPrR_calls (b : Nat) (A A2 : Option Addr) (n c c2 : Nat) (rs : List Pr) (w : World) (hr : Rd w b 2 (.slice A n c) n (rs.flatMap prC)) (hr2 : Rd w b 2 (.slice A2 n c2) n (rs.flatMap prC)) :
 Calls Tryz.prog 23 #[.slice A n c, .slice A2 n c2] w (QRet (.bool true) w) := by
 obtain ⟨hl, hnc, hcm, hcells⟩ := hr.cells prC_len (by omega)
 obtain ⟨_, _, hcm2, hcells2⟩ := hr2.cells prC_len (by omega)
 unfold maxLen at hcm hcm2
 have HL := Lib.hid hl
 have HC := Lib.hid hcells
 have HC2 := Lib.hid hcells2
 have hnn : ((n : Int) != (n : Int)) = false := by simp
 clear hcells hcells2 hl hr hr2
 go_enter Tryz.func23, Tryz.ntmps23
 go_wp2_with fail
 go_loopw [13] (fun i wr => ∃ k nq : Nat, k ≤ n ∧ i = .int .i64 k ∧ wr = w.drewN nq) (fun i _ => n - (intOf i).toNat)
 case atStart => exact ⟨0, 0, Nat.zero_le _, rfl, rfl⟩
 case round =>
  obtain ⟨k, nq, hk, rfl, rfl⟩ := hrel
  by_cases hlt : k < n
  · have hkr : k < rs.length := by rw [HL.out]; exact hlt
    obtain ⟨g, o, hA, _, hcs⟩ := HC.out (by omega)
    obtain ⟨g2, o2, hA2, _, hcs2⟩ := HC2.out (by omega)
    subst hA hA2
    have c0 := hcs k hkr 0 (by omega)
    have x0 := hcs2 k hkr 0 (by omega)
    have c1 := hcs k hkr 1 (by omega)
    have x1 := hcs2 k hkr 1 (by omega)
    simp only [prC, Nat.add_zero, List.getElem?_cons_zero, List.getElem?_cons_succ] at c0 x0 c1 x1
    have hk0 : (0 : Int) ≤ (k : Int) := by omega
    have hk1 : (k : Int) < (n : Int) := by omega
    clear hcs hcs2
    go_wp2_with fail
    go_quiet (fail)
    go_wp2_with fail
    go_roundw
    case rel => exact ⟨k + 1, _, by omega, by go_num, rfl⟩
    case measure => simp [intOf]; omega
  · obtain rfl : k = n := by omega
    go_wp2_with fail
    go_ret
    exact ⟨rfl, nq, rfl⟩
end Go.Proofs.YtapgnaimbgjcnaaGreatDoor
/-
  when of splitlaw2 by a contract.
-/
namespace Go.Proofs.YtapgnaimbgjcnaaGreatDoor
open Go Go.RowKit
theorem when_calls (B : Bool) (E : Int) (w : World) : Calls Tryz.prog 65 #[.bool B, .int .i64 E] w fun e w' => e = .returned (.int .i64 (if B = true then E else 0)) ∧ w = w' := by
 cases B
 · go_enter Tryz.func65, Tryz.ntmps65
   go_wp2_with fail
   go_ret
   exact ⟨rfl, rfl⟩
 · go_enter Tryz.func65, Tryz.ntmps65
   go_wp2_with fail
   go_ret
   exact ⟨rfl, rfl⟩
end Go.Proofs.YtapgnaimbgjcnaaGreatDoor
/-
  The law's words for errors of names and moments, and the stream's moment of a board.
-/
namespace Go.Proofs.YtapgnaimbgjcnaaGreatDoor
open Go Go.RowKit
def nmB (s : ByteArray) : Int := if keyBv s = true then 0 else 5
def moB (u : Int) : Int := if momB u = true then 0 else 1
theorem nameFaultB_calls (s : ByteArray) (w : World) (hs : s.size ≤ maxLen) : Calls Tryz.prog 17 #[.string s] w fun e w' => e = .returned (.int .i64 (nmB s)) ∧ Below w.heap.size w w' := by
 have HK := Lib.hid (keyQ_calls s w hs)
 have HW := Lib.hid (fun W => when_calls (!keyB s.data.toList) 5 W)
 have hv : (if (!keyB s.data.toList) = true then (5 : Int) else 0) = nmB s := by
  unfold nmB keyBv
  cases keyB s.data.toList <;> rfl
 rw [hv] at HW
 obtain ⟨qv, hqv⟩ : ∃ qv : Int, nmB s = qv := ⟨_, rfl⟩
 obtain ⟨kb, hkb⟩ : ∃ z, keyB s.data.toList = z := ⟨_, rfl⟩
 rw [hqv] at HW ⊢
 rw [hkb] at HK HW
 clear hkb hqv hv
 go_enter Tryz.func17, Tryz.ntmps17
 go_wp2_with (first | (go_at_call 66; refine HK.out.mono ?_; rintro e w1 ⟨rfl, rfl⟩) | (go_at_call 65; refine (HW.out _).mono ?_; rintro e w2 ⟨rfl, rfl⟩))
 go_ret
 exact ⟨rfl, Below.refl _ _⟩
theorem errsB_calls (l : List Int) (E : Int) (n : Nat) (hl : l.length = n) (hE : firstE l = E) (hn : n ≤ 10) (W : World) : Calls Tryz.prog 15 #[.slice (some ⟨W.heap.size, 0, none⟩) n n] (W.alloc (.cells (l.map (Value.int .i64)).toArray 32)) (fun e w' => e = .returned (.int .i64 E) ∧ Below W.heap.size W w') := by
 subst hl hE
 have h := errs_calls (W.heap.size + 5) _ l.length l.length l _ (Rd.lit W (W.heap.size + 5) 1 l.length (l.map (Value.int .i64)).toArray 32 (by omega) (by unfold maxLen; omega) (by simp))
 refine h.mono ?_
 rintro e w' ⟨he, nq, rfl⟩
 exact ⟨he, below_drewN ((Below.refl _ _).alloc (Nat.le_refl _) _) nq⟩
theorem momentFaultB_calls (u : Int) (w : World) : Calls Tryz.prog 18 #[.int .i64 u] w fun e w' => e = .returned (.int .i64 (moB u)) ∧ Below w.heap.size w w' :=
 (momentFault_calls u w).mono (fun _ _ ⟨he, hw⟩ => ⟨he, hw ▸ Below.refl _ _⟩)
theorem firstE_0 {l : List Int} : firstE (0 :: l) = firstE l := by simp [firstE]
theorem firstE_n {a : Int} {l : List Int} (h : a ≠ 0) : firstE (a :: l) = a := by simp [firstE, h]
theorem momE (u : Int) : firstE [moB u] = moB u := by
 unfold moB
 split <;> rfl
theorem cat_first (l : List Bev) (c : ByteArray) (u : Int) : firstE [bevsF l, nmB c, moB u] = catF l [c] u := by
 unfold catF
 by_cases h : bevsF l = 0
 · rw [if_pos h, h, firstE_0]
   unfold nmB
   cases hk : keyBv c
   · rw [if_neg (by decide), firstE_n (by decide)]
     simp [hk]
   · rw [if_pos rfl, firstE_0, momE]
     simp [hk, moB]
 · rw [if_neg h, firstE_n h]
def btX : List Int := [5, 15, 20, 30, 60, 60, 100, -1]
theorem boardTime_calls {zs : ZsT} {w W : World} {b p : Nat} {l : List Rsc} (h : SpX zs w b p W l) (hp : p ≤ 1000000) :
 Calls Tryz.prog 11 #[.pointer (some ⟨b, 0, none⟩)] W (fun e w' => ∃ q : Int, e = .returned (.int .i64 q) ∧ Hid (pkX zs p btX = q) ∧ -1 ≤ q ∧ q ≤ 100 ∧ SpX zs w b (p + 1) w' l) := by
 have HP := Lib.hid (spE_pickL h btX (-1) 100 #[.int .i64 5, .int .i64 15, .int .i64 20, .int .i64 30, .int .i64 60, .int .i64 60, .int .i64 100, .int .i64 (-1)] 3 8 rfl (by decide) (by decide) rfl (by decide) (by decide) hp)
 go_enter Tryz.func11, Tryz.ntmps11
 go_wp2_with fail
 refine HP.out.mono ?_
 rintro e w2 ⟨q, rfl, h1, h2, h3, h4⟩
 go_wp2_with fail
 go_ret
 exact ⟨q, rfl, h1, h2, h3, h4⟩
end Go.Proofs.YtapgnaimbgjcnaaGreatDoor
