/-
  base.Rising, splitref2.rising, slices.Index and slices.Contains of strings by contracts. (Printed by gen_slot1.py.)
-/
import Derived.Test.YtfmljboogkhobaaGreatDoorZSlotPure
import Derived.Test.YtfmljboogkhobaaGreatDoorZKey
import Derived.Test.YtfmljboogkhobaaGreatDoorZRatFault
import Derived.Deep.RegionLaw
import Derived.Deep.RegionWith
import Derived.Deep.DrawnRows
namespace Go.Proofs.YtfmljboogkhobaaGreatDoor
open Go Go.RowKit

set_option maxRecDepth 100000 in
theorem indexS_calls (b : Nat) (A : Option Addr) (n c : Nat) (hs : List ByteArray) (x : ByteArray) (w : World) (hr : Rd w b 1 (.slice A n c) n (strsV hs)) :
    Calls Tryz.prog 131 #[.slice A n c, .string x] w (QRet (.int .i64 (ixOf (eqS x) hs)) w) := by
  obtain ⟨hl, hnc, hcm, hcells⟩ := strs_cells hr
  unfold maxLen at hcm
  have HL := Lib.hid hl
  have HC := Lib.hid hcells
  clear hcells hl hr
  go_enter Tryz.func131, Tryz.ntmps131
  go_wp2_with fail
  go_loopw [8] (fun i wr => ∃ k : Nat, k ≤ n ∧ i = .int .i64 k ∧ Hid (∀ i (hi : i < k) (hi' : i < hs.length), eqS x hs[i] = false) ∧ wr = w) (fun i _ => n - (intOf i).toNat)
  case atStart => exact ⟨0, Nat.zero_le _, rfl, (fun i hi => absurd hi (by omega)), rfl⟩
  case round =>
    obtain ⟨k, hk, rfl, HF, rfl⟩ := hrel
    by_cases hlt : k < n
    · have hkr : k < hs.length := by rw [HL.out]; exact hlt
      obtain ⟨g, o, hA, _, hcs⟩ := HC.out (by omega)
      subst hA
      have c0 := hcs k hkr
      obtain ⟨s, hs'⟩ : ∃ s, hs[k] = s := ⟨_, rfl⟩
      rw [hs'] at c0
      clear hcs
      cases he : eqS x s
      · have he' : (x.toList == s.toList) = false := he
        have HF2 : Hid (∀ i (hi : i < k + 1) (hi' : i < hs.length), eqS x hs[i] = false) := by
          intro i hi hi'
          by_cases hik : i = k
          · subst hik; rw [hs']; exact he
          · exact HF.out i (by omega) hi'
        clear he hs'
        go_wp2_with fail
        go_roundw
        case rel => exact ⟨k + 1, by omega, by go_num, HF2, trivial⟩
        case measure => simp [intOf]; omega
      · have he' : (x.toList == s.toList) = true := he
        have HR : Hid (ixOf (eqS x) hs = k) := ixOf_at _ hs k hkr (fun i hi => HF.out i hi (by omega)) (by rw [hs']; exact he)
        clear he hs'
        go_wp2_with fail
        go_ret
        exact ⟨ret_int HR.out.symm, 0, rfl⟩
    · obtain rfl : k = n := by omega
      have HR : Hid (ixOf (eqS x) hs = -1) := ixOf_no _ hs (fun i hi => HF.out i (by rw [← HL.out]; exact hi) hi)
      go_wp2_with fail
      go_ret
      exact ⟨ret_int HR.out.symm, 0, rfl⟩

set_option maxRecDepth 100000 in
theorem containsS_calls (b : Nat) (A : Option Addr) (n c : Nat) (hs : List ByteArray) (x : ByteArray) (w : World) (hr : Rd w b 1 (.slice A n c) n (strsV hs)) :
    Calls Tryz.prog 96 #[.slice A n c, .string x] w (QRet (.bool (memS hs x)) w) := by
  have HM := Lib.hid (ixOf_mem (eqS x) hs)
  go_enter Tryz.func96, Tryz.ntmps96
  go_wp2_with fail
  refine (indexS_calls b A n c hs x _ hr).mono ?_
  rintro e w1 ⟨rfl, nq, rfl⟩
  go_wp2_with fail
  go_ret
  exact ⟨ret_bool HM.out, nq, rfl⟩
end Go.Proofs.YtfmljboogkhobaaGreatDoor
/-
  marathon.find, splitref2.SlotAt and marathon.slotFault by contracts. (Printed by gen_slot2.py.)
-/
namespace Go.Proofs.YtfmljboogkhobaaGreatDoor
open Go Go.RowKit

end Go.Proofs.YtfmljboogkhobaaGreatDoor
/-
  marathon.CheckSlots and splitref2.SlotsFault by contracts: both answer slotsF. (Printed by gen_slot3.py.)
-/
namespace Go.Proofs.YtfmljboogkhobaaGreatDoor
open Go Go.RowKit
attribute [local go_sem ↓] Go.wp_at_zero Go.wp_at_succ

end Go.Proofs.YtfmljboogkhobaaGreatDoor
