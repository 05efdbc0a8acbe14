/-
  base.Rising, splitref2.rising, slices.Index and slices.Contains of strings by contracts. (Printed by gen_slot1.py.)
-/
import Derived.Test.YtipbhgefcmekpaaGreatDoorZSlotPure
import Derived.Test.YtipbhgefcmekpaaGreatDoorZKey
import Derived.Test.YtipbhgefcmekpaaGreatDoorZRatFault
namespace Go.Proofs.YtipbhgefcmekpaaGreatDoor
open Go Go.RowKit

set_option maxRecDepth 100000 in
theorem rising_calls (b : Nat) (A : Option Addr) (n c : Nat) (hs : List ByteArray) (w : World) (hr : Rd w b 1 (.slice A n c) n (strsV hs)) (hsz : ∀ s ∈ hs, s.size ≤ 1000) :
    Calls Tryz.prog 98 #[.slice A n c] w (QRet (.int .i64 (riseF hs)) w) := by
  obtain ⟨hl, hnc, hcm, hcells⟩ := strs_cells hr
  unfold maxLen at hcm
  have HF := Lib.hid (show riseF hs = riseG (lastS hs 0) (hs.drop 0) from rfl)
  have HL := Lib.hid hl
  have HC := Lib.hid hcells
  clear hcells hl hr
  go_enter Tryz.func98, Tryz.ntmps98
  go_wp2_with fail
  go_loopw [7] (fun i wr => ∃ k : Nat, k ≤ n ∧ i = .int .i64 k ∧ Hid (riseF hs = riseG (lastS hs k) (hs.drop k)) ∧ wr = w) (fun i _ => n - (intOf i).toNat)
  case atStart => exact ⟨0, Nat.zero_le _, rfl, HF, rfl⟩
  case round =>
    clear HF
    obtain ⟨k, hk, rfl, HF, rfl⟩ := hrel
    by_cases hlt : k < n
    · have hkr : k < hs.length := by rw [HL.out]; exact hlt
      obtain ⟨g, o, hA, _, hcs⟩ := HC.out (by omega)
      subst hA
      have c0 := hcs k hkr
      have hri := hsz _ (List.getElem_mem hkr)
      have hst := HF.out.trans (riseG_step hs k hkr)
      obtain ⟨s, hs'⟩ : ∃ s, hs[k] = s := ⟨_, rfl⟩
      rw [hs'] at c0 hri hst
      clear hs'
      have HCS := Lib.hid hcs
      clear hcs
      cases hkey : keyB s.data.toList
      · rw [if_pos hkey] at hst
        have HS := Lib.hid hst
        have HK := Lib.hid hkey
        clear hst hkey
        go_wp2_with fail
        refine (key_calls s _ (by unfold maxLen; omega)).mono ?_
        rintro e w1 ⟨rfl, rfl⟩
        rw [HK.out]
        go_wp2_with fail
        go_ret
        exact ⟨ret_int HS.out.symm, 0, rfl⟩
      · rw [if_neg (by rw [hkey]; simp)] at hst
        have HK := Lib.hid hkey
        by_cases h0 : k = 0
        · subst h0
          simp only [Nat.add_zero] at c0
          rw [show lastS hs 0 = ⟨#[]⟩ from rfl, le_nil hkey, if_neg (by simp)] at hst
          have HS := Lib.hid hst
          clear hkey hst
          go_wp2_with fail
          refine (key_calls s _ (by unfold maxLen; omega)).mono ?_
          rintro e w1 ⟨rfl, rfl⟩
          rw [HK.out]
          go_wp2_with fail
          go_roundw
          case rel => exact ⟨1, by omega, by go_num, HS, trivial⟩
          case measure => simp [intOf]; omega
        · obtain ⟨q, rfl⟩ : ∃ q, k = q + 1 := ⟨k - 1, by omega⟩
          have hqr : q < hs.length := by omega
          have p0 := HCS.out q hqr
          have hla : lastS hs (q + 1) = hs[q] := by simp [lastS, hqr]
          rw [hla] at hst
          obtain ⟨t, ht⟩ : ∃ t, hs[q] = t := ⟨_, rfl⟩
          rw [ht] at hst p0
          clear ht hla hkey
          have hg : (0 : Int) < (((q + 1 : Nat)) : Int) := by omega
          have hq0 : (0 : Int) ≤ (q : Int) := by omega
          have hqn : (q : Int) < (n : Int) := by omega
          cases hle : leS s t
          · rw [hle, if_neg (by simp)] at hst
            have hle' : (Op.bytesLess s.toList t.toList || s.toList == t.toList) = false := hle
            have HS := Lib.hid hst
            clear hle hst
            go_wp2_with fail
            refine (key_calls s _ (by unfold maxLen; omega)).mono ?_
            rintro e w1 ⟨rfl, rfl⟩
            rw [HK.out]
            go_wp2_with fail
            go_roundw
            case rel => exact ⟨q + 1 + 1, by omega, by go_num, HS, trivial⟩
            case measure => simp [intOf]; omega
          · rw [hle, if_pos rfl] at hst
            have hle' : (Op.bytesLess s.toList t.toList || s.toList == t.toList) = true := hle
            have HS := Lib.hid hst
            clear hle hst
            go_wp2_with fail
            refine (key_calls s _ (by unfold maxLen; omega)).mono ?_
            rintro e w1 ⟨rfl, rfl⟩
            rw [HK.out]
            go_wp2_with fail
            go_ret
            exact ⟨ret_int HS.out.symm, 0, rfl⟩
    · obtain rfl : k = n := by omega
      have HS := Lib.hid (HF.out.trans (by rw [List.drop_of_length_le (by rw [HL.out]; exact Nat.le_refl _)]; rfl : _ = (0 : Int)))
      go_wp2_with fail
      go_ret
      exact ⟨ret_int HS.out.symm, 0, rfl⟩

set_option maxRecDepth 100000 in
theorem indexS_calls (b : Nat) (A : Option Addr) (n c : Nat) (hs : List ByteArray) (x : ByteArray) (w : World) (hr : Rd w b 1 (.slice A n c) n (strsV hs)) :
    Calls Tryz.prog 114 #[.slice A n c, .string x] w (QRet (.int .i64 (ixOf (eqS x) hs)) w) := by
  obtain ⟨hl, hnc, hcm, hcells⟩ := strs_cells hr
  unfold maxLen at hcm
  have HL := Lib.hid hl
  have HC := Lib.hid hcells
  clear hcells hl hr
  go_enter Tryz.func114, Tryz.ntmps114
  go_wp2_with fail
  go_loopw [8] (fun i wr => ∃ k : Nat, k ≤ n ∧ i = .int .i64 k ∧ Hid (∀ i (hi : i < k) (hi' : i < hs.length), eqS x hs[i] = false) ∧ wr = w) (fun i _ => n - (intOf i).toNat)
  case atStart => exact ⟨0, Nat.zero_le _, rfl, (fun i hi => absurd hi (by omega)), rfl⟩
  case round =>
    obtain ⟨k, hk, rfl, HF, rfl⟩ := hrel
    by_cases hlt : k < n
    · have hkr : k < hs.length := by rw [HL.out]; exact hlt
      obtain ⟨g, o, hA, _, hcs⟩ := HC.out (by omega)
      subst hA
      have c0 := hcs k hkr
      obtain ⟨s, hs'⟩ : ∃ s, hs[k] = s := ⟨_, rfl⟩
      rw [hs'] at c0
      clear hcs
      cases he : eqS x s
      · have he' : (x.toList == s.toList) = false := he
        have HF2 : Hid (∀ i (hi : i < k + 1) (hi' : i < hs.length), eqS x hs[i] = false) := by
          intro i hi hi'
          by_cases hik : i = k
          · subst hik; rw [hs']; exact he
          · exact HF.out i (by omega) hi'
        clear he hs'
        go_wp2_with fail
        go_roundw
        case rel => exact ⟨k + 1, by omega, by go_num, HF2, trivial⟩
        case measure => simp [intOf]; omega
      · have he' : (x.toList == s.toList) = true := he
        have HR : Hid (ixOf (eqS x) hs = k) := ixOf_at _ hs k hkr (fun i hi => HF.out i hi (by omega)) (by rw [hs']; exact he)
        clear he hs'
        go_wp2_with fail
        go_ret
        exact ⟨ret_int HR.out.symm, 0, rfl⟩
    · obtain rfl : k = n := by omega
      have HR : Hid (ixOf (eqS x) hs = -1) := ixOf_no _ hs (fun i hi => HF.out i (by rw [← HL.out]; exact hi) hi)
      go_wp2_with fail
      go_ret
      exact ⟨ret_int HR.out.symm, 0, rfl⟩

set_option maxRecDepth 100000 in
theorem containsS_calls (b : Nat) (A : Option Addr) (n c : Nat) (hs : List ByteArray) (x : ByteArray) (w : World) (hr : Rd w b 1 (.slice A n c) n (strsV hs)) :
    Calls Tryz.prog 99 #[.slice A n c, .string x] w (QRet (.bool (memS hs x)) w) := by
  have HM := Lib.hid (ixOf_mem (eqS x) hs)
  go_enter Tryz.func99, Tryz.ntmps99
  go_wp2_with fail
  refine (indexS_calls b A n c hs x _ hr).mono ?_
  rintro e w1 ⟨rfl, nq, rfl⟩
  go_wp2_with fail
  go_ret
  exact ⟨ret_bool HM.out, nq, rfl⟩
end Go.Proofs.YtipbhgefcmekpaaGreatDoor
