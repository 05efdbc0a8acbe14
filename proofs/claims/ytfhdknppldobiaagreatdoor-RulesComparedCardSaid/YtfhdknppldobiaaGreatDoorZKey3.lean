/-
  splitref2.Key by a contract: it answers keyB.
-/
import Derived.Test.YtfhdknppldobiaaGreatDoorZKey2
import Derived.Lib.IndexBytes
namespace Go.Proofs.YtfhdknppldobiaaGreatDoor
open Go Go.RowKit

theorem only_smalls_calls (s : ByteArray) (w : World) (hs : s.size ≤ maxLen) :
    Calls Tryz.prog 126 #[.string s, .string ⟨#[97, 98, 99, 100, 101, 102, 103, 104, 105, 106, 107, 108, 109, 110, 111, 112, 113, 114, 115, 116, 117, 118, 119, 120, 121, 122]⟩] w fun e w' => e = .returned (.bool (s.data.toList.all smallB)) ∧ w = w' := by
  have := only_calls s ⟨#[97, 98, 99, 100, 101, 102, 103, 104, 105, 106, 107, 108, 109, 110, 111, 112, 113, 114, 115, 116, 117, 118, 119, 120, 121, 122]⟩ w hs
  rwa [show (ByteArray.mk #[97, 98, 99, 100, 101, 102, 103, 104, 105, 106, 107, 108, 109, 110, 111, 112, 113, 114, 115, 116, 117, 118, 119, 120, 121, 122]).data.toList = smallsL from rfl, only_smalls] at this
def allOk (l : List UInt8) : Bool := l.all okB
theorem only_oks_calls (s : ByteArray) (w : World) (hs : s.size ≤ maxLen) :
    Calls Tryz.prog 126 #[.string s, .string ⟨#[97, 98, 99, 100, 101, 102, 103, 104, 105, 106, 107, 108, 109, 110, 111, 112, 113, 114, 115, 116, 117, 118, 119, 120, 121, 122, 48, 49, 50, 51, 52, 53, 54, 55, 56, 57, 45, 95]⟩] w fun e w' => e = .returned (.bool (allOk s.data.toList)) ∧ w = w' := by
  have := only_calls s ⟨#[97, 98, 99, 100, 101, 102, 103, 104, 105, 106, 107, 108, 109, 110, 111, 112, 113, 114, 115, 116, 117, 118, 119, 120, 121, 122, 48, 49, 50, 51, 52, 53, 54, 55, 56, 57, 45, 95]⟩ w hs
  rwa [show (ByteArray.mk #[97, 98, 99, 100, 101, 102, 103, 104, 105, 106, 107, 108, 109, 110, 111, 112, 113, 114, 115, 116, 117, 118, 119, 120, 121, 122, 48, 49, 50, 51, 52, 53, 54, 55, 56, 57, 45, 95]).data.toList = oksL from rfl, only_oks] at this

set_option maxRecDepth 100000 in
theorem keyQ_calls (s : ByteArray) (w : World) (hs : s.size ≤ maxLen) :
    Calls Tryz.prog 66 #[.string s] w fun e w' => e = .returned (.bool (keyB s.data.toList)) ∧ w = w' := by
  unfold maxLen at hs
  by_cases h0 : 1 ≤ s.size ∧ s.size ≤ 40
  · obtain ⟨h1, h2⟩ := h0
    have ho : outB (s.size : Int) 1 40 = false := outB_f (by omega) (by omega)
    have HO := Lib.hid ho
    clear ho
    cases hsm : smallB s[0]
    · have HK := Lib.hid (keyB_head h1 hsm)
      have HF := Lib.hid (show (s.extract 0 1).data.toList.all smallB = false by rw [Lib.extract_data]; simp [take_one s h1, hsm])
      clear hsm
      go_enter Tryz.func66, Tryz.ntmps66
      go_wp2_with fail
      refine (in_calls _ _ _ _).mono ?_
      rintro e w' ⟨rfl, rfl⟩
      rw [HO.out]
      go_wp2_with fail
      refine (only_smalls_calls _ _ (by simp [maxLen]; omega)).mono ?_
      rintro e w' ⟨rfl, rfl⟩
      rw [HF.out]
      go_wp2_with fail
      go_ret
      exact ⟨ret_bool HK.out.symm, rfl⟩
    · have HK := Lib.hid (show keyB s.data.toList = allOk s.data.toList from keyB_all h1 h2 hsm)
      have HF := Lib.hid (show (s.extract 0 1).data.toList.all smallB = true by rw [Lib.extract_data]; simp [take_one s h1, hsm])
      clear hsm
      go_enter Tryz.func66, Tryz.ntmps66
      go_wp2_with fail
      refine (in_calls _ _ _ _).mono ?_
      rintro e w' ⟨rfl, rfl⟩
      rw [HO.out]
      go_wp2_with fail
      refine (only_smalls_calls _ _ (by simp [maxLen]; omega)).mono ?_
      rintro e w' ⟨rfl, rfl⟩
      rw [HF.out]
      go_wp2_with fail
      refine (only_oks_calls _ _ (by simp [maxLen]; omega)).mono ?_
      rintro e w' ⟨rfl, rfl⟩
      go_wp2_with fail
      go_ret
      exact ⟨ret_bool HK.out.symm, rfl⟩
  · have HK := Lib.hid (keyB_size (l := s.data.toList) (by simpa using h0))
    have ho : outB (s.size : Int) 1 40 = true := outB_t (by omega)
    have HO := Lib.hid ho
    clear ho h0
    go_enter Tryz.func66, Tryz.ntmps66
    go_wp2_with fail
    refine (in_calls _ _ _ _).mono ?_
    rintro e w' ⟨rfl, rfl⟩
    rw [HO.out]
    go_wp2_with fail
    go_ret
    exact ⟨ret_bool HK.out.symm, rfl⟩
end Go.Proofs.YtfhdknppldobiaaGreatDoor
