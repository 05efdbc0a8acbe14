/-
  byGift and giftOrder by contracts.
-/
import Derived.Test.YthbcogekfdllmaaGreatZBid2
import Derived.Test.YthbcogekfdllmaaGreatZBs
import Derived.Deep.DeepCutAuto
namespace Go.Proofs.YthbcogekfdllmaaGreat
open Go Go.RowKit

set_option maxRecDepth 100000 in
theorem signI_calls (x : Int) (w : World) : Calls Tryz.prog 43 #[.int .i64 x] w fun e w' => e = .returned (.int .i64 (cmpI x 0)) ∧ w = w' := by
  by_cases h1 : x < 0
  · have HS : Hid (cmpI x 0 = -1) := by unfold cmpI; rw [if_pos h1]; exact Lib.hid rfl
    go_enter Tryz.func43, Tryz.ntmps43
    go_wp2_with fail
    go_ret
    exact ⟨ret_int HS.out.symm, rfl⟩
  · by_cases h2 : 0 < x
    · have HS : Hid (cmpI x 0 = 1) := by unfold cmpI; rw [if_neg h1, if_pos h2]; exact Lib.hid rfl
      go_enter Tryz.func43, Tryz.ntmps43
      go_wp2_with fail
      go_ret
      exact ⟨ret_int HS.out.symm, rfl⟩
    · have HS : Hid (cmpI x 0 = 0) := by unfold cmpI; rw [if_neg h1, if_neg h2]; exact Lib.hid rfl
      go_enter Tryz.func43, Tryz.ntmps43
      go_wp2_with fail
      go_ret
      exact ⟨ret_int HS.out.symm, rfl⟩
theorem cmpI_sub (a b : Int) : cmpI (a - b) 0 = cmpI a b := by
  unfold cmpI
  by_cases h1 : a < b
  · rw [if_pos h1, if_pos (by omega)]
  · by_cases h2 : b < a
    · rw [if_neg h1, if_pos h2, if_neg (by omega), if_pos (by omega)]
    · rw [if_neg h1, if_neg h2, if_neg (by omega), if_neg (by omega)]
theorem strCmp_calls (a b : ByteArray) (w : World) : Calls Tryz.prog 44 #[.string a, .string b] w fun e w' => e = .returned (.int .i64 (cmpS a b)) ∧ w = w' :=
  (Tryz.strings_Compare a b w).mono (fun _ _ h => ⟨h.1, h.2.symm⟩)
end Go.Proofs.YthbcogekfdllmaaGreat
