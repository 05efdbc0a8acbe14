/-
  marathon.end, splitref2.endOf, both Moment, fromFault and FromFault by contracts. (Printed by gen_slot6.py.)
-/
import Derived.Test.YtedfieopmjpibaaDoorZSlot5
namespace Go.Proofs.YtedfieopmjpibaaDoor
open Go Go.RowKit

theorem moment_calls (f : Int) (w : World) : Calls Tryd.prog 35 #[.int .i64 f] w fun e w' => e = .returned (.bool (momB f)) ∧ w = w' := by
  have HM : Hid ((!outB f 0 345686399999) = momB f) := rfl
  go_enter Tryd.func35, Tryd.ntmps35
  go_wp2_with fail
  refine (out_calls _ _ _ _).mono ?_
  rintro e w1 ⟨rfl, rfl⟩
  go_wp2_with fail
  go_ret
  exact ⟨ret_bool HM.out, rfl⟩
theorem momentQ_calls (f : Int) (w : World) : Calls Tryd.prog 37 #[.int .i64 f] w fun e w' => e = .returned (.bool (momB f)) ∧ w = w' := by
  have HM : Hid ((!outB f 0 345686399999) = momB f) := rfl
  go_enter Tryd.func37, Tryd.ntmps37
  go_wp2_with fail
  refine (in_calls _ _ _ _).mono ?_
  rintro e w1 ⟨rfl, rfl⟩
  rw [HM.out]
  go_wp2_with fail
  go_ret
  exact ⟨rfl, rfl⟩

end Go.Proofs.YtedfieopmjpibaaDoor
