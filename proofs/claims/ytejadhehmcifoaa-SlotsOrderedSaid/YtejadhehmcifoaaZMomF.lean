/-
  MomentFault of the reference.
-/
import Derived.Test.YtejadhehmcifoaaZSlot5
namespace Go.Proofs.Ytejadhehmcifoaa
open Go Go.RowKit

/-- the moment's own fault, of the reference -/
theorem momentFault_calls (u : Int) (w : World) : Calls Try.prog 23 #[.int .i64 u] w fun e w' => e = .returned (.int .i64 (if momB u = true then 0 else 1)) ∧ w = w' := by
  have HM := Lib.hid (momentQ_calls u w)
  cases hm : momB u
  · rw [hm] at HM
    clear hm
    go_enter Try.func23, Try.ntmps23
    go_wp2_with fail
    refine HM.out.mono ?_
    rintro e w1 ⟨rfl, rfl⟩
    go_wp2_with fail
    go_ret
    exact ⟨rfl, rfl⟩
  · rw [hm] at HM
    clear hm
    go_enter Try.func23, Try.ntmps23
    go_wp2_with fail
    refine HM.out.mono ?_
    rintro e w1 ⟨rfl, rfl⟩
    go_wp2_with fail
    go_ret
    exact ⟨rfl, rfl⟩
end Go.Proofs.Ytejadhehmcifoaa
