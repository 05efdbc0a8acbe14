/-
  raced by a contract: it answers true.
-/
import Derived.Test.YtaendemgkabdfaaGreatDoorZRat4
namespace Go.Proofs.YtaendemgkabdfaaGreatDoor
open Go Go.RowKit

theorem ok1600 : RatOK 1600 1 := ⟨by decide, by decide, by decide, by decide, by decide, by decide⟩
theorem ok1400 : RatOK 1400 1 := ⟨by decide, by decide, by decide, by decide, by decide, by decide⟩

theorem raced_calls (w : World) : Calls Tryz.prog 14 #[] w (BRet (.bool true) w) := by
  have h1 := fun W : World => expected1_calls 1600 1 1400 1 W ⟨by omega, by omega⟩ ⟨by omega, by omega⟩ ⟨by omega, by omega⟩ ⟨by omega, by omega⟩ ok1600 ok1400 (by decide)
  have e1 : RatP.lowN (RatP.expd (thou 1600 1) (thou 1400 1)) 800000 = 3 := by decide
  have e2 : RatP.lowD (RatP.expd (thou 1600 1) (thou 1400 1)) 800000 = 4 := by decide
  rw [e1, e2] at h1
  have H1 := Lib.hid h1
  clear h1 e1 e2
  go_enter Tryz.func14, Tryz.ntmps14
  go_wp2_with fail
  refine (H1.out _).mono ?_
  rintro e w1 ⟨rfl, hb1⟩
  go_wp2_with fail
  go_ret
  exact ⟨rfl, hb1.alloc hb1.size _⟩
end Go.Proofs.YtaendemgkabdfaaGreatDoor
