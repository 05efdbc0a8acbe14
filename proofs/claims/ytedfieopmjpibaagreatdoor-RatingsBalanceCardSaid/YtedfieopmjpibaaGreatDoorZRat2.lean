/-
  nearest, plus, ExpectedOf by contracts.
-/
import Derived.Test.YtedfieopmjpibaaGreatDoorZRat1
namespace Go.Proofs.YtedfieopmjpibaaGreatDoor
open Go Go.RowKit

theorem nearest0_calls (a b : Int) (w : World) (h0 : 0 ≤ a) (h1 : a ≤ 1000000000000000) (hb : 1 ≤ b) (hb1 : b ≤ 1000000) :
    Calls Tryz.prog 41 #[.int .i64 a, .int .i64 b] w fun e w' => e = .returned (.int .i64 (RatP.near a b)) ∧ w = w' := by
  have HN := Lib.hid (show RatP.near a b = (2 * a + b) / (2 * b) by unfold RatP.near; rw [if_neg (by omega)])
  have hn : ¬ a < 0 := by omega
  have g0 : 0 ≤ (2 * a + b) / (2 * b) := Int.ediv_nonneg (by omega) (by omega)
  have g1 : (2 * a + b) / (2 * b) ≤ 2 * a + b := Int.ediv_le_self _ (by omega)
  go_enter Tryz.func41, Tryz.ntmps41
  go_wp2_with fail
  go_ret
  exact ⟨ret_int HN.out.symm, rfl⟩

theorem nearest_calls (a b : Int) (w : World) (h0 : -1000000000000000 ≤ a) (h1 : a ≤ 1000000000000000) (hb : 1 ≤ b) (hb1 : b ≤ 1000000) :
    Calls Tryz.prog 41 #[.int .i64 a, .int .i64 b] w fun e w' => e = .returned (.int .i64 (RatP.near a b)) ∧ w = w' := by
  by_cases hs : a < 0
  · have HN := Lib.hid (show RatP.near a b = - RatP.near (-a) b by unfold RatP.near; rw [if_pos hs, if_neg (by omega)])
    have g0 : 0 ≤ RatP.near (-a) b := by unfold RatP.near; rw [if_neg (by omega)]; exact Int.ediv_nonneg (by omega) (by omega)
    have g1 : RatP.near (-a) b ≤ 2 * (-a) + b := by unfold RatP.near; rw [if_neg (by omega)]; exact Int.ediv_le_self _ (by omega)
    go_enter Tryz.func41, Tryz.ntmps41
    go_wp2_with fail
    refine (nearest0_calls (-a) b _ (by omega) (by omega) hb hb1).mono ?_
    rintro e w1 ⟨rfl, rfl⟩
    go_wp2_with fail
    go_ret
    exact ⟨ret_int HN.out.symm, rfl⟩
  · exact nearest0_calls a b w (by omega) h1 hb hb1

end Go.Proofs.YtedfieopmjpibaaGreatDoor
/-
  splitref2.ExpectedOf by a contract.
-/
namespace Go.Proofs.YtedfieopmjpibaaGreatDoor
open Go Go.RowKit

/-- two right ratings' expectation, before it is brought to lowest terms -/
def expN (aN aD bN bD : Int) : Int := min (max (aN * bD - bN * aD + 400 * aD * bD) 0) (800 * aD * bD)
def expD (aD bD : Int) : Int := 800 * aD * bD

end Go.Proofs.YtedfieopmjpibaaGreatDoor
