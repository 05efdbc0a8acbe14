/-
  nearest, plus, ExpectedOf by contracts.
-/
import Derived.Test.YtlfhommeomchoaaRat1
namespace Go.Proofs.Ytlfhommeomchoaa
open Go Go.RowKit

theorem nearest0_calls (a b : Int) (w : World) (h0 : 0 ≤ a) (h1 : a ≤ 1000000000000000) (hb : 1 ≤ b) (hb1 : b ≤ 1000000) :
    Calls Try.prog 68 #[.int .i64 a, .int .i64 b] w fun e w' => e = .returned (.int .i64 (RatP.near a b)) ∧ w = w' := by
  have HN := Lib.hid (show RatP.near a b = (2 * a + b) / (2 * b) by unfold RatP.near; rw [if_neg (by omega)])
  have hn : ¬ a < 0 := by omega
  have g0 : 0 ≤ (2 * a + b) / (2 * b) := Int.ediv_nonneg (by omega) (by omega)
  have g1 : (2 * a + b) / (2 * b) ≤ 2 * a + b := Int.ediv_le_self _ (by omega)
  go_enter Try.func68, Try.ntmps68
  go_wp2_with fail
  go_ret
  exact ⟨ret_int HN.out.symm, rfl⟩

theorem nearest_calls (a b : Int) (w : World) (h0 : -1000000000000000 ≤ a) (h1 : a ≤ 1000000000000000) (hb : 1 ≤ b) (hb1 : b ≤ 1000000) :
    Calls Try.prog 68 #[.int .i64 a, .int .i64 b] w fun e w' => e = .returned (.int .i64 (RatP.near a b)) ∧ w = w' := by
  by_cases hs : a < 0
  · have HN := Lib.hid (show RatP.near a b = - RatP.near (-a) b by unfold RatP.near; rw [if_pos hs, if_neg (by omega)])
    have g0 : 0 ≤ RatP.near (-a) b := by unfold RatP.near; rw [if_neg (by omega)]; exact Int.ediv_nonneg (by omega) (by omega)
    have g1 : RatP.near (-a) b ≤ 2 * (-a) + b := by unfold RatP.near; rw [if_neg (by omega)]; exact Int.ediv_le_self _ (by omega)
    go_enter Try.func68, Try.ntmps68
    go_wp2_with fail
    refine (nearest0_calls (-a) b _ (by omega) (by omega) hb hb1).mono ?_
    rintro e w1 ⟨rfl, rfl⟩
    go_wp2_with fail
    go_ret
    exact ⟨ret_int HN.out.symm, rfl⟩
  · exact nearest0_calls a b w (by omega) h1 hb hb1

set_option maxRecDepth 100000 in
theorem plus_calls (a b c d : Int) (w : World) (h1 : -1000000000000000000 ≤ a * d) (h2 : a * d ≤ 1000000000000000000) (h3 : -1000000000000000000 ≤ c * b) (h4 : c * b ≤ 1000000000000000000) (h5 : 1 ≤ b * d) (h6 : b * d ≤ 9000000000000000000) :
    Calls Try.prog 76 #[.agg #[.int .i64 a, .int .i64 b], .agg #[.int .i64 c, .int .i64 d]] w (FracB (RatP.lowN (a * d + c * b) (b * d)) (RatP.lowD (a * d + c * b) (b * d)) w) := by
  go_enter Try.func76, Try.ntmps76
  go_wp2_with fail
  refine (lowest_calls _ _ _ (by omega) (by omega) (by omega) (by omega)).mono ?_
  rintro e w1 ⟨rfl, hb1⟩
  have B0 : Blk w1 (w.heap.size + 2) 27 #[.int .i64 0, .int .i64 0] := by
    have := (Blk.new ((w.alloc (.cells #[.int .i64 a, .int .i64 b] 27)).alloc (.cells #[.int .i64 c, .int .i64 d] 27)) 27 #[.int .i64 0, .int .i64 0]).below hb1
    simpa using this
  obtain ⟨b1, b2, b3, b4⟩ := B0.two
  generalize RatP.lowN (a * d + c * b) (b * d) = N at *
  generalize RatP.lowD (a * d + c * b) (b * d) = D at *
  go_wp2_with fail
  refine bodyPost_ret (v := .agg #[.int .i64 N, .int .i64 D]) (by simp [results, Try.results76, go_sem, b1, b2]) rfl ⟨rfl, ?_⟩
  exact ((below_call ((((Below.refl _ _).alloc (Nat.le_refl _) _).alloc (by simp) _).alloc (by simp; omega) _) hb1 (Nat.le_refl _)).setCell (p := ⟨w.heap.size + 2, 0, none⟩) (by simp) _).setCell (p := ⟨w.heap.size + 2, 1, none⟩) (by simp) _
end Go.Proofs.Ytlfhommeomchoaa
