/-
  The stream of raw numbers, on: Some, Odd by contracts.
-/
import Derived.Test.YtgpgnilgloojhaaDoorStream2
import Derived.Outline
namespace Go.Proofs.YtgpgnilgloojhaaDoor
open Go Go.RowKit

theorem odd_calls (b K : Nat) (lo hi : Int) (w : World) (h1 : lo ≤ hi) (hlo : -1000000000000 ≤ lo) (hhi : hi ≤ 1000000000000) (hs : Strm w b K) (hK : K ≤ 1000000) :
    Calls Tryd.prog 57 #[.pointer (some ⟨b, 0, none⟩), .int .i64 lo, .int .i64 hi] w (NumS (-1099511627776) 1099511627776 b (K + 2) w) := by
  go_enter Tryd.func57, Tryd.ntmps57
  go_wp2_with fail
  refine (flip_calls b K _ _ (by omega) (by omega) hs (by omega)).mono ?_
  rintro e w' ⟨v, rfl, hs', hb'⟩
  cases v
  · go_wp2_with fail
    refine (range_calls b (K + 1) _ _ _ (by omega) (by omega) (by omega) hs' (by omega)).mono ?_
    rintro e w2 ⟨v, rfl, g1, g2, hs2, hb2⟩
    go_wp2_with fail
    go_ret
    exact ⟨_, rfl, by omega, by omega, hs2, hb'.call hb2 (Nat.le_refl _)⟩
  · go_wp2_with fail
    refine (pick_calls b (K + 1) _ 6 6 _ _ (by omega) (Rd.lit0 hs'.lt (by decide) rfl) (by simp) (hs'.alloc _) (by omega)).mono ?_
    rintro e w2 ⟨v, rfl, hm, hs2, hb2⟩
    obtain ⟨z, rfl, hz1, hz2⟩ : ∃ z : Int, v = .int .i64 z ∧ -1099511627776 ≤ z ∧ z ≤ 1099511627776 := by
      simp at hm
      rcases hm with rfl | rfl | rfl | rfl | rfl | rfl <;> exact ⟨_, rfl, by omega, by omega⟩
    go_wp2_with fail
    go_ret
    exact ⟨_, rfl, hz1, hz2, hs2, (hb'.alloc (Nat.le_refl _) _).call hb2 (Nat.le_refl _)⟩
end Go.Proofs.YtgpgnilgloojhaaDoor
