/-
  The stream of raw numbers, on: Some, Odd by contracts.
-/
import Derived.Test.YtlfhommeomchoaaStream2
import Derived.Outline
namespace Go.Proofs.Ytlfhommeomchoaa
open Go Go.RowKit

theorem some_calls (b K : Nat) (A : Option Addr) (n c : Nat) (xs : List Value) (w : World) (h0 : 0 < n) (hr : Rd w b 1 (.slice A n c) n xs) (hx : ∀ x ∈ xs, ∃ z, x = .string z) (hs : Strm w b K) (hK : K ≤ 10000000) :
    Calls Try.prog 29 #[.pointer (some ⟨b, 0, none⟩), .slice A n c] w (OneS xs b (K + 1) w) := by
  obtain ⟨A', c', e1, e2, e3, e4, e5, e6⟩ := hr
  injection e1 with ea eb ec
  subst ea ec
  obtain ⟨g, o, rfl, f2, f3⟩ := e6 h0
  unfold maxLen at e3
  go_enter Try.func29, Try.ntmps29
  go_wp2_with fail
  refine (next_calls b K _ _ (by omega) (by omega) hs hK).mono ?_
  rintro e w' ⟨v, rfl, g1, g2, hs', hb'⟩
  obtain ⟨i, rfl⟩ := Int.eq_ofNat_of_zero_le g1
  have hi : i < n := by omega
  have hil : i < xs.length := by omega
  obtain ⟨z, hz⟩ := hx _ (List.getElem_mem hil)
  have hc : w'.cell? ⟨g, o + i, none⟩ = some (.string z) := (hb'.cell (f3 i _ (List.getElem?_eq_getElem hil)) f2).trans (by rw [hz])
  have hm : Value.string z ∈ xs := by rw [← hz]; exact List.getElem_mem hil
  clear f3 hx hz
  go_wp2_with fail
  go_ret
  exact ⟨_, rfl, hm, hs', hb'⟩

theorem odd_calls (b K : Nat) (lo hi : Int) (w : World) (h1 : lo ≤ hi) (hlo : -1000000000000 ≤ lo) (hhi : hi ≤ 1000000000000) (hs : Strm w b K) (hK : K ≤ 1000000) :
    Calls Try.prog 59 #[.pointer (some ⟨b, 0, none⟩), .int .i64 lo, .int .i64 hi] w (NumS (-1099511627776) 1099511627776 b (K + 2) w) := by
  go_enter Try.func59, Try.ntmps59
  go_wp2_with fail
  refine (flip_calls b K _ _ (by omega) (by omega) hs (by omega)).mono ?_
  rintro e w' ⟨v, rfl, hs', hb'⟩
  cases v
  · go_wp2_with fail
    refine (range_calls b (K + 1) _ _ _ (by omega) (by omega) (by omega) hs' (by omega)).mono ?_
    rintro e w2 ⟨v, rfl, g1, g2, hs2, hb2⟩
    go_wp2_with fail
    go_ret
    exact ⟨_, rfl, by omega, by omega, hs2, hb'.call hb2 (Nat.le_refl _)⟩
  · go_wp2_with fail
    refine (pick_calls b (K + 1) _ 6 6 _ _ (by omega) (Rd.lit0 hs'.lt (by decide) rfl) (by simp) (hs'.alloc _) (by omega)).mono ?_
    rintro e w2 ⟨v, rfl, hm, hs2, hb2⟩
    obtain ⟨z, rfl, hz1, hz2⟩ : ∃ z : Int, v = .int .i64 z ∧ -1099511627776 ≤ z ∧ z ≤ 1099511627776 := by
      simp at hm
      rcases hm with rfl | rfl | rfl | rfl | rfl | rfl <;> exact ⟨_, rfl, by omega, by omega⟩
    go_wp2_with fail
    go_ret
    exact ⟨_, rfl, hz1, hz2, hs2, (hb'.alloc (Nat.le_refl _) _).call hb2 (Nat.le_refl _)⟩
end Go.Proofs.Ytlfhommeomchoaa
