/-
  The stream of raw numbers, on: Range, Flip, Pick, Some, Odd by contracts.
-/
import Derived.Test.YtlfhommeomchoaaStream
namespace Go.Proofs.Ytlfhommeomchoaa
open Go Go.RowKit

theorem range_calls (b K : Nat) (lo hi : Int) (w : World) (h1 : lo ≤ hi) (hlo : -2305843009213693952 ≤ lo) (hhi : hi ≤ 2305843009213693951) (hs : Strm w b K) (hK : K ≤ 10000000) :
    Calls Try.prog 58 #[.pointer (some ⟨b, 0, none⟩), .int .i64 lo, .int .i64 hi] w (NumS lo hi b (K + 1) w) := by
  have h2 : ¬ hi < lo := by omega
  go_enter Try.func58, Try.ntmps58
  go_wp2_with fail
  refine (next_calls b K _ _ (by omega) (by omega) hs hK).mono ?_
  rintro e w' ⟨v, rfl, g1, g2, hs', hb'⟩
  go_wp2_with fail
  go_ret
  exact ⟨_, rfl, by omega, by omega, hs', hb'⟩

/-- a drawn bool -/
def BoolS (b K : Nat) (w : World) (e : Ending) (w' : World) : Prop :=
  ∃ v : Bool, e = .returned (.bool v) ∧ Strm w' b K ∧ Bx w.heap.size b w w'

theorem flip_calls (b K : Nat) (n : Int) (w : World) (hn : 1 ≤ n) (hn' : n ≤ 9223372036854775807) (hs : Strm w b K) (hK : K ≤ 10000000) :
    Calls Try.prog 28 #[.pointer (some ⟨b, 0, none⟩), .int .i64 n] w (BoolS b (K + 1) w) := by
  go_enter Try.func28, Try.ntmps28
  go_wp2_with fail
  refine (next_calls b K _ _ hn hn' hs hK).mono ?_
  rintro e w' ⟨v, rfl, g1, g2, hs', hb'⟩
  go_wp2_with fail
  go_ret
  exact ⟨_, rfl, hs', hb'⟩

/-- one of some values was drawn -/
def OneS (xs : List Value) (b K : Nat) (w : World) (e : Ending) (w' : World) : Prop :=
  ∃ v : Value, e = .returned v ∧ v ∈ xs ∧ Strm w' b K ∧ Bx w.heap.size b w w'

theorem pick_calls (b K : Nat) (A : Option Addr) (n c : Nat) (xs : List Value) (w : World) (h0 : 0 < n) (hr : Rd w b 1 (.slice A n c) n xs) (hx : ∀ x ∈ xs, ∃ z, x = .int .i64 z) (hs : Strm w b K) (hK : K ≤ 10000000) :
    Calls Try.prog 10 #[.pointer (some ⟨b, 0, none⟩), .slice A n c] w (OneS xs b (K + 1) w) := by
  obtain ⟨A', c', e1, e2, e3, e4, e5, e6⟩ := hr
  injection e1 with ea eb ec
  subst ea ec
  obtain ⟨g, o, rfl, f2, f3⟩ := e6 h0
  unfold maxLen at e3
  go_enter Try.func10, Try.ntmps10
  go_wp2_with fail
  refine (next_calls b K _ _ (by omega) (by omega) hs hK).mono ?_
  rintro e w' ⟨v, rfl, g1, g2, hs', hb'⟩
  obtain ⟨i, rfl⟩ := Int.eq_ofNat_of_zero_le g1
  have hi : i < n := by omega
  have hil : i < xs.length := by omega
  obtain ⟨z, hz⟩ := hx _ (List.getElem_mem hil)
  have hc : w'.cell? ⟨g, o + i, none⟩ = some (.int .i64 z) := (hb'.cell (f3 i _ (List.getElem?_eq_getElem hil)) f2).trans (by rw [hz])
  have hm : Value.int .i64 z ∈ xs := by rw [← hz]; exact List.getElem_mem hil
  clear f3 hx hz
  go_wp2_with fail
  go_ret
  exact ⟨_, rfl, hm, hs', hb'⟩
end Go.Proofs.Ytlfhommeomchoaa
