/-
  The stream's Segments by a contract; an own list that is cut short.
-/
import Derived.Test.YtedfieopmjpibaaDoorZPrsPure
import Derived.Test.YtedfieopmjpibaaDoorZSep
namespace Go.Proofs.YtedfieopmjpibaaDoor
open Go Go.RowKit

theorem own_short {w : World} {base : Nat} {e : TypeId} {size n k c : Nat} {A : Option Addr} {xs : List Value} (h : w.ownsRow base e size (.slice A n c) n xs) (hk : k ≤ n) (hA : A ≠ none) : w.ownsRow base e size (.slice A k c) k (xs.take (k * size)) := by
  have h1 := h.1
  refine ⟨?_, ?_⟩
  · rw [List.length_take, h1]
    exact Nat.min_eq_left (Nat.mul_le_mul_right _ hk)
  · rcases h.2 with ⟨he, _⟩ | ⟨g, cap, cur, he, hb, hg, h2, h3, h4, h5⟩
    · injection he with he _ _
      exact absurd he hA
    · injection he with he1 he2 he3
      subst he1 he3
      refine .inr ⟨g, c, cur, rfl, hb, hg, Nat.le_trans hk h2, h3, h4, ?_⟩
      rw [← h5, List.take_take, Nat.min_eq_left (Nat.mul_le_mul_right _ hk)]
set_option maxRecDepth 100000 in
theorem segments_calls (b K : Nat) (w : World) (hs : Strm w b K) (hK : K ≤ 900000) :
    Calls Tryd.prog 5 #[.pointer (some ⟨b, 0, none⟩)] w (SpS (IsInt 0 101) w b (K + 1) []) := by
  have HC := Lib.hid (sp_pickL (Sp.start hs) #[.int .i64 1, .int .i64 2, .int .i64 3, .int .i64 3, .int .i64 4, .int .i64 4, .int .i64 0, .int .i64 100, .int .i64 101] 3 9 0 101 (by decide) (by decide) rfl rfl (by omega))
  clear hs
  go_enter Tryd.func5, Tryd.ntmps5
  go_wp2_with fail
  refine HC.out.mono ?_
  rintro e w1 ⟨_, rfl, hv, hS⟩
  go_wp2_with fail
  go_ret
  exact ⟨_, rfl, hv, hS⟩
end Go.Proofs.YtedfieopmjpibaaDoor
