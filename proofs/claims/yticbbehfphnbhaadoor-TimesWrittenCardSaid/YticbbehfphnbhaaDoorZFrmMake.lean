/-
  Rates, times and parts of videos as the stream makes them, by contracts.
-/
import Derived.Test.YticbbehfphnbhaaDoorZRatMake
import Derived.Test.YticbbehfphnbhaaDoorZFrmPure
import Derived.Test.YticbbehfphnbhaaDoorZBase
namespace Go.Proofs.YticbbehfphnbhaaDoor
open Go Go.RowKit

def rateFr : List (Int × Int) := [(60, 1), (30000, 1001), (25, 1), (1, 1), (1000, 1), (1, 100000)]
def badFr : List (Int × Int) := [(2, 2), (0, 1), (1, 0), (1001, 1), (1, 100001), (-60, -1), (4611686018427387904, 3)]

theorem duration_calls (b K : Nat) (w : World) (hs : Strm w b K) (hK : K ≤ 900000) :
    Calls Tryd.prog 4 #[.pointer (some ⟨b, 0, none⟩)] w (NumS (-1099511627776) 1099511627776 b (K + 3) w) := by
  go_enter Tryd.func4, Tryd.ntmps4
  go_wp2_with fail
  refine (flip_calls b K _ _ (by omega) (by omega) hs (by omega)).mono ?_
  rintro e w1 ⟨v, rfl, hs1, hb1⟩
  have hb1' := (Bx.refl w.heap.size b w).call hb1 (Nat.le_refl _)
  cases v
  · go_wp2_with fail
    refine (range_calls b _ _ _ _ (by omega) (by omega) (by omega) hs1 (by omega)).mono ?_
    rintro e w2 ⟨q, rfl, q1, q2, hs2, hb2⟩
    have hb2' := hb1'.call hb2 (Nat.le_refl _)
    clear hs1 hb1 hb2 hb1'
    go_wp2_with fail
    refine (pick_calls b _ _ 12 12 _ _ (by omega) (Rd.lit0 hs2.lt (by decide) rfl) (by simp) (hs2.alloc _) (by omega)).mono ?_
    rintro e w3 ⟨x, rfl, hx, hs3, hb3⟩
    obtain ⟨d, rfl, hd0, hd1⟩ : ∃ z : Int, x = .int .i64 z ∧ 0 ≤ z ∧ z ≤ 864000000 := by
      simp at hx
      rcases hx with rfl | rfl | rfl | rfl | rfl | rfl | rfl | rfl | rfl | rfl | rfl | rfl <;> exact ⟨_, rfl, by omega, by omega⟩
    have hb3' := (hb2'.alloc (Nat.le_refl _) _).call hb3 (Nat.le_refl _)
    clear hx
    go_wp2_with fail
    go_ret
    exact ⟨d, rfl, by omega, by omega, hs3.more (by omega), hb3'⟩
  · go_wp2_with fail
    refine (odd_calls b _ _ _ _ (by omega) (by omega) (by omega) hs1 (by omega)).mono ?_
    rintro e w2 ⟨q, rfl, q1, q2, hs2, hb2⟩
    have hb2' := hb1'.call hb2 (Nat.le_refl _)
    go_wp2_with fail
    go_ret
    exact ⟨q, rfl, q1, q2, hs2.more (by omega), hb2'⟩

def partC (p : FrmP.Part) : List Value := [.int .i64 p.1, .int .i64 p.2]
theorem partC_len (p : FrmP.Part) : (partC p).length = 2 := rfl
/-- parts whose numbers are not great -/
def PartI (l : List FrmP.Part) : Prop := ∀ p ∈ l, (-1099511627776 ≤ p.1 ∧ p.1 ≤ 1099511627776) ∧ -1099511627776 ≤ p.2 ∧ p.2 ≤ 1099511627776
theorem PartI.snoc {l : List FrmP.Part} {p : FrmP.Part} (h : PartI l) (hp : (-1099511627776 ≤ p.1 ∧ p.1 ≤ 1099511627776) ∧ -1099511627776 ≤ p.2 ∧ p.2 ≤ 1099511627776) : PartI (l ++ [p]) := by
  intro x hx
  rcases List.mem_append.1 hx with hx | hx
  · exact h x hx
  · simp at hx; rw [hx]; exact hp
end Go.Proofs.YticbbehfphnbhaaDoor
