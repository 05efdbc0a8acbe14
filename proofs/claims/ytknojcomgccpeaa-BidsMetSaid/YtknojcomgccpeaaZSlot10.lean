/-
  marathon.CheckAway and splitref2.AwayFault by contracts: both answer awayF. (Printed by gen_slot10.py.)
-/
import Derived.Test.YtknojcomgccpeaaZSlot4
import Derived.Test.YtknojcomgccpeaaZSlotPure
import Derived.Deep.RegionHeld3
import Derived.Test.YtknojcomgccpeaaZSlot8
namespace Go.Proofs.Ytknojcomgccpeaa
open Go Go.RowKit
attribute [local go_sem ↓] Go.wp_at_zero Go.wp_at_succ

end Go.Proofs.Ytknojcomgccpeaa
/-
  marathon.Clashes by a contract; slices.Equal of places and of pairs: two slices that read alike are equal. (Printed by gen_slot11.py.)
-/
namespace Go.Proofs.Ytknojcomgccpeaa
open Go Go.RowKit

def clashE (rest : Int) (xs : List Slt) : Int := if slotsF xs = 0 then if outB rest 0 86400000 = true then 1 else 0 else slotsF xs
/-- what Clashes answers -/
def clashL (rest : Int) (xs : List Slt) : List Pr := if clashE rest xs = 0 then clF xs rest else []
def ClashS (l : List Pr) (er : Int) (w : World) (e : Ending) (w' : World) : Prop :=
  ∃ v, e = .returned (.tuple #[v, .int .i64 er]) ∧ w'.ownsRow w.heap.size 63 2 v l.length (l.flatMap prC) ∧ Below w.heap.size w w'

set_option maxRecDepth 100000 in
theorem equalPr_calls (b : Nat) (A A2 : Option Addr) (n c c2 : Nat) (rs : List Pr) (w : World) (hr : Rd w b 2 (.slice A n c) n (rs.flatMap prC)) (hr2 : Rd w b 2 (.slice A2 n c2) n (rs.flatMap prC)) :
    Calls Try.prog 30 #[.slice A n c, .slice A2 n c2] w (QRet (.bool true) w) := by
  obtain ⟨hl, hnc, hcm, hcells⟩ := hr.cells prC_len (by omega)
  obtain ⟨_, _, hcm2, hcells2⟩ := hr2.cells prC_len (by omega)
  unfold maxLen at hcm hcm2
  have HL := Lib.hid hl
  have HC := Lib.hid hcells
  have HC2 := Lib.hid hcells2
  have hnn : ((n : Int) != (n : Int)) = false := by simp
  clear hcells hcells2 hl hr hr2
  go_enter Try.func30, Try.ntmps30
  go_wp2_with fail
  go_loopw [13] (fun i wr => ∃ k nq : Nat, k ≤ n ∧ i = .int .i64 k ∧ wr = w.drewN nq) (fun i _ => n - (intOf i).toNat)
  case atStart => exact ⟨0, 0, Nat.zero_le _, rfl, rfl⟩
  case round =>
    obtain ⟨k, nq, hk, rfl, rfl⟩ := hrel
    by_cases hlt : k < n
    · have hkr : k < rs.length := by rw [HL.out]; exact hlt
      obtain ⟨g, o, hA, _, hcs⟩ := HC.out (by omega)
      obtain ⟨g2, o2, hA2, _, hcs2⟩ := HC2.out (by omega)
      subst hA hA2
      have c0 := hcs k hkr 0 (by omega)
      have x0 := hcs2 k hkr 0 (by omega)
      have c1 := hcs k hkr 1 (by omega)
      have x1 := hcs2 k hkr 1 (by omega)
      simp only [prC, Nat.add_zero, List.getElem?_cons_zero, List.getElem?_cons_succ] at c0 x0 c1 x1
      have hk0 : (0 : Int) ≤ (k : Int) := by omega
      have hk1 : (k : Int) < (n : Int) := by omega
      clear hcs hcs2
      go_wp2_with fail
      go_quiet (fail)
      go_wp2_with fail
      go_roundw
      case rel => exact ⟨k + 1, _, by omega, by go_num, rfl⟩
      case measure => simp [intOf]; omega
    · obtain rfl : k = n := by omega
      go_wp2_with fail
      go_ret
      exact ⟨rfl, nq, rfl⟩
end Go.Proofs.Ytknojcomgccpeaa
