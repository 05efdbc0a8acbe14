/-
  The closures of clashes and ClashesOf, and slices.ContainsFunc over names with each, by contracts. (Printed by gen_slot8.py.)
-/
import Derived.Test.YtedfieopmjpibaaGreatDoorZSlot6
import Derived.Test.YtedfieopmjpibaaGreatDoorZSlotPure2
import Derived.Deep.RegionHeld3
import Derived.Deep.LoopGhost
import Derived.Deep.DeepCutAuto
namespace Go.Proofs.YtedfieopmjpibaaGreatDoor
open Go Go.RowKit


end Go.Proofs.YtedfieopmjpibaaGreatDoor
/-
  marathon.clashes and splitref2.ClashesOf by contracts: both answer clF. (Printed by gen_slot9.py.)
-/
namespace Go.Proofs.YtedfieopmjpibaaGreatDoor
open Go Go.RowKit
attribute [local go_sem ↓] Go.wp_at_zero Go.wp_at_succ

theorem one2 {x y : Value} (hx : x.oneCell' = true) (hy : y.oneCell' = true) : ∀ v ∈ [x, y], v.oneCell' = true := by
  intro v hv
  simp at hv
  rcases hv with rfl | rfl <;> assumption
theorem cast1 (q : Nat) : ((q + 1 : Nat) : Int) = (q : Int) + 1 := by omega
theorem clN (a b n : Nat) (ha : a ≤ n * n) (hb : b ≤ n) (hn : n ≤ 1000) : a + b + 1 ≤ 1001001 := by
  have : n * n ≤ 1000 * 1000 := Nat.mul_le_mul hn hn
  omega
theorem clTo_le (xs : List Slt) (rest : Int) (k n : Nat) (hk : k ≤ n) (hl : xs.length = n) : (clTo xs rest k).length ≤ n * n := by
  have := clTo_len xs rest k
  rw [hl] at this
  exact Nat.le_trans this (Nat.mul_le_mul_right _ hk)

end Go.Proofs.YtedfieopmjpibaaGreatDoor
/-
  marathon.Clashes by a contract; slices.Equal of places and of pairs: two slices that read alike are equal. (Printed by gen_slot11.py.)
-/
namespace Go.Proofs.YtedfieopmjpibaaGreatDoor
open Go Go.RowKit

def clashE (rest : Int) (xs : List Slt) : Int := if slotsF xs = 0 then if outB rest 0 86400000 = true then 1 else 0 else slotsF xs
/-- what Clashes answers -/
def clashL (rest : Int) (xs : List Slt) : List Pr := if clashE rest xs = 0 then clF xs rest else []
set_option maxRecDepth 100000 in
theorem equalPlc_calls (b : Nat) (A A2 : Option Addr) (n c c2 : Nat) (rs : List Plc) (w : World) (hr : Rd w b 4 (.slice A n c) n (rs.flatMap plcC)) (hr2 : Rd w b 4 (.slice A2 n c2) n (rs.flatMap plcC)) :
    Calls Tryz.prog 22 #[.slice A n c, .slice A2 n c2] w (QRet (.bool true) w) := by
  obtain ⟨hl, hnc, hcm, hcells⟩ := hr.cells plcC_len (by omega)
  obtain ⟨_, _, hcm2, hcells2⟩ := hr2.cells plcC_len (by omega)
  unfold maxLen at hcm hcm2
  have HL := Lib.hid hl
  have HC := Lib.hid hcells
  have HC2 := Lib.hid hcells2
  have hnn : ((n : Int) != (n : Int)) = false := by simp
  clear hcells hcells2 hl hr hr2
  go_enter Tryz.func22, Tryz.ntmps22
  go_wp2_with fail
  go_loopw [13] (fun i wr => ∃ k nq : Nat, k ≤ n ∧ i = .int .i64 k ∧ wr = w.drewN nq) (fun i _ => n - (intOf i).toNat)
  case atStart => exact ⟨0, 0, Nat.zero_le _, rfl, rfl⟩
  case round =>
    obtain ⟨k, nq, hk, rfl, rfl⟩ := hrel
    by_cases hlt : k < n
    · have hkr : k < rs.length := by rw [HL.out]; exact hlt
      obtain ⟨g, o, hA, _, hcs⟩ := HC.out (by omega)
      obtain ⟨g2, o2, hA2, _, hcs2⟩ := HC2.out (by omega)
      subst hA hA2
      have c0 := hcs k hkr 0 (by omega)
      have x0 := hcs2 k hkr 0 (by omega)
      have c1 := hcs k hkr 1 (by omega)
      have x1 := hcs2 k hkr 1 (by omega)
      have c2 := hcs k hkr 2 (by omega)
      have x2 := hcs2 k hkr 2 (by omega)
      have c3 := hcs k hkr 3 (by omega)
      have x3 := hcs2 k hkr 3 (by omega)
      simp only [plcC, Nat.add_zero, List.getElem?_cons_zero, List.getElem?_cons_succ] at c0 x0 c1 x1 c2 x2 c3 x3
      have hk0 : (0 : Int) ≤ (k : Int) := by omega
      have hk1 : (k : Int) < (n : Int) := by omega
      clear hcs hcs2
      go_wp2_with fail
      go_quiet (fail)
      go_wp2_with fail
      go_roundw
      case rel => exact ⟨k + 1, _, by omega, by go_num, rfl⟩
      case measure => simp [intOf]; omega
    · obtain rfl : k = n := by omega
      go_wp2_with fail
      go_ret
      exact ⟨rfl, nq, rfl⟩

end Go.Proofs.YtedfieopmjpibaaGreatDoor
