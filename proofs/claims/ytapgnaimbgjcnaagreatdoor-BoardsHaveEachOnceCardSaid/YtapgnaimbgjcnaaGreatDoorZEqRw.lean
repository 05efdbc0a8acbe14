/-
  slices.Equal over rows by a contract: two slices that read alike are equal. (Printed out of XEqual.)
-/
import Derived.Test.YtapgnaimbgjcnaaGreatDoorZSortRun0
import Derived.Test.YtapgnaimbgjcnaaGreatDoorZSlot3
namespace Go.Proofs.YtapgnaimbgjcnaaGreatDoor
open Go Go.RowKit
set_option maxRecDepth 100000 in
theorem equalRw_calls (b : Nat) (A A2 : Option Addr) (n c c2 : Nat) (rs : List Brw) (w : World) (hr : Rd w b 5 (.slice A n c) n (rs.flatMap brwC)) (hr2 : Rd w b 5 (.slice A2 n c2) n (rs.flatMap brwC)) :
 Calls Tryz.prog 48 #[.slice A n c, .slice A2 n c2] w (QRet (.bool true) w) := by
 obtain ⟨hl, hnc, hcm, hcells⟩ := hr.cells brwC_len (by omega)
 obtain ⟨_, _, hcm2, hcells2⟩ := hr2.cells brwC_len (by omega)
 unfold maxLen at hcm hcm2
 have HL := Lib.hid hl
 have HC := Lib.hid hcells
 have HC2 := Lib.hid hcells2
 have hnn : ((n : Int) != (n : Int)) = false := by simp
 clear hcells hcells2 hl hr hr2
 go_enter Tryz.func48, Tryz.ntmps48
 go_wp2_with fail
 go_loopw [13] (fun i wr => ∃ k nq : Nat, k ≤ n ∧ i = .int .i64 k ∧ wr = w.drewN nq) (fun i _ => n - (intOf i).toNat)
 case atStart => exact ⟨0, 0, Nat.zero_le _, rfl, rfl⟩
 case round =>
  obtain ⟨k, nq, hk, rfl, rfl⟩ := hrel
  by_cases hlt : k < n
  · have hkr : k < rs.length := by rw [HL.out]; exact hlt
    obtain ⟨g, o, hA, _, hcs⟩ := HC.out (by omega)
    obtain ⟨g2, o2, hA2, _, hcs2⟩ := HC2.out (by omega)
    subst hA hA2
    have c0 := hcs k hkr 0 (by omega)
    have c1 := hcs k hkr 1 (by omega)
    have d2 := hcs k hkr 2 (by omega)
    have c3 := hcs k hkr 3 (by omega)
    have c4 := hcs k hkr 4 (by omega)
    have x0 := hcs2 k hkr 0 (by omega)
    have x1 := hcs2 k hkr 1 (by omega)
    have x2 := hcs2 k hkr 2 (by omega)
    have x3 := hcs2 k hkr 3 (by omega)
    have x4 := hcs2 k hkr 4 (by omega)
    simp only [brwC, Nat.add_zero, List.getElem?_cons_zero, List.getElem?_cons_succ] at c0 x0 c1 x1 d2 x2 c3 x3 c4 x4
    have hk0 : (0 : Int) ≤ (k : Int) := by omega
    have hk1 : (k : Int) < (n : Int) := by omega
    clear hcs hcs2
    go_wp2_with fail
    go_quiet (fail)
    go_wp2_with fail
    go_roundw
    case rel => exact ⟨k + 1, _, by omega, by go_num, rfl⟩
    case measure => simp [intOf]; omega
  · obtain rfl : k = n := by omega
    go_wp2_with fail
    go_ret
    exact ⟨rfl, nq, rfl⟩
end Go.Proofs.YtapgnaimbgjcnaaGreatDoor
