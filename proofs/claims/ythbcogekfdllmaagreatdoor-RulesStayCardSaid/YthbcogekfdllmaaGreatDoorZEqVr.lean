/-
  slices.Equal over versions by a contract: two slices that read alike are equal.
-/
import Derived.Test.YthbcogekfdllmaaGreatDoorZHld3
import Derived.Test.YthbcogekfdllmaaGreatDoorZRatMake4
import Derived.Deep.RegionLaw
import Derived.Deep.QuietTactic
import Derived.BigQuiet
namespace Go.Proofs.YthbcogekfdllmaaGreatDoor
open Go Go.RowKit TxtP
attribute [local go_sem ↓] Go.wp_at_zero Go.wp_at_succ

set_option maxRecDepth 100000 in
theorem equalVr_calls (b : Nat) (A A2 : Option Addr) (n c c2 : Nat) (rs : List Vr) (w : World) (hr : Rd w b 3 (.slice A n c) n (rs.flatMap vrC)) (hr2 : Rd w b 3 (.slice A2 n c2) n (rs.flatMap vrC)) :
    Calls Tryz.prog 43 #[.slice A n c, .slice A2 n c2] w (QRet (.bool true) w) := by
  obtain ⟨hl, hnc, hcm, hcells⟩ := hr.cells vrC_len (by omega)
  obtain ⟨_, _, hcm2, hcells2⟩ := hr2.cells vrC_len (by omega)
  unfold maxLen at hcm hcm2
  have HL := Lib.hid hl
  have HC := Lib.hid hcells
  have HC2 := Lib.hid hcells2
  have hnn : ((n : Int) != (n : Int)) = false := by simp
  clear hcells hcells2 hl hr hr2
  go_enter Tryz.func43, Tryz.ntmps43
  go_wp2_with fail
  go_loopw [13] (fun i wr => ∃ k nq : Nat, k ≤ n ∧ i = .int .i64 k ∧ wr = w.drewN nq) (fun i _ => n - (intOf i).toNat)
  case atStart => exact ⟨0, 0, Nat.zero_le _, rfl, rfl⟩
  case round =>
    obtain ⟨k, nq, hk, rfl, rfl⟩ := hrel
    by_cases hlt : k < n
    · have hkr : k < rs.length := by rw [HL.out]; exact hlt
      obtain ⟨g, o, hA, _, hcs⟩ := HC.out (by omega)
      obtain ⟨g2, o2, hA2, _, hcs2⟩ := HC2.out (by omega)
      subst hA hA2
      have c0 := hcs k hkr 0 (by omega)
      have c1 := hcs k hkr 1 (by omega)
      have d2 := hcs k hkr 2 (by omega)
      have x0 := hcs2 k hkr 0 (by omega)
      have x1 := hcs2 k hkr 1 (by omega)
      have x2 := hcs2 k hkr 2 (by omega)
      simp only [vrC, Nat.add_zero, List.getElem?_cons_zero, List.getElem?_cons_succ] at c0 c1 d2 x0 x1 x2
      have hk0 : (0 : Int) ≤ (k : Int) := by omega
      have hk1 : (k : Int) < (n : Int) := by omega
      clear hcs hcs2
      go_wp2_with fail
      go_quiet (fail)
      go_wp2_with fail
      go_roundw
      case rel => exact ⟨k + 1, _, by omega, by go_num, rfl⟩
      case measure => simp [intOf]; omega
    · obtain rfl : k = n := by omega
      go_wp2_with fail
      go_ret
      exact ⟨rfl, nq, rfl⟩
end Go.Proofs.YthbcogekfdllmaaGreatDoor
