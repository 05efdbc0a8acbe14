/-
  Slices.Equal of pairs, the reference's SameRun, and EqualFunc of runs with it: true of runs that say the same. (Printed by gen_eqrun.py.)
-/
import Derived.Test.YthbcogekfdllmaaGreatZRfK
import Derived.Test.YthbcogekfdllmaaGreatZKey2
import Derived.Test.YthbcogekfdllmaaGreatZSq
import Derived.Test.YthbcogekfdllmaaGreatZKey3
import Derived.Deep.RegionLaw
import Derived.Deep.QuietTactic
import Derived.BigQuiet
import Derived.Test.YthbcogekfdllmaaGreatZBs
namespace Go.Proofs.YthbcogekfdllmaaGreat
open Go Go.RowKit
attribute [local go_sem ↓] Go.wp_at_zero Go.wp_at_succ

set_option maxRecDepth 100000 in
theorem equalPrR_calls (b : Nat) (A A2 : Option Addr) (n c c2 : Nat) (rs : List Pr) (w : World) (hr : Rd w b 2 (.slice A n c) n (rs.flatMap prC)) (hr2 : Rd w b 2 (.slice A2 n c2) n (rs.flatMap prC)) :
    Calls Tryz.prog 22 #[.slice A n c, .slice A2 n c2] w (QRet (.bool true) w) := by
  obtain ⟨hl, hnc, hcm, hcells⟩ := hr.cells prC_len (by omega)
  obtain ⟨_, _, hcm2, hcells2⟩ := hr2.cells prC_len (by omega)
  unfold maxLen at hcm hcm2
  have HL := Lib.hid hl
  have HC := Lib.hid hcells
  have HC2 := Lib.hid hcells2
  have hnn : ((n : Int) != (n : Int)) = false := by simp
  clear hcells hcells2 hl hr hr2
  go_enter Tryz.func22, Tryz.ntmps22
  go_wp2_with fail
  go_loopw [13] (fun i wr => ∃ k nq : Nat, k ≤ n ∧ i = .int .i64 k ∧ wr = w.drewN nq) (fun i _ => n - (intOf i).toNat)
  case atStart => exact ⟨0, 0, Nat.zero_le _, rfl, rfl⟩
  case round =>
    obtain ⟨k, nq, hk, rfl, rfl⟩ := hrel
    by_cases hlt : k < n
    · have hkr : k < rs.length := by rw [HL.out]; exact hlt
      obtain ⟨g, o, hA, _, hcs⟩ := HC.out (by omega)
      obtain ⟨g2, o2, hA2, _, hcs2⟩ := HC2.out (by omega)
      subst hA hA2
      have c0 := hcs k hkr 0 (by omega)
      have x0 := hcs2 k hkr 0 (by omega)
      have c1 := hcs k hkr 1 (by omega)
      have x1 := hcs2 k hkr 1 (by omega)
      simp only [prC, Nat.add_zero, List.getElem?_cons_zero, List.getElem?_cons_succ] at c0 x0 c1 x1
      have hk0 : (0 : Int) ≤ (k : Int) := by omega
      have hk1 : (k : Int) < (n : Int) := by omega
      clear hcs hcs2
      go_wp2_with fail
      go_quiet (fail)
      go_wp2_with fail
      go_roundw
      case rel => exact ⟨k + 1, _, by omega, by go_num, rfl⟩
      case measure => simp [intOf]; omega
    · obtain rfl : k = n := by omega
      go_wp2_with fail
      go_ret
      exact ⟨rfl, nq, rfl⟩
end Go.Proofs.YthbcogekfdllmaaGreat
/-
  MomentFault of the reference.
-/
namespace Go.Proofs.YthbcogekfdllmaaGreat
open Go Go.RowKit

/-- the moment's own fault, of the reference -/
theorem momentFault_calls (u : Int) (w : World) : Calls Tryz.prog 14 #[.int .i64 u] w fun e w' => e = .returned (.int .i64 (if momB u = true then 0 else 1)) ∧ w = w' := by
  have HM := Lib.hid (momentQ_calls u w)
  cases hm : momB u
  · rw [hm] at HM
    clear hm
    go_enter Tryz.func14, Tryz.ntmps14
    go_wp2_with fail
    refine HM.out.mono ?_
    rintro e w1 ⟨rfl, rfl⟩
    go_wp2_with fail
    go_ret
    exact ⟨rfl, rfl⟩
  · rw [hm] at HM
    clear hm
    go_enter Tryz.func14, Tryz.ntmps14
    go_wp2_with fail
    refine HM.out.mono ?_
    rintro e w1 ⟨rfl, rfl⟩
    go_wp2_with fail
    go_ret
    exact ⟨rfl, rfl⟩
end Go.Proofs.YthbcogekfdllmaaGreat
