/-
  slices.Equal of games: true of the same games.
-/
import Derived.Test.YtejadhehmcifoaaZAdvPure
import Derived.Test.YtejadhehmcifoaaZBrk2
import Derived.BigQuiet
import Derived.ChangeKeysEq
namespace Go.Proofs.Ytejadhehmcifoaa
open Go Go.RowKit

theorem neq_gm (a b : ByteArray) (w : World) : (binOp .neq 35 (.agg #[.string a, .string b]) (.agg #[.string a, .string b])).run Try.prog w = .ok (.bool false) w := by
  have h : Try.prog.underlying 35 = some (.array 2 9) := Try.underlying35
  obtain ⟨i0, hi, _, _, _⟩ := info_parts (show (Try.prog.info? 9).map (fun i => (i.zero, i.size, i.bytes)) = some (some (.string ⟨#[]⟩), 1, 16) by kernel_rfl)
  have e := run_equalIn_array (P := Try.prog) w 9999 (t := 35) (e := 9) (n := 2) (i := i0) #[.string a, .string b] #[.string a, .string b] h hi
  have hc : Try.prog.cellsOf 9 = 1 := by kernel_rfl
  simp [go_sem]
  rw [e, hc]
  simp [Op.eqItems, List.range_succ, go_sem]
attribute [local go_sem ↓ high] neq_gm
set_option maxRecDepth 100000 in
theorem equalGm_calls (b : Nat) (A A2 : Option Addr) (n c c2 : Nat) (rs : List Gm) (w : World) (hr : Rd w b 2 (.slice A n c) n (rs.flatMap gmC)) (hr2 : Rd w b 2 (.slice A2 n c2) n (rs.flatMap gmC)) :
    Calls Try.prog 9 #[.slice A n c, .slice A2 n c2] w (QRet (.bool true) w) := by
  obtain ⟨hl, hnc, hcm, hcells⟩ := hr.cells gmC_len (by omega)
  obtain ⟨_, _, hcm2, hcells2⟩ := hr2.cells gmC_len (by omega)
  unfold maxLen at hcm hcm2
  have HL := Lib.hid hl
  have HC := Lib.hid hcells
  have HC2 := Lib.hid hcells2
  have hnn : ((n : Int) != (n : Int)) = false := by simp
  clear hcells hcells2 hl hr hr2
  go_enter Try.func9, Try.ntmps9
  go_wp2_with fail
  go_loopw [13] (fun i wr => ∃ k nq : Nat, k ≤ n ∧ i = .int .i64 k ∧ wr = w.drewN nq) (fun i _ => n - (intOf i).toNat)
  case atStart => exact ⟨0, 0, Nat.zero_le _, rfl, rfl⟩
  case round =>
    obtain ⟨k, nq, hk, rfl, rfl⟩ := hrel
    by_cases hlt : k < n
    · have hkr : k < rs.length := by rw [HL.out]; exact hlt
      obtain ⟨g, o, hA, _, hcs⟩ := HC.out (by omega)
      obtain ⟨g2, o2, hA2, _, hcs2⟩ := HC2.out (by omega)
      subst hA hA2
      have c0 := hcs k hkr 0 (by omega)
      have x0 := hcs2 k hkr 0 (by omega)
      have c1 := hcs k hkr 1 (by omega)
      have x1 := hcs2 k hkr 1 (by omega)
      simp only [gmC, Nat.add_zero, List.getElem?_cons_zero, List.getElem?_cons_succ] at c0 x0 c1 x1
      have hk0 : (0 : Int) ≤ (k : Int) := by omega
      have hk1 : (k : Int) < (n : Int) := by omega
      clear hcs hcs2
      go_wp2_with fail
      go_quiet (fail)
      go_wp2_with fail
      go_roundw
      case rel => exact ⟨k + 1, _, by omega, by go_num, rfl⟩
      case measure => simp [intOf]; omega
    · obtain rfl : k = n := by omega
      go_wp2_with fail
      go_ret
      exact ⟨rfl, nq, rfl⟩
end Go.Proofs.Ytejadhehmcifoaa
