/-
  slices.Equal of strings: a list and itself.
-/
import Derived.Test.YtlkapcjofgpiiaaGreatDoorZSrt
import Derived.Deep.DeepCutAuto
import Derived.Test.YtlkapcjofgpiiaaGreatDoorZLawStart
import Derived.Test.YtlkapcjofgpiiaaGreatDoorZSlot1
import Derived.Test.YtlkapcjofgpiiaaGreatDoorZRule6
namespace Go.Proofs.YtlkapcjofgpiiaaGreatDoor
open Go Go.RowKit

set_option maxRecDepth 100000 in
theorem equalS_calls (b : Nat) (A A2 : Option Addr) (n c c2 : Nat) (ls : List ByteArray) (w : World) (hr : Rd w b 1 (.slice A n c) n (ls.map .string)) (hr2 : Rd w b 1 (.slice A2 n c2) n (ls.map .string)) :
    Calls Tryz.prog 31 #[.slice A n c, .slice A2 n c2] w (QRet (.bool true) w) := by
  obtain ⟨A', c', e1, e2, e3, e4, e5, e6⟩ := hr
  injection e1 with ea _ ec
  subst ea ec
  obtain ⟨A3, c3, g1, g2, g3, g4, g5, g6⟩ := hr2
  injection g1 with ga _ gc
  subst ga gc
  unfold maxLen at e3 g3
  have hl : ls.length = n := by simpa using e4
  have HL := Lib.hid hl
  have HC : Hid (0 < n → ∃ g o, A = some ⟨g, o, none⟩ ∧ ∀ k (hk : k < ls.length), w.cell? ⟨g, o + k, none⟩ = some (.string ls[k])) := Lib.hid (fun h => by
    obtain ⟨g, o, h1, _, h3⟩ := e6 h
    exact ⟨g, o, h1, fun k hk => h3 k _ (by rw [List.getElem?_map, List.getElem?_eq_getElem hk]; rfl)⟩)
  have HC2 : Hid (0 < n → ∃ g o, A2 = some ⟨g, o, none⟩ ∧ ∀ k (hk : k < ls.length), w.cell? ⟨g, o + k, none⟩ = some (.string ls[k])) := Lib.hid (fun h => by
    obtain ⟨g, o, h1, _, h3⟩ := g6 h
    exact ⟨g, o, h1, fun k hk => h3 k _ (by rw [List.getElem?_map, List.getElem?_eq_getElem hk]; rfl)⟩)
  have hnn : ((n : Int) != (n : Int)) = false := by simp
  clear e4 e5 e6 g4 g5 g6 hl
  go_enter Tryz.func31, Tryz.ntmps31
  go_wp2_with fail
  go_loopw [13] (fun i wr => ∃ k nq : Nat, k ≤ n ∧ i = .int .i64 k ∧ wr = w.drewN nq) (fun i _ => n - (intOf i).toNat)
  case atStart => exact ⟨0, 0, Nat.zero_le _, rfl, rfl⟩
  case round =>
    obtain ⟨k, nq, hk, rfl, rfl⟩ := hrel
    by_cases hlt : k < n
    · have hkr : k < ls.length := by rw [HL.out]; exact hlt
      obtain ⟨g, o, hA, hcs⟩ := HC.out (by omega)
      obtain ⟨g2, o2, hA2, hcs2⟩ := HC2.out (by omega)
      subst hA hA2
      have c0 := hcs k hkr
      have x0 := hcs2 k hkr
      have hk0 : (0 : Int) ≤ (k : Int) := by omega
      have hk1 : (k : Int) < (n : Int) := by omega
      clear hcs hcs2
      go_wp2_with fail
      go_quiet (fail)
      go_wp2_with fail
      go_roundw
      case rel => exact ⟨k + 1, _, by omega, by go_num, rfl⟩
      case measure => simp [intOf]; omega
    · obtain rfl : k = n := by omega
      go_wp2_with fail
      go_ret
      exact ⟨rfl, nq, rfl⟩
end Go.Proofs.YtlkapcjofgpiiaaGreatDoor
/-
  when of splitlaw2 by a contract.
-/
namespace Go.Proofs.YtlkapcjofgpiiaaGreatDoor
open Go Go.RowKit

theorem when_calls (B : Bool) (E : Int) (w : World) : Calls Tryz.prog 24 #[.bool B, .int .i64 E] w fun e w' => e = .returned (.int .i64 (if B = true then E else 0)) ∧ w = w' := by
  cases B
  · go_enter Tryz.func24, Tryz.ntmps24
    go_wp2_with fail
    go_ret
    exact ⟨rfl, rfl⟩
  · go_enter Tryz.func24, Tryz.ntmps24
    go_wp2_with fail
    go_ret
    exact ⟨rfl, rfl⟩
end Go.Proofs.YtlkapcjofgpiiaaGreatDoor
/-
  MomentFault of the reference.
-/
namespace Go.Proofs.YtlkapcjofgpiiaaGreatDoor
open Go Go.RowKit

/-- the moment's own fault, of the reference -/
theorem momentFault_calls (u : Int) (w : World) : Calls Tryz.prog 22 #[.int .i64 u] w fun e w' => e = .returned (.int .i64 (if momB u = true then 0 else 1)) ∧ w = w' := by
  have HM := Lib.hid (momentQ_calls u w)
  cases hm : momB u
  · rw [hm] at HM
    clear hm
    go_enter Tryz.func22, Tryz.ntmps22
    go_wp2_with fail
    refine HM.out.mono ?_
    rintro e w1 ⟨rfl, rfl⟩
    go_wp2_with fail
    go_ret
    exact ⟨rfl, rfl⟩
  · rw [hm] at HM
    clear hm
    go_enter Tryz.func22, Tryz.ntmps22
    go_wp2_with fail
    refine HM.out.mono ?_
    rintro e w1 ⟨rfl, rfl⟩
    go_wp2_with fail
    go_ret
    exact ⟨rfl, rfl⟩
end Go.Proofs.YtlkapcjofgpiiaaGreatDoor
/-
  splitlaw2.ruled by a contract: it answers true.
-/
namespace Go.Proofs.YtlkapcjofgpiiaaGreatDoor
open Go Go.RowKit

theorem ruled_calls (w : World) : Calls Tryz.prog 32 #[] w (BRet (.bool true) w) := by
  have HT : Hid (∀ W : World, Calls Tryz.prog 41 #[.string ⟨#[40, 97, 61, 120, 41, 111, 114, 32, 104, 97, 115, 32, 98]⟩] W (BRet (.tuple #[.string ⟨#[97, 32, 61, 32, 120, 32, 111, 114, 32, 104, 97, 115, 32, 98]⟩, .int .i64 0, .int .i64 0]) W)) := fun W => tidyLit_calls W
  go_enter Tryz.func32, Tryz.ntmps32
  go_wp2_with fail
  refine (HT.out _).mono ?_
  rintro e w1 ⟨rfl, hb1⟩
  go_wp2_with fail
  go_ret
  exact ⟨rfl, hb1⟩
end Go.Proofs.YtlkapcjofgpiiaaGreatDoor
