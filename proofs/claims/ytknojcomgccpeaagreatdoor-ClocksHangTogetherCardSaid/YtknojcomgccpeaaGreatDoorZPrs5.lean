/-
  The clock's times by a contract.
-/
import Derived.Test.YtknojcomgccpeaaGreatDoorZPrs3
namespace Go.Proofs.YtknojcomgccpeaaGreatDoor
open Go Go.RowKit

def timesP (c : Clk) : Int × Int := if c.phase = 3 then (c.end_.1, c.end_.2.1) else (c.real, c.game)
set_option maxRecDepth 100000 in
theorem clockTimes_calls (b n : Nat) (c : Clk) (v : Value) (w : World) (h : ClkAt w b n c v) :
    Calls Tryz.prog 48 #[.pointer (some ⟨b, 0, none⟩)] w (QRet (.tuple #[.int .i64 (timesP c).1, .int .i64 (timesP c).2]) w) := by
  obtain ⟨c0, c1, c2, c3, c4, c5, c6, c7, c8, c9, c10, c11⟩ := h.cells
  obtain ⟨ph, hph⟩ : ∃ ph, c.phase = ph := ⟨_, rfl⟩
  rw [hph] at c1
  by_cases h3 : ph = 3
  · have HT : Hid (timesP c = (c.end_.1, c.end_.2.1)) := by unfold timesP; rw [hph, if_pos h3]; exact Lib.hid rfl
    rw [HT.out]
    subst h3
    clear hph h
    go_enter Tryz.func48, Tryz.ntmps48
    go_wp2_with fail
    go_quiet (fail)
    go_wp2_with fail
    go_ret2
    exact ⟨rfl, _, rfl⟩
  · have HT : Hid (timesP c = (c.real, c.game)) := by unfold timesP; rw [hph, if_neg h3]; exact Lib.hid rfl
    have e3 : (ph == 3) = false := by simpa using h3
    rw [HT.out]
    clear hph h h3
    go_enter Tryz.func48, Tryz.ntmps48
    go_wp2_with fail
    go_quiet (fail)
    go_wp2_with fail
    go_ret2
    exact ⟨rfl, _, rfl⟩
end Go.Proofs.YtknojcomgccpeaaGreatDoor
