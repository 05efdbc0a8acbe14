/-
  clocked answers true: what timer.Write makes of 61500.
-/
import Derived.Test.YthbcogekfdllmaaGreatDoorZItoa
import Derived.Test.YthbcogekfdllmaaGreatDoorZNum2
import Derived.Test.YthbcogekfdllmaaGreatDoorZBs
import Derived.Lib.AppendIntMem
namespace Go.Proofs.YthbcogekfdllmaaGreatDoor
open Go Go.RowKit

theorem ret_str {a b : ByteArray} (h : a = b) : Ending.returned (.string a) = .returned (.string b) := by rw [h]

/-- the table that Itoa reads, in whatever world behind this one -/
def Tab (w : World) : Prop := Lib.TabBelow Tryz.prog w.heap.size w "internal/strconv.uint64pow10" .u64 Lib.pow10Tab
theorem Tab.below {w w' : World} (h : Tab w) (k : Below w.heap.size w w') : Tab w' := fun w2 h2 => h w2 (below_call k h2 (Nat.le_refl _))
theorem Tab.bx {w w' : World} {b : Nat} (h : Tab w) (k : Bx w.heap.size b w w') (hb : w.heap.size ≤ b) : Tab w' := h.below (k.below hb)

theorem itoa0_calls (w : World) : Calls Tryz.prog 90 #[.int .i64 0] w fun e w' => e = .returned (.string ⟨#[48]⟩) ∧ w = w' := by
  refine (Tryz.strconv_Itoa_small 0 (by decide) w).mono ?_
  rintro e w1 ⟨rfl, rfl⟩
  exact ⟨ret_str (by kernel_rfl), rfl⟩
theorem itoa1_calls (w : World) : Calls Tryz.prog 90 #[.int .i64 1] w fun e w' => e = .returned (.string ⟨#[49]⟩) ∧ w = w' := by
  refine (Tryz.strconv_Itoa_small 1 (by decide) w).mono ?_
  rintro e w1 ⟨rfl, rfl⟩
  exact ⟨ret_str (by kernel_rfl), rfl⟩
theorem itoa1500_calls (w : World) (ht : Tab w) : Calls Tryz.prog 90 #[.int .i64 1500] w (BRet (.string ⟨#[49, 53, 48, 48]⟩) w) := by
  refine (Tryz.strconv_Itoa 1500 (by decide) (by decide) w ht.here).mono ?_
  rintro e w1 ⟨rfl, k, os, rfl⟩
  exact ⟨ret_str (by kernel_rfl), Lib.below_grow _ _ (Nat.le_refl _) _ _⟩

theorem two1_calls (w : World) : Calls Tryz.prog 165 #[.int .i64 1] w fun e w' => e = .returned (.string ⟨#[48, 49]⟩) ∧ w = w' := by
  go_enter Tryz.func165, Tryz.ntmps165
  go_wp2_with fail
  refine (itoa0_calls _).mono ?_
  rintro e w1 ⟨rfl, rfl⟩
  go_wp2_with fail
  refine (itoa1_calls _).mono ?_
  rintro e w1 ⟨rfl, rfl⟩
  go_wp2_with fail
  go_ret
  exact ⟨ret_str (by kernel_rfl), rfl⟩

theorem write1_calls (w : World) (ht : Tab w) : Calls Tryz.prog 119 #[.int .i64 61500, .int .i64 1] w (BRet (.string ⟨#[49, 58, 48, 49, 46, 53]⟩) w) := by
  go_enter Tryz.func119, Tryz.ntmps119
  go_wp2_with fail
  refine (itoa1_calls _).mono ?_
  rintro e w1 ⟨rfl, rfl⟩
  go_wp2_with fail
  refine (itoa1_calls _).mono ?_
  rintro e w1 ⟨rfl, rfl⟩
  go_wp2_with fail
  refine (two1_calls _).mono ?_
  rintro e w1 ⟨rfl, rfl⟩
  go_wp2_with fail
  refine (itoa1500_calls _ ht).mono ?_
  rintro e w1 ⟨rfl, hb⟩
  go_wp2_with fail
  go_ret
  exact ⟨ret_str (by kernel_rfl), hb⟩

theorem timeWrite1_calls (w : World) (ht : Tab w) : Calls Tryz.prog 56 #[.int .i64 61500, .int .i64 1] w (BRet (.tuple #[.string ⟨#[49, 58, 48, 49, 46, 53]⟩, .int .i64 0]) w) := by
  have o1 : outB 61500 0 864000000 = false := by decide
  have o2 : outB 1 0 3 = false := by decide
  go_enter Tryz.func56, Tryz.ntmps56
  go_wp2_with (first | (go_at_call 66; refine (out_calls _ _ _ _).mono ?_; rintro e w1 ⟨rfl, rfl⟩))
  refine (write1_calls _ ht).mono ?_
  rintro e w1 ⟨rfl, hb⟩
  go_wp2_with fail
  go_ret2
  exact ⟨rfl, hb⟩

end Go.Proofs.YthbcogekfdllmaaGreatDoor
