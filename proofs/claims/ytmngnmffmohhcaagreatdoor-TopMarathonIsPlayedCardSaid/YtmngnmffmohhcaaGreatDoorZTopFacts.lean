/-
  h10facts() of package splittop, by a contract.
-/
import Derived.Test.YtmngnmffmohhcaaGreatDoorZReady
namespace Go.Proofs.YtmngnmffmohhcaaGreatDoor
open Go Go.RowKit

set_option maxRecDepth 100000 in
set_option maxHeartbeats 1000000 in
theorem facts_calls (b : Nat) (w : World) (hb : b < w.heap.size) (ht : Tab w) : Calls Tryz.prog 12 #[] w (BRet (.bool true) w) := by
  have HW := Lib.hid (timeWrite1_calls w ht)
  have HT : Hid (∀ W : World, Calls Tryz.prog 39 #[.string ⟨#[40, 97, 61, 120, 41, 111, 114, 32, 104, 97, 115, 32, 98]⟩] W (BRet (.tuple #[.string ⟨#[97, 32, 61, 32, 120, 32, 111, 114, 32, 104, 97, 115, 32, 98]⟩, .int .i64 0, .int .i64 0]) W)) := fun W => tidyLit_calls W
  have h1 := fun W : World => expected1_calls 1600 1 1400 1 W ⟨by omega, by omega⟩ ⟨by omega, by omega⟩ ⟨by omega, by omega⟩ ⟨by omega, by omega⟩ rdy1600 rdy1400 (by decide)
  have e1 : RatP.lowN (RatP.expd (thou 1600 1) (thou 1400 1)) 800000 = 3 := by decide
  have e2 : RatP.lowD (RatP.expd (thou 1600 1) (thou 1400 1)) 800000 = 4 := by decide
  rw [e1, e2] at h1
  have H1 := Lib.hid h1
  have HTT : Hid (∀ (W : World) (G : Nat), W.heap.size = G → w.heap.size ≤ W.heap.size → Calls Tryz.prog 7 #[.slice (some ⟨G, 0, none⟩) 1 1, .int .i64 1] (W.alloc (.cells #[.string ⟨#[97]⟩, .string ⟨#[98]⟩, .slice none 0 0, .int .i64 5, .int .i64 10] 49)) (TabS [(⟨#[97]⟩, 1, 6, 16)] 0 (W.alloc (.cells #[.string ⟨#[97]⟩, .string ⟨#[98]⟩, .slice none 0 0, .int .i64 5, .int .i64 10] 49)))) := fun W G hG hW => by
    subst hG
    have := timetableX_calls b _ 1 1 [rdyX] 1 _ (rdySlts b W (by omega)) (by omega) (by omega) (by simp; omega)
    rw [rdy_E, rdy_L] at this
    exact this
  clear h1 e1 e2 ht
  go_enter Tryz.func12, Tryz.ntmps12
  go_wp2_with fail
  refine HW.out.mono ?_
  rintro e w1 ⟨rfl, hb1⟩
  go_wp2_with fail
  refine (HT.out _).mono ?_
  rintro e w2 ⟨rfl, hb2⟩
  have hB2 := below_call hb1 hb2 (Nat.le_refl _)
  go_wp2_with fail
  refine (H1.out _).mono ?_
  rintro e w3 ⟨rfl, hb3⟩
  have hB3 := below_call hB2 hb3 (Nat.le_refl _)
  have hS3 := (Sq.start w).callB hB3
  have hS4 := hS3.add #[.int .i64 3, .int .i64 4] 71
  have hz4 := hS4.size
  clear hS3 hB2 hb2 hb1
  go_wp2_with fail
  with_reducible refine (HTT.out _ (w3.heap.size + 1) (size1 _ _) hz4).mono ?_
  rintro e w5 ⟨v, rfl, hown, hb5⟩
  have hS5 := (hS4.alloc _).callB hb5
  obtain ⟨g, cap, hv, _⟩ := hown.form (by decide)
  subst hv
  have k1 : w5.cell? ⟨w3.heap.size, 1, none⟩ = some (.int .i64 4) := Blk.cell (hS5.nth 0 rfl) 1
  have hB5 := hS5.below
  clear hS4 hown hb5 hS5
  go_wp2_with fail
  go_ret
  exact ⟨rfl, hB5⟩
end Go.Proofs.YtmngnmffmohhcaaGreatDoor
