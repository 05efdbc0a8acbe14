/-
  marathon.Timetable by a contract.
-/
import Derived.Test.YtaendemgkabdfaaGreatDoorZSlot5
import Derived.Test.YtaendemgkabdfaaGreatDoorZRat1
namespace Go.Proofs.YtaendemgkabdfaaGreatDoor
open Go Go.RowKit

def tabE (f : Int) (xs : List Slt) : Int := firstE [slotsF xs, fromF f xs]
/-- what Timetable answers -/
def tabL (f : Int) (xs : List Slt) : List Plc := if tabE f xs = 0 then placesF f xs else []
def TabS (l : List Plc) (er : Int) (w : World) (e : Ending) (w' : World) : Prop :=
  ∃ v, e = .returned (.tuple #[v, .int .i64 er]) ∧ w'.ownsRow w.heap.size 102 4 v l.length (l.flatMap plcC) ∧ Below w.heap.size w w'

set_option maxRecDepth 100000 in
theorem timetableX_calls (b : Nat) (A : Option Addr) (n c : Nat) (xs : List Slt) (f : Int) (w : World) (hr : Slts w b A n c xs) (hn : n ≤ 1000) (hf : -4398046511104 ≤ f ∧ f ≤ 4398046511104) (hb : b < w.heap.size) :
    Calls Tryz.prog 69 #[.slice A n c, .int .i64 f] w (TabS (tabL f xs) (tabE f xs) w) := by
  obtain ⟨E, hE⟩ : ∃ E, tabE f xs = E := ⟨_, rfl⟩
  have hL : tabL f xs = if E = 0 then placesF f xs else [] := by rw [← hE]; rfl
  have HE : Hid (firstE [slotsF xs, fromF f xs] = E) := hE
  rw [hE]
  have HR := Lib.hid hr
  have HF := Lib.hid hf
  clear hr hE hf
  by_cases hz : E = 0
  · rw [if_pos hz] at hL
    rw [hL]
    subst hz
    clear hL
    go_enter Tryz.func69, Tryz.ntmps69
    go_wp2_with fail
    refine (checkSlots_calls b A n c xs _ HR.out hb).mono ?_
    rintro e w1 ⟨rfl, hb1⟩
    have hz1 := hb1.size
    go_wp2_with fail
    refine (fromFault_calls b A n c xs f _ (HR.out.below hb1) hn HF.out (by omega)).mono ?_
    rintro e w2 ⟨rfl, hb2⟩
    have hz2 := hb2.size
    have hb2' := below_call hb1 hb2 (Nat.le_refl _)
    go_wp2_with fail
    refine (first_calls b _ 2 2 [slotsF xs, fromF f xs] _ (Rd.lit w2 b 1 2 #[.int .i64 (slotsF xs), .int .i64 (fromF f xs)] 30 (by omega) (by decide) rfl)).mono ?_
    rintro e w3 ⟨rfl, nq, rfl⟩
    rw [HE.out]
    have hb3 := below_drewN (hb2'.alloc (by omega) (.cells #[.int .i64 (slotsF xs), .int .i64 (fromF f xs)] 30)) nq
    go_wp2_with fail
    refine (timetable_calls b A n c xs f _ (HR.out.below hb3) hn HF.out).mono ?_
    rintro e w4 ⟨v, rfl, hown, hb4⟩
    have hb5 := below_call hb3 hb4 (Nat.le_refl _)
    have hown2 := own_base hown hb3.size
    go_wp2_with fail
    refine bodyPost_ret (v := .tuple #[v, .int .i64 0]) (by simp [results, Tryz.results69, go_sem]) rfl ⟨v, rfl, hown2, hb5⟩
  · rw [if_neg hz] at hL
    rw [hL]
    have hz' : (E != 0) = true := by rw [bne_iff_ne]; exact hz
    clear hL
    go_enter Tryz.func69, Tryz.ntmps69
    go_wp2_with fail
    refine (checkSlots_calls b A n c xs _ HR.out hb).mono ?_
    rintro e w1 ⟨rfl, hb1⟩
    have hz1 := hb1.size
    go_wp2_with fail
    refine (fromFault_calls b A n c xs f _ (HR.out.below hb1) hn HF.out (by omega)).mono ?_
    rintro e w2 ⟨rfl, hb2⟩
    have hz2 := hb2.size
    have hb2' := below_call hb1 hb2 (Nat.le_refl _)
    go_wp2_with fail
    refine (first_calls b _ 2 2 [slotsF xs, fromF f xs] _ (Rd.lit w2 b 1 2 #[.int .i64 (slotsF xs), .int .i64 (fromF f xs)] 30 (by omega) (by decide) rfl)).mono ?_
    rintro e w3 ⟨rfl, nq, rfl⟩
    rw [HE.out]
    have hb3 := below_drewN (hb2'.alloc (by omega) (.cells #[.int .i64 (slotsF xs), .int .i64 (fromF f xs)] 30)) nq
    go_wp2_with fail
    refine bodyPost_ret (v := .tuple #[.slice none 0 0, .int .i64 E]) (by simp [results, Tryz.results69, go_sem]) rfl ⟨_, rfl, World.ownsRow_nil _ _ _ _, hb3⟩
end Go.Proofs.YtaendemgkabdfaaGreatDoor
