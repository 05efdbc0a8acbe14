/-
  marathon.end, splitref2.endOf, both Moment, fromFault and FromFault by contracts. (Printed by gen_slot6.py.)
-/
import Derived.Test.YtedfieopmjpibaaGreatDoorZSlot5
import Derived.Test.YtedfieopmjpibaaGreatDoorZRat1
namespace Go.Proofs.YtedfieopmjpibaaGreatDoor
open Go Go.RowKit

set_option maxRecDepth 100000 in
theorem end_calls (b : Nat) (A : Option Addr) (n c : Nat) (l : List Plc) (f : Int) (w : World) (hr : Rd w b 4 (.slice A n c) n (l.flatMap plcC)) :
    Calls Tryz.prog 48 #[.slice A n c, .int .i64 f] w (QRet (.int .i64 (endP f l)) w) := by
  obtain ⟨hl, hnc, hcm, hcells⟩ := hr.cells plcC_len (by omega)
  unfold maxLen at hcm
  by_cases h0 : n = 0
  · subst h0
    have hx : l = [] := List.eq_nil_of_length_eq_zero hl
    subst hx
    clear hcells
    go_enter Tryz.func48, Tryz.ntmps48
    go_wp2_with fail
    go_ret
    exact ⟨rfl, 0, rfl⟩
  · obtain ⟨g, o, hA, _, hcs⟩ := hcells (by omega)
    obtain ⟨q, rfl⟩ : ∃ q, n = q + 1 := ⟨n - 1, by omega⟩
    have hlast := endP_last f l (by omega)
    have hq : l.length - 1 = q := by omega
    simp only [hq] at hlast
    have c3 := hcs q (by omega) 3 (by omega)
    have HE : Hid (endP f l = (l[q]'(by omega)).2.2.2) := hlast
    obtain ⟨z, hz⟩ : ∃ z, l[q]'(by omega) = z := ⟨_, rfl⟩
    rw [hz] at HE c3
    obtain ⟨z0, z1, z2, z3⟩ := z
    replace c3 : w.cell? ⟨g, o + q * 4 + 3, none⟩ = some (.int .i64 z3) := c3
    have hq0 : (0 : Int) ≤ (q : Int) := by omega
    have hnn : ((((q + 1 : Nat) : Int)) == 0) = false := by rw [beq_eq_false_iff_ne]; omega
    have hq1 : (q : Int) < ((q + 1 : Nat) : Int) := by omega
    subst hA
    clear hcs hcells hlast hz hq hl hr
    go_enter Tryz.func48, Tryz.ntmps48
    go_wp2_with fail
    go_ret
    exact ⟨ret_int HE.out.symm, 0, rfl⟩

theorem moment_calls (f : Int) (w : World) : Calls Tryz.prog 62 #[.int .i64 f] w fun e w' => e = .returned (.bool (momB f)) ∧ w = w' := by
  have HM : Hid ((!outB f 0 345686399999) = momB f) := rfl
  go_enter Tryz.func62, Tryz.ntmps62
  go_wp2_with fail
  refine (out_calls _ _ _ _).mono ?_
  rintro e w1 ⟨rfl, rfl⟩
  go_wp2_with fail
  go_ret
  exact ⟨ret_bool HM.out, rfl⟩
set_option maxRecDepth 100000 in
theorem fromFault_calls (b : Nat) (A : Option Addr) (n c : Nat) (xs : List Slt) (f : Int) (w : World) (hr : Slts w b A n c xs) (hn : n ≤ 1000) (hf : -4398046511104 ≤ f ∧ f ≤ 4398046511104) (hb : b < w.heap.size) :
    Calls Tryz.prog 45 #[.slice A n c, .int .i64 f] w (BRet (.int .i64 (fromF f xs)) w) := by
  obtain ⟨M, hM⟩ : ∃ M, momB f = M := ⟨_, rfl⟩
  obtain ⟨E, hE⟩ : ∃ E, endP f (placesF f xs) = E := ⟨_, rfl⟩
  have hF : fromF f xs = if M = true then if 345686400000 < E then 1 else 0 else 1 := by rw [← hM, ← hE]; rfl
  have HM := Lib.hid hM
  have HE := Lib.hid hE
  cases M
  · have HS := Lib.hid (hF.trans (if_neg (by simp)))
    clear hM hE hF
    go_enter Tryz.func45, Tryz.ntmps45
    go_wp2_with fail
    refine (moment_calls f _).mono ?_
    rintro e w1 ⟨rfl, rfl⟩
    rw [HM.out]
    go_wp2_with fail
    go_ret
    exact ⟨ret_int HS.out.symm, Below.refl _ _⟩
  · have hF1 := hF.trans (if_pos rfl)
    by_cases hgt : 345686400000 < E
    · have HS := Lib.hid (hF1.trans (if_pos hgt))
      clear hM hE hF hF1
      go_enter Tryz.func45, Tryz.ntmps45
      go_wp2_with fail
      refine (moment_calls f _).mono ?_
      rintro e w1 ⟨rfl, rfl⟩
      rw [HM.out]
      go_wp2_with fail
      refine (timetable_calls b A n c xs f _ hr hn hf).mono ?_
      rintro e w1 ⟨v, rfl, hown, hb1⟩
      obtain ⟨A2, c2, hv⟩ := own_form hown
      subst hv
      go_wp2_with fail
      refine (end_calls b A2 _ c2 (placesF f xs) f _ (Rd.own hown hb)).mono ?_
      rintro e w2 ⟨rfl, nq, rfl⟩
      rw [HE.out]
      go_wp2_with fail
      go_ret
      exact ⟨ret_int HS.out.symm, below_drewN hb1 _⟩
    · have HS := Lib.hid (hF1.trans (if_neg hgt))
      clear hM hE hF hF1
      go_enter Tryz.func45, Tryz.ntmps45
      go_wp2_with fail
      refine (moment_calls f _).mono ?_
      rintro e w1 ⟨rfl, rfl⟩
      rw [HM.out]
      go_wp2_with fail
      refine (timetable_calls b A n c xs f _ hr hn hf).mono ?_
      rintro e w1 ⟨v, rfl, hown, hb1⟩
      obtain ⟨A2, c2, hv⟩ := own_form hown
      subst hv
      go_wp2_with fail
      refine (end_calls b A2 _ c2 (placesF f xs) f _ (Rd.own hown hb)).mono ?_
      rintro e w2 ⟨rfl, nq, rfl⟩
      rw [HE.out]
      go_wp2_with fail
      go_ret
      exact ⟨ret_int HS.out.symm, below_drewN hb1 _⟩

end Go.Proofs.YtedfieopmjpibaaGreatDoor
/-
  marathon.Timetable by a contract.
-/
namespace Go.Proofs.YtedfieopmjpibaaGreatDoor
open Go Go.RowKit

def tabE (f : Int) (xs : List Slt) : Int := firstE [slotsF xs, fromF f xs]
/-- what Timetable answers -/
def tabL (f : Int) (xs : List Slt) : List Plc := if tabE f xs = 0 then placesF f xs else []
def TabS (l : List Plc) (er : Int) (w : World) (e : Ending) (w' : World) : Prop :=
  ∃ v, e = .returned (.tuple #[v, .int .i64 er]) ∧ w'.ownsRow w.heap.size 63 4 v l.length (l.flatMap plcC) ∧ Below w.heap.size w w'

set_option maxRecDepth 100000 in
theorem timetableX_calls (b : Nat) (A : Option Addr) (n c : Nat) (xs : List Slt) (f : Int) (w : World) (hr : Slts w b A n c xs) (hn : n ≤ 1000) (hf : -4398046511104 ≤ f ∧ f ≤ 4398046511104) (hb : b < w.heap.size) :
    Calls Tryz.prog 19 #[.slice A n c, .int .i64 f] w (TabS (tabL f xs) (tabE f xs) w) := by
  obtain ⟨E, hE⟩ : ∃ E, tabE f xs = E := ⟨_, rfl⟩
  have hL : tabL f xs = if E = 0 then placesF f xs else [] := by rw [← hE]; rfl
  have HE : Hid (firstE [slotsF xs, fromF f xs] = E) := hE
  rw [hE]
  have HR := Lib.hid hr
  have HF := Lib.hid hf
  clear hr hE hf
  by_cases hz : E = 0
  · rw [if_pos hz] at hL
    rw [hL]
    subst hz
    clear hL
    go_enter Tryz.func19, Tryz.ntmps19
    go_wp2_with fail
    refine (checkSlots_calls b A n c xs _ HR.out hb).mono ?_
    rintro e w1 ⟨rfl, hb1⟩
    have hz1 := hb1.size
    go_wp2_with fail
    refine (fromFault_calls b A n c xs f _ (HR.out.below hb1) hn HF.out (by omega)).mono ?_
    rintro e w2 ⟨rfl, hb2⟩
    have hz2 := hb2.size
    have hb2' := below_call hb1 hb2 (Nat.le_refl _)
    go_wp2_with fail
    refine (first_calls b _ 2 2 [slotsF xs, fromF f xs] _ (Rd.lit w2 b 1 2 #[.int .i64 (slotsF xs), .int .i64 (fromF f xs)] 31 (by omega) (by decide) rfl)).mono ?_
    rintro e w3 ⟨rfl, nq, rfl⟩
    rw [HE.out]
    have hb3 := below_drewN (hb2'.alloc (by omega) (.cells #[.int .i64 (slotsF xs), .int .i64 (fromF f xs)] 31)) nq
    go_wp2_with fail
    refine (timetable_calls b A n c xs f _ (HR.out.below hb3) hn HF.out).mono ?_
    rintro e w4 ⟨v, rfl, hown, hb4⟩
    have hb5 := below_call hb3 hb4 (Nat.le_refl _)
    have hown2 := own_base hown hb3.size
    go_wp2_with fail
    refine bodyPost_ret (v := .tuple #[v, .int .i64 0]) (by simp [results, Tryz.results19, go_sem]) rfl ⟨v, rfl, hown2, hb5⟩
  · rw [if_neg hz] at hL
    rw [hL]
    have hz' : (E != 0) = true := by rw [bne_iff_ne]; exact hz
    clear hL
    go_enter Tryz.func19, Tryz.ntmps19
    go_wp2_with fail
    refine (checkSlots_calls b A n c xs _ HR.out hb).mono ?_
    rintro e w1 ⟨rfl, hb1⟩
    have hz1 := hb1.size
    go_wp2_with fail
    refine (fromFault_calls b A n c xs f _ (HR.out.below hb1) hn HF.out (by omega)).mono ?_
    rintro e w2 ⟨rfl, hb2⟩
    have hz2 := hb2.size
    have hb2' := below_call hb1 hb2 (Nat.le_refl _)
    go_wp2_with fail
    refine (first_calls b _ 2 2 [slotsF xs, fromF f xs] _ (Rd.lit w2 b 1 2 #[.int .i64 (slotsF xs), .int .i64 (fromF f xs)] 31 (by omega) (by decide) rfl)).mono ?_
    rintro e w3 ⟨rfl, nq, rfl⟩
    rw [HE.out]
    have hb3 := below_drewN (hb2'.alloc (by omega) (.cells #[.int .i64 (slotsF xs), .int .i64 (fromF f xs)] 31)) nq
    go_wp2_with fail
    refine bodyPost_ret (v := .tuple #[.slice none 0 0, .int .i64 E]) (by simp [results, Tryz.results19, go_sem]) rfl ⟨_, rfl, World.ownsRow_nil _ _ _ _, hb3⟩
end Go.Proofs.YtedfieopmjpibaaGreatDoor
