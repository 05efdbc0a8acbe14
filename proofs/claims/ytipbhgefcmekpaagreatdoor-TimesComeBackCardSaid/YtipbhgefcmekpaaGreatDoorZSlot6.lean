/-
  marathon.end, splitref2.endOf, both Moment, fromFault and FromFault by contracts. (Printed by gen_slot6.py.)
-/
import Derived.Test.YtipbhgefcmekpaaGreatDoorZSlot5
namespace Go.Proofs.YtipbhgefcmekpaaGreatDoor
open Go Go.RowKit

set_option maxRecDepth 100000 in
theorem end_calls (b : Nat) (A : Option Addr) (n c : Nat) (l : List Plc) (f : Int) (w : World) (hr : Rd w b 4 (.slice A n c) n (l.flatMap plcC)) :
    Calls Tryz.prog 72 #[.slice A n c, .int .i64 f] w (QRet (.int .i64 (endP f l)) w) := by
  obtain ⟨hl, hnc, hcm, hcells⟩ := hr.cells plcC_len (by omega)
  unfold maxLen at hcm
  by_cases h0 : n = 0
  · subst h0
    have hx : l = [] := List.eq_nil_of_length_eq_zero hl
    subst hx
    clear hcells
    go_enter Tryz.func72, Tryz.ntmps72
    go_wp2_with fail
    go_ret
    exact ⟨rfl, 0, rfl⟩
  · obtain ⟨g, o, hA, _, hcs⟩ := hcells (by omega)
    obtain ⟨q, rfl⟩ : ∃ q, n = q + 1 := ⟨n - 1, by omega⟩
    have hlast := endP_last f l (by omega)
    have hq : l.length - 1 = q := by omega
    simp only [hq] at hlast
    have c3 := hcs q (by omega) 3 (by omega)
    have HE : Hid (endP f l = (l[q]'(by omega)).2.2.2) := hlast
    obtain ⟨z, hz⟩ : ∃ z, l[q]'(by omega) = z := ⟨_, rfl⟩
    rw [hz] at HE c3
    obtain ⟨z0, z1, z2, z3⟩ := z
    replace c3 : w.cell? ⟨g, o + q * 4 + 3, none⟩ = some (.int .i64 z3) := c3
    have hq0 : (0 : Int) ≤ (q : Int) := by omega
    have hnn : ((((q + 1 : Nat) : Int)) == 0) = false := by rw [beq_eq_false_iff_ne]; omega
    have hq1 : (q : Int) < ((q + 1 : Nat) : Int) := by omega
    subst hA
    clear hcs hcells hlast hz hq hl hr
    go_enter Tryz.func72, Tryz.ntmps72
    go_wp2_with fail
    go_ret
    exact ⟨ret_int HE.out.symm, 0, rfl⟩

theorem moment_calls (f : Int) (w : World) : Calls Tryz.prog 71 #[.int .i64 f] w fun e w' => e = .returned (.bool (momB f)) ∧ w = w' := by
  have HM : Hid ((!outB f 0 345686399999) = momB f) := rfl
  go_enter Tryz.func71, Tryz.ntmps71
  go_wp2_with fail
  refine (out_calls _ _ _ _).mono ?_
  rintro e w1 ⟨rfl, rfl⟩
  go_wp2_with fail
  go_ret
  exact ⟨ret_bool HM.out, rfl⟩
set_option maxRecDepth 100000 in
theorem fromFault_calls (b : Nat) (A : Option Addr) (n c : Nat) (xs : List Slt) (f : Int) (w : World) (hr : Slts w b A n c xs) (hn : n ≤ 1000) (hf : -4398046511104 ≤ f ∧ f ≤ 4398046511104) (hb : b < w.heap.size) :
    Calls Tryz.prog 45 #[.slice A n c, .int .i64 f] w (BRet (.int .i64 (fromF f xs)) w) := by
  obtain ⟨M, hM⟩ : ∃ M, momB f = M := ⟨_, rfl⟩
  obtain ⟨E, hE⟩ : ∃ E, endP f (placesF f xs) = E := ⟨_, rfl⟩
  have hF : fromF f xs = if M = true then if 345686400000 < E then 1 else 0 else 1 := by rw [← hM, ← hE]; rfl
  have HM := Lib.hid hM
  have HE := Lib.hid hE
  cases M
  · have HS := Lib.hid (hF.trans (if_neg (by simp)))
    clear hM hE hF
    go_enter Tryz.func45, Tryz.ntmps45
    go_wp2_with fail
    refine (moment_calls f _).mono ?_
    rintro e w1 ⟨rfl, rfl⟩
    rw [HM.out]
    go_wp2_with fail
    go_ret
    exact ⟨ret_int HS.out.symm, Below.refl _ _⟩
  · have hF1 := hF.trans (if_pos rfl)
    by_cases hgt : 345686400000 < E
    · have HS := Lib.hid (hF1.trans (if_pos hgt))
      clear hM hE hF hF1
      go_enter Tryz.func45, Tryz.ntmps45
      go_wp2_with fail
      refine (moment_calls f _).mono ?_
      rintro e w1 ⟨rfl, rfl⟩
      rw [HM.out]
      go_wp2_with fail
      refine (timetable_calls b A n c xs f _ hr hn hf).mono ?_
      rintro e w1 ⟨v, rfl, hown, hb1⟩
      obtain ⟨A2, c2, hv⟩ := own_form hown
      subst hv
      go_wp2_with fail
      refine (end_calls b A2 _ c2 (placesF f xs) f _ (Rd.own hown hb)).mono ?_
      rintro e w2 ⟨rfl, nq, rfl⟩
      rw [HE.out]
      go_wp2_with fail
      go_ret
      exact ⟨ret_int HS.out.symm, below_drewN hb1 _⟩
    · have HS := Lib.hid (hF1.trans (if_neg hgt))
      clear hM hE hF hF1
      go_enter Tryz.func45, Tryz.ntmps45
      go_wp2_with fail
      refine (moment_calls f _).mono ?_
      rintro e w1 ⟨rfl, rfl⟩
      rw [HM.out]
      go_wp2_with fail
      refine (timetable_calls b A n c xs f _ hr hn hf).mono ?_
      rintro e w1 ⟨v, rfl, hown, hb1⟩
      obtain ⟨A2, c2, hv⟩ := own_form hown
      subst hv
      go_wp2_with fail
      refine (end_calls b A2 _ c2 (placesF f xs) f _ (Rd.own hown hb)).mono ?_
      rintro e w2 ⟨rfl, nq, rfl⟩
      rw [HE.out]
      go_wp2_with fail
      go_ret
      exact ⟨ret_int HS.out.symm, below_drewN hb1 _⟩

end Go.Proofs.YtipbhgefcmekpaaGreatDoor
