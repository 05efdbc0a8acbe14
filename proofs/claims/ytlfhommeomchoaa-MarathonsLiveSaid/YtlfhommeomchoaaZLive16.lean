/-
  splitref2.LateOf by a contract: it answers as Late does.
-/
import Derived.Test.YtlfhommeomchoaaZLive14
import Derived.Test.YtlfhommeomchoaaZLive15
import Derived.Deep.RegionHeld3
import Derived.IntWalk
namespace Go.Proofs.Ytlfhommeomchoaa
open Go Go.RowKit
attribute [local go_sem ↓] Go.wp_at_zero Go.wp_at_succ

set_option maxRecDepth 100000 in
set_option maxHeartbeats 2000000 in
theorem lateOf_calls (b : Nat) (A A2 : Option Addr) (n c m c2 : Nat) (xs : List Slt) (ys : List Lv) (f at_ : Int) (w : World) (hr : Slts w b A n c xs) (hn : n ≤ 1000) (hr2 : Rd w b 3 (.slice A2 m c2) m (ys.flatMap lvC)) (hys : ∀ y ∈ ys, LvOk y) (hb : b < w.heap.size) (h0 : knownE xs f ys at_ (expP xs f ys at_) = 0) :
    Calls Try.prog 53 #[.slice A n c, .int .i64 f, .slice A2 m c2, .int .i64 at_] w (BRet (.int .i64 (lateV xs f (knownL xs f ys at_))) w) := by
  obtain ⟨k0, k1, k2⟩ := known_ok h0
  have HP := Lib.hid (placesQ_calls b A A2 n c m c2 xs ys f at_ w hr hn hr2 hys k0 k1 k2 hb)
  have hl := (hr.rd.cells sltC_len (by omega)).1
  obtain ⟨B1, B2, B3⟩ := late_bd (f := f) (at_ := at_) hr.sml (by omega) hys h0
  have hkl : knownL xs f ys at_ = expP xs f ys at_ := by unfold knownL; rw [if_pos h0]
  rw [hkl] at B1 ⊢
  obtain ⟨L, hL⟩ : ∃ L, expP xs f ys at_ = L := ⟨_, rfl⟩
  rw [hL] at HP B1 ⊢
  have HR := Lib.hid hr
  clear hr hr2 hys hl hkl hL h0 k0 k1 k2
  by_cases hl0 : L = []
  · subst hl0
    have HV : Hid (lateV xs f [] = 0) := rfl
    go_enter Try.func53, Try.ntmps53
    go_wp2_with fail
    refine HP.out.mono ?_
    rintro e w1 ⟨v, rfl, hown, hb1⟩
    obtain ⟨A3, c3, hv⟩ := own_form hown
    subst hv
    go_wp2_with fail
    go_ret
    exact ⟨ret_int HV.out.symm, hb1⟩
  · have hlp : 0 < L.length := by cases L with | nil => exact absurd rfl hl0 | cons _ _ => simp
    obtain ⟨q, hq⟩ : ∃ q, L.length = q + 1 := ⟨L.length - 1, by omega⟩
    have HV : Hid (lateV xs f L = endP f L - endP f (placesF f xs)) := by unfold lateV; rw [if_neg hl0]; exact Lib.hid rfl
    have hlast := endP_last f L hlp
    obtain ⟨z1, hz1⟩ : ∃ z, endP f L = z := ⟨_, rfl⟩
    obtain ⟨z2, hz2⟩ : ∃ z, endP f (placesF f xs) = z := ⟨_, rfl⟩
    have hqL : q < L.length := by rw [hq]; exact Nat.lt_succ_self q
    have hlq : (L[q]'hqL).2.2.2 = z1 := by
      rw [← hz1, hlast]
      have : L.length - 1 = q := by omega
      simp only [this]
    rw [hz1, hz2] at HV
    rw [hz1] at B1
    rw [hz2] at B2
    obtain ⟨q1, q2⟩ := B1
    obtain ⟨q3, q4⟩ := B2
    have HLQ := Lib.hid hlq
    have HQ := Lib.hid hq
    have HEO : Hid (∀ W A3 c3, Rd W b 4 (.slice A3 (placesF f xs).length c3) (placesF f xs).length ((placesF f xs).flatMap plcC) → Calls Try.prog 97 #[.slice A3 (placesF f xs).length c3, .int .i64 f] W (BRet (.int .i64 z2) W)) := fun W A3 c3 h => by
      have := endOf_calls b A3 (placesF f xs).length c3 (placesF f xs) f W h
      rw [hz2] at this
      exact this
    have HPO : Hid (∀ W, Below w.heap.size w W → Calls Try.prog 40 #[.slice A n c, .int .i64 f] W (PlcsS (placesF f xs) W)) := fun W hW => placesOf_calls b A n c xs f W (HR.out.below hW) hn B3
    clear hlast hz1 hz2 hlq hl0 hlp
    go_enter Try.func53, Try.ntmps53
    go_wp2_with fail
    refine HP.out.mono ?_
    rintro e w1 ⟨v, rfl, hown, hb1⟩
    rw [HQ.out] at hown
    obtain ⟨g, c3, hv, _, hgl⟩ := hown.form (by omega)
    subst hv
    have c3' := own_cell plcC 4 plcC_len hown q 3 (by rw [HQ.out]; omega) (by omega) (by omega)
    replace c3' : w1.cell? ⟨g, q * 4 + 3, none⟩ = some (.int .i64 z1) := by rw [c3', ← HLQ.out]; rfl
    have hb1z := hb1.size
    have HSP : Hid (∀ W, Below w1.heap.size w1 W → W.cell? ⟨g, q * 4 + 3, none⟩ = some (.int .i64 z1)) := fun W hW => below_cell hW c3'
    have hq0 : (0 : Int) ≤ (q : Int) := by omega
    have hqn : (((q + 1 : Nat) : Int) == 0) = false := by rw [beq_eq_false_iff_ne]; omega
    have hqe : ((q + 1 : Nat) : Int) - 1 = (q : Int) := by omega
    have hqi : (q : Int) < ((q + 1 : Nat) : Int) := by omega
    have hdr : Below w1.heap.size w1 w1.drew := below_drewN (Below.refl _ _) 1
    have hdw : Below w.heap.size w w1.drew := below_drewN hb1 1
    have hqL2 : (q : Int) ≤ 9223372036854775807 := by have := (own_cap hown).2; unfold maxLen at this; have := (own_cap hown).1; omega
    have hwr1 : IntKind.i64.wrap (((q + 1 : Nat) : Int) - 1) = (q : Int) := by rw [hqe]; exact IntWalk.i64_in _ (by omega)
    have hwr2 : IntKind.i64.wrap ((q : Int) + 1 - 1) = (q : Int) := by rw [show (q : Int) + 1 - 1 = q by omega]; exact IntWalk.i64_in _ (by omega)
    have hqi2 : (q : Int) < (q : Int) + 1 := by omega
    have hwr3 : IntKind.i64.wrap (q : Int) = (q : Int) := IntWalk.i64_in _ (by omega)
    clear hown hq
    go_wp2_with fail
    go_region_law
      (first
        | (go_simp; go_at_call 40; ((with_reducible refine (HPO.out _ hdw).mono ?_); rintro e w2 ⟨v2, rfl, hown2, hb2⟩; have hb3 := below_call hdr hb2 (Nat.le_refl _); have e2 := HSP.out _ hb3; have hrd2 := Rd.own (b := b) hown2 (Nat.lt_of_lt_of_le hb hb1z); obtain ⟨A4, c4, hv2⟩ := own_form hown2; subst hv2))
        | (go_simp; go_at_call 97; ((with_reducible refine (HEO.out _ _ _ hrd2).mono ?_); rintro e w3 ⟨rfl, hb4⟩; have hb5 := below_call hb3 hb4 (Nat.le_refl _); have e3 := HSP.out _ hb5)))
    all_goals
      have hbf := below_call hb1 hb5 (Nat.le_refl _)
      go_wp2_with fail
      go_ret
      first
        | exact ⟨ret_int HV.out.symm, hbf⟩
        | exact ⟨ret_int ((IntWalk.i64_in _ (by omega)).trans HV.out.symm), hbf⟩
end Go.Proofs.Ytlfhommeomchoaa
