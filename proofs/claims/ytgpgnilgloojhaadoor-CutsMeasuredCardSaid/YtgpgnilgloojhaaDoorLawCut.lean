/-
  CutsMeasured: the law's own walk.
-/
import Derived.Test.YtgpgnilgloojhaaDoorLawStart
import Derived.Test.YtgpgnilgloojhaaDoorCutLens
import Derived.Test.YtgpgnilgloojhaaDoorCutEq
import Derived.Test.YtgpgnilgloojhaaDoorClk
import Derived.Deep.DeepCutAuto
namespace Go.Proofs.YtgpgnilgloojhaaDoor
open Go Go.RowKit

set_option maxRecDepth 100000 in
set_option maxHeartbeats 2000000 in
theorem cuts_walk (a0 : Option Addr) (len0 cap0 : Nat) (z0 : List Int) (w : World) (w0 : InRow w a0 len0 cap0 z0) (ht : Tab w) :
    Calls Tryd.prog 3 #[.slice a0 len0 cap0] w fun e w' => e = .returned (.bool true) ∧ Below w.heap.size w w' := by
  have hs0 := strm_start w0 25
  have hb0 : Bx w.heap.size w.heap.size w (w.alloc (.cells #[.slice a0 len0 cap0, .int .i64 0] 25)) := (Bx.refl _ _ _).alloc (Nat.le_refl _) _
  clear w0
  go_enter Tryd.func3, Tryd.ntmps3
  go_wp2_with fail
  refine (range_calls w.heap.size 0 _ _ _ (by omega) (by omega) (by omega) hs0 (by omega)).mono ?_
  rintro e w1 ⟨m, rfl, m1, m2, hs1, hc1⟩
  obtain ⟨m, rfl⟩ : ∃ q : Nat, m = (q : Int) := ⟨m.toNat, by omega⟩
  have hb1 := hb0.call hc1 (Nat.le_refl _)
  clear hs0 hb0 hc1
  go_wp2_with fail
  refine (cuts_calls w.heap.size _ m _ hs1 (by omega) (by omega)).mono ?_
  rintro e w2 ⟨v, l, rfl, ho2, hlm, hI, hs2, hc2⟩
  have hlt := hs1.lt
  have hB := (hb1.call hc2 (Nat.le_refl _)).below (Nat.le_refl _)
  have hr2 := Rd.own ho2 hlt
  obtain ⟨A, c, hv⟩ := own_form ho2
  subst hv
  have hlt2 := hs2.lt
  clear ho2 hs1 hs2 hb1 hc2
  obtain ⟨F, hF⟩ : ∃ z, cutF l = z := ⟨_, rfl⟩
  obtain ⟨L, hL⟩ : ∃ z, lensL l = z := ⟨_, rfl⟩
  have HQ : Hid (F = 0 → ∀ W, Below w2.heap.size w2 W → Calls Tryd.prog 12 #[.slice A l.length c] W (fun e w' => ∃ v, e = .returned v ∧ w'.ownsRow W.heap.size 36 3 v L.length (L.flatMap cutC) ∧ Below W.heap.size W w')) := by
    intro h W hW
    have hh := hF.trans h
    have h2 : L = lensTo l l.length := by rw [← hL]; unfold lensL; rw [if_pos hh]
    rw [h2, lensTo_len]
    exact lengthsOf_calls w.heap.size A _ c l W (hr2.below hW) hh
  have HQZ : Hid (F ≠ 0 → L = []) := by
    intro h
    rw [← hL]
    unfold lensL
    rw [hF, if_neg h]
  go_wp2_with fail
  refine (lengths_calls w.heap.size A _ c l _ hr2 hI).mono ?_
  rintro e w3 ⟨v, rfl, ho3, hb3⟩
  rw [hF]
  rw [hL] at ho3
  have hS3 := (Bs.start w2).below hb3
  have hy3 := Rd.own (b := w.heap.size) ho3 hlt2
  obtain ⟨A3, c3, hv⟩ := own_form ho3
  subst hv
  clear ho3 hb3
  go_wp2_with fail
  refine (cutsFault_calls w.heap.size A _ c l _ (hr2.below hS3.1) hI).mono ?_
  rintro e w4 ⟨rfl, hb4⟩
  rw [hF]
  have hS4 := hS3.below hb4
  have hy4 := hy3.below hb4
  have HF := Lib.hid hF
  clear hS3 hb4 hy3 hF hL
  go_upto_if 24 with (fail)
  go_cut [8] (fun s8 W => ∃ A4 c4, s8 = .slice A4 L.length c4 ∧ Bs w2 W [] ∧ Rd W w.heap.size 3 (.slice A3 L.length c3) L.length (L.flatMap cutC) ∧ Rd W w.heap.size 3 (.slice A4 L.length c4) L.length (L.flatMap cutC))
  case first =>
    by_cases h0 : F = 0
    · subst h0
      go_wp2_with fail
      refine (HQ.out (by first | rfl | trivial) _ hS4.1).mono ?_
      rintro e w5 ⟨v, rfl, ho, hb5⟩
      have hS5 := hS4.below hb5
      have hy5 := hy4.below hb5
      have hq5 := Rd.own (b := w.heap.size) ho (by have := hS4.1.size; omega)
      obtain ⟨A4, c4, hv⟩ := own_form ho
      subst hv
      go_wp2_with fail
      go_meet
      exact ⟨A4, c4, rfl, hS5, hy5, hq5⟩
    · have e1 := HQZ.out h0
      subst e1
      have hxb : (F == 0) = false := by simpa using h0
      go_wp2_with fail
      go_meet
      exact ⟨none, 0, rfl, hS4, hy4, Rd.nil _ _ _⟩
  case rest =>
    obtain ⟨A4, c4, rfl, hS5, hy5, hq5⟩ := hcut
    clear hS4 hy4
    go_wp2_with fail
    refine (checkCuts_calls w.heap.size A _ c l _ (hr2.below hS5.1) hI).mono ?_
    rintro e w6 ⟨rfl, hb6⟩
    rw [HF.out]
    have hS6 := hS5.below hb6
    have hy6 := hy5.below hb6
    have hq6 := hq5.below hb6
    clear hS5 hy5 hq5 hb6
    go_wp2_with fail
    refine (equalCut_calls w.heap.size A3 A4 _ c3 c4 L _ hy6 hq6).mono ?_
    rintro e w7 ⟨rfl, n7, rfl⟩
    have hS7 := hS6.drewN n7
    have hB7 := below_call hB hS7.1 (Nat.le_refl _)
    go_wp2_with fail
    refine (clocked_calls _ (ht.below hB7)).mono ?_
    rintro e w8 ⟨rfl, hb8⟩
    have hfin := below_call hB7 hb8 (Nat.le_refl _)
    go_wp2_with fail
    go_ret
    exact ⟨rfl, hfin⟩
end Go.Proofs.YtgpgnilgloojhaaDoor
