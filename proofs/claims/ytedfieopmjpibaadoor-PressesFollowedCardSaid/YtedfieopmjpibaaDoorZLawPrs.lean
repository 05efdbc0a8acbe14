/-
  PressesFollowed: the law's own walk.
-/
import Derived.Test.YtedfieopmjpibaaDoorZStream
import Derived.Test.YtedfieopmjpibaaDoorZPrs12
import Derived.Test.YtedfieopmjpibaaDoorZPrs13
import Derived.Test.YtedfieopmjpibaaDoorZClk
import Derived.Deep.DeepCutAuto
namespace Go.Proofs.YtedfieopmjpibaaDoor
open Go Go.RowKit

set_option maxRecDepth 100000 in
set_option maxHeartbeats 4000000 in
theorem prs_walk (a0 : Option Addr) (len0 cap0 : Nat) (z0 : List Int) (w : World) (w0 : InRow w a0 len0 cap0 z0) (ht : Tab w) :
    Calls Tryd.prog 3 #[.slice a0 len0 cap0] w fun e w' => e = .returned (.bool true) ∧ Below w.heap.size w w' := by
  have hs0 := strm_start w0 25
  have hb0 : Bx w.heap.size w.heap.size w (w.alloc (.cells #[.slice a0 len0 cap0, .int .i64 0] 25)) := (Bx.refl _ _ _).alloc (Nat.le_refl _) _
  clear w0
  go_enter Tryd.func3, Tryd.ntmps3
  go_wp2_with fail
  refine (segments_calls w.heap.size 0 _ hs0 (by omega)).mono ?_
  rintro e w1 ⟨_, rfl, ⟨q, rfl, q0, q1⟩, hS1⟩
  have hs1 := hS1.strm
  have hb1 := hb0.call hS1.bx (Nat.le_refl _)
  clear hs0 hb0 hS1
  go_wp2_with fail
  refine (range_calls w.heap.size _ 0 20 _ (by omega) (by omega) (by omega) hs1 (by omega)).mono ?_
  rintro e w2 ⟨m, rfl, m0, m1, hs2, hc2⟩
  obtain ⟨m, rfl⟩ := Int.eq_ofNat_of_zero_le m0
  have hb2 := hb1.call hc2 (Nat.le_refl _)
  have hlt2 := hs2.lt
  clear hs1 hb1 hc2
  go_wp2_with fail
  refine (presses_calls w.heap.size _ m _ hs2 (by omega) (by omega)).mono ?_
  rintro e w3 ⟨v, l, rfl, hlm, hS3⟩
  have hO : w3.ownsRow w2.heap.size 61 2 v m (l.flatMap pzC) := hS3.head
  have hB3 := (hb2.call hS3.bx (Nat.le_refl _)).below (Nat.le_refl _)
  have hlt3 := hS3.lt
  obtain ⟨A, c, hv⟩ := own_form hO
  subst hv
  have hr3 := Rd.own (b := w.heap.size) hO hlt2
  clear hs2 hb2 hS3 hO
  have HRX := Lib.hid (fun W (h : Below w3.heap.size w3 W) => hr3.below h)
  have H1 := Lib.hid (refused_calls w.heap.size q A m c l w3 hr3)
  obtain ⟨R, hR⟩ : ∃ R, refL q l = R := ⟨_, rfl⟩
  obtain ⟨bg, hbg⟩ : ∃ bg, begV q l = bg := ⟨_, rfl⟩
  obtain ⟨dn, hdn⟩ : ∃ dn, donV q l = dn := ⟨_, rfl⟩
  obtain ⟨E, hE⟩ : ∃ E, segF q l = E := ⟨_, rfl⟩
  have H2 : Hid (∀ W, Below w3.heap.size w3 W → Calls Tryd.prog 9 #[.int .i64 q, .slice A m c] W (BRet (.tuple #[.int .i64 bg, .int .i64 dn, .int .i64 E]) W)) := by
    intro W h
    have := attempts_calls w.heap.size q A m c l W (HRX.out W h)
    unfold AttS at this
    rw [hbg, hdn, hE] at this
    exact this
  have H3 : Hid (∀ W, Below w3.heap.size w3 W → Calls Tryd.prog 10 #[.int .i64 q, .slice A m c] W (BRet (.int .i64 E) W)) := by
    intro W h
    have := segmentsFault_calls w.heap.size q A m c l W (HRX.out W h)
    rw [hE] at this
    exact this
  have H4 : Hid (E = 0 → ∀ W, Below w3.heap.size w3 W → Calls Tryd.prog 11 #[.int .i64 q, .slice A m c] W (fun e w' => ∃ v, e = .returned v ∧ w'.ownsRow W.heap.size 3 1 v R.length (R.map (Value.int .i64)) ∧ Below W.heap.size W w')) := by
    intro h0 W h
    have := refusedPresses_calls w.heap.size q A m c l W (HRX.out W h) (hE.trans h0)
    unfold ReqS at this
    rw [hR] at this
    exact this
  have H5 : Hid (E = 0 → ∀ W, Below w3.heap.size w3 W → Calls Tryd.prog 12 #[.int .i64 q, .slice A m c] W (BRet (.tuple #[.int .i64 bg, .int .i64 dn]) W)) := by
    intro h0 W h
    have := attemptsOf_calls w.heap.size q A m c l W (HRX.out W h) (hE.trans h0)
    rw [hbg, hdn] at this
    exact this
  have H6 : Hid (E ≠ 0 → R = [] ∧ bg = 0 ∧ dn = 0) := by
    intro h0
    rw [← hE] at h0
    rw [← hR, ← hbg, ← hdn]
    unfold refL begV donV
    rw [if_neg h0, if_neg h0, if_neg h0]
    exact ⟨rfl, rfl, rfl⟩
  obtain ⟨F, hF⟩ : ∃ F, prF l = F := ⟨_, rfl⟩
  have H7 : Hid (∀ W, Below w3.heap.size w3 W → Calls Tryd.prog 13 #[.slice A m c] W (BRet (.int .i64 F) W)) := by
    intro W h
    have := checkPresses_calls w.heap.size A m c l W (HRX.out W h)
    rw [hF] at this
    exact this
  have H8 : Hid (∀ W, Below w3.heap.size w3 W → Calls Tryd.prog 14 #[.slice A m c] W (BRet (.int .i64 F) W)) := by
    intro W h
    have := pressesFault_calls w.heap.size A m c l W (HRX.out W h)
    rw [hF] at this
    exact this
  unfold RefS at H1
  rw [hR, hE] at H1
  have HB3 := Lib.hid hB3
  clear hr3 HRX hR hbg hdn hE hF hlm
  go_wp2_with fail
  refine H1.out.mono ?_
  rintro e w4 ⟨v4, rfl, ho4, hb4⟩
  obtain ⟨A4, c4, hv4⟩ := own_form ho4
  subst hv4
  have hr4 := Rd.own (b := w.heap.size) ho4 hlt3
  clear ho4
  go_wp2_with fail
  refine (H2.out _ hb4).mono ?_
  rintro e w5 ⟨rfl, hb5⟩
  have hB5 := below_call hb4 hb5 (Nat.le_refl _)
  go_wp2_with fail
  refine (H3.out _ hB5).mono ?_
  rintro e w6 ⟨rfl, hb6⟩
  have hB6 := below_call hB5 hb6 (Nat.le_refl _)
  have hr6 := (hr4.below hb5).below hb6
  clear hr4 hb4 hb5 hb6 hB5 hB3
  go_upto_if 41 with (fail)
  go_cut [12, 13, 14] (fun s12 s13 s14 W => ∃ A7 c7, s12 = .slice A7 R.length c7 ∧ s13 = .int .i64 bg ∧ s14 = .int .i64 dn ∧ Below w6.heap.size w6 W ∧ Rd W w.heap.size 1 (.slice A7 R.length c7) R.length (R.map (Value.int .i64)))
  case first =>
    by_cases h0 : E = 0
    · subst h0
      go_wp2_with fail
      refine (H4.out (by first | rfl | trivial) _ hB6).mono ?_
      rintro e w7 ⟨v7, rfl, ho7, hb7⟩
      obtain ⟨A7, c7, hv7⟩ := own_form ho7
      subst hv7
      have hr7 := Rd.own (b := w.heap.size) ho7 (by have := hB6.size; omega)
      go_wp2_with fail
      refine (H5.out (by first | rfl | trivial) _ (below_call hB6 hb7 (Nat.le_refl _))).mono ?_
      rintro e w8 ⟨rfl, hb8⟩
      have hr8 := hr7.below hb8
      have hB8 := below_call hb7 hb8 (Nat.le_refl _)
      go_wp2_with fail
      go_meet
      exact ⟨A7, c7, rfl, rfl, rfl, hB8, hr8⟩
    · obtain ⟨e1, e2, e3⟩ := H6.out h0
      have hx : (E == 0) = false := by simpa using h0
      subst e1 e2 e3
      go_wp2_with fail
      go_meet
      exact ⟨none, 0, rfl, rfl, rfl, Below.refl _ _, Rd.nil _ _ _⟩
  case rest =>
    obtain ⟨A7, c7, rfl, rfl, rfl, hB7, hr7⟩ := hcut
    have hBW := below_call hB6 hB7 (Nat.le_refl _)
    go_wp2_with fail
    refine (H7.out _ hBW).mono ?_
    rintro e w8 ⟨rfl, hb8⟩
    have hB8 := below_call hBW hb8 (Nat.le_refl _)
    go_wp2_with fail
    refine (H8.out _ hB8).mono ?_
    rintro e w9 ⟨rfl, hb9⟩
    have hB9 := below_call hB8 hb9 (Nat.le_refl _)
    have hx9 := below_call (below_call hB7 hb8 (Nat.le_refl _)) hb9 (Nat.le_refl _)
    have hr9 := hr6.below hx9
    have hr9' := (hr7.below hb8).below hb9
    have HQ := Lib.hid (equalInt_calls w.heap.size A4 A7 R.length c4 c7 R w9 hr9 hr9')
    have hx : Below w.heap.size w w9 := below_call HB3.out hB9 (Nat.le_refl _)
    clear hr6 hr7 hr9 hr9' hb8 hb9 hB8 hx9
    go_wp2_with fail
    refine HQ.out.mono ?_
    rintro e w10 ⟨rfl, nq, rfl⟩
    have hx10 := below_drewN hx nq
    have HCK := Lib.hid (clocked_calls (w9.drewN nq) (ht.below hx10))
    go_wp2_with fail
    refine HCK.out.mono ?_
    rintro e w11 ⟨rfl, hb11⟩
    have hfin := below_call hx10 hb11 (Nat.le_refl _)
    go_wp2_with fail
    go_ret
    exact ⟨rfl, hfin⟩
end Go.Proofs.YtedfieopmjpibaaDoor
