/-
  RaceTexts: the law's own walk.
-/
import Derived.Test.YtaendemgkabdfaaGreatDoorZStream
import Derived.Test.YtaendemgkabdfaaGreatDoorZStp5
import Derived.Test.YtaendemgkabdfaaGreatDoorZStp9
import Derived.Test.YtaendemgkabdfaaGreatDoorZStp10
import Derived.Test.YtaendemgkabdfaaGreatDoorZEqStp
import Derived.Test.YtaendemgkabdfaaGreatDoorZRaced
import Derived.Deep.DeepCutAuto
namespace Go.Proofs.YtaendemgkabdfaaGreatDoor
open Go Go.RowKit TxtP

set_option maxRecDepth 100000 in
set_option maxHeartbeats 4000000 in
theorem rtx_walk (a0 : Option Addr) (len0 cap0 : Nat) (z0 : List Int) (w : World) (w0 : InRow w a0 len0 cap0 z0) (ht : Tab w) (hx : MxL w) :
    Calls Tryz.prog 3 #[.slice a0 len0 cap0] w fun e w' => e = .returned (.bool true) ∧ Below w.heap.size w w' := by
  have hs0 := strm_start w0 25
  have hb0 : Bx w.heap.size w.heap.size w (w.alloc (.cells #[.slice a0 len0 cap0, .int .i64 0] 25)) := (Bx.refl _ _ _).alloc (Nat.le_refl _) _
  clear w0
  go_enter Tryz.func3, Tryz.ntmps3
  go_wp2_with fail
  refine (range_calls w.heap.size _ 0 6 _ (by omega) (by omega) (by omega) hs0 (by omega)).mono ?_
  rintro e w2 ⟨m, rfl, m0, m1, hs2, hc2⟩
  obtain ⟨m, rfl⟩ := Int.eq_ofNat_of_zero_le m0
  have hb2 := hb0.call hc2 (Nat.le_refl _)
  have hlt2 := hs2.lt
  clear hs0 hb0 hc2
  go_wp2_with fail
  refine (raceSteps_calls w.heap.size _ m _ hs2 (by omega) (by omega)).mono ?_
  rintro e w3 ⟨v, l, rfl, hlm, hzl, hS3⟩
  have hz4 : ∀ s ∈ l, s.who.size ≤ 1000000 := fun s hs => Nat.le_trans (hzl s hs) (by decide)
  have hO : w3.ownsRow w2.heap.size 39 3 v m (l.flatMap stC) := hS3.head
  have hb3 := hb2.call hS3.bx (Nat.le_refl _)
  have hB3 := hb3.below (Nat.le_refl _)
  have hlt3 := hS3.lt
  have hs3 := hS3.strm
  obtain ⟨A, c, hv⟩ := own_form hO
  subst hv
  have hr3 := Rd.own (b := w.heap.size) hO hlt2
  clear hs2 hb2 hS3 hO
  go_wp2_with fail
  refine (raceStrm_calls w.heap.size _ w w3 hs3 (by omega) ht hB3 (Nat.le_refl _)).mono ?_
  rintro e w4 ⟨_, rfl, ⟨t, rfl, hts⟩, hS4⟩
  have hr4 : Rd w4 w.heap.size 3 (.slice A m c) m (l.flatMap stC) := hr3.bx hS4.bx
  have hB4 := (hb3.call hS4.bx (Nat.le_refl _)).below (Nat.le_refl _)
  have hlt4 := hS4.lt
  have ht4 := ht.below hB4
  have hx4 := hx.below hB4
  clear hs3 hb3 hB3 hlt3 hr3 hS4 hlt2
  obtain ⟨F, hF⟩ : ∃ F, stF l = F := ⟨_, rfl⟩
  obtain ⟨X, hX⟩ : ∃ X : ByteArray, (if stF l = 0 then ⟨(slinesT l).toArray⟩ else ⟨#[]⟩) = X := ⟨_, rfl⟩
  have HRX := Lib.hid (fun W (h : Below w4.heap.size w4 W) => hr4.below h)
  have H1 : Hid (Calls Tryz.prog 8 #[.slice A m c] w4 (BRet (.tuple #[.string X, .int .i64 F]) w4)) := by
    have := raceText_calls w.heap.size A m c l w4 hr4 ht4 (by omega) hz4
    unfold STxtR at this
    rw [hX, hF] at this
    exact Lib.hid this
  have H2 : Hid (∀ W, Below w4.heap.size w4 W → Calls Tryz.prog 9 #[.slice A m c] W (BRet (.int .i64 F) W)) := by
    refine Lib.hid (fun W h => ?_)
    have := stepsFault_calls w.heap.size A m c l W (HRX.out W h) hz4
    rw [hF] at this
    exact this
  have H3 : Hid (F = 0 → ∀ W, Below w4.heap.size w4 W → Calls Tryz.prog 10 #[.slice A m c] W (BRet (.string X) W)) := by
    refine Lib.hid (fun h0 W h => ?_)
    have hp : stF l = 0 := hF.trans h0
    have := stepLines_calls w.heap.size A m c l W (HRX.out W h) (Nat.lt_of_lt_of_le hlt4 h.size) (ht4.below h) (by omega) (stF_ok hp).1
    rw [if_pos hp] at hX
    rw [hX] at this
    exact this
  have H3n : Hid (F ≠ 0 → X = ⟨#[]⟩) := by
    refine Lib.hid (fun h0 => ?_)
    rw [← hX, if_neg (by rw [hF]; exact h0)]
  obtain ⟨E, hE⟩ : ∃ E, srdE t.data.toList = E := ⟨_, rfl⟩
  obtain ⟨I, hI⟩ : ∃ I, srdI t.data.toList = I := ⟨_, rfl⟩
  obtain ⟨L, hL⟩ : ∃ L, srdL t.data.toList = L := ⟨_, rfl⟩
  have H4 : Hid (∀ W, Below w4.heap.size w4 W → Calls Tryz.prog 11 #[.string t] W (fun e w' => ∃ v, e = .returned (.tuple #[v, .int .i64 I, .int .i64 E]) ∧ w'.ownsRow W.heap.size 39 3 v L.length (L.flatMap stC) ∧ Below W.heap.size W w')) := by
    refine Lib.hid (fun W h => ?_)
    have := stepRead_calls t W (hx4.below h)
    unfold SRet at this
    rw [hE, hI, hL] at this
    exact this
  have H5 : Hid (∀ W, Below w4.heap.size w4 W → Calls Tryz.prog 12 #[.string t] W (fun e w' => ∃ v, e = .returned (.tuple #[v, .int .i64 I, .int .i64 E]) ∧ w'.ownsRow W.heap.size 39 3 v L.length (L.flatMap stC) ∧ Below W.heap.size W w')) := by
    refine Lib.hid (fun W h => ?_)
    have := stepsRead_calls t W (hx4.below h) (ht4.below h)
    unfold SRet at this
    rw [hE, hI, hL] at this
    exact this
  have HB4 := Lib.hid hB4
  clear hr4 HRX hE hI hL hF hX hlm hzl hz4 hts hx hx4
  go_wp2_with fail
  refine H1.out.mono ?_
  rintro e w5 ⟨rfl, hb5⟩
  go_wp2_with fail
  refine (H2.out _ hb5).mono ?_
  rintro e w6 ⟨rfl, hb6⟩
  have hB6 := below_call hb5 hb6 (Nat.le_refl _)
  clear hb5 hb6 H1 H2
  go_upto_if 33 with (fail)
  go_cut [9] (fun s9 W => s9 = .string X ∧ Below w4.heap.size w4 W)
  case first =>
    by_cases h0 : F = 0
    · subst h0
      go_wp2_with fail
      refine (H3.out (by first | rfl | trivial) _ hB6).mono ?_
      rintro e w7 ⟨rfl, hb7⟩
      go_wp2_with fail
      go_meet
      exact ⟨rfl, below_call hB6 hb7 (Nat.le_refl _)⟩
    · have e1 := H3n.out h0
      have hx : (F == 0) = false := by simpa using h0
      subst e1
      go_wp2_with fail
      go_meet
      exact ⟨rfl, hB6⟩
  case rest =>
    obtain ⟨rfl, hB7⟩ := hcut
    clear hB6 H3 H3n
    go_wp2_with fail
    refine (H4.out _ hB7).mono ?_
    rintro e w8 ⟨v8, rfl, ho8, hb8⟩
    obtain ⟨A8, c8, hv8⟩ := own_form ho8
    subst hv8
    have hr8 := Rd.own (b := w.heap.size) ho8 (by have := hB7.size; omega)
    have hB8 := below_call hB7 hb8 (Nat.le_refl _)
    clear ho8 hb8 hB7
    go_wp2_with fail
    refine (H5.out _ hB8).mono ?_
    rintro e w9 ⟨v9, rfl, ho9, hb9⟩
    obtain ⟨A9, c9, hv9⟩ := own_form ho9
    subst hv9
    have hr9 := Rd.own (b := w.heap.size) ho9 (by have := hB8.size; omega)
    have hr9' := hr8.below hb9
    have hB9 := below_call hB8 hb9 (Nat.le_refl _)
    have hx9 : Below w.heap.size w w9 := below_call HB4.out hB9 (Nat.le_refl _)
    have HQ := Lib.hid (equalStp_calls w.heap.size A8 A9 L.length c8 c9 L w9 hr9' hr9)
    have HCK : Hid (∀ nq, Calls Tryz.prog 14 #[] (w9.drewN nq) (BRet (.bool true) (w9.drewN nq))) := Lib.hid (fun nq => raced_calls (w9.drewN nq))
    have he : (X.toList == X.toList) = true := by simp
    clear ho9 hb9 hB8 hr8 hr9 hr9' hB9 H4 H5
    go_wp2_with (first
      | (go_at_call 13; refine HQ.out.mono ?_; rintro e w10 ⟨rfl, nq, rfl⟩)
      | (go_at_call 14; refine (HCK.out _).mono ?_; rintro e w11 ⟨rfl, hb11⟩))
    have hfin := below_call (below_drewN hx9 nq) hb11 (Nat.le_refl _)
    go_ret
    exact ⟨rfl, hfin⟩
end Go.Proofs.YtaendemgkabdfaaGreatDoor
