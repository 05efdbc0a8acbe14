/-
  RacesFollowed: the law's own walk.
-/
import Derived.Test.YthbcogekfdllmaaGreatZLawStart
import Derived.Test.YthbcogekfdllmaaGreatZRfLaw
import Derived.Test.YthbcogekfdllmaaGreatZStp9
import Derived.Test.YthbcogekfdllmaaGreatZEqRs
import Derived.Test.YthbcogekfdllmaaGreatZEqRun
import Derived.Test.YthbcogekfdllmaaGreatZRat4
import Derived.Deep.DeepCutAuto
namespace Go.Proofs.YthbcogekfdllmaaGreat
open Go Go.RowKit

theorem mfS_first (l : List Stp) (u : Int) : firstE [stF l, if momB u = true then 0 else 1] = mfS l u := by
  unfold mfS
  by_cases h0 : stF l = 0
  · rw [if_pos h0, h0]
    by_cases h1 : momB u = true
    · rw [if_pos h1]; rfl
    · rw [if_neg h1]; rfl
  · rw [if_neg h0]
    simp [firstE, h0]
set_option maxRecDepth 100000 in
set_option maxHeartbeats 4000000 in
theorem rfl_walk (a0 : Option Addr) (len0 cap0 : Nat) (z0 : List Int) (w : World) (w0 : InRow w a0 len0 cap0 z0) :
    Calls Tryz.prog 3 #[.slice a0 len0 cap0] w fun e w' => e = .returned (.bool true) ∧ Below w.heap.size w w' := by
  have hs0 := strm_start w0 25
  have hb0 : Bx w.heap.size w.heap.size w (w.alloc (.cells #[.slice a0 len0 cap0, .int .i64 0] 25)) := (Bx.refl _ _ _).alloc (Nat.le_refl _) _
  clear w0
  go_enter Tryz.func3, Tryz.ntmps3
  go_wp2_with fail
  refine (range_calls w.heap.size _ 0 24 _ (by omega) (by omega) (by omega) hs0 (by omega)).mono ?_
  rintro e w2 ⟨m, rfl, m0, m1, hs2, hc2⟩
  obtain ⟨m, rfl⟩ := Int.eq_ofNat_of_zero_le m0
  have hb2 := hb0.call hc2 (Nat.le_refl _)
  have hlt2 := hs2.lt
  clear hs0 hb0 hc2
  go_wp2_with fail
  refine (raceSteps_calls w.heap.size _ m _ hs2 (by omega) (by omega)).mono ?_
  rintro e w3 ⟨v, l, rfl, hlm, hzl, hS3⟩
  go_wp2_with fail
  refine (sp_pickL hS3 #[.int .i64 0, .int .i64 10, .int .i64 30, .int .i64 60, .int .i64 100, .int .i64 300, .int .i64 (-1)] 3 7 (-1) 300 (by decide) (by decide) rfl rfl (by omega)).mono ?_
  rintro e w4 ⟨_, rfl, ⟨u, rfl, _, _⟩, hS4⟩
  have hO : w4.ownsRow w2.heap.size 63 3 v m (l.flatMap stC) := hS4.head
  have HB4 := Lib.hid ((hb2.call hS4.bx (Nat.le_refl _)).below (Nat.le_refl _))
  have hlt4 := hS4.lt
  obtain ⟨A, c, hv⟩ := own_form hO
  subst hv
  have hr4 := Rd.own (b := w.heap.size) hO hlt2
  have hz4 : ∀ s ∈ l, s.who.size ≤ 1000000 := fun s hs => Nat.le_trans (hzl s hs).1 (by decide)
  have hnm : ∃ N : List ByteArray, N.length ≤ 19 ∧ ∀ s ∈ l, s.who ∈ N := ⟨nms6, by decide, fun s hs => (hzl s hs).2⟩
  have hm1 : m ≤ 1000 := by omega
  clear hs2 hb2 hS3 hO hS4 hlt2 hlm hzl
  have H1 := Lib.hid (raceRefused_calls w.heap.size A m c l w4 hr4 hz4 hm1)
  have HRX := Lib.hid (fun W (h : Below w4.heap.size w4 W) => hr4.below h)
  have H2 := Lib.hid (fun W (h : Below w4.heap.size w4 W) => raceEntrants_calls w.heap.size A m c l u W (HRX.out W h) hz4 hm1)
  have H3 := Lib.hid (fun W (h : Below w4.heap.size w4 W) => raceStarted_calls w.heap.size A m c l W (HRX.out W h) hz4 hm1)
  have H4 := Lib.hid (fun W (h : Below w4.heap.size w4 W) => raceOver_calls w.heap.size A m c l u W (HRX.out W h) hz4 hm1)
  have H5 := Lib.hid (fun W (h : Below w4.heap.size w4 W) => raceResults_calls w.heap.size A m c l W (HRX.out W h) hz4 hm1 hnm)
  have H6 := Lib.hid (fun W (h : Below w4.heap.size w4 W) => stepsFault_calls w.heap.size A m c l W (HRX.out W h) hz4)
  have H6b := Lib.hid (fun W (h : Below w4.heap.size w4 W) => checkSteps_calls w.heap.size A m c l W (HRX.out W h) hz4)
  have H7 := Lib.hid (momentFault_calls u)
  have G1 := Lib.hid (fun W (h : Below w4.heap.size w4 W) (h0 : stF l = 0) => refusedQ_calls w.heap.size A m c l W (HRX.out W h) (stF_ok h0).1 hm1)
  have G2 := Lib.hid (fun W (h : Below w4.heap.size w4 W) (h0 : stF l = 0) => startQ_calls w.heap.size A m c l W (HRX.out W h) (stF_ok h0).1 hm1)
  have G3 := Lib.hid (fun W (h : Below w4.heap.size w4 W) (h0 : stF l = 0) => resultsQ_calls w.heap.size A m c l W (HRX.out W h) (stF_ok h0).1 hm1)
  have G4 := Lib.hid (fun W (h : Below w4.heap.size w4 W) (h0 : stF l = 0) => entrantsQ_calls w.heap.size A m c l u W (HRX.out W h) (stF_ok h0).1 hm1)
  have G5 := Lib.hid (fun W (h : Below w4.heap.size w4 W) (h0 : stF l = 0) => overQ_calls w.heap.size A m c l u W (HRX.out W h) (stF_ok h0).1 hm1)
  clear hr4 hz4 hnm hm1 HRX
  obtain ⟨E, hE⟩ : ∃ E, stF l = E := ⟨_, rfl⟩
  obtain ⟨EA, hEA⟩ : ∃ EA, mfS l u = EA := ⟨_, rfl⟩
  obtain ⟨MF, hMF⟩ : ∃ MF, (if momB u = true then (0 : Int) else 1) = MF := ⟨_, rfl⟩
  obtain ⟨RL, hRL⟩ : ∃ RL, refS l = RL := ⟨_, rfl⟩
  obtain ⟨SA, hSA⟩ : ∃ SA, srtA l = SA := ⟨_, rfl⟩
  obtain ⟨SB, hSB⟩ : ∃ SB, srtB l = SB := ⟨_, rfl⟩
  obtain ⟨OV, hOV⟩ : ∃ OV, ovS l u = OV := ⟨_, rfl⟩
  obtain ⟨RE, hRE⟩ : ∃ RE, rsF l = RE := ⟨_, rfl⟩
  have her := mfS_first l u
  rw [hE, hMF, hEA] at her
  have HE := Lib.hid hE
  have HEA := Lib.hid hEA
  have HRL := Lib.hid hRL
  have HSA := Lib.hid hSA
  have HSB := Lib.hid hSB
  have HOV := Lib.hid hOV
  have HRE := Lib.hid hRE
  have HER : Hid (∀ W : World, w.heap.size < W.heap.size → Calls Tryz.prog 13 #[.slice (some ⟨W.heap.size, 0, none⟩) 2 2] (W.alloc (.cells #[.int .i64 E, .int .i64 MF] 30)) (QRet (.int .i64 EA) (W.alloc (.cells #[.int .i64 E, .int .i64 MF] 30)))) := by
    refine Lib.hid (fun W hW => ?_)
    have h := errs_calls w.heap.size _ 2 2 [E, MF] _ (Rd.lit0 (w := W) (b := w.heap.size) (n := 2) (cs := #[.int .i64 E, .int .i64 MF]) (t := 30) (size := 1) hW (by decide) rfl)
    rw [her] at h
    exact h
  unfold RefR at H1
  unfold EntS at H2
  unfold ResS at H5
  rw [hE, hRL] at H1
  simp only [hEA] at H2
  simp only [hSA, hSB, hE] at H3
  simp only [hOV, hEA] at H4
  simp only [hRE] at H5
  simp only [hE] at H6 H6b
  rw [hMF] at H7
  clear her hE hEA hMF hRL hSA hSB hOV hRE
  go_wp2_with fail
  refine H1.out.mono ?_
  rintro e w5 ⟨v5, rfl, ho5, hb5⟩
  obtain ⟨A5, c5, hv5⟩ := own_form ho5
  subst hv5
  have hQ5 := (Sq.start w4).ownB hb5 ho5
  clear H1 ho5 hb5
  go_wp2_with fail
  refine (H2.out _ hQ5.below).mono ?_
  rintro e w6 ⟨v6, P, rfl, hP, hP0, ho6, hb6⟩
  have HP := Lib.hid hP
  have HP0 := Lib.hid hP0
  obtain ⟨A6, c6, hv6⟩ := own_form ho6
  subst hv6
  have hQ6 := hQ5.ownB hb6 ho6
  clear H2 ho6 hb6 hQ5 hP hP0
  go_wp2_with fail
  refine (H3.out _ hQ6.below).mono ?_
  rintro e w7 ⟨rfl, hb7⟩
  have hQ7 := hQ6.callB hb7
  clear H3 hb7 hQ6
  go_wp2_with fail
  refine (H4.out _ hQ7.below).mono ?_
  rintro e w8 ⟨rfl, hb8⟩
  have hQ8 := hQ7.callB hb8
  clear H4 hb8 hQ7
  go_wp2_with fail
  refine (H5.out _ hQ8.below).mono ?_
  rintro e w9 ⟨v9, Y, rfl, hY, hY0, ho9, hb9⟩
  have HY := Lib.hid hY
  have HY0 := Lib.hid hY0
  obtain ⟨A9, c9, hv9⟩ := own_form ho9
  subst hv9
  have hQ9 := hQ8.ownB hb9 ho9
  clear H5 ho9 hb9 hQ8 hY hY0
  go_wp2_with fail
  refine (H6.out _ hQ9.below).mono ?_
  rintro e w10 ⟨rfl, hb10⟩
  have hQ10 := hQ9.callB hb10
  clear H6 hb10 hQ9
  go_wp2_with fail
  refine (H7.out _).mono ?_
  rintro e _ ⟨rfl, rfl⟩
  go_wp2_with fail
  refine (HER.out w10 (by have := hQ10.below.size; omega)).mono ?_
  rintro e w11 ⟨rfl, nq, h11⟩
  have hl11 : Below w10.heap.size w10 w11 := by rw [h11]; exact below_drewN ((Below.refl _ _).alloc (Nat.le_refl _) _) nq
  have hQ11 : Sq w4 w11 (rOwn w4.heap.size 57 3 (.slice A9 Y.length c9) Y.length (Y.flatMap resC) :: rOwn w4.heap.size 54 2 (.slice A6 P.length c6) P.length (P.flatMap prC) :: rOwn w4.heap.size 3 1 (.slice A5 RL.length c5) RL.length (RL.map (Value.int .i64)) :: []) := hQ10.callB hl11
  clear h11 hl11 hQ10 HER H7
  go_upto_if 73 with (fail)
  go_cut [19, 20, 21, 22, 23] (fun s19 s20 s21 s22 s23 W => ∃ (A20 : Option Addr) (c20 : Nat) (A21 : Option Addr) (c21 : Nat), s19 = .int .i64 RE ∧ s20 = .slice A20 RL.length c20 ∧ s21 = .slice A21 Y.length c21 ∧ s22 = .int .i64 SA ∧ s23 = .bool SB ∧ Sq w4 W (rOwn w4.heap.size 57 3 (.slice A21 Y.length c21) Y.length (Y.flatMap resC) :: rOwn w4.heap.size 3 1 (.slice A20 RL.length c20) RL.length (RL.map (Value.int .i64)) :: rOwn w4.heap.size 57 3 (.slice A9 Y.length c9) Y.length (Y.flatMap resC) :: rOwn w4.heap.size 54 2 (.slice A6 P.length c6) P.length (P.flatMap prC) :: rOwn w4.heap.size 3 1 (.slice A5 RL.length c5) RL.length (RL.map (Value.int .i64)) :: []))
  case first =>
    by_cases h0 : E = 0
    · have hE0 : stF l = 0 := HE.out.trans h0
      have HSE := Lib.hid hE0
      have HR2 := Lib.hid ((alike_ref hE0).symm.trans HRL.out)
      have HA2 := Lib.hid ((alike_srtA hE0).symm.trans HSA.out)
      have HB2 := Lib.hid ((alike_srtB hE0).symm.trans HSB.out)
      have HE2 := Lib.hid ((alike_rsF hE0).symm.trans HRE.out)
      clear hE0
      subst h0
      go_wp2_with fail
      refine (G1.out _ hQ11.below HSE.out).mono ?_
      rintro e w12 ⟨v12, rfl, ho12, hb12⟩
      rw [HR2.out] at ho12
      obtain ⟨A12, c12, hv12⟩ := own_form ho12
      subst hv12
      have hQ12 := hQ11.ownB hb12 ho12
      clear ho12 hb12 hQ11
      go_wp2_with fail
      refine (G2.out _ hQ12.below HSE.out).mono ?_
      rw [HA2.out, HB2.out]
      rintro e w13 ⟨rfl, hb13⟩
      have hQ13 := hQ12.callB hb13
      clear hb13 hQ12
      go_wp2_with fail
      refine (G3.out _ hQ13.below HSE.out).mono ?_
      unfold RsqS
      rw [HE2.out]
      rintro e w14 ⟨v14, Y2, rfl, hY2, hY20, ho14, hb14⟩
      have hyy : Y = Y2 := alike_res HSE.out (fun h => HY.out (HRE.out ▸ h)) (fun h => HY0.out (HRE.out ▸ h)) hY2 hY20
      subst hyy
      obtain ⟨A14, c14, hv14⟩ := own_form ho14
      subst hv14
      have hQ14 := hQ13.ownB hb14 ho14
      clear ho14 hb14 hQ13 hY2 hY20
      go_wp2_with fail
      go_meet
      exact ⟨_, _, _, _, rfl, rfl, rfl, rfl, rfl, hQ14⟩
    · have hE0 : ¬ stF l = 0 := fun h => h0 (HE.out.symm.trans h)
      have e1 : RL = [] := HRL.out.symm.trans (by unfold refS; rw [if_neg hE0])
      have e2 : SA = 0 := HSA.out.symm.trans (by unfold srtA; rw [if_neg hE0])
      have e3 : SB = false := HSB.out.symm.trans (by unfold srtB; rw [if_neg hE0])
      have e4 : RE = E := HRE.out.symm.trans (by unfold rsF; rw [if_neg hE0]; exact HE.out)
      have e5 : Y = [] := HY0.out (by rw [e4]; exact h0)
      have hx : (E == 0) = false := by simpa using h0
      clear hE0
      subst e1 e2 e3 e5 e4
      go_wp2_with fail
      go_meet
      exact ⟨none, 0, none, 0, rfl, rfl, rfl, rfl, rfl, (hQ11.nil _ _ _).nil _ _ _⟩
  case rest =>
    obtain ⟨A20, c20, A21, c21, rfl, rfl, rfl, rfl, rfl, hQ12⟩ := hcut
    clear hQ11 G1 G2 G3
    go_upto_if 87 with (fail)
    go_cut [24, 25] (fun s24 s25 W => ∃ (A24 : Option Addr) (c24 : Nat), s24 = .slice A24 P.length c24 ∧ s25 = .bool OV ∧ Sq w4 W (rOwn w4.heap.size 54 2 (.slice A24 P.length c24) P.length (P.flatMap prC) :: rOwn w4.heap.size 57 3 (.slice A21 Y.length c21) Y.length (Y.flatMap resC) :: rOwn w4.heap.size 3 1 (.slice A20 RL.length c20) RL.length (RL.map (Value.int .i64)) :: rOwn w4.heap.size 57 3 (.slice A9 Y.length c9) Y.length (Y.flatMap resC) :: rOwn w4.heap.size 54 2 (.slice A6 P.length c6) P.length (P.flatMap prC) :: rOwn w4.heap.size 3 1 (.slice A5 RL.length c5) RL.length (RL.map (Value.int .i64)) :: []))
    case first =>
      by_cases h0 : EA = 0
      · have hm0 : mfS l u = 0 := HEA.out.trans h0
        have HSE := Lib.hid (mfS_ok hm0).1
        have HO2 := Lib.hid ((alike_ov hm0).symm.trans HOV.out)
        have HEN := Lib.hid (alike_ent hm0)
        have HPE := Lib.hid (HP.out h0).1
        clear hm0
        subst h0
        go_wp2_with fail
        refine (G4.out _ hQ12.below HSE.out).mono ?_
        rintro e w13 ⟨v13, P2, rfl, hP2, ho13, hb13⟩
        have hpp : P = P2 := by
          have h1 := HPE.out
          rw [HEN.out] at h1
          exact h1.one hP2
        subst hpp
        obtain ⟨A13, c13, hv13⟩ := own_form ho13
        subst hv13
        have hQ13 := hQ12.ownB hb13 ho13
        clear ho13 hb13 hQ12 hP2
        go_wp2_with fail
        refine (G5.out _ hQ13.below HSE.out).mono ?_
        rw [HO2.out]
        rintro e w14 ⟨rfl, hb14⟩
        have hQ14 := hQ13.callB hb14
        clear hb14 hQ13
        go_wp2_with fail
        go_meet
        exact ⟨_, _, rfl, rfl, hQ14⟩
      · have e1 : P = [] := HP0.out h0
        have e2 : OV = false := HOV.out.symm.trans (by unfold ovS; rw [if_neg (by rw [HEA.out]; exact h0)])
        have hx : (EA == 0) = false := by simpa using h0
        subst e1 e2
        go_wp2_with fail
        go_meet
        exact ⟨none, 0, rfl, rfl, hQ12.nil _ _ _⟩
    case rest =>
      obtain ⟨A24, c24, rfl, rfl, hQ13⟩ := hcut
      clear hQ12 G4 G5 HP HP0 HY HY0 HE HEA HRL HSA HSB HOV HRE
      obtain ⟨w13, hw13⟩ : ∃ z, z = wc := ⟨_, rfl⟩
      subst hw13
      have r5 := fun W (h : Below w13.heap.size w13 W) => Rd.own (b := w.heap.size) (show W.ownsRow w4.heap.size 3 1 (.slice A5 RL.length c5) RL.length (RL.map (Value.int .i64)) from (hQ13.callB h).nth 5 rfl) hlt4
      have r20 := fun W (h : Below w13.heap.size w13 W) => Rd.own (b := w.heap.size) (show W.ownsRow w4.heap.size 3 1 (.slice A20 RL.length c20) RL.length (RL.map (Value.int .i64)) from (hQ13.callB h).nth 2 rfl) hlt4
      have r6 := fun W (h : Below w13.heap.size w13 W) => Rd.own (b := w.heap.size) (show W.ownsRow w4.heap.size 54 2 (.slice A6 P.length c6) P.length (P.flatMap prC) from (hQ13.callB h).nth 4 rfl) hlt4
      have r24 := fun W (h : Below w13.heap.size w13 W) => Rd.own (b := w.heap.size) (show W.ownsRow w4.heap.size 54 2 (.slice A24 P.length c24) P.length (P.flatMap prC) from (hQ13.callB h).nth 0 rfl) hlt4
      have r9 := fun W (h : Below w13.heap.size w13 W) => Rd.own (b := w.heap.size) (show W.ownsRow w4.heap.size 57 3 (.slice A9 Y.length c9) Y.length (Y.flatMap resC) from (hQ13.callB h).nth 3 rfl) hlt4
      have r21 := fun W (h : Below w13.heap.size w13 W) => Rd.own (b := w.heap.size) (show W.ownsRow w4.heap.size 57 3 (.slice A21 Y.length c21) Y.length (Y.flatMap resC) from (hQ13.callB h).nth 1 rfl) hlt4
      have E1 := Lib.hid (fun W h => equalInt_calls w.heap.size A5 A20 RL.length c5 c20 RL W (r5 W h) (r20 W h))
      have E2 := Lib.hid (fun W h => equalPrR_calls w.heap.size A6 A24 P.length c6 c24 P W (r6 W h) (r24 W h))
      have E3 := Lib.hid (fun W h => equalRs_calls w.heap.size A9 A21 Y.length c9 c21 Y W (r9 W h) (r21 W h))
      have HB13 := Lib.hid hQ13.below
      clear r5 r20 r6 r24 r9 r21 hQ13
      go_wp2_with fail
      refine (H6b.out _ HB13.out).mono ?_
      rintro e w14 ⟨rfl, hb14⟩
      go_wp2_with fail
      refine (E1.out _ hb14).mono ?_
      rintro e w15 ⟨rfl, n1, rfl⟩
      have hb15 := below_drewN hb14 n1
      go_wp2_with fail
      refine (E2.out _ hb15).mono ?_
      rintro e w16 ⟨rfl, n2, rfl⟩
      go_wp2_with fail
      clear hb15
      refine (E3.out _ (below_drewN hb14 _)).mono ?_
      rintro e w17 ⟨rfl, n3, rfl⟩
      go_wp2_with fail
      refine (raced_calls _).mono ?_
      rintro e w18 ⟨rfl, hb18⟩
      have hfin := below_call HB4.out (below_call HB13.out (below_call (below_drewN hb14 _) hb18 (Nat.le_refl _)) (Nat.le_refl _)) (Nat.le_refl _)
      go_wp2_with fail
      go_ret
      exact ⟨rfl, hfin⟩
end Go.Proofs.YthbcogekfdllmaaGreat
