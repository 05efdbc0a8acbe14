/-
  BoardsRanked: the law's own walk.
-/
import Derived.Test.YtebaaoacmmhppaaGreatZLawStart
import Derived.Test.YtebaaoacmmhppaaGreatZEvK
import Derived.Test.YtebaaoacmmhppaaGreatZBt12
import Derived.Test.YtebaaoacmmhppaaGreatZEvZ
import Derived.Test.YtebaaoacmmhppaaGreatZEv5W
import Derived.Test.YtebaaoacmmhppaaGreatZEqRw
import Derived.Deep.DeepCutAuto
namespace Go.Proofs.YtebaaoacmmhppaaGreat
open Go Go.RowKit

theorem would_first (l : List Bev) (c : ByteArray) (t u : Int) : firstE [bevsF l, nmB c, if outB t 1 864000000 = true then 1 else 0, moB u] = wouldF l c t u := by
  unfold wouldF
  by_cases h : bevsF l = 0
  · rw [if_pos h, h, firstE_0]
    unfold nmB
    cases hk : keyBv c
    · rw [if_neg (by decide), firstE_n (by decide)]
      simp
    · rw [if_pos rfl, firstE_0]
      cases ho : outB t 1 864000000
      · rw [if_neg (by decide), firstE_0, momE]
        simp [moB]
      · rw [if_pos rfl, firstE_n (by decide)]
        simp
  · rw [if_neg h, firstE_n h]
theorem plcV_full (o : Option Brw) : ∃ (r t : Int) (i wh : ByteArray) (d : Int), plcV o = .agg #[.int .i64 r, .int .i64 t, .string i, .string wh, .int .i64 d] := by
  cases o with
  | none => exact ⟨_, _, _, _, _, rfl⟩
  | some x => exact ⟨_, _, _, _, _, rfl⟩
set_option maxRecDepth 100000 in
set_option maxHeartbeats 8000000 in
theorem bdr_walk (a0 : Option Addr) (len0 cap0 : Nat) (z0 : List Int) (w : World) (w0 : InRow w a0 len0 cap0 z0) :
    Calls Tryz.prog 3 #[.slice a0 len0 cap0] w fun e w' => e = .returned (.bool true) ∧ Below w.heap.size w w' := by
  have hs0 := strmX_start w0 25
  have hb0 : Bx w.heap.size w.heap.size w (w.alloc (.cells #[.slice a0 len0 cap0, .int .i64 0] 25)) := (Bx.refl _ _ _).alloc (Nat.le_refl _) _
  obtain ⟨W1, hW1⟩ : ∃ W, W = w.alloc (.cells #[.slice a0 len0 cap0, .int .i64 0] 25) := ⟨_, rfl⟩
  obtain ⟨zs, hzs⟩ : ∃ zs : ZsT, (⟨z0.take len0, w.heap.size⟩ : ZsT) = zs := ⟨_, rfl⟩
  rw [← hW1, hzs] at hs0
  rw [← hW1] at hb0
  have hX0 := SpX.start hs0
  clear w0 hs0 hzs
  go_enter Tryz.func3, Tryz.ntmps3
  go_wp2_with fail
  rw [← hW1]
  clear hW1
  obtain ⟨b, hb⟩ : ∃ b, b = w.heap.size := ⟨_, rfl⟩
  rw [← hb] at hX0 hb0 ⊢
  have HBE := Lib.hid hb
  have HB0 := Lib.hid hb0
  clear hb hb0
  refine (spE_range hX0 0 22 (by omega) (by omega) (by omega) (by omega)).mono ?_
  rintro e w2 ⟨m, rfl, _, m0, m1, hX2⟩
  obtain ⟨m, rfl⟩ := Int.eq_ofNat_of_zero_le m0
  go_wp2_with fail
  refine (eventsX_calls b 1 m zs w2 hX2.strm (by omega) (by omega)).mono ?_
  rintro e w3 ⟨A, c, L, aa, r, rfl, _, hLm, hLZ, hr, hX3⟩
  have hXZ := evnX_Z hLZ
  have hXL := evnX_len L
  obtain ⟨l, hl⟩ : ∃ l, evnX L = l := ⟨_, rfl⟩
  rw [hl] at hX3 hXZ hXL ⊢
  have HLX := Lib.hid hXL
  have HXZ := Lib.hid hXZ
  have hn0 : l.length ≤ 22 := by omega
  obtain ⟨n, hn⟩ : ∃ n, l.length = n := ⟨_, rfl⟩
  rw [hn] at hX3 hn0 ⊢
  have HN := Lib.hid hn
  have hc2 : b < w2.heap.size := hX2.lt
  have HB2 := Lib.hid hX2.bx
  clear hX0 hX2 hLZ hLm hl hXL hXZ hn
  go_wp2_with fail
  refine (spE_someLN 1000 hX3 [⟨#[97, 110, 121]⟩, ⟨#[97, 110, 121]⟩, ⟨#[102, 97, 115, 116]⟩, ⟨#[122, 122]⟩, ⟨#[]⟩] #[.string ⟨#[97, 110, 121]⟩, .string ⟨#[97, 110, 121]⟩, .string ⟨#[102, 97, 115, 116]⟩, .string ⟨#[122, 122]⟩, .string ⟨#[]⟩] 9 5 rfl (by decide) (by unfold maxLen; omega) rfl (by decide) (by omega)).mono ?_
  rintro e w4 ⟨cat, rfl, _, hcz, hX4⟩
  go_wp2_with fail
  refine (spE_someLN 1000 hX4 [⟨#[97, 110, 110]⟩, ⟨#[98, 101, 97]⟩, ⟨#[122, 101, 100]⟩, ⟨#[65]⟩] #[.string ⟨#[97, 110, 110]⟩, .string ⟨#[98, 101, 97]⟩, .string ⟨#[122, 101, 100]⟩, .string ⟨#[65]⟩] 9 4 rfl (by decide) (by unfold maxLen; omega) rfl (by decide) (by omega)).mono ?_
  rintro e w5 ⟨who, rfl, _, hwz, hX5⟩
  go_wp2_with fail
  refine (boardTime_calls hX5 (by omega)).mono ?_
  rintro e w6 ⟨u, rfl, _, u0, u1, hX6⟩
  go_wp2_with fail
  refine (spE_pickL hX6 [1, 90, 95, 97, 200, 0] 0 200 #[.int .i64 1, .int .i64 90, .int .i64 95, .int .i64 97, .int .i64 200, .int .i64 0] 3 6 rfl (by decide) (by unfold maxLen; omega) rfl (by decide) (by decide) (by omega)).mono ?_
  rintro e w7 ⟨t, rfl, _, t0, t1, hX7⟩
  have hO : w7.ownsRow w2.heap.size 62 8 (.slice A n c) n (l.flatMap bevC) := hX7.head
  have hr7 : Bevs w7 b A n c l := ⟨Rd.own hO hc2, HXZ.out.bevW⟩
  have hlt7 : b < w7.heap.size := hX7.lt
  have HBW : Hid (Below w.heap.size w w7) := Lib.hid (by
    have h2 := (HB0.out.call HB2.out (by have := HBE.out; omega)).call hX7.bx (by have := HBE.out; omega)
    rw [← HBE.out]
    exact h2.below (Nat.le_refl _))
  have hn3 : n ≤ 3000 := by omega
  have HLT0 := Lib.hid hlt7
  have HR := Lib.hid (fun W (h : Below w7.heap.size w7 W) => hr7.below h)
  have HLT := Lib.hid (fun W (h : Below w7.heap.size w7 W) => (Nat.lt_of_lt_of_le hlt7 h.size : b < W.heap.size))
  have hcz2 : cat.size ≤ 1000000 := by omega
  have hwz2 : who.size ≤ 1000000 := by omega
  have HE : Hid (bevsF l = 0 → (∀ x ∈ l, bevF x = 0) ∧ (∀ x ∈ l, EvK x)) := Lib.hid (fun h => ⟨(bevs_ok h).1, evK_all h⟩)
  have HKD : Hid (bevsF l = 0 → KD (folE l u).1) := Lib.hid (fun h => by
    have h2 := KD.fol l u (evK_all h) l.length (Nat.le_refl _)
    rwa [List.take_length] at h2)
  have P1 := Lib.hid (board_calls b A n c l u cat w7 hlt7 hr7 hn3 hcz2)
  have P2 := Lib.hid (fun W h => place_calls b A n c l u cat who W (HLT.out W h) (HR.out W h) hn3 hcz2 hwz2)
  have P3 := Lib.hid (fun W h => beaten_calls b A n c l u cat who W (HLT.out W h) (HR.out W h) hn3 hcz2 hwz2)
  have P4 := Lib.hid (fun W h => would_calls b A n c l t u cat W (HR.out W h) hn3 hcz2)
  have P5 := Lib.hid (fun W h => eventsFault_calls b A n c l W (HR.out W h))
  have G1 := Lib.hid (fun W h h0 => boardOf_calls b A n c l u cat W (HLT.out W h) (HR.out W h).rd (HE.out h0).2 hn3)
  have G2 := Lib.hid (fun W h h0 => placeOn_calls b A n c l u cat who W (HLT.out W h) (HR.out W h).rd (HE.out h0).2 hn3)
  have G3 := Lib.hid (fun W h h0 => beatenOf_calls b A n c l u cat who W (HLT.out W h) (HR.out W h).rd (HE.out h0).1 hn3)
  have G4 := Lib.hid (fun W h h0 => wouldOf_calls b A n c l t u cat W (HLT.out W h) (HR.out W h).rd (HE.out h0).2 hn3)
  have NC := Lib.hid (fun W => nameFaultB_calls cat W (by unfold maxLen; omega))
  have NW := Lib.hid (fun W => nameFaultB_calls who W (by unfold maxLen; omega))
  have NM := Lib.hid (fun W => momentFaultB_calls u W)
  have NP := Lib.hid (fun W => when_calls (outB t 1 864000000) 1 W)
  have NO : Hid (∀ W, Calls Tryz.prog 18 #[.bool (decide (t < 1) || decide (864000000 < t)), .int .i64 1] W fun e w' => e = .returned (.int .i64 (if outB t 1 864000000 = true then 1 else 0)) ∧ W = w') := Lib.hid (fun W => by
    have h := when_calls (decide (t < 1) || decide (864000000 < t)) 1 W
    have hob : (decide (t < 1) || decide (864000000 < t)) = outB t 1 864000000 := by unfold outB; rw [Bool.decide_or]
    rw [hob] at h ⊢
    exact h)
  have E1 := Lib.hid (fun W => errsB_calls [bevsF l, nmB cat, moB u] _ 3 rfl (cat_first l cat u) (by omega) W)
  have E2 := Lib.hid (fun W => errsB_calls [bevsF l, nmB cat, nmB who, moB u] _ 4 rfl (cat_two l cat who u) (by omega) W)
  have E3 := Lib.hid (fun W => errsB_calls [bevsF l, nmB cat, if outB t 1 864000000 = true then 1 else 0, moB u] _ 4 rfl (would_first l cat t u) (by omega) W)
  have HC1 : Hid (catF l [cat] u = 0 → bevsF l = 0) := Lib.hid catF_ok
  have HC2 : Hid (catF l [cat, who] u = 0 → bevsF l = 0) := Lib.hid catF_ok
  have HC3 : Hid (wouldF l cat t u = 0 → bevsF l = 0) := Lib.hid wouldF_ok
  obtain ⟨F, hF⟩ : ∃ z, bevsF l = z := ⟨_, rfl⟩
  obtain ⟨F1, hF1⟩ : ∃ z, catF l [cat] u = z := ⟨_, rfl⟩
  obtain ⟨F2, hF2⟩ : ∃ z, catF l [cat, who] u = z := ⟨_, rfl⟩
  obtain ⟨F3, hF3⟩ : ∃ z, wouldF l cat t u = z := ⟨_, rfl⟩
  obtain ⟨nc, hnc⟩ : ∃ z, nmB cat = z := ⟨_, rfl⟩
  obtain ⟨nw, hnw⟩ : ∃ z, nmB who = z := ⟨_, rfl⟩
  obtain ⟨mo, hmo⟩ : ∃ z, moB u = z := ⟨_, rfl⟩
  obtain ⟨ot, hot⟩ : ∃ z, outB t 1 864000000 = z := ⟨_, rfl⟩
  obtain ⟨oe, hoe⟩ : ∃ z : Int, (if ot = true then 1 else 0) = z := ⟨_, rfl⟩
  rw [hF] at P5 HE HKD G1 G2 G3 G4 HC1 HC2 HC3
  rw [hF1] at P1 HC1
  rw [hF2] at P2 P3 HC2
  rw [hF3] at P4 HC3
  rw [hnc] at NC
  rw [hnw] at NW
  rw [hmo] at NM
  rw [hot, hoe] at NO NP
  have HOT : Hid (t < 1 → ot = true) := Lib.hid (fun h => by rw [← hot]; unfold outB; exact decide_eq_true (Or.inl h))
  rw [hF, hnc, hmo, hF1] at E1
  rw [hF, hnc, hnw, hmo, hF2] at E2
  rw [hF, hnc, hot, hoe, hmo, hF3] at E3
  simp only [List.map_cons, List.map_nil] at E1 E2 E3
  clear hX3 hX4 hX5 hX6 hX7 hO hr7 hlt7 hF hF1 hF2 hF3 hnc hnw hmo hot hoe hn3 hcz2 hwz2 hcz hwz HB2 HB0 HR HLT HXZ HLX HE hc2 m0 m1 hr hn0
  go_wp2_with fail
  refine P1.out.mono ?_
  rintro e w8 ⟨A1, c1, R1, hI1, rfl, hS1⟩
  have HI1 := Lib.hid hI1
  obtain ⟨n1, hn1⟩ : ∃ z, R1.length = z := ⟨_, rfl⟩
  rw [hn1] at hS1 ⊢
  have HN1 := Lib.hid hn1
  have S8 := hS1.below
  have HRd1 : Hid (Rd w8 b 5 (.slice A1 n1 c1) n1 (R1.flatMap brwC)) := Lib.hid (Rd.own (hS1.head : World.ownsRow _ _ _ _ _ _ _) HLT0.out)
  clear hI1 hS1 hn1 P1
  go_wp2_with fail
  refine (P2.out _ S8).mono ?_
  rintro e w9 ⟨R2, hI2, rfl, hb9⟩
  have HI2 := Lib.hid hI2
  have S9 := below_call S8 hb9 (Nat.le_refl _)
  have HRd1b := Lib.hid (HRd1.out.below hb9)
  obtain ⟨pr, pt, pi, pw, pd, hpv⟩ := plcV_full (plcB R2 who)
  have HPV := Lib.hid hpv
  obtain ⟨B2, hB2⟩ : ∃ z, (plcB R2 who).isSome = z := ⟨_, rfl⟩
  have HB2E := Lib.hid hB2
  rw [hpv, hB2]
  obtain ⟨g11, hg11⟩ : ∃ z, z = w9.heap.size := ⟨_, rfl⟩
  obtain ⟨W10, hW10⟩ : ∃ W, W = w9.alloc (.cells #[.int .i64 pr, .int .i64 pt, .string pi, .string pw, .int .i64 pd] 37) := ⟨_, rfl⟩
  have hb10 : Below w9.heap.size w9 W10 := by rw [hW10]; exact (Below.refl _ _).alloc (Nat.le_refl _) _
  have hK10 : Blk W10 g11 37 #[.int .i64 pr, .int .i64 pt, .string pi, .string pw, .int .i64 pd] := by rw [hW10, hg11]; exact Blk.new _ _ _
  have S10 := below_call S9 hb10 (Nat.le_refl _)
  have HRd1c := Lib.hid (HRd1b.out.below hb10)
  have HK10 := Lib.hid hK10
  clear hI2 hpv hB2 hb9 hb10 hK10 HRd1 HRd1b P2 S8
  go_wp2_with fail
  rw [← hg11, ← hW10]
  clear hg11 hW10
  refine (P3.out _ S10).mono ?_
  rintro e w11 ⟨A3, c3, ids, hI3, rfl, hS3⟩
  have HI3 := Lib.hid hI3
  obtain ⟨n3, hn3⟩ : ∃ z, ids.length = z := ⟨_, rfl⟩
  rw [hn3] at hS3 ⊢
  have HN3 := Lib.hid hn3
  have S11 := below_call S10 hS3.below (Nat.le_refl _)
  have hRd3 : Rd w11 b 1 (.slice A3 n3 c3) n3 (strsV ids) := Rd.own (hS3.head : World.ownsRow _ _ _ _ _ _ _) (Nat.lt_of_lt_of_le HLT0.out (by have := S10.size; omega))
  have HX11 := Lib.hid (And.intro (HRd1c.out.below hS3.below) (And.intro (HK10.out.below hS3.below) hRd3))
  clear hI3 hS3 hn3 hRd3 HRd1c HK10 P3 S10
  go_wp2_with fail
  refine (P4.out _ S11).mono ?_
  rintro e w12 ⟨R4, N4, hI4, h40, h41, rfl, hb12⟩
  have HI4 := Lib.hid hI4
  have H40 := Lib.hid h40
  have H41 := Lib.hid h41
  have S12 := below_call S11 hb12 (Nat.le_refl _)
  have HX12 := Lib.hid (And.intro (HX11.out.1.below hb12) (And.intro (HX11.out.2.1.below hb12) (HX11.out.2.2.below hb12)))
  clear hI4 h40 h41 hb12 HX11 P4 S11
  go_wp2_with fail
  refine (P5.out _ S12).mono ?_
  rintro e w13 ⟨rfl, hb13⟩
  have S13 := below_call S12 hb13 (Nat.le_refl _)
  have HX13 := Lib.hid (And.intro (HX12.out.1.below hb13) (And.intro (HX12.out.2.1.below hb13) (HX12.out.2.2.below hb13)))
  have HS13 := Lib.hid S13
  clear hb13 HX12 P5 S12 S13
  go_wp2_with fail
  refine (NC.out _).mono ?_
  rintro e w14 ⟨rfl, T14⟩
  go_wp2_with fail
  refine (NM.out _).mono ?_
  rintro e w15 ⟨rfl, hb15⟩
  have T15 := below_call T14 hb15 (Nat.le_refl _)
  clear T14 hb15
  go_wp2_with fail
  refine (E1.out _).mono ?_
  rintro e w16 ⟨rfl, hb16⟩
  have T16 := below_call T15 hb16 (Nat.le_refl _)
  clear T15 hb16 E1
  go_wp2_with fail
  refine (NC.out _).mono ?_
  rintro e w17 ⟨rfl, hb17⟩
  have T17 := below_call T16 hb17 (Nat.le_refl _)
  clear T16 hb17
  go_wp2_with fail
  refine (NW.out _).mono ?_
  rintro e w18 ⟨rfl, hb18⟩
  have T18 := below_call T17 hb18 (Nat.le_refl _)
  clear T17 hb18 NW
  go_wp2_with fail
  refine (NM.out _).mono ?_
  rintro e w19 ⟨rfl, hb19⟩
  have T19 := below_call T18 hb19 (Nat.le_refl _)
  clear T18 hb19
  go_wp2_with fail
  refine (E2.out _).mono ?_
  rintro e w20 ⟨rfl, hb20⟩
  have T20 := below_call T19 hb20 (Nat.le_refl _)
  clear T19 hb20 E2
  go_upto_region 9 with (fail)
  go_cut [21] (fun s21 W => ∃ w33, w33 = W ∧ s21 = .int .i64 F3 ∧ Below w13.heap.size w13 W)
  case first =>
    by_cases ht : t < 1
    · have hot := HOT.out ht
      subst hot
      go_wp2_with fail
      refine (NC.out _).mono ?_
      rintro e w21 ⟨rfl, hb21⟩
      have T21 := below_call T20 hb21 (Nat.le_refl _)
      clear T20 hb21 NC
      go_wp2_with fail
      refine (NP.out _).mono ?_
      rintro e w22 ⟨rfl, rfl⟩
      go_wp2_with fail
      refine (NM.out _).mono ?_
      rintro e w23 ⟨rfl, hb23⟩
      have T23 := below_call T21 hb23 (Nat.le_refl _)
      clear T21 hb23
      go_wp2_with fail
      refine (E3.out _).mono ?_
      rintro e w24 ⟨rfl, hb24⟩
      have T24 := below_call T23 hb24 (Nat.le_refl _)
      clear T23 hb24
      go_wp2_with fail
      go_meet
      exact ⟨_, rfl, rfl, T24⟩
    · clear HOT
      go_wp2_with fail
      refine (NC.out _).mono ?_
      rintro e w21 ⟨rfl, hb21⟩
      have T21 := below_call T20 hb21 (Nat.le_refl _)
      clear T20 hb21 NC
      go_wp2_with fail
      refine (NO.out _).mono ?_
      rintro e w22 ⟨rfl, rfl⟩
      go_wp2_with fail
      refine (NM.out _).mono ?_
      rintro e w23 ⟨rfl, hb23⟩
      have T23 := below_call T21 hb23 (Nat.le_refl _)
      clear T21 hb23
      go_wp2_with fail
      refine (E3.out _).mono ?_
      rintro e w24 ⟨rfl, hb24⟩
      have T24 := below_call T23 hb24 (Nat.le_refl _)
      clear T23 hb24
      go_wp2_with fail
      go_meet
      exact ⟨_, rfl, rfl, T24⟩
  case rest =>
  obtain ⟨w24, rfl, rfl, T24⟩ := hcut
  clear T20 NC NM NO NP E3 HOT
  go_upto_if 110 with (fail)
  go_cut [22] (fun s22 W => ∃ w33, w33 = W ∧ ∃ A' c', s22 = .slice A' n1 c' ∧ Rd W b 5 (.slice A' n1 c') n1 (R1.flatMap brwC) ∧ Below w13.heap.size w13 W)
  case first =>
    by_cases h0 : F1 = 0
    · have HG := Lib.hid (G1.out _ (below_call HS13.out T24 (Nat.le_refl _)) (HC1.out h0))
      have HQ := Lib.hid (HI1.out.1 h0)
      have hKD := HKD.out (HC1.out h0)
      subst h0
      clear HC1 HI1
      go_wp2_with fail
      refine HG.out.mono ?_
      rintro e w25 ⟨A', c', ys, hY, rfl, hS25⟩
      obtain ⟨ys2, hY2, hR⟩ := HQ.out
      have hys := sbd_one hKD hY hY2
      subst hys
      have hrd : Rd w25 b 5 (.slice A' (rowsB ys).length c') (rowsB ys).length ((rowsB ys).flatMap brwC) := Rd.own (hS25.head : World.ownsRow _ _ _ _ _ _ _) (Nat.lt_of_lt_of_le HLT0.out (by have := HS13.out.size; have := T24.size; omega))
      rw [← hR, HN1.out] at hrd
      have hlen : (rowsB ys).length = n1 := by rw [← hR]; exact HN1.out
      have HRD := Lib.hid hrd
      have T25 := Lib.hid (below_call T24 hS25.below (Nat.le_refl _))
      rw [hlen]
      clear hY hY2 hR hS25 hKD hrd hlen HG HQ T24
      go_wp2_with fail
      go_meet
      exact ⟨_, rfl, A', c', rfl, HRD.out, T25.out⟩
    · have hx : (F1 == 0) = false := by simpa using h0
      have e1 := HI1.out.2 h0
      have e3 : n1 = 0 := by rw [← HN1.out, e1]; rfl
      clear h0
      go_wp2_with fail
      go_meet
      exact ⟨_, rfl, none, 0, by rw [e3], by rw [e3, e1]; exact Rd.nil _ _ _, T24⟩
  case rest =>
  obtain ⟨w25, rfl, A4, c4, rfl, hRd4, T25⟩ := hcut
  have HRd4 := Lib.hid (And.intro (HX13.out.1.below T25) hRd4)
  have HX25 := Lib.hid (And.intro (HX13.out.2.1.below T25) (HX13.out.2.2.below T25))
  have HT25 := Lib.hid T25
  clear hRd4 T24 G1 HX13 T25
  obtain ⟨g23, hg23⟩ : ∃ z, z = w25.heap.size := ⟨_, rfl⟩
  obtain ⟨W26, hW26⟩ : ∃ W, W = w25.alloc (.cells #[.int .i64 0, .int .i64 0, .string ⟨#[]⟩, .string ⟨#[]⟩, .int .i64 0] 37) := ⟨_, rfl⟩
  have hS26 : Sq w25 W26 [rBlk g23 37 #[.int .i64 0, .int .i64 0, .string ⟨#[]⟩, .string ⟨#[]⟩, .int .i64 0]] := by
    rw [hW26, hg23]
    exact (Sq.start w25).add #[.int .i64 0, .int .i64 0, .string ⟨#[]⟩, .string ⟨#[]⟩, .int .i64 0] 37
  go_upto_if 117 with (fail)
  rw [← hg23, ← hW26]
  clear hg23 hW26
  go_cut [24, 25] (fun s24 s25 W => ∃ w33, w33 = W ∧ s24 = .bool B2 ∧ ∃ A' c', s25 = .slice A' n3 c' ∧ Rd W b 1 (.slice A' n3 c') n3 (strsV ids) ∧ Sq w25 W [rBlk g23 37 #[.int .i64 pr, .int .i64 pt, .string pi, .string pw, .int .i64 pd]])
  case first =>
    by_cases h0 : F2 = 0
    · have T26 := below_call HT25.out hS26.below (Nat.le_refl _)
      have HG2 := Lib.hid (G2.out _ (below_call HS13.out T26 (Nat.le_refl _)) (HC2.out h0))
      have HG3 := Lib.hid (fun W (h : Below w25.heap.size w25 W) => G3.out W (below_call HS13.out (below_call HT25.out h (Nat.le_refl _)) (Nat.le_refl _)) (HC2.out h0))
      have HQ2 := Lib.hid (HI2.out.1 h0)
      have HQ3 := Lib.hid (HI3.out.1 h0)
      have HKD2 := Lib.hid (HKD.out (HC2.out h0))
      have HS26 := Lib.hid hS26
      subst h0
      clear HC2 HI2 HI3 T26 hS26
      go_wp2_with fail
      refine HG2.out.mono ?_
      rintro e w27 ⟨ys, hY, rfl, hb27⟩
      obtain ⟨ys2, hY2, hR⟩ := HQ2.out
      have hys := sbd_one HKD2.out hY hY2
      subst hys
      rw [← hR, HPV.out, HB2E.out]
      have hS27 := HS26.out.callB hb27
      have hb23 := (hS27.head : Blk _ g23 _ _)
      have e0 := hb23.cell 0
      have e1 := hb23.cell 1
      have e2 := hb23.cell 2
      have e3 := hb23.cell 3
      have e4 := hb23.cell 4
      have f0 := hb23.frozen 0
      have f1 := hb23.frozen 1
      have f2 := hb23.frozen 2
      have f3 := hb23.frozen 3
      have f4 := hb23.frozen 4
      have HS27 := Lib.hid hS27
      clear hY hY2 hR hb27 hS27 hb23 HG2 HQ2 HS26
      go_wp2_with fail
      obtain ⟨W28, h28, hS28⟩ : ∃ W, W = ((((w27.setCell ⟨g23, 0, none⟩ (.int .i64 pr)).setCell ⟨g23, 1, none⟩ (.int .i64 pt)).setCell ⟨g23, 2, none⟩ (.string pi)).setCell ⟨g23, 3, none⟩ (.string pw)).setCell ⟨g23, 4, none⟩ (.int .i64 pd) ∧ Sq w25 W [rBlk g23 37 #[.int .i64 pr, .int .i64 pt, .string pi, .string pw, .int .i64 pd]] := ⟨_, rfl, ((((HS27.out.set_ 0 (.int .i64 pr)).set_ 1 (.int .i64 pt)).set_ 2 (.string pi)).set_ 3 (.string pw)).set_ 4 (.int .i64 pd)⟩
      rw [← h28]
      clear h28 e0 e1 e2 e3 e4 f0 f1 f2 f3 f4 HS27
      refine (HG3.out W28 hS28.below).mono ?_
      rintro e w29 ⟨A', c', ys3, zs3, hY3, hz3, hzs3, rfl, hS29⟩
      obtain ⟨ys4, ps4, hY4, hp4, hps4, hid4⟩ := HQ3.out
      have hys3 := sbd_one HKD2.out hY4 hY3
      subst hys3
      have hone := beaten_one HKD2.out hY4 hp4 hps4 hz3 hzs3 rfl
      rw [← hone] at hS29
      have hlen : (zs3.filter (btnQ who (plcI (rowsB ys4) who))).length = n3 := by rw [← hone, ← HN3.out, hid4, List.length_map]
      rw [hlen]
      have hps : ps4.length = n3 := by rw [← HN3.out, hid4, List.length_map]
      rw [hps, ← hid4] at hS29
      have hrd : Rd w29 b 1 (.slice A' n3 c') n3 (strsV ids) := Rd.own (hS29.head : World.ownsRow _ _ _ _ _ _ _) (Nat.lt_of_lt_of_le HLT0.out (by have := HS13.out.size; have := HT25.out.size; have := hS28.size; omega))
      have HRD := Lib.hid hrd
      have HS29 := Lib.hid (hS28.callB hS29.below)
      clear hS29 hrd hlen hps hone hid4 hps4 hp4 hY4 hY3 hz3 hzs3 hS28 HG3 HQ3
      go_wp2_with fail
      go_meet
      exact ⟨_, rfl, rfl, A', c', rfl, HRD.out, HS29.out⟩
    · have hx : (F2 == 0) = false := by simpa using h0
      have e1 := HI2.out.2 h0
      have e2 := HI3.out.2 h0
      have e3 : n3 = 0 := by rw [← HN3.out, e2]; rfl
      have ep : plcB R2 who = none := by rw [e1]; rfl
      have eb := HB2E.out
      rw [ep] at eb
      have epv := HPV.out
      rw [ep] at epv
      injection epv with epv
      simp only [Array.mk.injEq, List.cons.injEq, Value.int.injEq, Value.string.injEq, true_and, and_true] at epv
      obtain ⟨q1, q2, q3, q4, q5⟩ := epv
      subst q1 q2 q3 q4 q5
      have eb2 : B2 = false := eb.symm
      subst eb2
      clear h0 e1 ep eb
      go_wp2_with fail
      go_meet
      exact ⟨_, rfl, rfl, none, 0, by rw [e3], by rw [e3, e2]; exact Rd.nil _ _ _, hS26⟩
  case rest =>
  obtain ⟨w27, rfl, rfl, A5, c5, rfl, hRd5, hS27⟩ := hcut
  have hHX27 := And.intro (And.intro (HRd4.out.1.below hS27.below) (HRd4.out.2.below hS27.below)) (And.intro (HX25.out.2.below hS27.below) hRd5)
  have HX27 := Lib.hid hHX27
  have HK27 := Lib.hid (And.intro (HX25.out.1.below hS27.below) (hS27.head : Blk _ g23 _ _))
  have HT27 := Lib.hid (below_call HT25.out hS27.below (Nat.le_refl _))
  clear hS26 hRd5 hS27 hHX27 HRd4 HX25 HT25 G2 G3 HC2 HI2 HI3 HPV HB2E HN1 HN3
  go_upto_if 132 with (fail)
  go_cut [26] (fun s26 W => ∃ w33, w33 = W ∧ s26 = .int .i64 N4 ∧ Below w27.heap.size w27 W)
  case first =>
    by_cases h0 : F3 = 0
    · have HG4 := Lib.hid (G4.out _ (below_call HS13.out HT27.out (Nat.le_refl _)) (HC3.out h0))
      have HQ4 := Lib.hid (HI4.out.1 h0)
      have HN4 := Lib.hid (H40.out h0)
      have HKD4 := Lib.hid (HKD.out (HC3.out h0))
      subst h0
      clear HC3 HI4 H40 H41
      go_wp2_with fail
      refine HG4.out.mono ?_
      rintro e w28 ⟨ys, hY, rfl, hb28⟩
      obtain ⟨ys2, hY2, hR⟩ := HQ4.out
      have hys := sbd_one HKD4.out hY hY2
      subst hys
      rw [← hR, ← HN4.out]
      clear hY hY2 hR HQ4 HG4
      go_wp2_with fail
      go_meet
      exact ⟨_, rfl, rfl, hb28⟩
    · have hx : (F3 == 0) = false := by simpa using h0
      have e1 := H41.out h0
      subst e1
      clear h0
      go_wp2_with fail
      go_meet
      exact ⟨_, rfl, rfl, Below.refl _ _⟩
  case rest =>
  obtain ⟨w28, rfl, rfl, hb28⟩ := hcut
  have HRD := Lib.hid (fun V (h : Below w28.heap.size w28 V) => And.intro (And.intro (HX27.out.1.1.below (below_call hb28 h (Nat.le_refl _))) (HX27.out.1.2.below (below_call hb28 h (Nat.le_refl _)))) (And.intro (HX27.out.2.1.below (below_call hb28 h (Nat.le_refl _))) (HX27.out.2.2.below (below_call hb28 h (Nat.le_refl _)))))
  have HFIN := Lib.hid (below_call HBW.out (below_call HS13.out (below_call HT27.out hb28 (Nat.le_refl _)) (Nat.le_refl _)) (by have := HBW.out.size; omega))
  have HLT := Lib.hid (Nat.lt_of_lt_of_le HLT0.out (by have := HS13.out.size; have := HT27.out.size; have := hb28.size; omega) : b < w28.heap.size)
  have HBD := Lib.hid (fun V (h : Below w28.heap.size w28 V) => boarded_calls b V (Nat.lt_of_lt_of_le HLT.out h.size))
  have HKK := Lib.hid (fun V (h : Below w28.heap.size w28 V) => And.intro (HK27.out.1.below (below_call hb28 h (Nat.le_refl _))) (HK27.out.2.below (below_call hb28 h (Nat.le_refl _))))
  clear hb28 HX27 HK27 HT27 HS13 G4 HC3 HI4 H40 H41 HLT0 HBW
  have n1' : (F1 == F1) = true := by simp
  have n2' : (F2 == F2) = true := by simp
  have n3' : (F3 == F3) = true := by simp
  have n4' : (B2 == B2) = true := by simp
  have n5' : (N4 == N4) = true := by simp
  have p1 : (pr == pr) = true := by simp
  have p2 : (pt == pt) = true := by simp
  have p3 : (pi.toList == pi.toList) = true := by simp
  have p4 : (pw.toList == pw.toList) = true := by simp
  have p5 : (pd == pd) = true := by simp
  go_wp2_with fail
  refine (equalRw_calls b A1 A4 n1 c1 c4 R1 w28 (HRD.out _ (Below.refl _ _)).1.1 (HRD.out _ (Below.refl _ _)).1.2).mono ?_
  rintro e w29 ⟨rfl, nq, hw29⟩
  have S29 : Below w28.heap.size w28 w29 := by rw [hw29]; exact below_drewN (Below.refl _ _) nq
  have HB11 := Lib.hid (HKK.out _ S29).1
  have k0 := HB11.out.cell 0
  have k1 := HB11.out.cell 1
  have k2 := HB11.out.cell 2
  have k3 := HB11.out.cell 3
  have k4 := HB11.out.cell 4
  have HB23 := Lib.hid (HKK.out _ S29).2
  have j0 := HB23.out.cell 0
  have j1 := HB23.out.cell 1
  have j2 := HB23.out.cell 2
  have j3 := HB23.out.cell 3
  have j4 := HB23.out.cell 4
  clear hw29
  go_wp2_with fail
  refine (equalStr_calls b A3 A5 n3 c3 c5 ids w29 (HRD.out _ S29).2.1 (HRD.out _ S29).2.2).mono ?_
  rintro e w30 ⟨rfl, nq2, hw30⟩
  have S30 : Below w28.heap.size w28 w30 := by rw [hw30]; exact below_drewN S29 nq2
  clear hw30 k0 k1 k2 k3 k4 j0 j1 j2 j3 j4 S29 HRD HKK HB11 HB23
  go_wp2_with fail
  refine (HBD.out w30 S30).mono ?_
  rintro e w31 ⟨rfl, hb31⟩
  have S31 := below_call S30 hb31 (Nat.le_refl _)
  have hfin := below_call HFIN.out S31 (by have := HFIN.out.size; omega)
  clear S30 hb31 S31 HBD
  go_wp2_with fail
  go_ret
  exact ⟨rfl, hfin⟩
end Go.Proofs.YtebaaoacmmhppaaGreat
