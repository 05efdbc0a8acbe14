/-
  RecordsReign: the law's own walk. (Printed by gen_lawrcr.py.)
-/
import Derived.Test.YtapgnaimbgjcnaaGreatDoorZLawStart
import Derived.Test.YtapgnaimbgjcnaaGreatDoorZEv1W
import Derived.Test.YtapgnaimbgjcnaaGreatDoorZTxt3
import Derived.Test.YtapgnaimbgjcnaaGreatDoorZEvZ
import Derived.Test.YtapgnaimbgjcnaaGreatDoorZEv5C
import Derived.Deep.DeepCutAuto
namespace Go.Proofs.YtapgnaimbgjcnaaGreatDoor
open Go Go.RowKit
def prOf (g : LgM) (s : ByteArray) : Pr := (s, ⟨(Lib.itoa ((g s).getD 0)).toArray⟩)
theorem prOf_flat (g : LgM) (zs : List ByteArray) : (zs.map (prOf g)).flatMap prC = zs.flatMap (prL g) := by
 rw [List.flatMap_map]
 rfl
set_option maxRecDepth 100000 in
set_option maxHeartbeats 8000000 in
theorem rcr_walk (a0 : Option Addr) (len0 cap0 : Nat) (z0 : List Int) (w : World) (w0 : InRow w a0 len0 cap0 z0) (ht : Tab w) :
 Calls Tryz.prog 3 #[.slice a0 len0 cap0] w fun e w' => e = .returned (.bool true) ∧ Below w.heap.size w w' := by
 have HTB := Lib.hid ht
 clear ht
 have hs0 := strmX_start w0 25
 have hb0 : Bx w.heap.size w.heap.size w (w.alloc (.cells #[.slice a0 len0 cap0, .int .i64 0] 25)) := (Bx.refl _ _ _).alloc (Nat.le_refl _) _
 obtain ⟨W1, hW1⟩ : ∃ W, W = w.alloc (.cells #[.slice a0 len0 cap0, .int .i64 0] 25) := ⟨_, rfl⟩
 obtain ⟨zs, hzs⟩ : ∃ zs : ZsT, (⟨z0.take len0, w.heap.size⟩ : ZsT) = zs := ⟨_, rfl⟩
 rw [← hW1, hzs] at hs0
 rw [← hW1] at hb0
 have hX0 := SpX.start hs0
 clear w0 hs0 hzs
 go_enter Tryz.func3, Tryz.ntmps3
 go_wp2_with fail
 rw [← hW1]
 clear hW1
 obtain ⟨b, hb⟩ : ∃ b, b = w.heap.size := ⟨_, rfl⟩
 rw [← hb] at hX0 hb0 ⊢
 have HBE := Lib.hid hb
 have HB0 := Lib.hid hb0
 clear hb hb0
 refine (spE_range hX0 0 22 (by omega) (by omega) (by omega) (by omega)).mono ?_
 rintro e w2 ⟨m, rfl, _, m0, m1, hX2⟩
 obtain ⟨m, rfl⟩ := Int.eq_ofNat_of_zero_le m0
 go_wp2_with fail
 refine (eventsX_calls b 1 m zs w2 hX2.strm (by omega) (by omega)).mono ?_
 rintro e w3 ⟨A, c, L, aa, r, rfl, _, hLm, hLZ, hr, hX3⟩
 have hXZ := evnX_Z hLZ
 have hXL := evnX_len L
 obtain ⟨l, hl⟩ : ∃ l, evnX L = l := ⟨_, rfl⟩
 rw [hl] at hX3 hXZ hXL ⊢
 have HLX := Lib.hid hXL
 have HXZ := Lib.hid hXZ
 have hn0 : l.length ≤ 22 := by omega
 obtain ⟨n, hn⟩ : ∃ n, l.length = n := ⟨_, rfl⟩
 rw [hn] at hX3 hn0 ⊢
 have HN := Lib.hid hn
 have hc2 : b < w2.heap.size := hX2.lt
 have HB2 := Lib.hid hX2.bx
 clear hX0 hX2 hLZ hLm hl hXL hXZ hn
 go_wp2_with fail
 refine (spE_someLN 1000 hX3 [⟨#[97, 110, 121]⟩, ⟨#[97, 110, 121]⟩, ⟨#[102, 97, 115, 116]⟩, ⟨#[122, 122]⟩, ⟨#[]⟩] #[.string ⟨#[97, 110, 121]⟩, .string ⟨#[97, 110, 121]⟩, .string ⟨#[102, 97, 115, 116]⟩, .string ⟨#[122, 122]⟩, .string ⟨#[]⟩] 9 5 rfl (by decide) (by unfold maxLen; omega) rfl (by decide) (by omega)).mono ?_
 rintro e w4 ⟨cat, rfl, _, hcz, hX4⟩
 go_wp2_with fail
 refine (boardTime_calls hX4 (by omega)).mono ?_
 rintro e w6 ⟨u, rfl, _, u0, u1, hX6⟩
 have hO : w6.ownsRow w2.heap.size 78 8 (.slice A n c) n (l.flatMap bevC) := hX6.head
 have hr6 : Bevs w6 b A n c l := ⟨Rd.own hO hc2, HXZ.out.bevW⟩
 have hlt6 : b < w6.heap.size := hX6.lt
 have HBW : Hid (Below w.heap.size w w6) := Lib.hid (by
  have h2 := (HB0.out.call HB2.out (by have := HBE.out; omega)).call hX6.bx (by have := HBE.out; omega)
  rw [← HBE.out]
  exact h2.below (Nat.le_refl _))
 have hn3 : n ≤ 3000 := by omega
 have h38 : l.length ≤ 38 := by rw [HN.out]; omega
 have HLT0 := Lib.hid hlt6
 have HR := Lib.hid (fun W (h : Below w6.heap.size w6 W) => hr6.below h)
 have HLT := Lib.hid (fun W (h : Below w6.heap.size w6 W) => (Nat.lt_of_lt_of_le hlt6 h.size : b < W.heap.size))
 have HT := Lib.hid (fun W (h : Below w6.heap.size w6 W) => HTB.out.below (below_call HBW.out h (by have := HBW.out.size; omega)))
 have hcz2 : cat.size ≤ 1000000 := by omega
 have HE : Hid (bevsF l = 0 → (∀ x ∈ l, bevF x = 0)) := Lib.hid (fun h => (bevs_ok h).1)
 have P1 := Lib.hid (hist_calls b A n c l u cat w6 hlt6 hr6 hn3 hcz2)
 have P2 := Lib.hid (fun W h => reigned_calls b A n c l u cat W (HLT.out W h) (HR.out W h) hn3 hcz2 h38 (HT.out W h))
 have P3 := Lib.hid (fun W h => gained_calls b A n c l u cat W (HLT.out W h) (HR.out W h) hn3 hcz2)
 have P5 := Lib.hid (fun W h => eventsFault_calls b A n c l W (HR.out W h))
 have G1 := Lib.hid (fun W h h0 => historyOf_calls b A n c l u cat W (HLT.out W h) (HR.out W h).rd (fun x hx => evK_one (HE.out h0 x hx)) hn3 (brd_dates (HE.out h0) u cat))
 have G2 := Lib.hid (fun W h h0 L hL => reignedOf_calls b A n c l u cat L W (HLT.out W h) (HR.out W h).rd (HE.out h0) (by omega) (by omega) hL (HT.out W h))
 have G3 := Lib.hid (fun W h h0 => gainedOf_calls b A n c l u cat W (HLT.out W h) (HR.out W h).rd (fun x hx => evK_one (HE.out h0 x hx)) hn3 (brd_dates (HE.out h0) u cat))
 have NC := Lib.hid (fun W => nameFaultB_calls cat W (by unfold maxLen; omega))
 have NM := Lib.hid (fun W => momentFaultB_calls u W)
 have E1 := Lib.hid (fun W => errsB_calls [bevsF l, nmB cat, moB u] _ 3 rfl (cat_first l cat u) (by omega) W)
 have HC1 : Hid (catF l [cat] u = 0 → bevsF l = 0) := Lib.hid catF_ok
 obtain ⟨F, hF⟩ : ∃ z, bevsF l = z := ⟨_, rfl⟩
 obtain ⟨F1, hF1⟩ : ∃ z, catF l [cat] u = z := ⟨_, rfl⟩
 obtain ⟨nc, hnc⟩ : ∃ z, nmB cat = z := ⟨_, rfl⟩
 obtain ⟨mo, hmo⟩ : ∃ z, moB u = z := ⟨_, rfl⟩
 rw [hF] at P5 HE G1 G2 G3 HC1
 rw [hF1] at P1 P2 P3 HC1
 rw [hnc] at NC
 rw [hmo] at NM
 rw [hF, hnc, hmo, hF1] at E1
 simp only [List.map_cons, List.map_nil] at E1
 clear hX3 hX4 hX6 hO hr6 hlt6 hF hF1 hnc hmo hn3 hcz2 hcz HB2 HB0 HR HLT HT HXZ HLX hc2 m0 m1 hr hn0 u0 u1 h38
 go_wp2_with fail
 refine P1.out.mono ?_
 rintro e w8 ⟨A1, c1, H, hI1, rfl, hS1⟩
 have HI1 := Lib.hid hI1
 obtain ⟨n1, hn1⟩ : ∃ z, H.length = z := ⟨_, rfl⟩
 rw [hn1] at hS1 ⊢
 have HN1 := Lib.hid hn1
 have S8 := hS1.below
 have HRd1 : Hid (Rd w8 b 5 (.slice A1 n1 c1) n1 (H.flatMap rgnC)) := Lib.hid (Rd.own (hS1.head : World.ownsRow _ _ _ _ _ _ _) HLT0.out)
 clear hI1 hS1 hn1 P1
 go_wp2_with fail
 refine (P2.out _ S8).mono ?_
 rintro e w9 ⟨A2, c2, H2, zs, hI2, hz1, hz2, rfl, hS2⟩
 have hHH := hisIs_one (fun h x hx => evK_one (HE.out (HC1.out h) x hx)) HI1.out hI2
 subst hHH
 have HZ1 := Lib.hid hz1
 have HZ2 := Lib.hid hz2
 obtain ⟨n2, hn2⟩ : ∃ z, zs.length = z := ⟨_, rfl⟩
 rw [hn2] at hS2 ⊢
 have HN2 := Lib.hid hn2
 have S9 := below_call S8 hS2.below (Nat.le_refl _)
 have hRd2 : Rd w9 b 2 (.slice A2 n2 c2) n2 (zs.flatMap (prL (lgF H))) := Rd.own (hS2.head : World.ownsRow _ _ _ _ _ _ _) (Nat.lt_of_lt_of_le HLT0.out S8.size)
 have HX9 := Lib.hid (And.intro (HRd1.out.below hS2.below) hRd2)
 clear hI2 hz1 hz2 hn2 hS2 hRd2 HRd1 P2 S8
 go_wp2_with fail
 refine (P3.out _ S9).mono ?_
 rintro e w10 ⟨H3, hI3, rfl, hb10⟩
 have hHH := hisIs_one (fun h x hx => evK_one (HE.out (HC1.out h) x hx)) HI1.out hI3
 subst hHH
 have S10 := below_call S9 hb10 (Nat.le_refl _)
 have HX10 := Lib.hid (And.intro (HX9.out.1.below hb10) (HX9.out.2.below hb10))
 obtain ⟨GV, hGV⟩ : ∃ z, gnV H = z := ⟨_, rfl⟩
 obtain ⟨GB, hGB⟩ : ∃ z, gnB H = z := ⟨_, rfl⟩
 rw [hGV, hGB]
 have HGV := Lib.hid hGV
 have HGB := Lib.hid hGB
 clear hI3 hb10 hGV hGB HX9 P3 S9
 go_wp2_with fail
 refine (P5.out _ S10).mono ?_
 rintro e w13 ⟨rfl, hb13⟩
 have S13 := below_call S10 hb13 (Nat.le_refl _)
 have HX13 := Lib.hid (And.intro (HX10.out.1.below hb13) (HX10.out.2.below hb13))
 have HS13 := Lib.hid S13
 clear hb13 HX10 P5 S10 S13
 go_wp2_with fail
 refine (NC.out _).mono ?_
 rintro e w14 ⟨rfl, T14⟩
 go_wp2_with fail
 refine (NM.out _).mono ?_
 rintro e w15 ⟨rfl, hb15⟩
 have T15 := below_call T14 hb15 (Nat.le_refl _)
 clear T14 hb15
 go_wp2_with fail
 refine (E1.out _).mono ?_
 rintro e w16 ⟨rfl, hb16⟩
 have T16 := below_call T15 hb16 (Nat.le_refl _)
 clear T15 hb16 E1 NC NM
 go_upto_if 62 with (fail)
 go_cut [15, 16, 17, 18] (fun s15 s16 s17 s18 W => ∃ w33, w33 = W ∧ s17 = .int .i64 GV ∧ s18 = .bool GB ∧ ∃ A' c' A'' c'', s15 = .slice A' n1 c' ∧ s16 = .slice A'' n2 c'' ∧ Rd W b 5 (.slice A' n1 c') n1 (H.flatMap rgnC) ∧ Rd W b 2 (.slice A'' n2 c'') n2 (zs.flatMap (prL (lgF H))) ∧ Below w13.heap.size w13 W)
 case first =>
  by_cases h0 : F1 = 0
  · have HG1 := Lib.hid (G1.out _ (below_call HS13.out T16 (Nat.le_refl _)) (HC1.out h0))
    have HG2 := Lib.hid (fun W (h : Below w13.heap.size w13 W) => G2.out W (below_call HS13.out h (Nat.le_refl _)) (HC1.out h0))
    have HG3 := Lib.hid (fun W (h : Below w13.heap.size w13 W) => G3.out W (below_call HS13.out h (Nat.le_refl _)) (HC1.out h0))
    have HQ := Lib.hid (HI1.out.1 h0)
    have HZZ := Lib.hid (HZ1.out h0)
    have HK := Lib.hid (kd_fol (fun x hx => evK_one (HE.out (HC1.out h0) x hx)) u)
    subst h0
    clear HC1 HI1 HE G1 G2 G3
    go_wp2_with fail
    refine HG1.out.mono ?_
    rintro e w25 ⟨A', c', ys, S, hY, hSp, hSs, rfl, hS25⟩
    obtain ⟨L, hL, hR⟩ := HQ.out
    have hone := his_one u HK.out hL hY hSp hSs
    rw [← hR] at hone
    have hlS : S.length = n1 := by rw [← HN1.out, ← hone, fixTo_len]
    have hrd : Rd w25 b 5 (.slice A' S.length c') S.length ((fixTo S).flatMap rgnC) := Rd.own (hS25.head : World.ownsRow _ _ _ _ _ _ _) (Nat.lt_of_lt_of_le HLT0.out (by have := HS13.out.size; have := T16.size; omega))
    rw [hone, hlS] at hrd
    rw [hlS]
    have HRD := Lib.hid hrd
    have T25 := below_call T16 hS25.below (Nat.le_refl _)
    have HG2 := Lib.hid (HG2.out _ T25 L hL)
    rw [← hR] at HG2
    clear hY hSp hSs hL hR hone hlS hS25 hrd T16 HG1
    go_wp2_with fail
    refine HG2.out.mono ?_
    rintro e w26 ⟨A'', c'', zs2, rfl, hp2, hs2, hS26⟩
    have hzz := names_one (lgF H) (HZZ.out.1.trans hp2.symm) HZZ.out.2 hs2
    subst hzz
    have hrd : Rd w26 b 2 (.slice A'' zs.length c'') zs.length (zs.flatMap (prL (lgF H))) := Rd.own (hS26.head : World.ownsRow _ _ _ _ _ _ _) (Nat.lt_of_lt_of_le HLT0.out (by have := HS13.out.size; have := T25.size; omega))
    rw [HN2.out] at hrd ⊢
    have HRD2 := Lib.hid (And.intro (HRD.out.below hS26.below) hrd)
    have T26 := below_call T25 hS26.below (Nat.le_refl _)
    have HG3 := Lib.hid (HG3.out _ T26)
    clear hp2 hs2 hS26 hrd T25 HG2 HRD HZZ
    go_wp2_with fail
    refine HG3.out.mono ?_
    rintro e w27 ⟨ys, S, hY, hSp, hSs, rfl, hb27⟩
    obtain ⟨L, hL, hR⟩ := HQ.out
    have hone := his_one u HK.out hL hY hSp hSs
    rw [← hR] at hone
    rw [hone, HGV.out, HGB.out]
    have HRD3 := Lib.hid (And.intro (HRD2.out.1.below hb27) (HRD2.out.2.below hb27))
    have HT27 := Lib.hid (below_call T26 hb27 (Nat.le_refl _))
    clear hY hSp hSs hL hR hone hb27 T26 HRD2 HG3 HQ
    go_wp2_with fail
    go_meet
    exact ⟨_, rfl, rfl, rfl, A', c', A'', c'', rfl, rfl, HRD3.out.1, HRD3.out.2, HT27.out⟩
  · have hx : (F1 == 0) = false := by simpa using h0
    have e1 := HI1.out.2 h0
    have e2 := HZ2.out h0
    have e3 : n1 = 0 := by rw [← HN1.out, e1]; rfl
    have e4 : n2 = 0 := by rw [← HN2.out, e2]; rfl
    have e5 := HGV.out
    have e6 := HGB.out
    rw [e1] at e5 e6
    have e5 : GV = 0 := e5.symm
    have e6 : GB = false := e6.symm
    have HEE := Lib.hid (And.intro (And.intro e1 e2) (And.intro (And.intro e3 e4) (And.intro e5 e6)))
    clear h0 e1 e2 e3 e4 e5 e6
    go_wp2_with fail
    go_meet
    obtain ⟨⟨e1, e2⟩, ⟨e3, e4⟩, e5, e6⟩ := HEE.out
    exact ⟨_, rfl, by rw [e5], by rw [e6], none, 0, none, 0, by rw [e3], by rw [e4], by rw [e3, e1]; exact Rd.nil _ _ _, by rw [e4, e2]; exact Rd.nil _ _ _, T16⟩
 case rest =>
 obtain ⟨w24, rfl, rfl, rfl, A4, c4, A5, c5, rfl, rfl, hRd4, hRd5, T24⟩ := hcut
 have HRD := Lib.hid (fun V (h : Below w24.heap.size w24 V) => And.intro (And.intro (HX13.out.1.below (below_call T24 h (Nat.le_refl _))) (hRd4.below h)) (And.intro (HX13.out.2.below (below_call T24 h (Nat.le_refl _))) (hRd5.below h)))
 have HFIN := Lib.hid (below_call HBW.out (below_call HS13.out T24 (Nat.le_refl _)) (by have := HBW.out.size; omega))
 have HLT := Lib.hid (Nat.lt_of_lt_of_le HLT0.out (by have := HS13.out.size; have := T24.size; omega) : b < w24.heap.size)
 have HBD := Lib.hid (fun V (h : Below w24.heap.size w24 V) => boarded_calls b V (Nat.lt_of_lt_of_le HLT.out h.size))
 have HQ2 := Lib.hid (fun V (h : Below w24.heap.size w24 V) => equalPrR_calls b A2 A5 n2 c2 c5 (zs.map (prOf (lgF H))) V (by rw [prOf_flat]; exact (HRD.out V h).2.1) (by rw [prOf_flat]; exact (HRD.out V h).2.2))
 clear T24 T16 hRd4 hRd5 HX13 HS13 G1 G2 G3 HC1 HI1 HZ1 HZ2 HN1 HN2 HGV HGB HLT0 HBW HE HTB
 have n1' : (F1 == F1) = true := by simp
 have n2' : (GV == GV) = true := by simp
 have n3' : (GB == GB) = true := by simp
 go_wp2_with fail
 refine (equalRg_calls b A1 A4 n1 c1 c4 H w24 (HRD.out _ (Below.refl _ _)).1.1 (HRD.out _ (Below.refl _ _)).1.2).mono ?_
 rintro e w29 ⟨rfl, nq, hw29⟩
 have S29 : Below w24.heap.size w24 w29 := by rw [hw29]; exact below_drewN (Below.refl _ _) nq
 clear hw29
 go_wp2_with fail
 refine (HQ2.out w29 S29).mono ?_
 rintro e w30 ⟨rfl, nq2, hw30⟩
 have S30 : Below w24.heap.size w24 w30 := by rw [hw30]; exact below_drewN S29 nq2
 clear hw30 S29 HRD HQ2
 go_wp2_with fail
 refine (HBD.out w30 S30).mono ?_
 rintro e w31 ⟨rfl, hb31⟩
 have S31 := below_call S30 hb31 (Nat.le_refl _)
 have hfin := below_call HFIN.out S31 (by have := HFIN.out.size; omega)
 clear S30 hb31 S31 HBD
 go_wp2_with fail
 go_ret
 exact ⟨rfl, hfin⟩
end Go.Proofs.YtapgnaimbgjcnaaGreatDoor
