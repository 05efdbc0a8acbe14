/-
  MarathonsStay: the law's own walk. (Under way.)
-/
import Derived.Test.YthbcogekfdllmaaGreatDoorZLawStart
import Derived.Test.YthbcogekfdllmaaGreatDoorZMst1
import Derived.Test.YthbcogekfdllmaaGreatDoorZMov3
import Derived.Test.YthbcogekfdllmaaGreatDoorZEqLv
import Derived.Test.YthbcogekfdllmaaGreatDoorZSpoil2
import Derived.Test.YthbcogekfdllmaaGreatDoorZMov1
import Derived.Test.YthbcogekfdllmaaGreatDoorZLive6
import Derived.Test.YthbcogekfdllmaaGreatDoorZBid14
import Derived.Test.YthbcogekfdllmaaGreatDoorZClk
import Derived.Deep.DeepCutAuto
namespace Go.Proofs.YthbcogekfdllmaaGreatDoor
open Go Go.RowKit

set_option maxRecDepth 100000 in
set_option maxHeartbeats 4000000 in
theorem mst_walk (a0 : Option Addr) (len0 cap0 : Nat) (z0 : List Int) (w : World) (w0 : InRow w a0 len0 cap0 z0) (ht : Tab w) :
    Calls Tryz.prog 4 #[.slice a0 len0 cap0] w fun e w' => e = .returned (.bool true) ∧ Below w.heap.size w w' := by
  have BA := (Blk.new w 25 #[.slice a0 len0 cap0, .int .i64 0]).alloc (.cells #[.slice a0 len0 cap0, .int .i64 0] 25)
  have BB := Blk.new (w.alloc (.cells #[.slice a0 len0 cap0, .int .i64 0] 25)) 25 #[.slice a0 len0 cap0, .int .i64 0]
  have hBl : Below w.heap.size w ((w.alloc (.cells #[.slice a0 len0 cap0, .int .i64 0] 25)).alloc (.cells #[.slice a0 len0 cap0, .int .i64 0] 25)) := ((Below.refl _ _).alloc (Nat.le_refl _) _).alloc (by simp) _
  have hsz : ((w.alloc (.cells #[.slice a0 len0 cap0, .int .i64 0] 25)).alloc (.cells #[.slice a0 len0 cap0, .int .i64 0] 25)).heap.size = w.heap.size + 2 := by simp
  have hgb : (w.alloc (.cells #[.slice a0 len0 cap0, .int .i64 0] 25)).heap.size = w.heap.size + 1 := by simp
  rw [hgb] at BB
  clear hgb
  go_enter Tryz.func4, Tryz.ntmps4
  go_wp2_with fail
  obtain ⟨W2, hW2⟩ : ∃ W2, W2 = (w.alloc (.cells #[.slice a0 len0 cap0, .int .i64 0] 25)).alloc (.cells #[.slice a0 len0 cap0, .int .i64 0] 25) := ⟨_, rfl⟩
  rw [← hW2] at BA BB hBl hsz ⊢
  clear hW2
  obtain ⟨zs, hzs⟩ : ∃ zs : ZsT, (⟨z0.take len0, w.heap.size⟩ : ZsT) = zs := ⟨_, rfl⟩
  have hT0 : Two zs w 0 0 W2 [] := by
    subst hzs
    exact ⟨rfl, strmX_at0 w0 hBl BA (Nat.le_refl _), strmX_at0 w0 hBl BB (by omega), hBl, Hp.start _ _, by omega⟩
  clear BA BB hBl hzs w0
  refine (rightSlotsX_calls w.heap.size 0 4 zs W2 hT0.sa (by omega) (by omega)).mono ?_
  rintro e w3 ⟨v1, xs, r1, rfl, hx4, hxz, hx, hr1, hS⟩
  have hT1 := hT0.callA hS
  have hb3 := hT0.sz
  clear hS hT0
  go_wp2_with fail
  refine (rightSlotsX_calls (w.heap.size + 1) 0 4 zs w3 hT1.sb (by omega) (by omega)).mono ?_
  rintro e w4 ⟨v2, us, r2, rfl, hu4, huz, hu, hr2, hS⟩
  obtain ⟨rfl, hcs⟩ := slX_two hx hu
  have hT2 := hT1.callB hS
  have hb4 := hT1.sz
  clear hS hT1 hx hu
  obtain ⟨n, hn⟩ : ∃ n, xs.length = n := ⟨_, rfl⟩
  have hun : us.length = n := by rw [← hn]; have := congrArg List.length hcs; simpa using this.symm
  rw [hn] at hT2 hx4
  rw [hun] at hT2
  obtain ⟨A1, c1, hv⟩ := own_form (show w4.ownsRow _ _ _ v1 n _ from hT2.nth 2 rfl)
  subst hv
  obtain ⟨A2, c2, hv⟩ := own_form (show w4.ownsRow _ _ _ v2 n _ from hT2.nth 0 rfl)
  subst hv
  have hX2 := hT2.slts 2 rfl rfl hxz (by omega) (b := w.heap.size) (by omega)
  go_wp2_with fail
  refine (livesX_calls w.heap.size r1 zs A1 n c1 xs w4 hT2.sa (by omega) hX2 (by omega)).mono ?_
  rintro e w5 ⟨v3, ys, r3, rfl, hy, hyn, hyo, hr3, hS⟩
  have hT3 := hT2.callA hS
  have hb5 := hT2.sz
  clear hS hT2 hX2
  have hU3 := hT3.slts 1 rfl rfl huz (by omega) (b := w.heap.size + 1) (by omega)
  go_wp2_with fail
  refine (livesX_calls (w.heap.size + 1) r1 zs A2 n c2 us w5 hT3.sb (by omega) hU3 (by omega)).mono ?_
  rintro e w6 ⟨v4, ys2, r4, rfl, hy2, _, _, _, hS⟩
  rw [← keys_cnt hcs, hy] at hy2
  obtain ⟨rfl, rfl⟩ : r3 = r4 ∧ ys = ys2 := by injection hy2 with a b; exact ⟨a, b⟩
  have hT4 := hT3.callB hS
  have hb6 := hT3.sz
  clear hS hT3 hU3 hy hy2
  have hX4 := hT4.slts 4 rfl rfl hxz (by omega) (b := w.heap.size) (by omega)
  go_wp2_with fail
  refine (bidsX_calls w.heap.size r3 zs A1 n c1 xs w6 hT4.sa (by omega) hX4 (by omega)).mono ?_
  rintro e w7 ⟨v5, bs, r5, rfl, hbn, hbz, hb, hr5, hS⟩
  have hT5 := hT4.callA hS
  have hb7 := hT4.sz
  clear hS hT4 hX4
  have hU5 := hT5.slts 4 rfl rfl huz (by omega) (b := w.heap.size + 1) (by omega)
  go_wp2_with fail
  refine (bidsX_calls (w.heap.size + 1) r3 zs A2 n c2 us w7 hT5.sb (by omega) hU5 (by omega)).mono ?_
  rintro e w8 ⟨v6, ds, r6, rfl, hdn, hdz, hd, hr6, hS⟩
  rw [← keys_cnt hcs, hb] at hd
  obtain ⟨rfl, hbd⟩ : r5 = r6 ∧ bs.map cntB = ds.map cntB := by injection hd with a b; exact ⟨a, b⟩
  have hT6 := hT5.callB hS
  have hb8 := hT5.sz
  clear hS hT5 hU5 hb hd
  obtain ⟨m, hm⟩ : ∃ m, bs.length = m := ⟨_, rfl⟩
  have hdm : ds.length = m := by rw [← hm]; have := congrArg List.length hbd; simpa using this.symm
  rw [hm] at hT6 hbn
  rw [hdm] at hT6
  obtain ⟨A5, c5, hv⟩ := own_form (show w8.ownsRow _ _ _ v5 m _ from hT6.nth 2 rfl)
  subst hv
  obtain ⟨A6, c6, hv⟩ := own_form (show w8.ownsRow _ _ _ v6 m _ from hT6.nth 0 rfl)
  subst hv
  have hB6 := hT6.bds 2 rfl rfl hbz (b := w.heap.size) (by omega)
  go_wp2_with fail
  refine (giftsX_calls w.heap.size r5 zs A5 m c5 6 bs w8 hT6.sa (by omega) hB6 (by omega) (by omega)).mono ?_
  rintro e w9 ⟨v7, gs, r7, rfl, hgn, hgo, hg, hr7, hS⟩
  have hT7 := hT6.callA hS
  have hb9 := hT6.sz
  clear hS hT6 hB6
  have hD7 := hT7.bds 1 rfl rfl hdz (b := w.heap.size + 1) (by omega)
  go_wp2_with fail
  refine (giftsX_calls (w.heap.size + 1) r5 zs A6 m c6 6 ds w9 hT7.sb (by omega) hD7 (by omega) (by omega)).mono ?_
  rintro e w10 ⟨v8, fs, r8, rfl, _, _, hf, _, hS⟩
  rw [← hbd, hg] at hf
  subst hf
  have hT8 := hT7.callB hS
  have hb10 := hT7.sz
  clear hS hT7 hD7 hg
  obtain ⟨k, hk⟩ : ∃ m, ys.length = m := ⟨_, rfl⟩
  obtain ⟨j, hj⟩ : ∃ m, gs.length = m := ⟨_, rfl⟩
  rw [hk, hj] at hT8
  rw [hk] at hyn
  rw [hj] at hgn
  obtain ⟨A3, c3, hv⟩ := own_form (show w10.ownsRow _ _ _ v3 k _ from hT8.nth 7 rfl)
  subst hv
  obtain ⟨A4, c4, hv⟩ := own_form (show w10.ownsRow _ _ _ v4 k _ from hT8.nth 6 rfl)
  subst hv
  obtain ⟨A7, c7, hv⟩ := own_form (show w10.ownsRow _ _ _ v7 j _ from hT8.nth 1 rfl)
  subst hv
  obtain ⟨A8, c8, hv⟩ := own_form (show w10.ownsRow _ _ _ v8 j _ from hT8.nth 0 rfl)
  subst hv
  have hT := fun W (h : Below w10.heap.size w10 W) => hT8.below h
  have HX := Lib.hid (fun W h => (hT W h).slts 10 rfl rfl hxz (by omega) (b := w.heap.size) (by omega))
  have HU := Lib.hid (fun W h => (hT W h).slts 8 rfl rfl huz (by omega) (b := w.heap.size) (by omega))
  have HBS := Lib.hid (fun W h => (hT W h).bds 4 rfl rfl hbz (b := w.heap.size) (by omega))
  have HDS := Lib.hid (fun W h => (hT W h).bds 2 rfl rfl hdz (b := w.heap.size) (by omega))
  have HY := Lib.hid (fun W h => Rd.own (b := w.heap.size) (show W.ownsRow _ 84 3 (.slice A3 k c3) k (ys.flatMap lvC) from (hT W h).nth 7 rfl) (by omega))
  have HV := Lib.hid (fun W h => Rd.own (b := w.heap.size) (show W.ownsRow _ 84 3 (.slice A4 k c4) k (ys.flatMap lvC) from (hT W h).nth 6 rfl) (by omega))
  have HG := Lib.hid (fun W h => Rd.own (b := w.heap.size) (show W.ownsRow _ 88 5 (.slice A7 j c7) j (gs.flatMap gfC) from (hT W h).nth 1 rfl) (by omega))
  have HH := Lib.hid (fun W h => Rd.own (b := w.heap.size) (show W.ownsRow _ 88 5 (.slice A8 j c8) j (gs.flatMap gfC) from (hT W h).nth 0 rfl) (by omega))
  have hbel := hT8.bel
  have hsz10 := hT8.sz
  have HRD := Lib.hid (fun W (h : Below w10.heap.size w10 W) => ready_calls w.heap.size W (by have := h.size; omega) (ht.below (below_call hbel h (by omega))))
  have HFI := Lib.hid (fun W (h : Below w10.heap.size w10 W) => below_call hbel h (by omega))
  have HLT : Hid (w.heap.size < w10.heap.size) := Lib.hid (by omega)
  clear hT hT8 hxz huz hbz hdz hbel ht hsz hsz10 hb3 hb4 hb5 hb6 hb7 hb8 hb9 hb10
  go_wp2_with fail
  refine (order_all w.heap.size A1 n c1 xs 100 w10 (HX.out _ (Below.refl _ _)) HLT.out).mono ?_
  rintro e w11 ⟨v11, rfl, ho11, hb11⟩
  obtain ⟨L, hL⟩ : ∃ L, ordL xs 100 = L := ⟨_, rfl⟩
  rw [hL] at ho11
  obtain ⟨A11, c11, hv⟩ := own_form ho11
  subst hv
  have r11 := Rd.own (b := w.heap.size) ho11 HLT.out
  have hlt11 : w.heap.size < w11.heap.size := Nat.lt_of_lt_of_le HLT.out hb11.size
  clear ho11 hL
  go_wp2_with fail
  refine (moved_calls w.heap.size A1 A11 n c1 L.length c11 xs L w11 (HX.out _ hb11) r11 hlt11).mono ?_
  rintro e w12 ⟨v12, ms, rfl, _, _, hSM⟩
  obtain ⟨hI, hap⟩ := hstI_start hSM
  obtain ⟨A12, c12, hv⟩ := own_form hI.row
  subst hv
  obtain ⟨t, htt⟩ : ∃ t, ms.length = t := ⟨_, rfl⟩
  have HTL := Lib.hid htt
  rw [htt] at hI hap ⊢
  have HAP := Lib.hid hap
  have HI0 := Lib.hid hI
  have HB11 := Lib.hid hb11
  have hro := hI.row
  rw [htt] at hro
  have hcap := own_cap hro
  unfold maxLen at hcap
  clear hSM hap hI htt r11 hro
  go_wp2_with fail
  go_loopw [66] (fun i wr => ∃ q : Nat, q ≤ t ∧ i = .int .i64 q ∧ Hid (HstI w11.heap.size w11 (.slice A12 t c12) ms wr)) (fun i _ => t - (intOf i).toNat)
  case atStart => exact ⟨0, Nat.zero_le _, rfl, HI0⟩
  case round =>
    obtain ⟨q, hq, rfl, HI⟩ := hrel
    obtain ⟨wo, hwo⟩ : ∃ z, z = wr := ⟨_, rfl⟩
    subst hwo
    by_cases hlt : q < t
    · have hqr : q < ms.length := by rw [HTL.out]; exact hlt
      have hrow := HI.out.row
      rw [HTL.out] at hrow
      obtain ⟨g, cap, hv, hg, _⟩ := hrow.form (by omega)
      injection hv with hA _ hc
      subst hA hc
      obtain ⟨x, hx⟩ : ∃ x, ms[q] = x := ⟨_, rfl⟩
      have hxm : x ∈ ms := by rw [← hx]; exact List.getElem_mem hqr
      have x2 := own_cell sltC 5 sltC_len hrow q 2 hqr hlt (by omega)
      rw [hx] at x2
      replace x2 : wo.cell? ⟨g, q * 5 + 2, none⟩ = some (.slice x.ha x.hosts.length x.hc) := x2
      obtain ⟨hs, hl, hos⟩ := HI.out.hst x hxm
      have HSP := Lib.hid (spoilStr_calls w11.heap.size x.hosts.length x.ha x.hc hs wo hos hl)
      have hq0 : (0 : Int) ≤ (q : Int) := by omega
      have hq1 : (q : Int) < (t : Int) := by omega
      clear hx hrow hos
      go_wp2_with fail
      refine HSP.out.mono ?_
      rintro e w13 ⟨rfl, hk13⟩
      have HI2 := Lib.hid (HI.out.keeps hxm HAP.out hk13)
      clear hk13 HSP x2
      go_wp2_with fail
      go_roundw
      case rel => exact ⟨q + 1, by omega, by go_num, HI2⟩
      case measure => simp [intOf]; omega
    · obtain rfl : q = t := by omega
      have hrow := HI.out.row
      rw [HTL.out] at hrow
      have HSP := Lib.hid (spoilSl_calls w11.heap.size q A12 c12 ms wo hrow HTL.out HI.out.bel.size)
      have HBW := HI.out.bel
      clear hrow HI0
      go_wp2_with fail
      refine HSP.out.mono ?_
      rintro e w14 ⟨rfl, hb14⟩
      have hc14 : Below w10.heap.size w10 w14 := below_call HB11.out (HBW.trans hb14) (Nat.le_refl _)
      clear HSP HBW hb14
      go_wp2_with fail
      refine (expectedX_calls w.heap.size A1 A3 n c1 k c3 xs ys 0 100 w14 (HX.out _ hc14) (by omega) (HY.out _ hc14) hyo (Nat.lt_of_lt_of_le HLT.out hc14.size)).mono ?_
      rintro e w15 ⟨v15, rfl, ho15, hb15⟩
      obtain ⟨PL, hPL⟩ : ∃ PL, knownL xs 0 ys 100 = PL := ⟨_, rfl⟩
      rw [hPL] at ho15
      obtain ⟨A15, c15, hv⟩ := own_form ho15
      subst hv
      clear hPL
      go_wp2_with fail
      refine (spoilPl_calls w14.heap.size PL.length A15 c15 PL w15 ho15 rfl hb15.size).mono ?_
      rintro e w16 ⟨rfl, hb16⟩
      have hc16 : Below w10.heap.size w10 w16 := below_call hc14 (hb15.trans hb16) (Nat.le_refl _)
      clear ho15 hb15 hb16 hc14
      go_wp2_with fail
      refine (met_calls w.heap.size A1 A5 A7 A3 n c1 m c5 j c7 k c3 xs 0 bs gs ys w16 (HX.out _ hc16) (by omega) (HBS.out _ hc16) (HG.out _ hc16) hgo.ok (by omega) (HY.out _ hc16) hyo (by omega) (Nat.lt_of_lt_of_le HLT.out hc16.size)).mono ?_
      rintro e w17 ⟨v17, rfl, ho17, hb17⟩
      obtain ⟨ML, hML⟩ : ∃ PL, metL xs 0 bs gs ys = PL := ⟨_, rfl⟩
      rw [hML] at ho17
      obtain ⟨A17, c17, hv⟩ := own_form ho17
      subst hv
      clear hML
      go_wp2_with fail
      refine (spoilPr_calls w16.heap.size ML.length A17 c17 ML w17 ho17 rfl hb17.size).mono ?_
      rintro e w18 ⟨rfl, hb18⟩
      have hc18 : Below w10.heap.size w10 w18 := below_call hc16 (hb17.trans hb18) (Nat.le_refl _)
      clear ho17 hb17 hb18 hc16
      go_wp2_with fail
      refine (equalSlt_calls w.heap.size A1 A2 n c1 c2 xs us w18 (HX.out _ hc18).rd (HU.out _ hc18).rd (fun x hx => ((HX.out _ hc18).ok x hx).rd) (fun x hx => ((HU.out _ hc18).ok x hx).rd) hcs).mono ?_
      rintro e w19 ⟨rfl, hb19⟩
      have hc19 := below_call hc18 hb19 (Nat.le_refl _)
      clear hb19 hc18
      go_wp2_with fail
      refine (equalLv_calls w.heap.size A3 A4 k c3 c4 ys w19 (HY.out _ hc19) (HV.out _ hc19)).mono ?_
      rintro e w20 ⟨rfl, q1, rfl⟩
      have hc20 := below_drewN hc19 q1
      clear hc19
      go_wp2_with fail
      refine (equalBd_calls w.heap.size A5 A6 m c5 c6 bs ds _ (HBS.out _ hc20).rd (HDS.out _ hc20).rd (fun x hx => ((HBS.out _ hc20).ok x hx).rd) (fun x hx => ((HDS.out _ hc20).ok x hx).rd) hbd).mono ?_
      rintro e w21 ⟨rfl, hb21⟩
      have hc21 := below_call hc20 hb21 (Nat.le_refl _)
      clear hb21 hc20
      go_wp2_with fail
      refine (equalGf_calls w.heap.size A7 A8 j c7 c8 gs w21 (HG.out _ hc21) (HH.out _ hc21)).mono ?_
      rintro e w22 ⟨rfl, q2, rfl⟩
      have hc22 := below_drewN hc21 q2
      clear hc21
      go_wp2_with fail
      refine (HRD.out _ hc22).mono ?_
      rintro e w23 ⟨rfl, hb23⟩
      have hfin := HFI.out _ (below_call hc22 hb23 (Nat.le_refl _))
      go_wp2_with fail
      go_ret
      exact ⟨rfl, hfin⟩
end Go.Proofs.YthbcogekfdllmaaGreatDoor
