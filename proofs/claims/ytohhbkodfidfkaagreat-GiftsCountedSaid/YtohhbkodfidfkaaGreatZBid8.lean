/-
  The reference's BidsFault by a contract. (Printed by gen_bid8.py.)
-/
import Derived.Test.YtohhbkodfidfkaaGreatZBid1
namespace Go.Proofs.YtohhbkodfidfkaaGreat
open Go Go.RowKit
attribute [local go_sem ↓] Go.wp_at_zero Go.wp_at_succ

set_option maxRecDepth 100000 in
set_option maxHeartbeats 2000000 in
theorem bidsFaultQ_calls (b : Nat) (A A2 : Option Addr) (n c m2 c2 : Nat) (xs : List Slt) (bs : List Bd) (w : World) (hr : Slts w b A n c xs) (hr2 : Bds w b A2 m2 c2 bs) (hb : b < w.heap.size) :
    Calls Tryz.prog 7 #[.slice A n c, .slice A2 m2 c2] w (BRet (.int .i64 (bidsF xs bs)) w) := by
  obtain ⟨hl, hnc, hcm, hcells⟩ := hr2.rd.cells bdC_len (by omega)
  unfold maxLen at hcm
  have HCS := Lib.hid (slotsFaultQ_calls b A n c xs w hr hb)
  by_cases hs0 : slotsF xs ≠ 0
  · have HF := Lib.hid (show bidsF xs bs = slotsF xs by unfold bidsF; rw [if_neg hs0])
    obtain ⟨E, hE⟩ : ∃ E, slotsF xs = E := ⟨_, rfl⟩
    rw [hE] at HCS hs0 HF
    have hx : (E != 0) = true := by simpa using hs0
    clear hcells hl hr hr2 hE
    go_enter Tryz.func7, Tryz.ntmps7
    go_wp2_with fail
    refine HCS.out.mono ?_
    rintro e w1 ⟨rfl, hb1⟩
    go_wp2_with fail
    go_ret
    exact ⟨ret_int HF.out.symm, hb1⟩
  have hs0 := Decidable.not_not.1 hs0
  rw [hs0] at HCS
  by_cases hbig : 200 < m2
  · have HF := Lib.hid (show bidsF xs bs = 2 by unfold bidsF; rw [if_pos hs0, if_pos (by omega)])
    clear hcells hl hr hr2 hs0
    go_enter Tryz.func7, Tryz.ntmps7
    go_wp2_with fail
    refine HCS.out.mono ?_
    rintro e w1 ⟨rfl, hb1⟩
    go_wp2_with fail
    go_ret
    exact ⟨ret_int HF.out.symm, hb1⟩
  have HF := Lib.hid (show bidsF xs bs = bidsG xs (lastB bs 0) (bs.drop 0) by unfold bidsF; rw [if_pos hs0, if_neg (by omega)]; rfl)
  have HL := Lib.hid hl
  have HC := Lib.hid hcells
  have HR := Lib.hid hr
  have HR2 := Lib.hid hr2
  clear hcells hl hr hr2 hs0
  go_enter Tryz.func7, Tryz.ntmps7
  go_wp2_with fail
  refine HCS.out.mono ?_
  rintro e w1 ⟨rfl, hb1⟩
  go_wp2_with fail
  go_loopw [6, 20] (fun la i wr => ∃ k : Nat, k ≤ m2 ∧ i = .int .i64 k ∧ la = .string (lastB bs k) ∧ Hid (bidsF xs bs = bidsG xs (lastB bs k) (bs.drop k)) ∧ Below w.heap.size w wr) (fun _ i _ => m2 - (intOf i).toNat)
  case atStart => exact ⟨0, Nat.zero_le _, rfl, rfl, HF, hb1⟩
  case round =>
    clear HF hb1
    obtain ⟨k, hk, rfl, rfl, HF, hbr⟩ := hrel
    by_cases hlt : k < m2
    · have hkr : k < bs.length := by rw [HL.out]; exact hlt
      obtain ⟨g, o, hA, _, hcs⟩ := HC.out (by omega)
      subst hA
      have hst := HF.out.trans (bidsG_step xs bs k hkr)
      have hls1 := lastB_succ bs k hkr
      have hok := (HR2.out.ok _ (List.getElem_mem hkr))
      have hls := HR.out.below hbr
      obtain ⟨T, hT⟩ : ∃ T, lastB bs k = T := ⟨_, rfl⟩
      rw [hT] at hst ⊢
      obtain ⟨x, hx⟩ : ∃ x, bs[k] = x := ⟨_, rfl⟩
      have c0 := below_cell hbr (hcs k hkr 0 (by omega))
      have c1 := below_cell hbr (hcs k hkr 1 (by omega))
      have c2 := below_cell hbr (hcs k hkr 2 (by omega))
      have c3 := below_cell hbr (hcs k hkr 3 (by omega))
      rw [hx] at c0 c1 c2 c3 hst hok hls1
      obtain ⟨key, bef, go, oa, oc, opts⟩ := x
      obtain ⟨m, hm⟩ : ∃ m, opts.length = m := ⟨_, rfl⟩
      replace c0 : wr.cell? ⟨g, o + k * 4, none⟩ = some (.string key) := c0
      replace c1 : wr.cell? ⟨g, o + k * 4 + 1, none⟩ = some (.string bef) := c1
      replace c2 : wr.cell? ⟨g, o + k * 4 + 2, none⟩ = some (.int .i64 go) := c2
      replace c3 : wr.cell? ⟨g, o + k * 4 + 3, none⟩ = some (.slice oa m oc) := by rw [← hm]; exact c3
      have hsz : key.size ≤ 1000 := hok.hk
      have hrd : Rd w b 1 (.slice oa m oc) m (strsV opts) := by rw [← hm]; exact hok.rd
      have hhs : ∀ s ∈ opts, s.size ≤ 1000 := hok.hh
      have HRD := Lib.hid hrd
      have HHS := Lib.hid hhs
      have HLS : Hid (lastB bs (k + 1) = key) := hls1
      have hBE : bidE ⟨key, bef, go, oa, oc, opts⟩ = (if decide (0 < m) = decide (go ≠ 0) then 3 else if outB go 0 1000000000 = true then 1 else if 20 < m then 2 else riseF opts) := by
        subst hm; rfl
      obtain ⟨F1, hF1⟩ : ∃ F, findL xs bef = F := ⟨_, rfl⟩
      obtain ⟨BF, hBF⟩ : ∃ F, bidE ⟨key, bef, go, oa, oc, opts⟩ = F := ⟨_, rfl⟩
      obtain ⟨KS, hKS⟩ : ∃ B, keyB key.data.toList = B := ⟨_, rfl⟩
      obtain ⟨RS, hRS⟩ : ∃ B, riseF opts = B := ⟨_, rfl⟩
      simp only [hF1, hKS, hBF] at hst
      rw [hBF, hRS] at hBE
      have HK := Lib.hid hKS
      have HRS := Lib.hid hRS
      have HBE := Lib.hid hBE
      have hba := hbr.alloc hbr.size (.cells #[.string key, .string bef, .int .i64 go, .slice oa m oc] 53)
      have hbw1 : Below wr.heap.size wr (wr.alloc (.cells #[.string key, .string bef, .int .i64 go, .slice oa m oc] 53)) := (Below.refl _ _).alloc (Nat.le_refl _) _
      have hbx := Blk.new wr 53 #[.string key, .string bef, .int .i64 go, .slice oa m oc]
      have hfd := findLQ_calls b A n c xs bef _ (hls.below hbw1).rd
      obtain ⟨gx, hgx⟩ : ∃ gx, wr.heap.size = gx := ⟨_, rfl⟩
      obtain ⟨wa, hwa⟩ : ∃ wa, wr.alloc (.cells #[.string key, .string bef, .int .i64 go, .slice oa m oc] 53) = wa := ⟨_, rfl⟩
      rw [hwa] at hba hbx hfd
      rw [hgx] at hbx
      rw [hF1] at hfd
      have HFD := Lib.hid hfd
      have HBX := Lib.hid hbx
      obtain ⟨b0, b1, b2, b3⟩ := blk4 hbx
      have HST := Lib.hid hst
      clear hcs hst hok hls hx hm hF1 hKS hBF hRS hBE hT hls1 hbw1 hbx hfd hrd hhs
      cases KS
      · have HSS := Lib.hid (HST.out.trans (if_pos rfl))
        clear HST
        go_wp2_with fail
        refine (keyQ_calls key _ (by unfold maxLen; omega)).mono ?_
        rintro e w1 ⟨rfl, rfl⟩
        rw [HK.out]
        go_wp2_with fail
        go_ret
        exact ⟨ret_int HSS.out.symm, hba⟩
      have HST2 := Lib.hid (HST.out.trans (if_neg (by simp)))
      clear HST
      cases hle : leS key T
      · have HST3 := Lib.hid (HST2.out.trans (if_neg (by rw [hle]; simp)))
        have hle' : (Op.bytesLess key.toList T.toList || key.toList == T.toList) = false := hle
        clear HST2 hle
        by_cases hf : F1 < 0
        · have HSS := Lib.hid (HST3.out.trans (if_pos hf))
          clear HST3
          go_wp2_with fail
          refine (keyQ_calls key _ (by unfold maxLen; omega)).mono ?_
          rintro e w1 ⟨rfl, rfl⟩
          rw [HK.out]
          go_wp2_with fail
          refine HFD.out.mono ?_
          rintro e w3 ⟨rfl, hb3⟩
          have hbb := below_call hba hb3 (Nat.le_refl _)
          obtain ⟨d0, d1, d2, d3⟩ := blk4 (HBX.out.below hb3)
          go_wp2_with fail
          go_ret
          exact ⟨ret_int HSS.out.symm, hbb⟩
        · have HST4 := Lib.hid (HST3.out.trans (if_neg hf))
          have HX : Hid (∀ z : Int, BF = z → z ≠ 0 → bidsF xs bs = z) := fun z hz h0 => by
            rw [HST4.out, hz, if_neg h0]
          have HX0 : Hid (BF = 0 → bidsF xs bs = bidsG xs (lastB bs (k + 1)) (bs.drop (k + 1))) := fun hz => HST4.out.trans (if_pos hz)
          clear HST3 HST4
          by_cases hg : go = 0
          · subst hg
            obtain ⟨OS, hOS⟩ : ∃ B, outB 0 0 1000000000 = B := ⟨_, rfl⟩
            have HO := Lib.hid hOS
            by_cases hm0 : m = 0
            · subst hm0
              clear hOS
              have HSS := Lib.hid (HX.out 3 (HBE.out.trans (if_pos (by simp))) (by decide))
              clear HX HX0 HBE
              go_wp2_with fail
              refine (keyQ_calls key _ (by unfold maxLen; omega)).mono ?_
              rintro e w1 ⟨rfl, rfl⟩
              rw [HK.out]
              go_wp2_with fail
              refine HFD.out.mono ?_
              rintro e w3 ⟨rfl, hb3⟩
              have hbb := below_call hba hb3 (Nat.le_refl _)
              obtain ⟨d0, d1, d2, d3⟩ := blk4 (HBX.out.below hb3)
              go_wp2_with fail
              go_ret
              exact ⟨ret_int HSS.out.symm, hbb⟩
            · have hp : 0 < m := by omega
              have HB := Lib.hid (HBE.out.trans (if_neg (by simp; omega)))
              rw [hOS] at HB
              clear HBE hOS hm0
              cases OS
              · have HB2 := Lib.hid (HB.out.trans (if_neg (by simp)))
                clear HB
                by_cases hbig : 20 < m
                · have HSS := Lib.hid (HX.out 2 (HB2.out.trans (if_pos hbig)) (by decide))
                  clear HX HX0 HB2
                  go_wp2_with fail
                  refine (keyQ_calls key _ (by unfold maxLen; omega)).mono ?_
                  rintro e w1 ⟨rfl, rfl⟩
                  rw [HK.out]
                  go_wp2_with fail
                  refine HFD.out.mono ?_
                  rintro e w3 ⟨rfl, hb3⟩
                  have hbb := below_call hba hb3 (Nat.le_refl _)
                  obtain ⟨d0, d1, d2, d3⟩ := blk4 (HBX.out.below hb3)
                  go_wp2_with fail
                  refine (in_calls _ _ _ _).mono ?_
                  rintro e w4 ⟨rfl, rfl⟩
                  rw [HO.out]
                  go_wp2_with fail
                  go_ret
                  exact ⟨ret_int HSS.out.symm, hbb⟩
                · have HB3 := Lib.hid (HB2.out.trans (if_neg hbig))
                  clear HB2
                  by_cases hz : RS = 0
                  · subst hz
                    have HSS := Lib.hid (HX0.out HB3.out)
                    clear HX HX0 HB3
                    go_wp2_with fail
                    refine (keyQ_calls key _ (by unfold maxLen; omega)).mono ?_
                    rintro e w1 ⟨rfl, rfl⟩
                    rw [HK.out]
                    go_wp2_with fail
                    refine HFD.out.mono ?_
                    rintro e w3 ⟨rfl, hb3⟩
                    have hbb := below_call hba hb3 (Nat.le_refl _)
                    obtain ⟨d0, d1, d2, d3⟩ := blk4 (HBX.out.below hb3)
                    go_wp2_with fail
                    refine (in_calls _ _ _ _).mono ?_
                    rintro e w4 ⟨rfl, rfl⟩
                    rw [HO.out]
                    have HRI := Lib.hid (risingQ_calls b oa m oc opts w3 (HRD.out.below hbb) HHS.out)
                    rw [HRS.out] at HRI
                    go_wp2_with fail
                    refine HRI.out.mono ?_
                    rintro e w5 ⟨rfl, nq, rfl⟩
                    obtain ⟨d0, d1, d2, d3⟩ := (⟨d0, d1, d2, d3⟩ : (w3.drewN nq).cell? ⟨gx, 0, none⟩ = some (.string key) ∧ (w3.drewN nq).cell? ⟨gx, 1, none⟩ = some (.string bef) ∧ (w3.drewN nq).cell? ⟨gx, 2, none⟩ = some (.int .i64 0) ∧ (w3.drewN nq).cell? ⟨gx, 3, none⟩ = some (.slice oa m oc))
                    go_wp2_with fail
                    go_roundw
                    case rel => exact ⟨k + 1, by omega, by go_num, by rw [HLS.out], HSS, below_drewN hbb nq⟩
                    case measure => simp [intOf]; omega
                  · have HSS := Lib.hid (HX.out RS HB3.out hz)
                    have hz2 : (RS != 0) = true := by rw [bne_iff_ne]; exact hz
                    clear HX HX0 HB3 hz
                    go_wp2_with fail
                    refine (keyQ_calls key _ (by unfold maxLen; omega)).mono ?_
                    rintro e w1 ⟨rfl, rfl⟩
                    rw [HK.out]
                    go_wp2_with fail
                    refine HFD.out.mono ?_
                    rintro e w3 ⟨rfl, hb3⟩
                    have hbb := below_call hba hb3 (Nat.le_refl _)
                    obtain ⟨d0, d1, d2, d3⟩ := blk4 (HBX.out.below hb3)
                    go_wp2_with fail
                    refine (in_calls _ _ _ _).mono ?_
                    rintro e w4 ⟨rfl, rfl⟩
                    rw [HO.out]
                    have HRI := Lib.hid (risingQ_calls b oa m oc opts w3 (HRD.out.below hbb) HHS.out)
                    rw [HRS.out] at HRI
                    go_wp2_with fail
                    refine HRI.out.mono ?_
                    rintro e w5 ⟨rfl, nq, rfl⟩
                    obtain ⟨d0, d1, d2, d3⟩ := (⟨d0, d1, d2, d3⟩ : (w3.drewN nq).cell? ⟨gx, 0, none⟩ = some (.string key) ∧ (w3.drewN nq).cell? ⟨gx, 1, none⟩ = some (.string bef) ∧ (w3.drewN nq).cell? ⟨gx, 2, none⟩ = some (.int .i64 0) ∧ (w3.drewN nq).cell? ⟨gx, 3, none⟩ = some (.slice oa m oc))
                    go_wp2_with fail
                    go_ret
                    exact ⟨ret_int HSS.out.symm, (below_drewN hbb nq)⟩
              · exact absurd HO.out (by decide)
          · have hg2 : (go != 0) = true := by simpa using hg
            obtain ⟨OS, hOS⟩ : ∃ B, outB go 0 1000000000 = B := ⟨_, rfl⟩
            have HO := Lib.hid hOS
            by_cases hm0 : m = 0
            · subst hm0
              have HB := Lib.hid (HBE.out.trans (if_neg (by simp [hg])))
              rw [hOS] at HB
              clear HBE hOS hg
              cases OS
              · have HB2 := Lib.hid (HB.out.trans (if_neg (by simp)))
                clear HB
                have hbig : ¬ 20 < 0 := by omega
                have HB3 := Lib.hid (HB2.out.trans (if_neg hbig))
                clear hbig
                clear HB2
                by_cases hz : RS = 0
                · subst hz
                  have HSS := Lib.hid (HX0.out HB3.out)
                  clear HX HX0 HB3
                  go_wp2_with fail
                  refine (keyQ_calls key _ (by unfold maxLen; omega)).mono ?_
                  rintro e w1 ⟨rfl, rfl⟩
                  rw [HK.out]
                  go_wp2_with fail
                  refine HFD.out.mono ?_
                  rintro e w3 ⟨rfl, hb3⟩
                  have hbb := below_call hba hb3 (Nat.le_refl _)
                  obtain ⟨d0, d1, d2, d3⟩ := blk4 (HBX.out.below hb3)
                  go_wp2_with fail
                  refine (in_calls _ _ _ _).mono ?_
                  rintro e w4 ⟨rfl, rfl⟩
                  rw [HO.out]
                  have HRI := Lib.hid (risingQ_calls b oa 0 oc opts w3 (HRD.out.below hbb) HHS.out)
                  rw [HRS.out] at HRI
                  go_wp2_with fail
                  refine HRI.out.mono ?_
                  rintro e w5 ⟨rfl, nq, rfl⟩
                  obtain ⟨d0, d1, d2, d3⟩ := (⟨d0, d1, d2, d3⟩ : (w3.drewN nq).cell? ⟨gx, 0, none⟩ = some (.string key) ∧ (w3.drewN nq).cell? ⟨gx, 1, none⟩ = some (.string bef) ∧ (w3.drewN nq).cell? ⟨gx, 2, none⟩ = some (.int .i64 go) ∧ (w3.drewN nq).cell? ⟨gx, 3, none⟩ = some (.slice oa 0 oc))
                  go_wp2_with fail
                  go_roundw
                  case rel => exact ⟨k + 1, by omega, by go_num, by rw [HLS.out], HSS, below_drewN hbb nq⟩
                  case measure => simp [intOf]; omega
                · have HSS := Lib.hid (HX.out RS HB3.out hz)
                  have hz2 : (RS != 0) = true := by rw [bne_iff_ne]; exact hz
                  clear HX HX0 HB3 hz
                  go_wp2_with fail
                  refine (keyQ_calls key _ (by unfold maxLen; omega)).mono ?_
                  rintro e w1 ⟨rfl, rfl⟩
                  rw [HK.out]
                  go_wp2_with fail
                  refine HFD.out.mono ?_
                  rintro e w3 ⟨rfl, hb3⟩
                  have hbb := below_call hba hb3 (Nat.le_refl _)
                  obtain ⟨d0, d1, d2, d3⟩ := blk4 (HBX.out.below hb3)
                  go_wp2_with fail
                  refine (in_calls _ _ _ _).mono ?_
                  rintro e w4 ⟨rfl, rfl⟩
                  rw [HO.out]
                  have HRI := Lib.hid (risingQ_calls b oa 0 oc opts w3 (HRD.out.below hbb) HHS.out)
                  rw [HRS.out] at HRI
                  go_wp2_with fail
                  refine HRI.out.mono ?_
                  rintro e w5 ⟨rfl, nq, rfl⟩
                  obtain ⟨d0, d1, d2, d3⟩ := (⟨d0, d1, d2, d3⟩ : (w3.drewN nq).cell? ⟨gx, 0, none⟩ = some (.string key) ∧ (w3.drewN nq).cell? ⟨gx, 1, none⟩ = some (.string bef) ∧ (w3.drewN nq).cell? ⟨gx, 2, none⟩ = some (.int .i64 go) ∧ (w3.drewN nq).cell? ⟨gx, 3, none⟩ = some (.slice oa 0 oc))
                  go_wp2_with fail
                  go_ret
                  exact ⟨ret_int HSS.out.symm, (below_drewN hbb nq)⟩
              · have HSS := Lib.hid (HX.out 1 (HB.out.trans (if_pos rfl)) (by decide))
                clear HX HX0 HB
                go_wp2_with fail
                refine (keyQ_calls key _ (by unfold maxLen; omega)).mono ?_
                rintro e w1 ⟨rfl, rfl⟩
                rw [HK.out]
                go_wp2_with fail
                refine HFD.out.mono ?_
                rintro e w3 ⟨rfl, hb3⟩
                have hbb := below_call hba hb3 (Nat.le_refl _)
                obtain ⟨d0, d1, d2, d3⟩ := blk4 (HBX.out.below hb3)
                go_wp2_with fail
                refine (in_calls _ _ _ _).mono ?_
                rintro e w4 ⟨rfl, rfl⟩
                rw [HO.out]
                go_wp2_with fail
                go_ret
                exact ⟨ret_int HSS.out.symm, hbb⟩
            · have hp : 0 < m := by omega
              clear hOS
              have HSS := Lib.hid (HX.out 3 (HBE.out.trans (if_pos (by simp [hg, hp]))) (by decide))
              clear HX HX0 HBE
              go_wp2_with fail
              refine (keyQ_calls key _ (by unfold maxLen; omega)).mono ?_
              rintro e w1 ⟨rfl, rfl⟩
              rw [HK.out]
              go_wp2_with fail
              refine HFD.out.mono ?_
              rintro e w3 ⟨rfl, hb3⟩
              have hbb := below_call hba hb3 (Nat.le_refl _)
              obtain ⟨d0, d1, d2, d3⟩ := blk4 (HBX.out.below hb3)
              go_wp2_with fail
              go_ret
              exact ⟨ret_int HSS.out.symm, hbb⟩
      · have HSS := Lib.hid (HST2.out.trans (if_pos hle))
        have hle' : (Op.bytesLess key.toList T.toList || key.toList == T.toList) = true := hle
        clear HST2 hle
        go_wp2_with fail
        refine (keyQ_calls key _ (by unfold maxLen; omega)).mono ?_
        rintro e w1 ⟨rfl, rfl⟩
        rw [HK.out]
        go_wp2_with fail
        go_ret
        exact ⟨ret_int HSS.out.symm, hba⟩
    · obtain rfl : k = m2 := by omega
      have HSS := Lib.hid (HF.out.trans (by rw [List.drop_of_length_le (by rw [HL.out]; exact Nat.le_refl _)]; rfl : _ = (0 : Int)))
      go_wp2_with fail
      go_ret
      exact ⟨ret_int HSS.out.symm, hbr⟩
end Go.Proofs.YtohhbkodfidfkaaGreat
