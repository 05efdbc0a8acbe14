/-
  marathon.bidFault and CheckBids by contracts. (Printed by gen_bid1.py.)
-/
import Derived.Test.YthbcogekfdllmaaGreatDoorZBidPure
import Derived.Test.YthbcogekfdllmaaGreatDoorZSlot3
import Derived.Deep.RegionLaw
import Derived.Deep.DrawnRows
namespace Go.Proofs.YthbcogekfdllmaaGreatDoor
open Go Go.RowKit
attribute [local go_sem ↓] Go.wp_at_zero Go.wp_at_succ

set_option maxRecDepth 100000 in
theorem bidFault_calls (b : Nat) (x : Bd) (w : World) (hx : BdOk w b x) :
    Calls Tryz.prog 140 #[.agg #[.string x.key, .string x.before, .int .i64 x.goal, .slice x.oa x.opts.length x.oc]] w (BRet (.int .i64 (bidE x)) w) := by
  obtain ⟨h1, h2, h3, h4, h5, h6⟩ := hx
  obtain ⟨key, bef, go, oa, oc, opts⟩ := x
  simp only at h1 h2 h3 h4 h5 h6
  obtain ⟨n, hn⟩ : ∃ n, opts.length = n := ⟨_, rfl⟩
  have hS : bidE ⟨key, bef, go, oa, oc, opts⟩ = (if decide (0 < n) = decide (go ≠ 0) then 3 else if outB go 0 1000000000 = true then 1 else if 20 < n then 2 else riseF opts) := by
    subst hn; rfl
  obtain ⟨F, hF⟩ : ∃ F, bidE ⟨key, bef, go, oa, oc, opts⟩ = F := ⟨_, rfl⟩
  rw [hF] at hS ⊢
  simp only [hn]
  rw [hn] at h1 h5
  obtain ⟨_, hnc, hcm, _⟩ := strs_cells h1
  unfold maxLen at hcm
  have hA := (Below.refl w.heap.size w).alloc (Nat.le_refl _) (.cells #[.string key, .string bef, .int .i64 go, .slice oa n oc] 77)
  have HR := Lib.hid (h1.below hA)
  have H4 := Lib.hid h4
  obtain ⟨O, hO⟩ : ∃ M, outB go 0 1000000000 = M := ⟨_, rfl⟩
  obtain ⟨E, hE⟩ : ∃ E, riseF opts = E := ⟨_, rfl⟩
  rw [hO, hE] at hS
  have HO := Lib.hid hO
  have HE := Lib.hid hE
  clear h1 h4 hF hn hO hE
  by_cases hg : go = 0
  · subst hg
    by_cases hn0 : n = 0
    · subst hn0
      have HS := Lib.hid (hS.trans (if_pos (by simp)))
      clear hS
      go_enter Tryz.func140, Tryz.ntmps140
      go_wp2_with fail
      go_ret
      exact ⟨ret_int HS.out.symm, hA⟩
    · have hp : 0 < n := by omega
      have HS2 := Lib.hid (hS.trans (if_neg (by simp; omega)))
      clear hS
      cases O
      · have HS3 := Lib.hid (HS2.out.trans (if_neg (by simp)))
        clear HS2
        by_cases hbig : 20 < n
        · have HS := Lib.hid (HS3.out.trans (if_pos hbig))
          clear HS3
          go_enter Tryz.func140, Tryz.ntmps140
          go_wp2_with fail
          refine (out_calls _ _ _ _).mono ?_
          rintro e w3 ⟨rfl, rfl⟩
          rw [HO.out]
          go_wp2_with fail
          go_ret
          exact ⟨ret_int HS.out.symm, hA⟩
        · have HS := Lib.hid (HS3.out.trans (if_neg hbig))
          clear HS3
          go_enter Tryz.func140, Tryz.ntmps140
          go_wp2_with fail
          refine (out_calls _ _ _ _).mono ?_
          rintro e w3 ⟨rfl, rfl⟩
          rw [HO.out]
          go_wp2_with fail
          refine (rising_calls b oa n oc opts _ HR.out (fun s hs => Nat.le_trans (H4.out s hs) (by decide))).mono ?_
          rintro e w4 ⟨rfl, nq, rfl⟩
          rw [HE.out]
          go_wp2_with fail
          go_ret
          exact ⟨ret_int HS.out.symm, below_drewN hA nq⟩
      · have HS := Lib.hid (HS2.out.trans (if_pos rfl))
        clear HS2
        go_enter Tryz.func140, Tryz.ntmps140
        go_wp2_with fail
        refine (out_calls _ _ _ _).mono ?_
        rintro e w3 ⟨rfl, rfl⟩
        rw [HO.out]
        go_wp2_with fail
        go_ret
        exact ⟨ret_int HS.out.symm, hA⟩
  · have hg2 : (go != 0) = true := by simpa using hg
    by_cases hn0 : n = 0
    · subst hn0
      have HS2 := Lib.hid (hS.trans (if_neg (by simp [hg])))
      clear hS
      cases O
      · have HS3 := Lib.hid (HS2.out.trans (if_neg (by simp)))
        clear HS2
        have HS := Lib.hid (HS3.out.trans (if_neg (by omega)))
        clear HS3
        go_enter Tryz.func140, Tryz.ntmps140
        go_wp2_with fail
        refine (out_calls _ _ _ _).mono ?_
        rintro e w3 ⟨rfl, rfl⟩
        rw [HO.out]
        go_wp2_with fail
        refine (rising_calls b oa 0 oc opts _ HR.out (fun s hs => Nat.le_trans (H4.out s hs) (by decide))).mono ?_
        rintro e w4 ⟨rfl, nq, rfl⟩
        rw [HE.out]
        go_wp2_with fail
        go_ret
        exact ⟨ret_int HS.out.symm, below_drewN hA nq⟩
      · have HS := Lib.hid (HS2.out.trans (if_pos rfl))
        clear HS2
        go_enter Tryz.func140, Tryz.ntmps140
        go_wp2_with fail
        refine (out_calls _ _ _ _).mono ?_
        rintro e w3 ⟨rfl, rfl⟩
        rw [HO.out]
        go_wp2_with fail
        go_ret
        exact ⟨ret_int HS.out.symm, hA⟩
    · have hp : 0 < n := by omega
      have HS := Lib.hid (hS.trans (if_pos (by simp [hg, hp])))
      clear hS
      go_enter Tryz.func140, Tryz.ntmps140
      go_wp2_with fail
      go_ret
      exact ⟨ret_int HS.out.symm, hA⟩

theorem blk4 {W : World} {g : Nat} {t : TypeId} {a b c d : Value} (h : Blk W g t #[a, b, c, d]) : W.cell? ⟨g, 0, none⟩ = some a ∧ W.cell? ⟨g, 1, none⟩ = some b ∧ W.cell? ⟨g, 2, none⟩ = some c ∧ W.cell? ⟨g, 3, none⟩ = some d := ⟨h.cell 0, h.cell 1, h.cell 2, h.cell 3⟩
set_option maxRecDepth 100000 in
set_option maxHeartbeats 1000000 in
theorem checkBids_calls (b : Nat) (A A2 : Option Addr) (n c m2 c2 : Nat) (xs : List Slt) (bs : List Bd) (w : World) (hr : Slts w b A n c xs) (hr2 : Bds w b A2 m2 c2 bs) (hb : b < w.heap.size) :
    Calls Tryz.prog 79 #[.slice A n c, .slice A2 m2 c2] w (BRet (.int .i64 (bidsF xs bs)) w) := by
  obtain ⟨hl, hnc, hcm, hcells⟩ := hr2.rd.cells bdC_len (by omega)
  unfold maxLen at hcm
  have HCS := Lib.hid (checkSlots_calls b A n c xs w hr hb)
  by_cases hs0 : slotsF xs ≠ 0
  · have HF := Lib.hid (show bidsF xs bs = slotsF xs by unfold bidsF; rw [if_neg hs0])
    obtain ⟨E, hE⟩ : ∃ E, slotsF xs = E := ⟨_, rfl⟩
    rw [hE] at HCS hs0 HF
    have hx : (E != 0) = true := by simpa using hs0
    clear hcells hl hr hr2 hE
    go_enter Tryz.func79, Tryz.ntmps79
    go_wp2_with fail
    refine HCS.out.mono ?_
    rintro e w1 ⟨rfl, hb1⟩
    go_wp2_with fail
    go_ret
    exact ⟨ret_int HF.out.symm, hb1⟩
  have hs0 := Decidable.not_not.1 hs0
  rw [hs0] at HCS
  by_cases hbig : 200 < m2
  · have HF := Lib.hid (show bidsF xs bs = 2 by unfold bidsF; rw [if_pos hs0, if_pos (by omega)])
    clear hcells hl hr hr2 hs0
    go_enter Tryz.func79, Tryz.ntmps79
    go_wp2_with fail
    refine HCS.out.mono ?_
    rintro e w1 ⟨rfl, hb1⟩
    go_wp2_with fail
    go_ret
    exact ⟨ret_int HF.out.symm, hb1⟩
  have HF := Lib.hid (show bidsF xs bs = bidsG xs (lastB bs 0) (bs.drop 0) by unfold bidsF; rw [if_pos hs0, if_neg (by omega)]; rfl)
  have HL := Lib.hid hl
  have HC := Lib.hid hcells
  have HR := Lib.hid hr
  have HR2 := Lib.hid hr2
  clear hcells hl hr hr2 hs0
  go_enter Tryz.func79, Tryz.ntmps79
  go_wp2_with fail
  refine HCS.out.mono ?_
  rintro e w1 ⟨rfl, hb1⟩
  go_wp2_with fail
  go_loopw [19] (fun i wr => ∃ k : Nat, k ≤ m2 ∧ i = .int .i64 k ∧ Hid (bidsF xs bs = bidsG xs (lastB bs k) (bs.drop k)) ∧ Below w.heap.size w wr) (fun i _ => m2 - (intOf i).toNat)
  case atStart => exact ⟨0, Nat.zero_le _, rfl, HF, hb1⟩
  case round =>
    clear HF hb1
    obtain ⟨k, hk, rfl, HF, hbr⟩ := hrel
    by_cases hlt : k < m2
    · have hkr : k < bs.length := by rw [HL.out]; exact hlt
      obtain ⟨g, o, hA, _, hcs⟩ := HC.out (by omega)
      subst hA
      have hst := HF.out.trans (bidsG_step xs bs k hkr)
      have hok := (HR2.out.ok _ (List.getElem_mem hkr)).below hbr
      have hls := HR.out.below hbr
      have HCS2 := Lib.hid hcs
      obtain ⟨x, hx⟩ : ∃ x, bs[k] = x := ⟨_, rfl⟩
      have c0 := below_cell hbr (hcs k hkr 0 (by omega))
      have c1 := below_cell hbr (hcs k hkr 1 (by omega))
      have c2 := below_cell hbr (hcs k hkr 2 (by omega))
      have c3 := below_cell hbr (hcs k hkr 3 (by omega))
      rw [hx] at c0 c1 c2 c3 hst hok
      obtain ⟨key, bef, go, oa, oc, opts⟩ := x
      obtain ⟨m, hm⟩ : ∃ m, opts.length = m := ⟨_, rfl⟩
      simp only [Nat.add_zero] at c0
      replace c0 : wr.cell? ⟨g, o + k * 4, none⟩ = some (.string key) := c0
      replace c1 : wr.cell? ⟨g, o + k * 4 + 1, none⟩ = some (.string bef) := c1
      replace c2 : wr.cell? ⟨g, o + k * 4 + 2, none⟩ = some (.int .i64 go) := c2
      replace c3 : wr.cell? ⟨g, o + k * 4 + 3, none⟩ = some (.slice oa m oc) := by rw [← hm]; exact c3
      have hlz := hbr.size
      have hsz : key.size ≤ 1000 := hok.hk
      obtain ⟨F1, hF1⟩ : ∃ F, findL xs bef = F := ⟨_, rfl⟩
      obtain ⟨BF, hBF⟩ : ∃ F, bidE ⟨key, bef, go, oa, oc, opts⟩ = F := ⟨_, rfl⟩
      obtain ⟨KS, hKS⟩ : ∃ B, keyB key.data.toList = B := ⟨_, rfl⟩
      simp only [hF1, hKS, hBF] at hst
      have HK := Lib.hid hKS
      have hbr1 : Below w.heap.size w (wr.alloc (.cells #[.string key, .string bef, .int .i64 go, .slice oa m oc] 77)) := hbr.alloc hlz _
      have HFD : Hid (∀ q, Calls Tryz.prog 74 #[.slice A n c, .string bef] ((wr.alloc (.cells #[.string key, .string bef, .int .i64 go, .slice oa m oc] 77)).drewN q) (BRet (.int .i64 F1) ((wr.alloc (.cells #[.string key, .string bef, .int .i64 go, .slice oa m oc] 77)).drewN q))) := fun q => by
        have := findL_calls b A n c xs bef ((wr.alloc (.cells #[.string key, .string bef, .int .i64 go, .slice oa m oc] 77)).drewN q) ((hls.below ((Below.refl _ _).alloc (Nat.le_refl _) _)).below (below_drewN (Below.refl _ _) q)).rd
        rw [hF1] at this
        exact this
      have HBF : Hid (∀ W, Below (wr.alloc (.cells #[.string key, .string bef, .int .i64 go, .slice oa m oc] 77)).heap.size (wr.alloc (.cells #[.string key, .string bef, .int .i64 go, .slice oa m oc] 77)) W → Calls Tryz.prog 140 #[.agg #[.string key, .string bef, .int .i64 go, .slice oa m oc]] W (BRet (.int .i64 BF) W)) := fun W hW => by
        have := bidFault_calls b ⟨key, bef, go, oa, oc, opts⟩ W ((hok.below ((Below.refl _ _).alloc (Nat.le_refl _) _)).below hW)
        rw [hBF] at this
        simp only [hm] at this
        exact this
      have B0 : Blk (wr.alloc (.cells #[.string key, .string bef, .int .i64 go, .slice oa m oc] 77)) wr.heap.size 77 #[.string key, .string bef, .int .i64 go, .slice oa m oc] := Blk.new wr _ _
      have HB0 := Lib.hid B0
      have b0 := B0.cell 0
      have b1 := B0.cell 1
      have HST := Lib.hid hst
      clear hcs hst hok hls hx hm hF1 hKS hBF B0
      cases KS
      · have HS := Lib.hid (HST.out.trans (if_pos rfl))
        clear HST
        go_wp2_with fail
        refine (key_calls key _ (by unfold maxLen; omega)).mono ?_
        rintro e w1 ⟨rfl, rfl⟩
        rw [HK.out]
        go_wp2_with fail
        go_ret
        exact ⟨ret_int HS.out.symm, hbr1⟩
      have HST2 := Lib.hid (HST.out.trans (if_neg (by simp)))
      clear HST
      by_cases h0 : k = 0
      · subst h0
        simp only [Nat.zero_mul, Nat.add_zero] at c0 c1 c2 c3
        have HST3 := Lib.hid (HST2.out.trans (if_neg (by rw [show lastB bs 0 = ⟨#[]⟩ from rfl, le_nil HK.out]; simp)))
        clear HST2
        by_cases hf : F1 < 0
        · have HS := Lib.hid (HST3.out.trans (if_pos hf))
          clear HST3 HBF
          go_wp2_with fail
          refine (key_calls key _ (by unfold maxLen; omega)).mono ?_
          rintro e w1 ⟨rfl, rfl⟩
          rw [HK.out]
          go_wp2_with fail
          go_quiet (fail)
          go_wp2_with fail
          refine (HFD.out _).mono ?_
          rintro e w3 ⟨rfl, hb3⟩
          go_wp2_with fail
          go_ret
          exact ⟨ret_int HS.out.symm, below_call (below_drewN hbr1 _) hb3 (Nat.le_refl _)⟩
        · have HST4 := Lib.hid (HST3.out.trans (if_neg hf))
          clear HST3
          by_cases hz : BF = 0
          · subst hz
            have HS := Lib.hid (HST4.out.trans (if_pos rfl))
            clear HST4
            go_wp2_with fail
            refine (key_calls key _ (by unfold maxLen; omega)).mono ?_
            rintro e w1 ⟨rfl, rfl⟩
            rw [HK.out]
            go_wp2_with fail
            go_quiet (fail)
            go_wp2_with fail
            refine (HFD.out _).mono ?_
            rintro e w3 ⟨rfl, hb3⟩
            obtain ⟨d0, d1, d2, d3⟩ := blk4 (HB0.out.below (below_call (below_drewN (Below.refl _ _) _) hb3 (Nat.le_refl _)))
            have hb4 := below_call (below_drewN hbr1 _) hb3 (Nat.le_refl _)
            have HBF2 := Lib.hid (HBF.out w3 (below_call (below_drewN (Below.refl _ _) _) hb3 (Nat.le_refl _)))
            go_wp2_with fail
            refine HBF2.out.mono ?_
            rintro e w5 ⟨rfl, hb5⟩
            have hb6 := below_call hb4 hb5 (Nat.le_refl _)
            clear d0 d1 d2 d3
            go_wp2_with fail
            go_roundw
            case rel => exact ⟨1, by omega, by go_num, HS, hb6⟩
            case measure => simp [intOf]; omega
          · have HS := Lib.hid (HST4.out.trans (if_neg hz))
            have hz2 : (BF != 0) = true := by rw [bne_iff_ne]; exact hz
            clear HST4
            go_wp2_with fail
            refine (key_calls key _ (by unfold maxLen; omega)).mono ?_
            rintro e w1 ⟨rfl, rfl⟩
            rw [HK.out]
            go_wp2_with fail
            go_quiet (fail)
            go_wp2_with fail
            refine (HFD.out _).mono ?_
            rintro e w3 ⟨rfl, hb3⟩
            obtain ⟨d0, d1, d2, d3⟩ := blk4 (HB0.out.below (below_call (below_drewN (Below.refl _ _) _) hb3 (Nat.le_refl _)))
            have hb4 := below_call (below_drewN hbr1 _) hb3 (Nat.le_refl _)
            have HBF2 := Lib.hid (HBF.out w3 (below_call (below_drewN (Below.refl _ _) _) hb3 (Nat.le_refl _)))
            go_wp2_with fail
            refine HBF2.out.mono ?_
            rintro e w5 ⟨rfl, hb5⟩
            have hb6 := below_call hb4 hb5 (Nat.le_refl _)
            clear d0 d1 d2 d3
            go_wp2_with fail
            go_ret
            exact ⟨ret_int HS.out.symm, hb6⟩
      · obtain ⟨q, rfl⟩ : ∃ q, k = q + 1 := ⟨k - 1, by omega⟩
        have hqr : q < bs.length := by omega
        have p0 := below_cell hbr (HCS2.out q hqr 0 (by omega))
        rw [lastB_succ bs q hqr] at HST2
        obtain ⟨y, hy⟩ : ∃ y, bs[q] = y := ⟨_, rfl⟩
        rw [hy] at HST2 p0
        obtain ⟨t, ht⟩ : ∃ t, y.key = t := ⟨_, rfl⟩
        rw [ht] at HST2
        simp only [Nat.add_zero] at p0
        replace p0 : wr.cell? ⟨g, o + q * 4, none⟩ = some (.string t) := by rw [← ht]; exact p0
        have P0 := below_cell (show Below wr.heap.size wr (wr.alloc (.cells #[.string key, .string bef, .int .i64 go, .slice oa m oc] 77)) from (Below.refl _ _).alloc (Nat.le_refl _) _) p0
        have hg : (0 : Int) < (((q + 1 : Nat)) : Int) := by omega
        have hq0 : (0 : Int) ≤ (q : Int) := by omega
        have hqn : (q : Int) < (m2 : Int) := by omega
        clear hy ht
        cases hle : leS key t
        · have HST3 := Lib.hid (HST2.out.trans (if_neg (by rw [hle]; simp)))
          have hle' : (Op.bytesLess key.toList t.toList || key.toList == t.toList) = false := hle
          clear HST2 hle
          by_cases hf : F1 < 0
          · have HS := Lib.hid (HST3.out.trans (if_pos hf))
            clear HST3 HBF
            go_wp2_with fail
            refine (key_calls key _ (by unfold maxLen; omega)).mono ?_
            rintro e w1 ⟨rfl, rfl⟩
            rw [HK.out]
            go_wp2_with fail
            go_quiet (fail)
            go_wp2_with fail
            refine (HFD.out _).mono ?_
            rintro e w3 ⟨rfl, hb3⟩
            go_wp2_with fail
            go_ret
            exact ⟨ret_int HS.out.symm, below_call (below_drewN hbr1 _) hb3 (Nat.le_refl _)⟩
          · have HST4 := Lib.hid (HST3.out.trans (if_neg hf))
            clear HST3
            by_cases hz : BF = 0
            · subst hz
              have HS := Lib.hid (HST4.out.trans (if_pos rfl))
              clear HST4
              go_wp2_with fail
              refine (key_calls key _ (by unfold maxLen; omega)).mono ?_
              rintro e w1 ⟨rfl, rfl⟩
              rw [HK.out]
              go_wp2_with fail
              go_quiet (fail)
              go_wp2_with fail
              refine (HFD.out _).mono ?_
              rintro e w3 ⟨rfl, hb3⟩
              obtain ⟨d0, d1, d2, d3⟩ := blk4 (HB0.out.below (below_call (below_drewN (Below.refl _ _) _) hb3 (Nat.le_refl _)))
              have hb4 := below_call (below_drewN hbr1 _) hb3 (Nat.le_refl _)
              have HBF2 := Lib.hid (HBF.out w3 (below_call (below_drewN (Below.refl _ _) _) hb3 (Nat.le_refl _)))
              go_wp2_with fail
              refine HBF2.out.mono ?_
              rintro e w5 ⟨rfl, hb5⟩
              have hb6 := below_call hb4 hb5 (Nat.le_refl _)
              clear d0 d1 d2 d3
              go_wp2_with fail
              go_roundw
              case rel => exact ⟨q + 1 + 1, by omega, by go_num, HS, hb6⟩
              case measure => simp [intOf]; omega
            · have HS := Lib.hid (HST4.out.trans (if_neg hz))
              have hz2 : (BF != 0) = true := by rw [bne_iff_ne]; exact hz
              clear HST4
              go_wp2_with fail
              refine (key_calls key _ (by unfold maxLen; omega)).mono ?_
              rintro e w1 ⟨rfl, rfl⟩
              rw [HK.out]
              go_wp2_with fail
              go_quiet (fail)
              go_wp2_with fail
              refine (HFD.out _).mono ?_
              rintro e w3 ⟨rfl, hb3⟩
              obtain ⟨d0, d1, d2, d3⟩ := blk4 (HB0.out.below (below_call (below_drewN (Below.refl _ _) _) hb3 (Nat.le_refl _)))
              have hb4 := below_call (below_drewN hbr1 _) hb3 (Nat.le_refl _)
              have HBF2 := Lib.hid (HBF.out w3 (below_call (below_drewN (Below.refl _ _) _) hb3 (Nat.le_refl _)))
              go_wp2_with fail
              refine HBF2.out.mono ?_
              rintro e w5 ⟨rfl, hb5⟩
              have hb6 := below_call hb4 hb5 (Nat.le_refl _)
              clear d0 d1 d2 d3
              go_wp2_with fail
              go_ret
              exact ⟨ret_int HS.out.symm, hb6⟩
        · have HS := Lib.hid (HST2.out.trans (if_pos hle))
          have hle' : (Op.bytesLess key.toList t.toList || key.toList == t.toList) = true := hle
          clear HST2 hle
          go_wp2_with fail
          refine (key_calls key _ (by unfold maxLen; omega)).mono ?_
          rintro e w1 ⟨rfl, rfl⟩
          rw [HK.out]
          go_wp2_with fail
          go_quiet (fail)
          go_wp2_with fail
          go_ret
          exact ⟨ret_int HS.out.symm, below_drewN hbr1 _⟩
    · obtain rfl : k = m2 := by omega
      have HS := Lib.hid (HF.out.trans (by rw [List.drop_of_length_le (by rw [HL.out]; exact Nat.le_refl _)]; rfl : _ = (0 : Int)))
      go_wp2_with fail
      go_ret
      exact ⟨ret_int HS.out.symm, hbr⟩
end Go.Proofs.YthbcogekfdllmaaGreatDoor
