/-
  marathon.CheckSlots and splitref2.SlotsFault by contracts: both answer slotsF. (Printed by gen_slot3.py.)
-/
import Derived.Test.YtejadhehmcifoaaZSlot2
import Derived.Deep.RegionLaw
import Derived.Deep.RegionWith
import Derived.Deep.DrawnRows
namespace Go.Proofs.Ytejadhehmcifoaa
open Go Go.RowKit
attribute [local go_sem ↓] Go.wp_at_zero Go.wp_at_succ

set_option maxRecDepth 100000 in
theorem checkSlots_calls (b : Nat) (A : Option Addr) (n c : Nat) (xs : List Slt) (w : World) (hr : Slts w b A n c xs) (hb : b < w.heap.size) :
    Calls Try.prog 49 #[.slice A n c] w (BRet (.int .i64 (slotsF xs)) w) := by
  obtain ⟨hl, hnc, hcm, hcells⟩ := hr.rd.cells sltC_len (by omega)
  unfold maxLen at hcm
  by_cases hbig : 200 < n
  · have HF := Lib.hid (show slotsF xs = 2 by unfold slotsF; rw [if_pos (by omega)])
    clear hcells hl
    go_enter Try.func49, Try.ntmps49
    go_wp2_with fail
    go_ret
    exact ⟨ret_int HF.out.symm, Below.refl _ _⟩
  have HF := Lib.hid (show slotsF xs = slotsG (xs.take 0) (xs.drop 0) by unfold slotsF; rw [if_neg (by omega)]; rfl)
  have HL := Lib.hid hl
  have HC := Lib.hid hcells
  have HR := Lib.hid hr
  clear hcells hl hr
  go_enter Try.func49, Try.ntmps49
  go_wp2_with fail
  go_loopw [11] (fun i wr => ∃ k : Nat, k ≤ n ∧ i = .int .i64 k ∧ Hid (slotsF xs = slotsG (xs.take k) (xs.drop k)) ∧ Below w.heap.size w wr) (fun i _ => n - (intOf i).toNat)
  case atStart => exact ⟨0, Nat.zero_le _, rfl, HF, Below.refl _ _⟩
  case round =>
    clear HF
    obtain ⟨k, hk, rfl, HF, hbr⟩ := hrel
    by_cases hlt : k < n
    · have hkr : k < xs.length := by rw [HL.out]; exact hlt
      obtain ⟨g, o, hA, _, hcs⟩ := HC.out (by omega)
      subst hA
      have hst := HF.out.trans (slotsG_step xs k hkr)
      have hok := (HR.out.ok _ (List.getElem_mem hkr)).below hbr
      have htk := (HR.out.rd.take sltC_len (by omega) hk).below hbr
      obtain ⟨x, hx⟩ : ∃ x, xs[k] = x := ⟨_, rfl⟩
      have c0 := below_cell hbr (hcs k hkr 0 (by omega))
      have c1 := below_cell hbr (hcs k hkr 1 (by omega))
      have c2 := below_cell hbr (hcs k hkr 2 (by omega))
      have c3 := below_cell hbr (hcs k hkr 3 (by omega))
      have c4 := below_cell hbr (hcs k hkr 4 (by omega))
      rw [hx] at c0 c1 c2 c3 c4 hst hok
      obtain ⟨s, t, ha, hc, hh, s3, s4⟩ := x
      obtain ⟨m, hm⟩ : ∃ m, hh.length = m := ⟨_, rfl⟩
      simp only [Nat.add_zero] at c0
      simp only [hm] at c2
      have hlz := hbr.size
      have hsz : s.size ≤ 1000 := hok.hk
      have htz : t.size ≤ 1000 := hok.hw
      obtain ⟨F1, hF1⟩ : ∃ F, findL (xs.take k) s = F := ⟨_, rfl⟩
      obtain ⟨KS, hKS⟩ : ∃ B, keyB s.data.toList = B := ⟨_, rfl⟩
      obtain ⟨KT, hKT⟩ : ∃ B, keyB t.data.toList = B := ⟨_, rfl⟩
      simp only [hF1, hKS, hKT] at hst
      have HKS := Lib.hid hKS
      have HKT := Lib.hid hKT
      have HST := Lib.hid hst
      have HOK := Lib.hid (show SltOk (wr.alloc (.cells #[.string s, .string t, .slice ha m hc, .int .i64 s3, .int .i64 s4] 59)) b ⟨s, t, ha, hc, hh, s3, s4⟩ from hok.below ((Below.refl _ _).alloc (Nat.le_refl _) _))
      have HA : Hid (∀ W, W = (wr.alloc (.cells #[.string s, .string t, .slice ha m hc, .int .i64 s3, .int .i64 s4] 59)).drew → Calls Try.prog 69 #[.slice (some ⟨g, o, none⟩) k c, .string s] W (BRet (.int .i64 F1) W)) := by
        rintro W rfl
        have := findL_calls b _ k c (xs.take k) s ((wr.alloc (.cells #[.string s, .string t, .slice ha m hc, .int .i64 s3, .int .i64 s4] 59)).drew) ((htk.below ((Below.refl _ _).alloc (Nat.le_refl _) _)).below (below_drewN (Below.refl _ _) 1))
        rw [hF1] at this
        exact this
      have HM := Lib.hid hm
      have hbr1 : Below w.heap.size w (wr.alloc (.cells #[.string s, .string t, .slice ha m hc, .int .i64 s3, .int .i64 s4] 59)) := hbr.alloc hlz _
      have hbr2 := below_drewN hbr1 1
      have B0 : Blk (wr.alloc (.cells #[.string s, .string t, .slice ha m hc, .int .i64 s3, .int .i64 s4] 59)) wr.heap.size 59 #[.string s, .string t, .slice ha m hc, .int .i64 s3, .int .i64 s4] := Blk.new wr _ _
      have b0 := B0.cell 0
      have b1 := B0.cell 1
      clear hcs hst hok htk hx hm hF1 hKS hKT
      cases KS
      · have HS := Lib.hid (HST.out.trans (if_pos (by simp)))
        clear HST
        go_wp2_with fail
        refine (key_calls s _ (by unfold maxLen; omega)).mono ?_
        rintro e w1 ⟨rfl, rfl⟩
        rw [HKS.out]
        go_wp2_with fail
        go_ret
        exact ⟨ret_int HS.out.symm, hbr1⟩
      cases KT
      · have HS := Lib.hid (HST.out.trans (if_pos (by simp)))
        clear HST
        go_wp2_with fail
        refine (key_calls s _ (by unfold maxLen; omega)).mono ?_
        rintro e w1 ⟨rfl, rfl⟩
        rw [HKS.out]
        go_wp2_with fail
        refine (key_calls t _ (by unfold maxLen; omega)).mono ?_
        rintro e w1 ⟨rfl, rfl⟩
        rw [HKT.out]
        go_wp2_with fail
        go_ret
        exact ⟨ret_int HS.out.symm, hbr1⟩
      have HST2 := Lib.hid (HST.out.trans (if_neg (by simp)))
      clear HST
      have hk0 : (0 : Int) ≤ (k : Int) := by omega
      have hkc : (k : Int) ≤ (c : Int) := by omega
      by_cases hF0 : 0 ≤ F1
      · have HS := Lib.hid (HST2.out.trans (if_pos hF0))
        clear HST2
        go_wp2_with fail
        refine (key_calls s _ (by unfold maxLen; omega)).mono ?_
        rintro e w1 ⟨rfl, rfl⟩
        rw [HKS.out]
        go_wp2_with fail
        refine (key_calls t _ (by unfold maxLen; omega)).mono ?_
        rintro e w1 ⟨rfl, rfl⟩
        rw [HKT.out]
        go_wp2_with fail
        go_region_law (first
          | (go_simp; go_at_call 69; ((with_reducible refine (HA.out _ rfl).mono ?_); rintro e w3 ⟨rfl, hb3⟩)))
        have hb4 := below_call hbr2 hb3 (Nat.le_refl _)
        clear b0 b1
        go_wp2_with fail
        go_ret
        exact ⟨ret_int HS.out.symm, hb4⟩
      have HST3 := Lib.hid (HST2.out.trans (if_neg hF0))
      clear HST2
      go_wp2_with fail
      refine (key_calls s _ (by unfold maxLen; omega)).mono ?_
      rintro e w1 ⟨rfl, rfl⟩
      rw [HKS.out]
      go_wp2_with fail
      refine (key_calls t _ (by unfold maxLen; omega)).mono ?_
      rintro e w1 ⟨rfl, rfl⟩
      rw [HKT.out]
      go_wp2_with fail
      go_region_law (first
        | (go_simp; go_at_call 69; ((with_reducible refine (HA.out _ rfl).mono ?_); rintro e w3 ⟨rfl, hb3⟩)))
      have hb4 := below_call hbr2 hb3 (Nat.le_refl _)
      have hz4 := hb4.size
      have B3 : Blk w3 wr.heap.size 59 #[.string s, .string t, .slice ha m hc, .int .i64 s3, .int .i64 s4] := Blk.below (w := (wr.alloc (.cells #[.string s, .string t, .slice ha m hc, .int .i64 s3, .int .i64 s4] 59)).drew) (Blk.new wr _ _) hb3
      have HOK3 := Lib.hid (SltOk.below (w := (wr.alloc (.cells #[.string s, .string t, .slice ha m hc, .int .i64 s3, .int .i64 s4] 59)).drew) (HOK.out.below (below_drewN (Below.refl _ _) 1)) hb3)
      clear B0 b0 b1 HOK
      have d0 := B3.cell 0
      have d1 := B3.cell 1
      have d2 := B3.cell 2
      have d3 := B3.cell 3
      have d4 := B3.cell 4
      have HB := Lib.hid (Nat.lt_of_lt_of_le hb hz4)
      obtain ⟨SF, hSF⟩ : ∃ F, slotF ⟨s, t, ha, hc, hh, s3, s4⟩ = F := ⟨_, rfl⟩
      have hst := HST3.out
      rw [hSF] at hst
      have HCF : Hid (Calls Try.prog 81 #[.agg #[.string s, .string t, .slice ha m hc, .int .i64 s3, .int .i64 s4]] w3 (BRet (.int .i64 SF) w3)) := by
        have := slotFault_calls b ⟨s, t, ha, hc, hh, s3, s4⟩ w3 HOK3.out HB.out
        rw [hSF] at this
        simp only [HM.out] at this
        exact this
      clear HST3 B3 hSF
      by_cases hz : SF = 0
      · rw [if_pos hz] at hst
        have HS := Lib.hid hst
        subst hz
        clear hst
        go_wp2_with fail
        refine HCF.out.mono ?_
        rintro e w5 ⟨rfl, hb5⟩
        have hb6 := below_call hb4 hb5 (Nat.le_refl _)
        clear d0 d1 d2 d3 d4
        go_wp2_with fail
        go_roundw
        case rel => exact ⟨k + 1, by omega, by go_num, HS, hb6⟩
        case measure => simp [intOf]; omega
      · rw [if_neg hz] at hst
        have HS := Lib.hid hst
        have hz' : (SF != 0) = true := by rw [bne_iff_ne]; exact hz
        clear hst
        go_wp2_with fail
        refine HCF.out.mono ?_
        rintro e w5 ⟨rfl, hb5⟩
        have hb6 := below_call hb4 hb5 (Nat.le_refl _)
        clear d0 d1 d2 d3 d4
        go_wp2_with fail
        go_ret
        exact ⟨ret_int HS.out.symm, hb6⟩
    · obtain rfl : k = n := by omega
      have HS := Lib.hid (HF.out.trans (by rw [List.drop_of_length_le (by rw [HL.out]; exact Nat.le_refl _)]; rfl : _ = (0 : Int)))
      go_wp2_with fail
      go_ret
      exact ⟨ret_int HS.out.symm, hbr⟩

set_option maxRecDepth 100000 in
theorem slotsFaultQ_calls (b : Nat) (A : Option Addr) (n c : Nat) (xs : List Slt) (w : World) (hr : Slts w b A n c xs) (_hb : b < w.heap.size) :
    Calls Try.prog 20 #[.slice A n c] w (BRet (.int .i64 (slotsF xs)) w) := by
  obtain ⟨hl, hnc, hcm, hcells⟩ := hr.rd.cells sltC_len (by omega)
  unfold maxLen at hcm
  by_cases hbig : 200 < n
  · have HF := Lib.hid (show slotsF xs = 2 by unfold slotsF; rw [if_pos (by omega)])
    clear hcells hl
    go_enter Try.func20, Try.ntmps20
    go_wp2_with fail
    go_ret
    exact ⟨ret_int HF.out.symm, Below.refl _ _⟩
  have HF := Lib.hid (show slotsF xs = slotsG (xs.take 0) (xs.drop 0) by unfold slotsF; rw [if_neg (by omega)]; rfl)
  have HL := Lib.hid hl
  have HC := Lib.hid hcells
  have HR := Lib.hid hr
  clear hcells hl hr
  go_enter Try.func20, Try.ntmps20
  go_wp2_with fail
  go_loopw [11] (fun i wr => ∃ k : Nat, k ≤ n ∧ i = .int .i64 k ∧ Hid (slotsF xs = slotsG (xs.take k) (xs.drop k)) ∧ Below w.heap.size w wr) (fun i _ => n - (intOf i).toNat)
  case atStart => exact ⟨0, Nat.zero_le _, rfl, HF, Below.refl _ _⟩
  case round =>
    clear HF
    obtain ⟨k, hk, rfl, HF, hbr⟩ := hrel
    by_cases hlt : k < n
    · have hkr : k < xs.length := by rw [HL.out]; exact hlt
      obtain ⟨g, o, hA, _, hcs⟩ := HC.out (by omega)
      subst hA
      have hst := HF.out.trans (slotsG_step xs k hkr)
      have hok := (HR.out.ok _ (List.getElem_mem hkr)).below hbr
      have htk := (HR.out.rd.take sltC_len (by omega) hk).below hbr
      obtain ⟨x, hx⟩ : ∃ x, xs[k] = x := ⟨_, rfl⟩
      have c0 := below_cell hbr (hcs k hkr 0 (by omega))
      have c1 := below_cell hbr (hcs k hkr 1 (by omega))
      have c2 := below_cell hbr (hcs k hkr 2 (by omega))
      have c3 := below_cell hbr (hcs k hkr 3 (by omega))
      have c4 := below_cell hbr (hcs k hkr 4 (by omega))
      rw [hx] at c0 c1 c2 c3 c4 hst hok
      obtain ⟨s, t, ha, hc, hh, s3, s4⟩ := x
      obtain ⟨m, hm⟩ : ∃ m, hh.length = m := ⟨_, rfl⟩
      simp only [Nat.add_zero] at c0
      simp only [hm] at c2
      have hlz := hbr.size
      have hsz : s.size ≤ 1000 := hok.hk
      have htz : t.size ≤ 1000 := hok.hw
      obtain ⟨F1, hF1⟩ : ∃ F, findL (xs.take k) s = F := ⟨_, rfl⟩
      obtain ⟨KS, hKS⟩ : ∃ B, keyB s.data.toList = B := ⟨_, rfl⟩
      obtain ⟨KT, hKT⟩ : ∃ B, keyB t.data.toList = B := ⟨_, rfl⟩
      simp only [hF1, hKS, hKT] at hst
      have HKS := Lib.hid hKS
      have HKT := Lib.hid hKT
      have HST := Lib.hid hst
      have HOK := Lib.hid (show SltOk (wr.alloc (.cells #[.string s, .string t, .slice ha m hc, .int .i64 s3, .int .i64 s4] 59)) b ⟨s, t, ha, hc, hh, s3, s4⟩ from hok.below ((Below.refl _ _).alloc (Nat.le_refl _) _))
      have HA : Hid (∀ W, W = (wr.alloc (.cells #[.string s, .string t, .slice ha m hc, .int .i64 s3, .int .i64 s4] 59)).drew → Calls Try.prog 62 #[.slice (some ⟨g, o, none⟩) k c, .string s] W (BRet (.int .i64 F1) W)) := by
        rintro W rfl
        have := findLQ_calls b _ k c (xs.take k) s ((wr.alloc (.cells #[.string s, .string t, .slice ha m hc, .int .i64 s3, .int .i64 s4] 59)).drew) ((htk.below ((Below.refl _ _).alloc (Nat.le_refl _) _)).below (below_drewN (Below.refl _ _) 1))
        rw [hF1] at this
        exact this
      have HM := Lib.hid hm
      have hbr1 : Below w.heap.size w (wr.alloc (.cells #[.string s, .string t, .slice ha m hc, .int .i64 s3, .int .i64 s4] 59)) := hbr.alloc hlz _
      have hbr2 := below_drewN hbr1 1
      have B0 : Blk (wr.alloc (.cells #[.string s, .string t, .slice ha m hc, .int .i64 s3, .int .i64 s4] 59)) wr.heap.size 59 #[.string s, .string t, .slice ha m hc, .int .i64 s3, .int .i64 s4] := Blk.new wr _ _
      have b0 := B0.cell 0
      have b1 := B0.cell 1
      clear hcs hst hok htk hx hm hF1 hKS hKT
      cases KS
      · have HS := Lib.hid (HST.out.trans (if_pos (by simp)))
        clear HST
        go_wp2_with fail
        refine (keyQ_calls s _ (by unfold maxLen; omega)).mono ?_
        rintro e w1 ⟨rfl, rfl⟩
        rw [HKS.out]
        go_wp2_with fail
        go_ret
        exact ⟨ret_int HS.out.symm, hbr1⟩
      cases KT
      · have HS := Lib.hid (HST.out.trans (if_pos (by simp)))
        clear HST
        go_wp2_with fail
        refine (keyQ_calls s _ (by unfold maxLen; omega)).mono ?_
        rintro e w1 ⟨rfl, rfl⟩
        rw [HKS.out]
        go_wp2_with fail
        refine (keyQ_calls t _ (by unfold maxLen; omega)).mono ?_
        rintro e w1 ⟨rfl, rfl⟩
        rw [HKT.out]
        go_wp2_with fail
        go_ret
        exact ⟨ret_int HS.out.symm, hbr1⟩
      have HST2 := Lib.hid (HST.out.trans (if_neg (by simp)))
      clear HST
      have hk0 : (0 : Int) ≤ (k : Int) := by omega
      have hkc : (k : Int) ≤ (c : Int) := by omega
      by_cases hF0 : 0 ≤ F1
      · have HS := Lib.hid (HST2.out.trans (if_pos hF0))
        clear HST2
        go_wp2_with fail
        refine (keyQ_calls s _ (by unfold maxLen; omega)).mono ?_
        rintro e w1 ⟨rfl, rfl⟩
        rw [HKS.out]
        go_wp2_with fail
        refine (keyQ_calls t _ (by unfold maxLen; omega)).mono ?_
        rintro e w1 ⟨rfl, rfl⟩
        rw [HKT.out]
        go_wp2_with fail
        go_region_law (first
          | (go_simp; go_at_call 62; ((with_reducible refine (HA.out _ rfl).mono ?_); rintro e w3 ⟨rfl, hb3⟩)))
        have hb4 := below_call hbr2 hb3 (Nat.le_refl _)
        clear b0 b1
        go_wp2_with fail
        go_ret
        exact ⟨ret_int HS.out.symm, hb4⟩
      have HST3 := Lib.hid (HST2.out.trans (if_neg hF0))
      clear HST2
      go_wp2_with fail
      refine (keyQ_calls s _ (by unfold maxLen; omega)).mono ?_
      rintro e w1 ⟨rfl, rfl⟩
      rw [HKS.out]
      go_wp2_with fail
      refine (keyQ_calls t _ (by unfold maxLen; omega)).mono ?_
      rintro e w1 ⟨rfl, rfl⟩
      rw [HKT.out]
      go_wp2_with fail
      go_region_law (first
        | (go_simp; go_at_call 62; ((with_reducible refine (HA.out _ rfl).mono ?_); rintro e w3 ⟨rfl, hb3⟩)))
      have hb4 := below_call hbr2 hb3 (Nat.le_refl _)
      have hz4 := hb4.size
      have B3 : Blk w3 wr.heap.size 59 #[.string s, .string t, .slice ha m hc, .int .i64 s3, .int .i64 s4] := Blk.below (w := (wr.alloc (.cells #[.string s, .string t, .slice ha m hc, .int .i64 s3, .int .i64 s4] 59)).drew) (Blk.new wr _ _) hb3
      have HOK3 := Lib.hid (SltOk.below (w := (wr.alloc (.cells #[.string s, .string t, .slice ha m hc, .int .i64 s3, .int .i64 s4] 59)).drew) (HOK.out.below (below_drewN (Below.refl _ _) 1)) hb3)
      clear B0 b0 b1 HOK
      have d1 := B3.cell 1
      have d2 := B3.cell 2
      have d3 := B3.cell 3
      have d4 := B3.cell 4
      have hst := HST3.out
      have hrh := HOK3.out.rd
      have hhh := HOK3.out.hh
      have hhn := HOK3.out.hn
      have hsl : slotF ⟨s, t, ha, hc, hh, s3, s4⟩ = (if 10 < m then 2 else if riseF hh = 0 then if memS hh t = true then 6 else if (outB s3 0 86400000 || outB s4 1 86400000) = true then 1 else 0 else riseF hh) := by
        rw [← HM.out]; rfl
      obtain ⟨SF, hSF⟩ : ∃ F, slotF ⟨s, t, ha, hc, hh, s3, s4⟩ = F := ⟨_, rfl⟩
      rw [hSF] at hst hsl
      simp only [HM.out] at hrh hhn
      have hmc := (strs_cells hrh).2
      obtain ⟨hm1, hm2, _⟩ := hmc
      unfold maxLen at hm2
      have HRH := Lib.hid hrh
      have HHH := Lib.hid hhh
      obtain ⟨E, hE⟩ : ∃ E, riseF hh = E := ⟨_, rfl⟩
      obtain ⟨M, hM⟩ : ∃ M, memS hh t = M := ⟨_, rfl⟩
      obtain ⟨O1, hO1⟩ : ∃ M, outB s3 0 86400000 = M := ⟨_, rfl⟩
      obtain ⟨O2, hO2⟩ : ∃ M, outB s4 1 86400000 = M := ⟨_, rfl⟩
      rw [hE, hM, hO1, hO2] at hsl
      have HE := Lib.hid hE
      have HMM := Lib.hid hM
      have HO1 := Lib.hid hO1
      have HO2 := Lib.hid hO2
      have HSL := Lib.hid hsl
      have HST4 := Lib.hid hst
      clear HST3 hSF hsl hst hE hM hO1 hO2 hrh hhh HOK3
      by_cases hbig : 10 < m
      · have hS := HSL.out.trans (if_pos hbig)
        have HS := Lib.hid (HST4.out.trans (if_neg (by omega)) |>.trans hS)
        clear hS HSL HST4
        go_wp2_with fail
        go_ret
        exact ⟨ret_int HS.out.symm, hb4⟩
      have HSL1 := Lib.hid (HSL.out.trans (if_neg hbig))
      clear HSL
      by_cases hz : E = 0
      · have HSL2 := Lib.hid (HSL1.out.trans (if_pos hz))
        subst hz
        clear HSL1
        go_wp2_with fail
        refine (risingQ_calls b ha m hc hh _ HRH.out HHH.out).mono ?_
        rintro e w1 ⟨rfl, nq, rfl⟩
        rw [HE.out]
        have e1 : (w3.drewN nq).cell? ⟨wr.heap.size, 1, none⟩ = some (.string t) := d1
        have e2 : (w3.drewN nq).cell? ⟨wr.heap.size, 2, none⟩ = some (.slice ha m hc) := d2
        have hbq := fun n => below_drewN hb4 n
        clear d1 d2
        go_wp2_with fail
        refine (containsS_calls b ha m hc hh t _ (HRH.out.below (below_drewN (Below.refl _ _) _))).mono ?_
        rintro e w2 ⟨rfl, nq2, rfl⟩
        rw [HMM.out]
        have e3 : (w3.drewN (nq + nq2)).cell? ⟨wr.heap.size, 3, none⟩ = some (.int .i64 s3) := d3
        have e4 : (w3.drewN (nq + nq2)).cell? ⟨wr.heap.size, 4, none⟩ = some (.int .i64 s4) := d4
        clear e1 e2 d3 d4
        cases M
        · have HSL3 := Lib.hid (HSL2.out.trans (if_neg (by simp)))
          clear HSL2
          go_wp2_with fail
          refine (in_calls _ _ _ _).mono ?_
          rintro e w6 ⟨rfl, rfl⟩
          rw [HO1.out]
          cases O1
          · go_wp2_with fail
            refine (in_calls _ _ _ _).mono ?_
            rintro e w6 ⟨rfl, rfl⟩
            rw [HO2.out]
            cases O2
            · have hz2 : SF = 0 := HSL3.out.trans (if_neg (by simp))
              have HS := Lib.hid (HST4.out.trans (if_pos hz2))
              clear HSL3 HST4 hz2
              go_wp2_with fail
              go_roundw
              case rel => exact ⟨k + 1, by omega, by go_num, HS, hbq _⟩
              case measure => simp [intOf]; omega
            · have hz2 : SF = 1 := HSL3.out.trans (if_pos (by simp))
              have HS := Lib.hid ((HST4.out.trans (if_neg (by omega))).trans hz2)
              clear HSL3 HST4 hz2
              go_wp2_with fail
              go_ret
              exact ⟨ret_int HS.out.symm, hbq _⟩
          · have hz2 : SF = 1 := HSL3.out.trans (if_pos (by simp))
            have HS := Lib.hid ((HST4.out.trans (if_neg (by omega))).trans hz2)
            clear HSL3 HST4 hz2
            go_wp2_with fail
            go_ret
            exact ⟨ret_int HS.out.symm, hbq _⟩
        · have hz2 : SF = 6 := HSL2.out.trans (if_pos rfl)
          have HS := Lib.hid ((HST4.out.trans (if_neg (by omega))).trans hz2)
          clear HSL2 HST4 hz2
          go_wp2_with fail
          go_ret
          exact ⟨ret_int HS.out.symm, hbq _⟩
      · have hz2 : SF = E := HSL1.out.trans (if_neg hz)
        have HS := Lib.hid ((HST4.out.trans (if_neg (by omega))).trans hz2)
        have hz' : (E != 0) = true := by rw [bne_iff_ne]; exact hz
        clear HSL1 HST4 hz2
        go_wp2_with fail
        refine (risingQ_calls b ha m hc hh _ HRH.out HHH.out).mono ?_
        rintro e w1 ⟨rfl, nq, rfl⟩
        rw [HE.out]
        have hbq := below_drewN hb4 nq
        clear d1 d2 d3 d4
        go_wp2_with fail
        go_ret
        exact ⟨ret_int HS.out.symm, hbq⟩
    · obtain rfl : k = n := by omega
      have HS := Lib.hid (HF.out.trans (by rw [List.drop_of_length_le (by rw [HL.out]; exact Nat.le_refl _)]; rfl : _ = (0 : Int)))
      go_wp2_with fail
      go_ret
      exact ⟨ret_int HS.out.symm, hbr⟩
end Go.Proofs.Ytejadhehmcifoaa
