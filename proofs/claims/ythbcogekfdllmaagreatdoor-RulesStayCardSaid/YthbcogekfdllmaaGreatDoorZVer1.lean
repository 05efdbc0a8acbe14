/-
  What is wrong with versions: rule.CheckVersions and splitref2.VersionsFault by contracts. (Printed by gen_ver1.py.)
-/
import Derived.Test.YthbcogekfdllmaaGreatDoorZHld3
import Derived.Test.YthbcogekfdllmaaGreatDoorZRule2
import Derived.Test.YthbcogekfdllmaaGreatDoorZRule6
namespace Go.Proofs.YthbcogekfdllmaaGreatDoor
open Go Go.RowKit TxtP

set_option maxRecDepth 100000 in
set_option maxHeartbeats 8000000 in
theorem checkVersions_calls (b : Nat) (A : Option Addr) (n c : Nat) (vs : List Vr) (w : World) (hr : Vrs w b A n c vs) :
    Calls Tryz.prog 93 #[.slice A n c] w (BRet (.int .i64 (versF vs)) w) := by
  obtain ⟨hl, hnc, hcm, hcells⟩ := hr.rd.cells vrC_len (by omega)
  unfold maxLen at hcm
  by_cases hbig : 200 < n
  · have HF := Lib.hid (show versF vs = 2 by unfold versF; rw [if_pos (by omega)])
    clear hcells hl
    go_enter Tryz.func93, Tryz.ntmps93
    go_wp2_with fail
    go_ret
    exact ⟨ret_int HF.out.symm, Below.refl _ _⟩
  have HF := Lib.hid (show versF vs = versG (lastV vs 0) (vs.drop 0) by unfold versF; rw [if_neg (by omega)]; rfl)
  have HL := Lib.hid hl
  have HC := Lib.hid hcells
  have HR := Lib.hid hr
  clear hcells hl hr
  go_enter Tryz.func93, Tryz.ntmps93
  go_wp2_with fail
  go_loopw [14] (fun i wr => ∃ k : Nat, k ≤ n ∧ i = .int .i64 k ∧ Hid (versF vs = versG (lastV vs k) (vs.drop k)) ∧ Below w.heap.size w wr) (fun i _ => n - (intOf i).toNat)
  case atStart => exact ⟨0, Nat.zero_le _, rfl, HF, Below.refl _ _⟩
  case round =>
    clear HF
    obtain ⟨k, hk, rfl, HG, hbr⟩ := hrel
    by_cases hlt : k < n
    · have hkr : k < vs.length := by rw [HL.out]; exact hlt
      obtain ⟨g, o, hA, _, hcs⟩ := HC.out (by omega)
      subst hA
      have hst := HG.out.trans (versG_step vs k hkr)
      have hok := HR.out.ok _ (List.getElem_mem hkr)
      have HCS := Lib.hid (fun j (hj : j < vs.length) i (hi : i < 3) => hcs j hj i hi)
      have c0 := below_cell hbr (hcs k hkr 0 (by omega))
      have c1 := below_cell hbr (hcs k hkr 1 (by omega))
      have c2 := below_cell hbr (hcs k hkr 2 (by omega))
      have HX : Hid (∀ h : k < vs.length, vs[k] = vs[k]) := Lib.hid (fun _ => rfl)
      obtain ⟨x, hx⟩ : ∃ x, vs[k] = x := ⟨_, rfl⟩
      rw [hx] at c0 c1 c2 hst hok
      obtain ⟨vc, vf, vr⟩ := x
      obtain ⟨hok1, hok2⟩ := hok
      simp only at hok1 hok2
      replace c0 : wr.cell? ⟨g, o + k * 3, none⟩ = some (.string vc) := c0
      replace c1 : wr.cell? ⟨g, o + k * 3 + 1, none⟩ = some (.int .i64 vf) := c1
      replace c2 : wr.cell? ⟨g, o + k * 3 + 2, none⟩ = some (.string vr) := c2
      have hA := (Sq.start wr).add #[.string vc, .int .i64 vf, .string vr] 106
      obtain ⟨WA, hWA⟩ : ∃ WA, WA = wr.alloc (.cells #[.string vc, .int .i64 vf, .string vr] 106) := ⟨_, rfl⟩
      obtain ⟨H, hH⟩ : ∃ H, H = wr.heap.size := ⟨_, rfl⟩
      rw [← hWA, ← hH] at hA
      have HWA := Lib.hid hWA
      have HH := Lib.hid hH
      have HKY := Lib.hid (fun W => key_calls vc W (by unfold maxLen; omega))
      have HMO := Lib.hid (fun W => moment_calls vf W)
      have HCK := Lib.hid (fun W => check_calls numF numF_c vr W (by omega))
      obtain ⟨KB, hKB⟩ : ∃ z, keyB vc.data.toList = z := ⟨_, rfl⟩
      obtain ⟨MB, hMB⟩ : ∃ z, momB vf = z := ⟨_, rfl⟩
      obtain ⟨q1, hq1⟩ : ∃ z, (parseE numF vr).1 = z := ⟨_, rfl⟩
      obtain ⟨q2, hq2⟩ : ∃ z, (parseE numF vr).2 = z := ⟨_, rfl⟩
      obtain ⟨VE, hVE⟩ : ∃ z, rulV vr = z := ⟨_, rfl⟩
      have hRE : isE vr = true → VE = 0 := fun h => by rw [← hVE]; unfold rulV; rw [if_pos h]
      have hRN : isE vr = false → VE = q2 := fun h => by rw [← hVE, ← hq2]; unfold rulV; rw [h, if_neg (by decide)]
      rw [hKB] at HKY
      rw [hMB] at HMO
      rw [hq1, hq2] at HCK
      simp only at hst
      rw [hKB, hMB, hVE] at hst
      have hk0 : (0 : Int) ≤ (k : Int) := by omega
      have hkn : (k : Int) < (n : Int) := by omega
      have hz0 : ∀ {W l}, Sq wr W (rBlk H 106 #[.string vc, .int .i64 vf, .string vr] :: l) → W.cell? ⟨H, 0, none⟩ = some (.string vc) ∧ W.cell? ⟨H, 1, none⟩ = some (.int .i64 vf) ∧ W.cell? ⟨H, 2, none⟩ = some (.string vr) := fun h => by
        have hk : Blk _ H _ _ := h.head
        exact ⟨hk.cell 0, hk.cell 1, hk.cell 2⟩
      have HZ : Hid (∀ {W l}, Sq wr W (rBlk H 106 #[.string vc, .int .i64 vf, .string vr] :: l) → W.cell? ⟨H, 0, none⟩ = some (.string vc) ∧ W.cell? ⟨H, 1, none⟩ = some (.int .i64 vf) ∧ W.cell? ⟨H, 2, none⟩ = some (.string vr)) := Lib.hid hz0
      have HBR := Lib.hid hbr
      clear hcs hWA hH hKB hMB hq1 hq2 hVE hz0 HX hok1 hok2 hbr
      go_upto_region 6 with (fail)
      rw [← HWA.out, ← HH.out]
      clear c0 c1 c2
      obtain ⟨z0, z1, z2⟩ := HZ.out hA
      cases KB
      · have HST := Lib.hid (hst.trans (if_neg (by decide)))
        clear hst HMO HCK
        go_wp2_with (first | (go_at_call 94; refine (HKY.out _).mono ?_; rintro e w1 ⟨rfl, rfl⟩))
        go_ret
        exact ⟨ret_int HST.out.symm, below_call HBR.out hA.below (Nat.le_refl _)⟩
      replace hst := hst.trans (if_pos rfl)
      cases MB
      · have HST := Lib.hid (hst.trans (if_neg (by decide)))
        clear hst HCK
        go_wp2_with (first | (go_at_call 94; refine (HKY.out _).mono ?_; rintro e w1 ⟨rfl, rfl⟩) | (go_at_call 110; refine (HMO.out _).mono ?_; rintro e w2 ⟨rfl, rfl⟩))
        go_ret
        exact ⟨ret_int HST.out.symm, below_call HBR.out hA.below (Nat.le_refl _)⟩
      replace hst := hst.trans (if_pos rfl)
      by_cases hVE0 : VE = 0
      case neg =>
        have HST := Lib.hid (hst.trans (if_neg hVE0))
        have hre : isE vr = false := by
          cases h : isE vr
          · rfl
          · exact absurd (hRE h) hVE0
        have hqe := hRN hre
        subst hqe
        replace hre : vr.toList.isEmpty = false := hre
        have hne : (VE != 0) = true := by rw [bne_iff_ne]; exact hVE0
        clear hst hRE hRN
        have HB := Lib.hid hA.below
        have HC1 := Lib.hid (HCK.out WA)
        clear hA
        go_wp2_with (first | (go_at_call 94; refine (HKY.out _).mono ?_; rintro e w1 ⟨rfl, rfl⟩) | (go_at_call 110; refine (HMO.out _).mono ?_; rintro e w2 ⟨rfl, rfl⟩) | (go_at_call 149; refine HC1.out.mono ?_; rintro e w3 ⟨rfl, hb3⟩))
        go_ret
        exact ⟨ret_int HST.out.symm, below_call HBR.out (below_call HB.out hb3 (Nat.le_refl _)) (Nat.le_refl _)⟩
      replace hst := hst.trans (if_pos hVE0)
      subst hVE0
      have HC1 := Lib.hid (HCK.out WA)
      clear HCK hRE
      cases hre : isE vr
      · obtain rfl : 0 = q2 := hRN hre
        have hre2 := (isE_beq vr).trans hre
        replace hre : vr.toList.isEmpty = false := hre
        clear hRN
        go_upto_region 14 with (first | (go_at_call 94; refine (HKY.out _).mono ?_; rintro e w1 ⟨rfl, rfl⟩) | (go_at_call 110; refine (HMO.out _).mono ?_; rintro e w2 ⟨rfl, rfl⟩) | (go_at_call 149; refine HC1.out.mono ?_; rintro e w3 ⟨rfl, hb3⟩; have hA3 := hA.callB hb3; obtain ⟨z0, z1, z2⟩ := HZ.out hA3))
        clear hb3 hA
        have hB := hA3.add #[.string ⟨#[]⟩, .int .i64 0, .string ⟨#[]⟩] 106
        have HCU := Lib.hid hA3
        clear hA3
        cases k with
        | zero =>
          replace hst := hst.trans (if_neg Bool.false_ne_true)
          have HST := Lib.hid (hst.trans (if_neg (by show ¬ (vr.toList == (⟨#[]⟩ : ByteArray).toList) = true; rw [hre2]; decide)))
          have HBF := Lib.hid (below_call HBR.out hB.below (Nat.le_refl _))
          have hz := hB.front 1 rfl rfl
          obtain ⟨z0, z1, z2⟩ := HZ.out hz
          have yb : Blk _ _ _ _ := hB.head
          have y2 := yb.cell 2
          clear hst hz hB yb
          go_wp2_with fail
          try (go_quiet (fail); go_wp2_with fail)
          go_roundw
          case rel => exact ⟨1, by omega, by go_num, HST, HBF.out⟩
          case measure => simp [intOf]; omega
        | succ j =>
          have hjr : j < vs.length := by omega
          have p0 := HCS.out j hjr 0 (by omega)
          have p1 := HCS.out j hjr 1 (by omega)
          have p2 := HCS.out j hjr 2 (by omega)
          have hla : lastV vs (j + 1) = some vs[j] := by simp [lastV, hjr]
          rw [hla] at hst
          obtain ⟨y, hy⟩ : ∃ y, vs[j] = y := ⟨_, rfl⟩
          rw [hy] at hst p0 p1 p2
          obtain ⟨oc, of_, or_⟩ := y
          replace p0 : w.cell? ⟨g, o + j * 3, none⟩ = some (.string oc) := p0
          replace p1 : w.cell? ⟨g, o + j * 3 + 1, none⟩ = some (.int .i64 of_) := p1
          replace p2 : w.cell? ⟨g, o + j * 3 + 2, none⟩ = some (.string or_) := p2
          have hB2 := hB.add #[.string oc, .int .i64 of_, .string or_] 106
          simp only [size1] at hB2
          replace p0 := below_cell hB.below (below_cell HBR.out p0)
          replace p1 := below_cell hB.below (below_cell HBR.out p1)
          replace p2 := below_cell hB.below (below_cell HBR.out p2)
          have HBF := Lib.hid (below_call HBR.out hB2.below (Nat.le_refl _))
          have hob : Blk _ _ _ _ := hB2.head
          have x0 := hob.cell 0
          have x1 := hob.cell 1
          have x2 := hob.cell 2
          have hyb : Blk _ _ _ _ := hB2.nth 1 rfl
          have y0 := hyb.cell 0
          have y1 := hyb.cell 1
          have y2 := hyb.cell 2
          have f0 := hyb.frozen 0
          have f1 := hyb.frozen 1
          have f2 := hyb.frozen 2
          obtain ⟨z0, z1, z2⟩ := HZ.out (hB2.front 2 rfl rfl)
          have hg : (0 : Int) < (((j + 1 : Nat)) : Int) := by omega
          have hj0 : (0 : Int) ≤ (j : Int) := by omega
          have hjn : (j : Int) < (n : Int) := by omega
          have hj1 : ((j : Int) + 1) - 1 = (j : Int) := by omega
          have hEQ2 : (oc.toList == vc.toList) = (vc.toList == oc.toList) := Bool.beq_comm
          clear hla hy hob hyb
          replace hst : versF vs = if (Op.bytesLess vc.toList oc.toList || (vc.toList == oc.toList && decide (vf ≤ of_))) = true then 7 else if (vr.toList == (if (vc.toList == oc.toList) = true then or_ else (⟨#[]⟩ : ByteArray)).toList) = true then 3 else versG (lastV vs (j + 1 + 1)) (vs.drop (j + 1 + 1)) := hst
          rcases bl_tri vc oc with ⟨hLT, hEQ, hGT⟩ | hno
          case inr =>
            rcases hno with ⟨hLT, hEQ, hGT⟩ | ⟨hLT, hEQ, hGT⟩
            case inr =>
              rw [hLT, hEQ] at hst
              rw [hEQ] at hEQ2
              have HST := Lib.hid ((hst.trans (if_neg (by simp))).trans (if_neg (by show ¬ (vr.toList == (⟨#[]⟩ : ByteArray).toList) = true; rw [hre2]; decide)))
              clear hst hB hB2
              go_wp2_with fail
              try (go_quiet (fail); go_wp2_with fail)
              go_roundw
              case rel => exact ⟨j + 1 + 1, by omega, by go_num, HST, HBF.out⟩
              case measure => simp [intOf]; omega
            case inl =>
              rw [hLT, hEQ] at hst
              rw [hEQ] at hEQ2
              by_cases hle : vf ≤ of_
              · have HST := Lib.hid (hst.trans (if_pos (by simp [hle])))
                clear hst hB hB2
                go_wp2_with fail
                go_ret
                exact ⟨ret_int HST.out.symm, HBF.out⟩
              · replace hst := (hst.trans (if_neg (by simp [hle])))
                replace hle : of_ < vf := by omega
                replace hst : versF vs = if (vr.toList == or_.toList) = true then 3 else versG (lastV vs (j + 1 + 1)) (vs.drop (j + 1 + 1)) := hst
                have hB3 := (HCU.out.add #[.string oc, .int .i64 of_, .string or_] 106).add #[.string oc, .int .i64 of_, .string or_] 106
                simp only [size1] at hB3
                have HBF := Lib.hid (below_call HBR.out hB3.below (Nat.le_refl _))
                go_upto_region 21 with (fail)
                clear z0 z1 z2 y0 y1 y2 x0 x1 x2 f0 f1 f2
                obtain ⟨z0, z1, z2⟩ := HZ.out (hB3.front 2 rfl rfl)
                have hyb : Blk _ _ _ _ := hB3.nth 1 rfl
                have y2 := hyb.cell 2
                clear hyb hB3
                obtain ⟨RE, hRE⟩ : ∃ z, (vr.toList == or_.toList) = z := ⟨_, rfl⟩
                rw [hRE] at hst
                clear hB hB2
                cases RE
                · have HST := Lib.hid (hst.trans (if_neg (by decide)))
                  clear hst
                  go_wp2_with fail
                  try (go_quiet (fail); go_wp2_with fail)
                  go_roundw
                  case rel => exact ⟨j + 1 + 1, by omega, by go_num, HST, HBF.out⟩
                  case measure => simp [intOf]; omega
                · have HST := Lib.hid (hst.trans (if_pos rfl))
                  clear hst
                  go_wp2_with fail
                  go_ret
                  exact ⟨ret_int HST.out.symm, HBF.out⟩
          case inl =>
            rw [hLT, hEQ] at hst
            rw [hEQ] at hEQ2
            have HST := Lib.hid (hst.trans (if_pos (by simp)))
            clear hst hB hB2
            go_wp2_with fail
            go_ret
            exact ⟨ret_int HST.out.symm, HBF.out⟩
      · have hre2 := (isE_beq vr).trans hre
        replace hre : vr.toList.isEmpty = true := hre
        clear hRN
        go_upto_region 14 with (first | (go_at_call 94; refine (HKY.out _).mono ?_; rintro e w1 ⟨rfl, rfl⟩) | (go_at_call 110; refine (HMO.out _).mono ?_; rintro e w2 ⟨rfl, rfl⟩))
        have hB := hA.add #[.string ⟨#[]⟩, .int .i64 0, .string ⟨#[]⟩] 106
        have HCU := Lib.hid hA
        clear hA
        cases k with
        | zero =>
          replace hst := hst.trans (if_neg Bool.false_ne_true)
          have HST := Lib.hid (hst.trans (if_pos (by show (vr.toList == (⟨#[]⟩ : ByteArray).toList) = true; rw [hre2])))
          have HBF := Lib.hid (below_call HBR.out hB.below (Nat.le_refl _))
          have hz := hB.front 1 rfl rfl
          obtain ⟨z0, z1, z2⟩ := HZ.out hz
          have yb : Blk _ _ _ _ := hB.head
          have y2 := yb.cell 2
          clear hst hz hB yb
          go_wp2_with fail
          go_ret
          exact ⟨ret_int HST.out.symm, HBF.out⟩
        | succ j =>
          have hjr : j < vs.length := by omega
          have p0 := HCS.out j hjr 0 (by omega)
          have p1 := HCS.out j hjr 1 (by omega)
          have p2 := HCS.out j hjr 2 (by omega)
          have hla : lastV vs (j + 1) = some vs[j] := by simp [lastV, hjr]
          rw [hla] at hst
          obtain ⟨y, hy⟩ : ∃ y, vs[j] = y := ⟨_, rfl⟩
          rw [hy] at hst p0 p1 p2
          obtain ⟨oc, of_, or_⟩ := y
          replace p0 : w.cell? ⟨g, o + j * 3, none⟩ = some (.string oc) := p0
          replace p1 : w.cell? ⟨g, o + j * 3 + 1, none⟩ = some (.int .i64 of_) := p1
          replace p2 : w.cell? ⟨g, o + j * 3 + 2, none⟩ = some (.string or_) := p2
          have hB2 := hB.add #[.string oc, .int .i64 of_, .string or_] 106
          simp only [size1] at hB2
          replace p0 := below_cell hB.below (below_cell HBR.out p0)
          replace p1 := below_cell hB.below (below_cell HBR.out p1)
          replace p2 := below_cell hB.below (below_cell HBR.out p2)
          have HBF := Lib.hid (below_call HBR.out hB2.below (Nat.le_refl _))
          have hob : Blk _ _ _ _ := hB2.head
          have x0 := hob.cell 0
          have x1 := hob.cell 1
          have x2 := hob.cell 2
          have hyb : Blk _ _ _ _ := hB2.nth 1 rfl
          have y0 := hyb.cell 0
          have y1 := hyb.cell 1
          have y2 := hyb.cell 2
          have f0 := hyb.frozen 0
          have f1 := hyb.frozen 1
          have f2 := hyb.frozen 2
          obtain ⟨z0, z1, z2⟩ := HZ.out (hB2.front 2 rfl rfl)
          have hg : (0 : Int) < (((j + 1 : Nat)) : Int) := by omega
          have hj0 : (0 : Int) ≤ (j : Int) := by omega
          have hjn : (j : Int) < (n : Int) := by omega
          have hj1 : ((j : Int) + 1) - 1 = (j : Int) := by omega
          have hEQ2 : (oc.toList == vc.toList) = (vc.toList == oc.toList) := Bool.beq_comm
          clear hla hy hob hyb
          replace hst : versF vs = if (Op.bytesLess vc.toList oc.toList || (vc.toList == oc.toList && decide (vf ≤ of_))) = true then 7 else if (vr.toList == (if (vc.toList == oc.toList) = true then or_ else (⟨#[]⟩ : ByteArray)).toList) = true then 3 else versG (lastV vs (j + 1 + 1)) (vs.drop (j + 1 + 1)) := hst
          rcases bl_tri vc oc with ⟨hLT, hEQ, hGT⟩ | hno
          case inr =>
            rcases hno with ⟨hLT, hEQ, hGT⟩ | ⟨hLT, hEQ, hGT⟩
            case inr =>
              rw [hLT, hEQ] at hst
              rw [hEQ] at hEQ2
              have HST := Lib.hid ((hst.trans (if_neg (by simp))).trans (if_pos (by show (vr.toList == (⟨#[]⟩ : ByteArray).toList) = true; rw [hre2])))
              clear hst hB hB2
              go_wp2_with fail
              go_ret
              exact ⟨ret_int HST.out.symm, HBF.out⟩
            case inl =>
              rw [hLT, hEQ] at hst
              rw [hEQ] at hEQ2
              by_cases hle : vf ≤ of_
              · have HST := Lib.hid (hst.trans (if_pos (by simp [hle])))
                clear hst hB hB2
                go_wp2_with fail
                go_ret
                exact ⟨ret_int HST.out.symm, HBF.out⟩
              · replace hst := (hst.trans (if_neg (by simp [hle])))
                replace hle : of_ < vf := by omega
                replace hst : versF vs = if (vr.toList == or_.toList) = true then 3 else versG (lastV vs (j + 1 + 1)) (vs.drop (j + 1 + 1)) := hst
                have hB3 := (HCU.out.add #[.string oc, .int .i64 of_, .string or_] 106).add #[.string oc, .int .i64 of_, .string or_] 106
                simp only [size1] at hB3
                have HBF := Lib.hid (below_call HBR.out hB3.below (Nat.le_refl _))
                go_upto_region 21 with (fail)
                clear z0 z1 z2 y0 y1 y2 x0 x1 x2 f0 f1 f2
                obtain ⟨z0, z1, z2⟩ := HZ.out (hB3.front 2 rfl rfl)
                have hyb : Blk _ _ _ _ := hB3.nth 1 rfl
                have y2 := hyb.cell 2
                clear hyb hB3
                obtain ⟨RE, hRE⟩ : ∃ z, (vr.toList == or_.toList) = z := ⟨_, rfl⟩
                rw [hRE] at hst
                clear hB hB2
                cases RE
                · have HST := Lib.hid (hst.trans (if_neg (by decide)))
                  clear hst
                  go_wp2_with fail
                  try (go_quiet (fail); go_wp2_with fail)
                  go_roundw
                  case rel => exact ⟨j + 1 + 1, by omega, by go_num, HST, HBF.out⟩
                  case measure => simp [intOf]; omega
                · have HST := Lib.hid (hst.trans (if_pos rfl))
                  clear hst
                  go_wp2_with fail
                  go_ret
                  exact ⟨ret_int HST.out.symm, HBF.out⟩
          case inl =>
            rw [hLT, hEQ] at hst
            rw [hEQ] at hEQ2
            have HST := Lib.hid (hst.trans (if_pos (by simp)))
            clear hst hB hB2
            go_wp2_with fail
            go_ret
            exact ⟨ret_int HST.out.symm, HBF.out⟩
    · obtain rfl : k = n := by omega
      have HS := Lib.hid (HG.out.trans (by rw [List.drop_of_length_le (by rw [HL.out]; exact Nat.le_refl _)]; rfl : _ = (0 : Int)))
      clear HG
      go_wp2_with fail
      go_ret
      exact ⟨ret_int HS.out.symm, hbr⟩
end Go.Proofs.YthbcogekfdllmaaGreatDoor
