/-
  What is wrong with a run: rule.CheckRun and splitref2.RunFault by contracts. (Printed by gen_run1.py.)
-/
import Derived.Test.YtfhdknppldobiaaGreatDoorZSlotPure2
import Derived.Test.YtfhdknppldobiaaGreatDoorZSlot1
import Derived.Test.YtfhdknppldobiaaGreatDoorZNum2
import Derived.Lib.IndexBytes
import Derived.Test.YtfhdknppldobiaaGreatDoorZSlot5
import Derived.Deep.DeepCutAuto
import Derived.Deep.RegionLaw
import Derived.Deep.QuietTactic
import Derived.BigQuiet
namespace Go.Proofs.YtfhdknppldobiaaGreatDoor
open Go Go.RowKit

theorem name_key {x : ByteArray} (h : nameB x = true) : keyB x.data.toList = true := by
  unfold nameB at h
  rw [Bool.and_eq_true] at h
  exact h.1

set_option maxRecDepth 100000 in
set_option maxHeartbeats 2000000 in
theorem checkRun_calls (b : Nat) (x : Rn) (w : World) (hx : RnW w b x) : Calls Tryz.prog 73 #[.agg #[.string x.id, .string x.who, .int .i64 x.time, .int .i64 x.date, .slice x.fa x.fs.length x.fc]] w (BRet (.int .i64 (runF x)) w) := by
  obtain ⟨hrd, hi, hw, hf, _⟩ := hx
  obtain ⟨id, who, time, date, fa, fc, fs⟩ := x
  simp only at hrd hi hw hf
  obtain ⟨n, hn⟩ : ∃ n, fs.length = n := ⟨_, rfl⟩
  have hS : runF ⟨id, who, time, date, fa, fc, fs⟩ = (if (keyB id.data.toList && keyB who.data.toList) = true then if (outB time 0 864000000 || !momB date) = true then 1 else if 20 < n then 2 else fldG ⟨#[]⟩ fs else 5) := by
    subst hn; rfl
  obtain ⟨F, hF⟩ : ∃ F, runF ⟨id, who, time, date, fa, fc, fs⟩ = F := ⟨_, rfl⟩
  rw [hF] at hS ⊢
  simp only [hn]
  rw [hn] at hrd
  obtain ⟨hl, hnc, hcm, hcells⟩ := hrd.cells prC_len (by omega)
  unfold maxLen at hcm
  have HKI := Lib.hid (fun W => key_calls id W (by unfold maxLen; omega))
  have HKW := Lib.hid (fun W => key_calls who W (by unfold maxLen; omega))
  have HOT := Lib.hid (fun W => out_calls time 0 864000000 W)
  have HMD := Lib.hid (fun W => moment_calls date W)
  obtain ⟨KI, hKI⟩ : ∃ B, keyB id.data.toList = B := ⟨_, rfl⟩
  obtain ⟨KW, hKW⟩ : ∃ B, keyB who.data.toList = B := ⟨_, rfl⟩
  obtain ⟨OT, hOT⟩ : ∃ B, outB time 0 864000000 = B := ⟨_, rfl⟩
  obtain ⟨MD, hMD⟩ : ∃ B, momB date = B := ⟨_, rfl⟩
  rw [hKI, hKW, hOT, hMD] at hS
  rw [hKI] at HKI
  rw [hKW] at HKW
  rw [hOT] at HOT
  rw [hMD] at HMD
  clear hKI hKW hOT hMD hF
  have HL := Lib.hid hl
  have HC := Lib.hid hcells
  have HF := Lib.hid hf
  have hA : ∀ o : Obj, Below w.heap.size w (w.alloc o) := fun o => (Below.refl _ _).alloc (Nat.le_refl _) o
  clear hl hcells hf hrd
  cases KI
  · have HS := Lib.hid (hS.trans (if_neg (by simp)))
    clear hS
    go_enter Tryz.func73, Tryz.ntmps73
    go_wp2_with (first | (go_at_call 75; refine (HKI.out _).mono ?_; rintro e w1 ⟨rfl, rfl⟩))
    go_ret
    exact ⟨ret_int HS.out.symm, hA _⟩
  cases KW
  · have HS := Lib.hid (hS.trans (if_neg (by simp)))
    clear hS
    go_enter Tryz.func73, Tryz.ntmps73
    go_wp2_with (first | (go_at_call 75; refine (HKI.out _).mono ?_; rintro e w1 ⟨rfl, rfl⟩; clear HKI) | (go_at_call 75; refine (HKW.out _).mono ?_; rintro e w1 ⟨rfl, rfl⟩))
    go_ret
    exact ⟨ret_int HS.out.symm, hA _⟩
  replace hS := hS.trans (if_pos (by rfl))
  cases OT
  · cases MD
    · have HS := Lib.hid (hS.trans (if_pos (by rfl)))
      clear hS
      go_enter Tryz.func73, Tryz.ntmps73
      go_wp2_with (first | (go_at_call 75; refine (HKI.out _).mono ?_; rintro e w1 ⟨rfl, rfl⟩; clear HKI) | (go_at_call 75; refine (HKW.out _).mono ?_; rintro e w1 ⟨rfl, rfl⟩) | (go_at_call 129; refine (HOT.out _).mono ?_; rintro e w1 ⟨rfl, rfl⟩) | (go_at_call 76; refine (HMD.out _).mono ?_; rintro e w1 ⟨rfl, rfl⟩))
      go_ret
      exact ⟨ret_int HS.out.symm, hA _⟩
    · replace hS := hS.trans (if_neg (by decide))
      by_cases hbig : 20 < n
      · have HS := Lib.hid (hS.trans (if_pos hbig))
        clear hS
        go_enter Tryz.func73, Tryz.ntmps73
        go_wp2_with (first | (go_at_call 75; refine (HKI.out _).mono ?_; rintro e w1 ⟨rfl, rfl⟩; clear HKI) | (go_at_call 75; refine (HKW.out _).mono ?_; rintro e w1 ⟨rfl, rfl⟩) | (go_at_call 129; refine (HOT.out _).mono ?_; rintro e w1 ⟨rfl, rfl⟩) | (go_at_call 76; refine (HMD.out _).mono ?_; rintro e w1 ⟨rfl, rfl⟩))
        go_ret
        exact ⟨ret_int HS.out.symm, hA _⟩
      · have HG : Hid (F = fldG (lastP fs 0) (fs.drop 0)) := Lib.hid (hS.trans (if_neg hbig))
        clear hS
        go_enter Tryz.func73, Tryz.ntmps73
        go_wp2_with (first | (go_at_call 75; refine (HKI.out _).mono ?_; rintro e w1 ⟨rfl, rfl⟩; clear HKI) | (go_at_call 75; refine (HKW.out _).mono ?_; rintro e w1 ⟨rfl, rfl⟩) | (go_at_call 129; refine (HOT.out _).mono ?_; rintro e w1 ⟨rfl, rfl⟩) | (go_at_call 76; refine (HMD.out _).mono ?_; rintro e w1 ⟨rfl, rfl⟩))
        clear HKW HOT HMD
        obtain ⟨P, hP⟩ : ∃ P, P = w.alloc (.cells #[.string id, .string who, .int .i64 time, .int .i64 date, .slice fa n fc] 36) := ⟨_, rfl⟩
        have hbP : Below w.heap.size w P := by rw [hP]; exact hA _
        have hkP : Blk P w.heap.size 36 #[.string id, .string who, .int .i64 time, .int .i64 date, .slice fa n fc] := by rw [hP]; exact Blk.new _ _ _
        rw [← hP]
        clear hP
        obtain ⟨HW, hHW⟩ : ∃ H, H = w.heap.size := ⟨_, rfl⟩
        rw [← hHW] at hkP
        try rw [← hHW]
        have HHW := Lib.hid hHW
        clear hHW
        go_loopw [34] (fun i wr => ∃ k : Nat, k ≤ n ∧ i = .int .i64 k ∧ Hid (F = fldG (lastP fs k) (fs.drop k)) ∧ Below P.heap.size P wr) (fun i _ => n - (intOf i).toNat)
        case atStart => exact ⟨0, Nat.zero_le _, rfl, HG, Below.refl _ _⟩
        case round =>
          obtain ⟨k, hk, rfl, HG, hbr⟩ := hrel
          have hkr0 := hkP.below hbr
          by_cases hlt : k < n
          · have hkr : k < fs.length := by rw [HL.out]; exact hlt
            obtain ⟨g, o, hA2, _, hcs⟩ := HC.out (by omega)
            subst hA2
            have hbw := below_call hbP hbr (Nat.le_refl _)
            have hst := HG.out.trans (fldG_step fs k hkr)
            have c0 := below_cell hbw (hcs k hkr 0 (by omega))
            have c1 := below_cell hbw (hcs k hkr 1 (by omega))
            have hfk := HF.out _ (List.getElem_mem hkr)
            obtain ⟨⟨nm, vl⟩, hnv⟩ : ∃ p, fs[k] = p := ⟨_, rfl⟩
            rw [hnv] at c0 c1 hst hfk
            simp only [Nat.add_zero] at c0
            replace c0 : wr.cell? ⟨g, o + k * 2, none⟩ = some (.string nm) := c0
            replace c1 : wr.cell? ⟨g, o + k * 2 + 1, none⟩ = some (.string vl) := c1
            simp only at hfk
            have HNM := Lib.hid (fun W => isName_calls nm W hfk.1)
            have HVL := Lib.hid (fun W => isValue_calls vl W hfk.2)
            obtain ⟨NB, hNB⟩ : ∃ B, nameB nm = B := ⟨_, rfl⟩
            obtain ⟨VB, hVB⟩ : ∃ B, valueB vl = B := ⟨_, rfl⟩
            have hkey := fun h : nameB nm = true => le_nil (name_key h)
            simp only at hst
            rw [hNB, hVB] at hst
            rw [hNB] at HNM hkey
            rw [hVB] at HVL
            have hbA : Below P.heap.size P (wr.alloc (.cells #[.string nm, .string vl] 86)) := hbr.alloc hbr.size _
            have hkA : Blk (wr.alloc (.cells #[.string nm, .string vl] 86)) wr.heap.size 86 #[.string nm, .string vl] := Blk.new _ _ _
            have z0 := hkA.cell 0
            have z1 := hkA.cell 1
            have hk0 : (0 : Int) ≤ (k : Int) := by omega
            have hkn : (k : Int) < (n : Int) := by omega
            obtain ⟨WA, hWA⟩ : ∃ WA, WA = wr.alloc (.cells #[.string nm, .string vl] 86) := ⟨_, rfl⟩
            obtain ⟨HR, hHR⟩ : ∃ H, H = wr.heap.size := ⟨_, rfl⟩
            have HHR := Lib.hid hHR
            have HWA := Lib.hid hWA
            rw [← hWA, ← hHR] at hkA z0 z1
            rw [← hWA] at hbA
            clear hWA hHR
            have HCS := Lib.hid (fun j (hj : j < fs.length) => below_cell hbw (hcs j hj 0 (by omega)))
            clear hNB hVB hnv hfk hcs hbw
            cases NB
            · have HS := Lib.hid (hst.trans (if_pos rfl))
              clear hst
              go_wp2_with (first | (go_at_call 113; rw [← HWA.out]; refine (HNM.out _).mono ?_; rintro e w1 ⟨rfl, hb1⟩))
              go_ret
              exact ⟨ret_int HS.out.symm, below_call hbP (below_call hbA hb1 (Nat.le_refl _)) (Nat.le_refl _)⟩
            · replace hst := hst.trans (if_neg (by decide))
              cases VB
              · have HS := Lib.hid (hst.trans (if_pos rfl))
                clear hst
                go_wp2_with (first | (go_at_call 113; rw [← HWA.out, ← HHR.out]; refine (HNM.out _).mono ?_; rintro e w1 ⟨rfl, hb1⟩; have hk1 := hkA.below hb1; have y0 := hk1.cell 0; have y1 := hk1.cell 1) | (go_at_call 138; refine (HVL.out _).mono ?_; rintro e w2 ⟨rfl, rfl⟩))
                go_ret
                exact ⟨ret_int HS.out.symm, below_call hbP (below_call hbA hb1 (Nat.le_refl _)) (Nat.le_refl _)⟩
              · replace hst := hst.trans (if_neg (by decide))
                have hky := hkey rfl
                clear hkey
                have hRA : Below wr.heap.size wr WA := by rw [HWA.out]; exact (Below.refl _ _).alloc (Nat.le_refl _) _
                cases k with
                | zero =>
                  rw [show lastP fs 0 = ⟨#[]⟩ from rfl, hky, if_neg (by decide)] at hst
                  rw [Nat.zero_mul, Nat.add_zero] at c0 c1
                  have HST := Lib.hid hst
                  clear hst hky
                  go_wp2_with (first | (go_at_call 113; rw [← HWA.out, ← HHR.out]; refine (HNM.out _).mono ?_; rintro e w1 ⟨rfl, hb1⟩; have hk1 := hkA.below hb1; have y0 := hk1.cell 0; have y1 := hk1.cell 1; have hr1 := hkr0.below (below_call (hRA) hb1 (Nat.le_refl _)); have r4 := hr1.cell 4; have hbZ := below_call hbA hb1 (Nat.le_refl _)) | (go_at_call 138; refine (HVL.out _).mono ?_; rintro e w2 ⟨rfl, rfl⟩))
                  go_quiet (fail)
                  go_wp2_with fail
                  go_roundw
                  case rel => exact ⟨1, by omega, rfl, HST, below_drewN hbZ _⟩
                  case measure => simp [intOf]; omega
                | succ j =>
                  have hjr : j < fs.length := by omega
                  have p0 := below_cell hRA (HCS.out j hjr)
                  have hla : lastP fs (j + 1) = fs[j].1 := by simp [lastP, hjr]
                  rw [hla] at hst
                  obtain ⟨⟨nm2, vl2⟩, hx2⟩ : ∃ x, fs[j] = x := ⟨_, rfl⟩
                  rw [hx2] at p0 hst
                  simp only [Nat.add_zero] at p0
                  replace p0 : WA.cell? ⟨g, o + j * 2, none⟩ = some (.string nm2) := p0
                  have HP0 := Lib.hid p0
                  have hg : (0 : Int) < (((j + 1 : Nat)) : Int) := by omega
                  have hj0 : (0 : Int) ≤ (j : Int) := by omega
                  have hjn : (j : Int) < (n : Int) := by omega
                  have hj1 : ((j : Int) + 1) - 1 = (j : Int) := by omega
                  clear hla hx2 hky p0
                  simp only at hst
                  cases hle : leS nm nm2
                  · rw [hle, if_neg (by decide)] at hst
                    have hle' : (Op.bytesLess nm.toList nm2.toList || nm.toList == nm2.toList) = false := hle
                    have HS := Lib.hid hst
                    clear hle hst
                    go_wp2_with (first | (go_at_call 113; rw [← HWA.out, ← HHR.out]; refine (HNM.out _).mono ?_; rintro e w1 ⟨rfl, hb1⟩; have hk1 := hkA.below hb1; have y0 := hk1.cell 0; have y1 := hk1.cell 1; have hr1 := hkr0.below (below_call (hRA) hb1 (Nat.le_refl _)); have r4 := hr1.cell 4; have q0 := below_cell hb1 HP0.out; have hbZ := below_call hbA hb1 (Nat.le_refl _)) | (go_at_call 138; refine (HVL.out _).mono ?_; rintro e w2 ⟨rfl, rfl⟩))
                    go_quiet (fail)
                    go_wp2_with fail
                    go_roundw
                    case rel => exact ⟨j + 1 + 1, by omega, by go_num, HS, below_drewN hbZ _⟩
                    case measure => simp [intOf]; omega
                  · rw [hle, if_pos rfl] at hst
                    have hle' : (Op.bytesLess nm.toList nm2.toList || nm.toList == nm2.toList) = true := hle
                    have HS := Lib.hid hst
                    clear hle hst
                    go_wp2_with (first | (go_at_call 113; rw [← HWA.out, ← HHR.out]; refine (HNM.out _).mono ?_; rintro e w1 ⟨rfl, hb1⟩; have hk1 := hkA.below hb1; have y0 := hk1.cell 0; have y1 := hk1.cell 1; have hr1 := hkr0.below (below_call (hRA) hb1 (Nat.le_refl _)); have r4 := hr1.cell 4; have q0 := below_cell hb1 HP0.out; have hbZ := below_call hbA hb1 (Nat.le_refl _)) | (go_at_call 138; refine (HVL.out _).mono ?_; rintro e w2 ⟨rfl, rfl⟩))
                    go_quiet (fail)
                    go_wp2_with fail
                    go_ret
                    exact ⟨ret_int HS.out.symm, below_call hbP (below_drewN hbZ _) (Nat.le_refl _)⟩
          · obtain rfl : k = n := by omega
            have HS := Lib.hid (HG.out.trans (by rw [List.drop_of_length_le (by rw [HL.out]; exact Nat.le_refl _)]; rfl : _ = (0 : Int)))
            go_wp2_with fail
            go_ret
            exact ⟨ret_int HS.out.symm, below_call hbP hbr (Nat.le_refl _)⟩
  · have HS := Lib.hid (hS.trans (if_pos (by rfl)))
    clear hS
    go_enter Tryz.func73, Tryz.ntmps73
    go_wp2_with (first | (go_at_call 75; refine (HKI.out _).mono ?_; rintro e w1 ⟨rfl, rfl⟩; clear HKI) | (go_at_call 75; refine (HKW.out _).mono ?_; rintro e w1 ⟨rfl, rfl⟩) | (go_at_call 129; refine (HOT.out _).mono ?_; rintro e w1 ⟨rfl, rfl⟩))
    go_ret
    exact ⟨ret_int HS.out.symm, hA _⟩

end Go.Proofs.YtfhdknppldobiaaGreatDoor
