/-
  What is wrong with a run: rule.CheckRun and splitref2.RunFault by contracts. (Printed by gen_run1.py.)
-/
import Derived.Test.YtlkapcjofgpiiaaGreatDoorZSq
import Derived.Test.YtlkapcjofgpiiaaGreatDoorZSlot1
import Derived.Test.YtlkapcjofgpiiaaGreatDoorZKey2
import Derived.Test.YtlkapcjofgpiiaaGreatDoorZRatMake4
import Derived.Deep.DeepCutAuto
import Derived.Deep.RegionLaw
import Derived.Deep.QuietTactic
import Derived.BigQuiet
namespace Go.Proofs.YtlkapcjofgpiiaaGreatDoor
open Go Go.RowKit

def wordsL_ : List UInt8 := [97, 98, 99, 100, 101, 102, 103, 104, 105, 106, 107, 108, 109, 110, 111, 112, 113, 114, 115, 116, 117, 118, 119, 120, 121, 122, 48, 49, 50, 51, 52, 53, 54, 55, 56, 57, 45, 95, 46]
theorem words_eq_ (c : UInt8) : wordsL_.contains c = wordB c := by
  have := bytes_all (fun c => wordsL_.contains c == wordB c) (by decide +kernel) c
  simpa using this
theorem only_words_ (l : List UInt8) : onlyB l wordsL_ = l.all wordB := by unfold onlyB; simp only [words_eq_]
theorem only_words_calls (s : ByteArray) (w : World) (hs : s.size ≤ maxLen) :
    Calls Tryz.prog 68 #[.string s, .string ⟨#[97, 98, 99, 100, 101, 102, 103, 104, 105, 106, 107, 108, 109, 110, 111, 112, 113, 114, 115, 116, 117, 118, 119, 120, 121, 122, 48, 49, 50, 51, 52, 53, 54, 55, 56, 57, 45, 95, 46]⟩] w fun e w' => e = .returned (.bool (s.data.toList.all wordB)) ∧ w = w' := by
  have := only_calls s ⟨#[97, 98, 99, 100, 101, 102, 103, 104, 105, 106, 107, 108, 109, 110, 111, 112, 113, 114, 115, 116, 117, 118, 119, 120, 121, 122, 48, 49, 50, 51, 52, 53, 54, 55, 56, 57, 45, 95, 46]⟩ w hs
  rwa [show (ByteArray.mk #[97, 98, 99, 100, 101, 102, 103, 104, 105, 106, 107, 108, 109, 110, 111, 112, 113, 114, 115, 116, 117, 118, 119, 120, 121, 122, 48, 49, 50, 51, 52, 53, 54, 55, 56, 57, 45, 95, 46]).data.toList = wordsL_ from rfl, only_words_] at this
theorem valueQ_calls (s : ByteArray) (w : World) (hs : s.size ≤ 1000000) : Calls Tryz.prog 61 #[.string s] w fun e w' => e = .returned (.bool (valueB s)) ∧ w = w' := by
  have HI := Lib.hid (fun W => in_calls (s.size : Int) 1 40 W)
  have HO := Lib.hid (fun W => only_words_calls s W (by unfold maxLen; omega))
  obtain ⟨B, hB⟩ : ∃ B, B = s.data.toList.all wordB := ⟨_, rfl⟩
  rw [← hB] at HO
  have hv : valueB s = (decide (1 ≤ s.size ∧ s.size ≤ 40) && B) := by rw [hB]; rfl
  by_cases h0 : 1 ≤ s.size ∧ s.size ≤ 40
  · rw [decide_eq_true h0, Bool.true_and] at hv
    have ho : outB (s.size : Int) 1 40 = false := outB_f (by omega) (by omega)
    rw [ho] at HI
    have HV := Lib.hid hv
    clear hv hB ho h0
    go_enter Tryz.func61, Tryz.ntmps61
    go_wp2_with (first | (go_at_call 59; refine (HI.out _).mono ?_; rintro e w1 ⟨rfl, rfl⟩) | (go_at_call 68; refine (HO.out _).mono ?_; rintro e w2 ⟨rfl, rfl⟩))
    go_ret
    exact ⟨ret_bool HV.out.symm, rfl⟩
  · rw [decide_eq_false h0, Bool.false_and] at hv
    have ho : outB (s.size : Int) 1 40 = true := outB_t (by omega)
    rw [ho] at HI
    have HV := Lib.hid hv
    clear hv hB ho h0
    go_enter Tryz.func61, Tryz.ntmps61
    go_wp2_with (first | (go_at_call 59; refine (HI.out _).mono ?_; rintro e w1 ⟨rfl, rfl⟩))
    go_ret
    exact ⟨ret_bool HV.out.symm, rfl⟩
theorem reservedQ_calls (x : ByteArray) (w : World) : Calls Tryz.prog 88 #[.string x] w (BRet (.bool (memS words6 x)) w) := by
  have HC : Hid (∀ W : World, Calls Tryz.prog 13 #[.slice (some ⟨W.heap.size, 0, none⟩) 6 6, .string x] (W.alloc (.cells #[.string ⟨#[116, 105, 109, 101]⟩, .string ⟨#[97, 110, 100]⟩, .string ⟨#[111, 114]⟩, .string ⟨#[110, 111, 116]⟩, .string ⟨#[104, 97, 115]⟩, .string ⟨#[116, 114, 117, 101]⟩] 9)) (QRet (.bool (memS words6 x)) (W.alloc (.cells #[.string ⟨#[116, 105, 109, 101]⟩, .string ⟨#[97, 110, 100]⟩, .string ⟨#[111, 114]⟩, .string ⟨#[110, 111, 116]⟩, .string ⟨#[104, 97, 115]⟩, .string ⟨#[116, 114, 117, 101]⟩] 9)))) :=
    Lib.hid (fun W => containsS_calls (W.heap.size + 1) (some ⟨W.heap.size, 0, none⟩) 6 6 words6 x (W.alloc (.cells #[.string ⟨#[116, 105, 109, 101]⟩, .string ⟨#[97, 110, 100]⟩, .string ⟨#[111, 114]⟩, .string ⟨#[110, 111, 116]⟩, .string ⟨#[104, 97, 115]⟩, .string ⟨#[116, 114, 117, 101]⟩] 9)) (Rd.lit W (W.heap.size + 1) 1 6 _ _ (by omega) (by decide) rfl))
  go_enter Tryz.func88, Tryz.ntmps88
  go_wp2_with (first | (go_at_call 13; refine (HC.out _).mono ?_; rintro e w1 ⟨rfl, nq, rfl⟩))
  go_ret
  exact ⟨rfl, below_drewN ((Below.refl _ _).alloc (Nat.le_refl _) _) nq⟩
theorem fieldQ_calls (x : ByteArray) (w : World) (hx : x.size ≤ 1000000) : Calls Tryz.prog 60 #[.string x] w (BRet (.bool (nameB x)) w) := by
  have HK := Lib.hid (fun W => keyQ_calls x W (by unfold maxLen; omega))
  have HC := Lib.hid (fun W => reservedQ_calls x W)
  obtain ⟨M, hM⟩ : ∃ M, memS words6 x = M := ⟨_, rfl⟩
  obtain ⟨B, hB⟩ : ∃ B, keyB x.data.toList = B := ⟨_, rfl⟩
  rw [hM] at HC
  rw [hB] at HK
  have HR : Hid (nameB x = (B && !M)) := by rw [← hM, ← hB]; exact Lib.hid rfl
  rw [HR.out]
  clear hM hB HR
  cases B
  · go_enter Tryz.func60, Tryz.ntmps60
    go_wp2_with (first | (go_at_call 37; refine (HK.out _).mono ?_; rintro e w1 ⟨rfl, rfl⟩))
    go_ret
    exact ⟨rfl, Below.refl _ _⟩
  · go_enter Tryz.func60, Tryz.ntmps60
    go_wp2_with (first | (go_at_call 37; refine (HK.out _).mono ?_; rintro e w1 ⟨rfl, rfl⟩) | (go_at_call 88; refine (HC.out _).mono ?_; rintro e w2 ⟨rfl, hb2⟩))
    go_ret
    exact ⟨rfl, hb2⟩
theorem name_key {x : ByteArray} (h : nameB x = true) : keyB x.data.toList = true := by
  unfold nameB at h
  rw [Bool.and_eq_true] at h
  exact h.1

set_option maxRecDepth 100000 in
set_option maxHeartbeats 2000000 in
theorem checkRun_calls (b : Nat) (x : Rn) (w : World) (hx : RnW w b x) : Calls Tryz.prog 46 #[.agg #[.string x.id, .string x.who, .int .i64 x.time, .int .i64 x.date, .slice x.fa x.fs.length x.fc]] w (BRet (.int .i64 (runF x)) w) := by
  obtain ⟨hrd, hi, hw, hf, _⟩ := hx
  obtain ⟨id, who, time, date, fa, fc, fs⟩ := x
  simp only at hrd hi hw hf
  obtain ⟨n, hn⟩ : ∃ n, fs.length = n := ⟨_, rfl⟩
  have hS : runF ⟨id, who, time, date, fa, fc, fs⟩ = (if (keyB id.data.toList && keyB who.data.toList) = true then if (outB time 0 864000000 || !momB date) = true then 1 else if 20 < n then 2 else fldG ⟨#[]⟩ fs else 5) := by
    subst hn; rfl
  obtain ⟨F, hF⟩ : ∃ F, runF ⟨id, who, time, date, fa, fc, fs⟩ = F := ⟨_, rfl⟩
  rw [hF] at hS ⊢
  simp only [hn]
  rw [hn] at hrd
  obtain ⟨hl, hnc, hcm, hcells⟩ := hrd.cells prC_len (by omega)
  unfold maxLen at hcm
  have HKI := Lib.hid (fun W => key_calls id W (by unfold maxLen; omega))
  have HKW := Lib.hid (fun W => key_calls who W (by unfold maxLen; omega))
  have HOT := Lib.hid (fun W => out_calls time 0 864000000 W)
  have HMD := Lib.hid (fun W => moment_calls date W)
  obtain ⟨KI, hKI⟩ : ∃ B, keyB id.data.toList = B := ⟨_, rfl⟩
  obtain ⟨KW, hKW⟩ : ∃ B, keyB who.data.toList = B := ⟨_, rfl⟩
  obtain ⟨OT, hOT⟩ : ∃ B, outB time 0 864000000 = B := ⟨_, rfl⟩
  obtain ⟨MD, hMD⟩ : ∃ B, momB date = B := ⟨_, rfl⟩
  rw [hKI, hKW, hOT, hMD] at hS
  rw [hKI] at HKI
  rw [hKW] at HKW
  rw [hOT] at HOT
  rw [hMD] at HMD
  clear hKI hKW hOT hMD hF
  have HL := Lib.hid hl
  have HC := Lib.hid hcells
  have HF := Lib.hid hf
  have hA : ∀ o : Obj, Below w.heap.size w (w.alloc o) := fun o => (Below.refl _ _).alloc (Nat.le_refl _) o
  clear hl hcells hf hrd
  cases KI
  · have HS := Lib.hid (hS.trans (if_neg (by simp)))
    clear hS
    go_enter Tryz.func46, Tryz.ntmps46
    go_wp2_with (first | (go_at_call 48; refine (HKI.out _).mono ?_; rintro e w1 ⟨rfl, rfl⟩))
    go_ret
    exact ⟨ret_int HS.out.symm, hA _⟩
  cases KW
  · have HS := Lib.hid (hS.trans (if_neg (by simp)))
    clear hS
    go_enter Tryz.func46, Tryz.ntmps46
    go_wp2_with (first | (go_at_call 48; refine (HKI.out _).mono ?_; rintro e w1 ⟨rfl, rfl⟩; clear HKI) | (go_at_call 48; refine (HKW.out _).mono ?_; rintro e w1 ⟨rfl, rfl⟩))
    go_ret
    exact ⟨ret_int HS.out.symm, hA _⟩
  replace hS := hS.trans (if_pos (by rfl))
  cases OT
  · cases MD
    · have HS := Lib.hid (hS.trans (if_pos (by rfl)))
      clear hS
      go_enter Tryz.func46, Tryz.ntmps46
      go_wp2_with (first | (go_at_call 48; refine (HKI.out _).mono ?_; rintro e w1 ⟨rfl, rfl⟩; clear HKI) | (go_at_call 48; refine (HKW.out _).mono ?_; rintro e w1 ⟨rfl, rfl⟩) | (go_at_call 71; refine (HOT.out _).mono ?_; rintro e w1 ⟨rfl, rfl⟩) | (go_at_call 49; refine (HMD.out _).mono ?_; rintro e w1 ⟨rfl, rfl⟩))
      go_ret
      exact ⟨ret_int HS.out.symm, hA _⟩
    · replace hS := hS.trans (if_neg (by decide))
      by_cases hbig : 20 < n
      · have HS := Lib.hid (hS.trans (if_pos hbig))
        clear hS
        go_enter Tryz.func46, Tryz.ntmps46
        go_wp2_with (first | (go_at_call 48; refine (HKI.out _).mono ?_; rintro e w1 ⟨rfl, rfl⟩; clear HKI) | (go_at_call 48; refine (HKW.out _).mono ?_; rintro e w1 ⟨rfl, rfl⟩) | (go_at_call 71; refine (HOT.out _).mono ?_; rintro e w1 ⟨rfl, rfl⟩) | (go_at_call 49; refine (HMD.out _).mono ?_; rintro e w1 ⟨rfl, rfl⟩))
        go_ret
        exact ⟨ret_int HS.out.symm, hA _⟩
      · have HG : Hid (F = fldG (lastP fs 0) (fs.drop 0)) := Lib.hid (hS.trans (if_neg hbig))
        clear hS
        go_enter Tryz.func46, Tryz.ntmps46
        go_wp2_with (first | (go_at_call 48; refine (HKI.out _).mono ?_; rintro e w1 ⟨rfl, rfl⟩; clear HKI) | (go_at_call 48; refine (HKW.out _).mono ?_; rintro e w1 ⟨rfl, rfl⟩) | (go_at_call 71; refine (HOT.out _).mono ?_; rintro e w1 ⟨rfl, rfl⟩) | (go_at_call 49; refine (HMD.out _).mono ?_; rintro e w1 ⟨rfl, rfl⟩))
        clear HKW HOT HMD
        obtain ⟨P, hP⟩ : ∃ P, P = w.alloc (.cells #[.string id, .string who, .int .i64 time, .int .i64 date, .slice fa n fc] 36) := ⟨_, rfl⟩
        have hbP : Below w.heap.size w P := by rw [hP]; exact hA _
        have hkP : Blk P w.heap.size 36 #[.string id, .string who, .int .i64 time, .int .i64 date, .slice fa n fc] := by rw [hP]; exact Blk.new _ _ _
        rw [← hP]
        clear hP
        obtain ⟨HW, hHW⟩ : ∃ H, H = w.heap.size := ⟨_, rfl⟩
        rw [← hHW] at hkP
        try rw [← hHW]
        have HHW := Lib.hid hHW
        clear hHW
        go_loopw [34] (fun i wr => ∃ k : Nat, k ≤ n ∧ i = .int .i64 k ∧ Hid (F = fldG (lastP fs k) (fs.drop k)) ∧ Below P.heap.size P wr) (fun i _ => n - (intOf i).toNat)
        case atStart => exact ⟨0, Nat.zero_le _, rfl, HG, Below.refl _ _⟩
        case round =>
          obtain ⟨k, hk, rfl, HG, hbr⟩ := hrel
          have hkr0 := hkP.below hbr
          by_cases hlt : k < n
          · have hkr : k < fs.length := by rw [HL.out]; exact hlt
            obtain ⟨g, o, hA2, _, hcs⟩ := HC.out (by omega)
            subst hA2
            have hbw := below_call hbP hbr (Nat.le_refl _)
            have hst := HG.out.trans (fldG_step fs k hkr)
            have c0 := below_cell hbw (hcs k hkr 0 (by omega))
            have c1 := below_cell hbw (hcs k hkr 1 (by omega))
            have hfk := HF.out _ (List.getElem_mem hkr)
            obtain ⟨⟨nm, vl⟩, hnv⟩ : ∃ p, fs[k] = p := ⟨_, rfl⟩
            rw [hnv] at c0 c1 hst hfk
            simp only [Nat.add_zero] at c0
            replace c0 : wr.cell? ⟨g, o + k * 2, none⟩ = some (.string nm) := c0
            replace c1 : wr.cell? ⟨g, o + k * 2 + 1, none⟩ = some (.string vl) := c1
            simp only at hfk
            have HNM := Lib.hid (fun W => isName_calls nm W hfk.1)
            have HVL := Lib.hid (fun W => isValue_calls vl W hfk.2)
            obtain ⟨NB, hNB⟩ : ∃ B, nameB nm = B := ⟨_, rfl⟩
            obtain ⟨VB, hVB⟩ : ∃ B, valueB vl = B := ⟨_, rfl⟩
            have hkey := fun h : nameB nm = true => le_nil (name_key h)
            simp only at hst
            rw [hNB, hVB] at hst
            rw [hNB] at HNM hkey
            rw [hVB] at HVL
            have hbA : Below P.heap.size P (wr.alloc (.cells #[.string nm, .string vl] 99)) := hbr.alloc hbr.size _
            have hkA : Blk (wr.alloc (.cells #[.string nm, .string vl] 99)) wr.heap.size 99 #[.string nm, .string vl] := Blk.new _ _ _
            have z0 := hkA.cell 0
            have z1 := hkA.cell 1
            have hk0 : (0 : Int) ≤ (k : Int) := by omega
            have hkn : (k : Int) < (n : Int) := by omega
            obtain ⟨WA, hWA⟩ : ∃ WA, WA = wr.alloc (.cells #[.string nm, .string vl] 99) := ⟨_, rfl⟩
            obtain ⟨HR, hHR⟩ : ∃ H, H = wr.heap.size := ⟨_, rfl⟩
            have HHR := Lib.hid hHR
            have HWA := Lib.hid hWA
            rw [← hWA, ← hHR] at hkA z0 z1
            rw [← hWA] at hbA
            clear hWA hHR
            have HCS := Lib.hid (fun j (hj : j < fs.length) => below_cell hbw (hcs j hj 0 (by omega)))
            clear hNB hVB hnv hfk hcs hbw
            cases NB
            · have HS := Lib.hid (hst.trans (if_pos rfl))
              clear hst
              go_wp2_with (first | (go_at_call 81; rw [← HWA.out]; refine (HNM.out _).mono ?_; rintro e w1 ⟨rfl, hb1⟩))
              go_ret
              exact ⟨ret_int HS.out.symm, below_call hbP (below_call hbA hb1 (Nat.le_refl _)) (Nat.le_refl _)⟩
            · replace hst := hst.trans (if_neg (by decide))
              cases VB
              · have HS := Lib.hid (hst.trans (if_pos rfl))
                clear hst
                go_wp2_with (first | (go_at_call 81; rw [← HWA.out, ← HHR.out]; refine (HNM.out _).mono ?_; rintro e w1 ⟨rfl, hb1⟩; have hk1 := hkA.below hb1; have y0 := hk1.cell 0; have y1 := hk1.cell 1) | (go_at_call 82; refine (HVL.out _).mono ?_; rintro e w2 ⟨rfl, rfl⟩))
                go_ret
                exact ⟨ret_int HS.out.symm, below_call hbP (below_call hbA hb1 (Nat.le_refl _)) (Nat.le_refl _)⟩
              · replace hst := hst.trans (if_neg (by decide))
                have hky := hkey rfl
                clear hkey
                have hRA : Below wr.heap.size wr WA := by rw [HWA.out]; exact (Below.refl _ _).alloc (Nat.le_refl _) _
                cases k with
                | zero =>
                  rw [show lastP fs 0 = ⟨#[]⟩ from rfl, hky, if_neg (by decide)] at hst
                  rw [Nat.zero_mul, Nat.add_zero] at c0 c1
                  have HST := Lib.hid hst
                  clear hst hky
                  go_wp2_with (first | (go_at_call 81; rw [← HWA.out, ← HHR.out]; refine (HNM.out _).mono ?_; rintro e w1 ⟨rfl, hb1⟩; have hk1 := hkA.below hb1; have y0 := hk1.cell 0; have y1 := hk1.cell 1; have hr1 := hkr0.below (below_call (hRA) hb1 (Nat.le_refl _)); have r4 := hr1.cell 4; have hbZ := below_call hbA hb1 (Nat.le_refl _)) | (go_at_call 82; refine (HVL.out _).mono ?_; rintro e w2 ⟨rfl, rfl⟩))
                  go_quiet (fail)
                  go_wp2_with fail
                  go_roundw
                  case rel => exact ⟨1, by omega, rfl, HST, below_drewN hbZ _⟩
                  case measure => simp [intOf]; omega
                | succ j =>
                  have hjr : j < fs.length := by omega
                  have p0 := below_cell hRA (HCS.out j hjr)
                  have hla : lastP fs (j + 1) = fs[j].1 := by simp [lastP, hjr]
                  rw [hla] at hst
                  obtain ⟨⟨nm2, vl2⟩, hx2⟩ : ∃ x, fs[j] = x := ⟨_, rfl⟩
                  rw [hx2] at p0 hst
                  simp only [Nat.add_zero] at p0
                  replace p0 : WA.cell? ⟨g, o + j * 2, none⟩ = some (.string nm2) := p0
                  have HP0 := Lib.hid p0
                  have hg : (0 : Int) < (((j + 1 : Nat)) : Int) := by omega
                  have hj0 : (0 : Int) ≤ (j : Int) := by omega
                  have hjn : (j : Int) < (n : Int) := by omega
                  have hj1 : ((j : Int) + 1) - 1 = (j : Int) := by omega
                  clear hla hx2 hky p0
                  simp only at hst
                  cases hle : leS nm nm2
                  · rw [hle, if_neg (by decide)] at hst
                    have hle' : (Op.bytesLess nm.toList nm2.toList || nm.toList == nm2.toList) = false := hle
                    have HS := Lib.hid hst
                    clear hle hst
                    go_wp2_with (first | (go_at_call 81; rw [← HWA.out, ← HHR.out]; refine (HNM.out _).mono ?_; rintro e w1 ⟨rfl, hb1⟩; have hk1 := hkA.below hb1; have y0 := hk1.cell 0; have y1 := hk1.cell 1; have hr1 := hkr0.below (below_call (hRA) hb1 (Nat.le_refl _)); have r4 := hr1.cell 4; have q0 := below_cell hb1 HP0.out; have hbZ := below_call hbA hb1 (Nat.le_refl _)) | (go_at_call 82; refine (HVL.out _).mono ?_; rintro e w2 ⟨rfl, rfl⟩))
                    go_quiet (fail)
                    go_wp2_with fail
                    go_roundw
                    case rel => exact ⟨j + 1 + 1, by omega, by go_num, HS, below_drewN hbZ _⟩
                    case measure => simp [intOf]; omega
                  · rw [hle, if_pos rfl] at hst
                    have hle' : (Op.bytesLess nm.toList nm2.toList || nm.toList == nm2.toList) = true := hle
                    have HS := Lib.hid hst
                    clear hle hst
                    go_wp2_with (first | (go_at_call 81; rw [← HWA.out, ← HHR.out]; refine (HNM.out _).mono ?_; rintro e w1 ⟨rfl, hb1⟩; have hk1 := hkA.below hb1; have y0 := hk1.cell 0; have y1 := hk1.cell 1; have hr1 := hkr0.below (below_call (hRA) hb1 (Nat.le_refl _)); have r4 := hr1.cell 4; have q0 := below_cell hb1 HP0.out; have hbZ := below_call hbA hb1 (Nat.le_refl _)) | (go_at_call 82; refine (HVL.out _).mono ?_; rintro e w2 ⟨rfl, rfl⟩))
                    go_quiet (fail)
                    go_wp2_with fail
                    go_ret
                    exact ⟨ret_int HS.out.symm, below_call hbP (below_drewN hbZ _) (Nat.le_refl _)⟩
          · obtain rfl : k = n := by omega
            have HS := Lib.hid (HG.out.trans (by rw [List.drop_of_length_le (by rw [HL.out]; exact Nat.le_refl _)]; rfl : _ = (0 : Int)))
            go_wp2_with fail
            go_ret
            exact ⟨ret_int HS.out.symm, below_call hbP hbr (Nat.le_refl _)⟩
  · have HS := Lib.hid (hS.trans (if_pos (by rfl)))
    clear hS
    go_enter Tryz.func46, Tryz.ntmps46
    go_wp2_with (first | (go_at_call 48; refine (HKI.out _).mono ?_; rintro e w1 ⟨rfl, rfl⟩; clear HKI) | (go_at_call 48; refine (HKW.out _).mono ?_; rintro e w1 ⟨rfl, rfl⟩) | (go_at_call 71; refine (HOT.out _).mono ?_; rintro e w1 ⟨rfl, rfl⟩))
    go_ret
    exact ⟨ret_int HS.out.symm, hA _⟩

set_option maxRecDepth 100000 in
set_option maxHeartbeats 2000000 in
theorem runFault_calls (b : Nat) (x : Rn) (w : World) (hx : RnW w b x) : Calls Tryz.prog 23 #[.agg #[.string x.id, .string x.who, .int .i64 x.time, .int .i64 x.date, .slice x.fa x.fs.length x.fc]] w (BRet (.int .i64 (runF x)) w) := by
  obtain ⟨hrd, hi, hw, hf, _⟩ := hx
  obtain ⟨id, who, time, date, fa, fc, fs⟩ := x
  simp only at hrd hi hw hf
  obtain ⟨n, hn⟩ : ∃ n, fs.length = n := ⟨_, rfl⟩
  have hS : runF ⟨id, who, time, date, fa, fc, fs⟩ = (if (keyB id.data.toList && keyB who.data.toList) = true then if (outB time 0 864000000 || !momB date) = true then 1 else if 20 < n then 2 else fldG ⟨#[]⟩ fs else 5) := by
    subst hn; rfl
  obtain ⟨F, hF⟩ : ∃ F, runF ⟨id, who, time, date, fa, fc, fs⟩ = F := ⟨_, rfl⟩
  rw [hF] at hS ⊢
  simp only [hn]
  rw [hn] at hrd
  obtain ⟨hl, hnc, hcm, hcells⟩ := hrd.cells prC_len (by omega)
  unfold maxLen at hcm
  have HKI := Lib.hid (fun W => keyQ_calls id W (by unfold maxLen; omega))
  have HKW := Lib.hid (fun W => keyQ_calls who W (by unfold maxLen; omega))
  have HOT := Lib.hid (fun W => in_calls time 0 864000000 W)
  have HMD := Lib.hid (fun W => momentQ_calls date W)
  obtain ⟨KI, hKI⟩ : ∃ B, keyB id.data.toList = B := ⟨_, rfl⟩
  obtain ⟨KW, hKW⟩ : ∃ B, keyB who.data.toList = B := ⟨_, rfl⟩
  obtain ⟨OT, hOT⟩ : ∃ B, outB time 0 864000000 = B := ⟨_, rfl⟩
  obtain ⟨MD, hMD⟩ : ∃ B, momB date = B := ⟨_, rfl⟩
  rw [hKI, hKW, hOT, hMD] at hS
  rw [hKI] at HKI
  rw [hKW] at HKW
  rw [hOT] at HOT
  rw [hMD] at HMD
  clear hKI hKW hOT hMD hF
  have HL := Lib.hid hl
  have HC := Lib.hid hcells
  have HF := Lib.hid hf
  have hA : ∀ o : Obj, Below w.heap.size w (w.alloc o) := fun o => (Below.refl _ _).alloc (Nat.le_refl _) o
  clear hl hcells hf hrd
  cases KI
  · have HS := Lib.hid (hS.trans (if_neg (by simp)))
    clear hS
    go_enter Tryz.func23, Tryz.ntmps23
    go_wp2_with (first | (go_at_call 37; refine (HKI.out _).mono ?_; rintro e w1 ⟨rfl, rfl⟩))
    go_ret
    exact ⟨ret_int HS.out.symm, hA _⟩
  cases KW
  · have HS := Lib.hid (hS.trans (if_neg (by simp)))
    clear hS
    go_enter Tryz.func23, Tryz.ntmps23
    go_wp2_with (first | (go_at_call 37; refine (HKI.out _).mono ?_; rintro e w1 ⟨rfl, rfl⟩; clear HKI) | (go_at_call 37; refine (HKW.out _).mono ?_; rintro e w1 ⟨rfl, rfl⟩))
    go_ret
    exact ⟨ret_int HS.out.symm, hA _⟩
  replace hS := hS.trans (if_pos (by rfl))
  cases OT
  · cases MD
    · have HS := Lib.hid (hS.trans (if_pos (by rfl)))
      clear hS
      go_enter Tryz.func23, Tryz.ntmps23
      go_wp2_with (first | (go_at_call 37; refine (HKI.out _).mono ?_; rintro e w1 ⟨rfl, rfl⟩; clear HKI) | (go_at_call 37; refine (HKW.out _).mono ?_; rintro e w1 ⟨rfl, rfl⟩) | (go_at_call 59; refine (HOT.out _).mono ?_; rintro e w1 ⟨rfl, rfl⟩) | (go_at_call 38; refine (HMD.out _).mono ?_; rintro e w1 ⟨rfl, rfl⟩))
      go_ret
      exact ⟨ret_int HS.out.symm, hA _⟩
    · replace hS := hS.trans (if_neg (by decide))
      by_cases hbig : 20 < n
      · have HS := Lib.hid (hS.trans (if_pos hbig))
        clear hS
        go_enter Tryz.func23, Tryz.ntmps23
        go_wp2_with (first | (go_at_call 37; refine (HKI.out _).mono ?_; rintro e w1 ⟨rfl, rfl⟩; clear HKI) | (go_at_call 37; refine (HKW.out _).mono ?_; rintro e w1 ⟨rfl, rfl⟩) | (go_at_call 59; refine (HOT.out _).mono ?_; rintro e w1 ⟨rfl, rfl⟩) | (go_at_call 38; refine (HMD.out _).mono ?_; rintro e w1 ⟨rfl, rfl⟩))
        go_ret
        exact ⟨ret_int HS.out.symm, hA _⟩
      · have HG : Hid (F = fldG (lastP fs 0) (fs.drop 0)) := Lib.hid (hS.trans (if_neg hbig))
        clear hS
        go_enter Tryz.func23, Tryz.ntmps23
        go_wp2_with (first | (go_at_call 37; refine (HKI.out _).mono ?_; rintro e w1 ⟨rfl, rfl⟩; clear HKI) | (go_at_call 37; refine (HKW.out _).mono ?_; rintro e w1 ⟨rfl, rfl⟩) | (go_at_call 59; refine (HOT.out _).mono ?_; rintro e w1 ⟨rfl, rfl⟩) | (go_at_call 38; refine (HMD.out _).mono ?_; rintro e w1 ⟨rfl, rfl⟩))
        clear HKW HOT HMD
        obtain ⟨P, hP⟩ : ∃ P, P = w.alloc (.cells #[.string id, .string who, .int .i64 time, .int .i64 date, .slice fa n fc] 36) := ⟨_, rfl⟩
        have hbP : Below w.heap.size w P := by rw [hP]; exact hA _
        have hkP : Blk P w.heap.size 36 #[.string id, .string who, .int .i64 time, .int .i64 date, .slice fa n fc] := by rw [hP]; exact Blk.new _ _ _
        rw [← hP]
        clear hP
        obtain ⟨HW, hHW⟩ : ∃ H, H = w.heap.size := ⟨_, rfl⟩
        rw [← hHW] at hkP
        try rw [← hHW]
        have HHW := Lib.hid hHW
        clear hHW
        have HNX : Hid (∀ k (hk : k < fs.length) nm vl, fs[k] = (nm, vl) → lastP fs (k + 1) = nm) := Lib.hid (fun k hk nm vl h => by simp [lastP, hk, h])
        go_loopw [3, 36] (fun s i wr => ∃ (k : Nat) (la : ByteArray), k ≤ n ∧ i = .int .i64 k ∧ s = .string la ∧ lastP fs k = la ∧ Hid (F = fldG (lastP fs k) (fs.drop k)) ∧ Below P.heap.size P wr) (fun _ i _ => n - (intOf i).toNat)
        case atStart => exact ⟨0, ⟨#[]⟩, Nat.zero_le _, rfl, rfl, rfl, HG, Below.refl _ _⟩
        case round =>
          obtain ⟨k, la, hk, rfl, rfl, hlast, HG, hbr⟩ := hrel
          have hkr0 := hkP.below hbr
          by_cases hlt : k < n
          · have hkr : k < fs.length := by rw [HL.out]; exact hlt
            obtain ⟨g, o, hA2, _, hcs⟩ := HC.out (by omega)
            subst hA2
            have hbw := below_call hbP hbr (Nat.le_refl _)
            have hst := HG.out.trans (fldG_step fs k hkr)
            have c0 := below_cell hbw (hcs k hkr 0 (by omega))
            have c1 := below_cell hbw (hcs k hkr 1 (by omega))
            have hfk := HF.out _ (List.getElem_mem hkr)
            obtain ⟨⟨nm, vl⟩, hnv⟩ : ∃ p, fs[k] = p := ⟨_, rfl⟩
            rw [hnv] at c0 c1 hst hfk
            simp only [Nat.add_zero] at c0
            replace c0 : wr.cell? ⟨g, o + k * 2, none⟩ = some (.string nm) := c0
            replace c1 : wr.cell? ⟨g, o + k * 2 + 1, none⟩ = some (.string vl) := c1
            simp only at hfk
            have HNM := Lib.hid (fun W => fieldQ_calls nm W hfk.1)
            have HVL := Lib.hid (fun W => valueQ_calls vl W hfk.2)
            obtain ⟨NB, hNB⟩ : ∃ B, nameB nm = B := ⟨_, rfl⟩
            obtain ⟨VB, hVB⟩ : ∃ B, valueB vl = B := ⟨_, rfl⟩
            have hkey := fun h : nameB nm = true => le_nil (name_key h)
            simp only at hst
            rw [hNB, hVB] at hst
            rw [hNB] at HNM hkey
            rw [hVB] at HVL
            have hbA : Below P.heap.size P (wr.alloc (.cells #[.string nm, .string vl] 99)) := hbr.alloc hbr.size _
            have hkA : Blk (wr.alloc (.cells #[.string nm, .string vl] 99)) wr.heap.size 99 #[.string nm, .string vl] := Blk.new _ _ _
            have z0 := hkA.cell 0
            have z1 := hkA.cell 1
            have hk0 : (0 : Int) ≤ (k : Int) := by omega
            have hkn : (k : Int) < (n : Int) := by omega
            obtain ⟨WA, hWA⟩ : ∃ WA, WA = wr.alloc (.cells #[.string nm, .string vl] 99) := ⟨_, rfl⟩
            obtain ⟨HR, hHR⟩ : ∃ H, H = wr.heap.size := ⟨_, rfl⟩
            have HHR := Lib.hid hHR
            have HWA := Lib.hid hWA
            rw [← hWA, ← hHR] at hkA z0 z1
            rw [← hWA] at hbA
            clear hWA hHR
            have HCS := Lib.hid (fun j (hj : j < fs.length) => below_cell hbw (hcs j hj 0 (by omega)))
            have HNV := Lib.hid hnv
            clear hNB hVB hnv hfk hcs hbw
            cases NB
            · have HS := Lib.hid (hst.trans (if_pos rfl))
              clear hst
              go_wp2_with (first | (go_at_call 60; rw [← HWA.out]; refine (HNM.out _).mono ?_; rintro e w1 ⟨rfl, hb1⟩))
              go_ret
              exact ⟨ret_int HS.out.symm, below_call hbP (below_call hbA hb1 (Nat.le_refl _)) (Nat.le_refl _)⟩
            · replace hst := hst.trans (if_neg (by decide))
              cases VB
              · have HS := Lib.hid (hst.trans (if_pos rfl))
                clear hst
                go_wp2_with (first | (go_at_call 60; rw [← HWA.out, ← HHR.out]; refine (HNM.out _).mono ?_; rintro e w1 ⟨rfl, hb1⟩; have hk1 := hkA.below hb1; have y0 := hk1.cell 0; have y1 := hk1.cell 1) | (go_at_call 61; refine (HVL.out _).mono ?_; rintro e w2 ⟨rfl, rfl⟩))
                go_ret
                exact ⟨ret_int HS.out.symm, below_call hbP (below_call hbA hb1 (Nat.le_refl _)) (Nat.le_refl _)⟩
              · replace hst := hst.trans (if_neg (by decide))
                have hky := hkey rfl
                clear hkey
                have hRA : Below wr.heap.size wr WA := by rw [HWA.out]; exact (Below.refl _ _).alloc (Nat.le_refl _) _
                rw [hlast] at hst
                clear hky
                have hll : lastP fs (k + 1) = nm := HNX.out k hkr nm vl (by first | assumption | exact HNV.out)
                cases hle : leS nm la
                · rw [hle, if_neg (by decide)] at hst
                  have hle' : (Op.bytesLess nm.toList la.toList || nm.toList == la.toList) = false := hle
                  have HS := Lib.hid hst
                  have HLL := Lib.hid hll
                  clear hle hst hll hlast
                  go_wp2_with (first | (go_at_call 60; rw [← HWA.out, ← HHR.out]; refine (HNM.out _).mono ?_; rintro e w1 ⟨rfl, hb1⟩; have hk1 := hkA.below hb1; have y0 := hk1.cell 0; have y1 := hk1.cell 1; have hr1 := hkr0.below (below_call (hRA) hb1 (Nat.le_refl _)); have r4 := hr1.cell 4; have hbZ := below_call hbA hb1 (Nat.le_refl _)) | (go_at_call 61; refine (HVL.out _).mono ?_; rintro e w2 ⟨rfl, rfl⟩))
                  go_roundw
                  case rel => exact ⟨k + 1, nm, by omega, by go_num, rfl, HLL.out, HS, hbZ⟩
                  case measure => simp [intOf]; omega
                · rw [hle, if_pos rfl] at hst
                  have hle' : (Op.bytesLess nm.toList la.toList || nm.toList == la.toList) = true := hle
                  have HS := Lib.hid hst
                  clear hle hst hll hlast
                  go_wp2_with (first | (go_at_call 60; rw [← HWA.out, ← HHR.out]; refine (HNM.out _).mono ?_; rintro e w1 ⟨rfl, hb1⟩; have hk1 := hkA.below hb1; have y0 := hk1.cell 0; have y1 := hk1.cell 1; have hr1 := hkr0.below (below_call (hRA) hb1 (Nat.le_refl _)); have r4 := hr1.cell 4; have hbZ := below_call hbA hb1 (Nat.le_refl _)) | (go_at_call 61; refine (HVL.out _).mono ?_; rintro e w2 ⟨rfl, rfl⟩))
                  go_ret
                  exact ⟨ret_int HS.out.symm, below_call hbP hbZ (Nat.le_refl _)⟩
          · obtain rfl : k = n := by omega
            have HS := Lib.hid (HG.out.trans (by rw [List.drop_of_length_le (by rw [HL.out]; exact Nat.le_refl _)]; rfl : _ = (0 : Int)))
            go_wp2_with fail
            go_ret
            exact ⟨ret_int HS.out.symm, below_call hbP hbr (Nat.le_refl _)⟩
  · have HS := Lib.hid (hS.trans (if_pos (by rfl)))
    clear hS
    go_enter Tryz.func23, Tryz.ntmps23
    go_wp2_with (first | (go_at_call 37; refine (HKI.out _).mono ?_; rintro e w1 ⟨rfl, rfl⟩; clear HKI) | (go_at_call 37; refine (HKW.out _).mono ?_; rintro e w1 ⟨rfl, rfl⟩) | (go_at_call 59; refine (HOT.out _).mono ?_; rintro e w1 ⟨rfl, rfl⟩))
    go_ret
    exact ⟨ret_int HS.out.symm, hA _⟩
end Go.Proofs.YtlkapcjofgpiiaaGreatDoor
