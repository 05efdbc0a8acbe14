/-
  The parser of rules, on: take, nest, isName, isValue by contracts. (Printed by gen_rule1.py.)
-/
import Derived.Test.YthbcogekfdllmaaGreatDoorZPx
import Derived.Test.YthbcogekfdllmaaGreatDoorZSlot1
import Derived.Test.YthbcogekfdllmaaGreatDoorZSlotPure
import Derived.Test.YthbcogekfdllmaaGreatDoorZRatPure
import Derived.Lib.IndexBytes
import Derived.Test.YthbcogekfdllmaaGreatDoorZRatMake4
import Derived.Deep.DeepCutAuto
import Derived.Deep.RegionLaw
import Derived.Deep.QuietTactic
import Derived.BigQuiet
namespace Go.Proofs.YthbcogekfdllmaaGreatDoor
open Go Go.RowKit

set_option maxRecDepth 100000 in
theorem take_calls_ (b : Nat) (s : ByteArray) (t : PSt) (ok : Bool) (w : World) (h : PAt w b s t) (hok : POk s t) (hs : s.size ≤ 100000) :
    Calls Tryz.prog 234 #[.pointer (some ⟨b, 0, none⟩), .bool ok] w (ParS b s (takeF s t ok) (.string (takeS t ok)) w) := by
  obtain ⟨c0, c1, c2, c3, c4, f1, f2, f3, f4⟩ := h.cells
  have HN := Lib.hid (next_calls_ b s t w h hok hs)
  have P2 := h.setBad true
  have B2 : Bx w.heap.size b w (w.setCell ⟨b, 4, none⟩ (.bool true)) := (Bx.refl _ _ _).setCell (p := ⟨b, 4, none⟩) (.inl rfl) _
  obtain ⟨bd, hbd⟩ : ∃ bd, t.bad = bd := ⟨_, rfl⟩
  rw [hbd] at c4
  have HD := Lib.hid hbd
  clear h hbd
  cases bd
  · cases ok
    · have HR : Hid (takeF s t false = { t with bad := true } ∧ takeS t false = ⟨#[]⟩) := by unfold takeF takeS; exact Lib.hid ⟨by simp, by simp⟩
      rw [HR.out.1, HR.out.2]
      go_enter Tryz.func234, Tryz.ntmps234
      go_wp2_with fail
      go_ret
      exact ⟨rfl, P2, B2⟩
    · have HR : Hid (takeF s t true = nextF s t ∧ takeS t true = t.tok) := by unfold takeF takeS; rw [HD.out]; exact Lib.hid ⟨by simp, by simp⟩
      rw [HR.out.1, HR.out.2]
      go_enter Tryz.func234, Tryz.ntmps234
      go_wp2_with fail
      refine HN.out.mono ?_
      rintro e w2 ⟨rfl, P3, B3⟩
      go_wp2_with fail
      go_ret
      exact ⟨rfl, P3, B3⟩
  · have HR : Hid (takeF s t ok = { t with bad := true } ∧ takeS t ok = ⟨#[]⟩) := by unfold takeF takeS; rw [HD.out]; exact Lib.hid ⟨by simp, by simp⟩
    rw [HR.out.1, HR.out.2]
    go_enter Tryz.func234, Tryz.ntmps234
    go_wp2_with fail
    go_ret
    exact ⟨rfl, P2, B2⟩

set_option maxRecDepth 100000 in
theorem nest_calls_ (b : Nat) (s : ByteArray) (t : PSt) (d : Int) (w : World) (h : PAt w b s t) :
    Calls Tryz.prog 235 #[.pointer (some ⟨b, 0, none⟩), .int .i64 d] w (ParS b s (nestF d t) (.tuple #[]) w) := by
  obtain ⟨c0, c1, c2, c3, c4, f1, f2, f3, f4⟩ := h.cells
  by_cases h1 : 20 < d
  · by_cases h2 : t.deep < 0
    · have HR : Hid (nestF d t = { t with deep := t.at_ }) := by unfold nestF; rw [if_pos ⟨h1, h2⟩]; exact Lib.hid rfl
      rw [HR.out]
      have P2 := h.setDeep t.at_
      have B2 : Bx w.heap.size b w (w.setCell ⟨b, 3, none⟩ (.int .i64 t.at_)) := (Bx.refl _ _ _).setCell (p := ⟨b, 3, none⟩) (.inl rfl) _
      go_enter Tryz.func235, Tryz.ntmps235
      go_wp2_with fail
      go_end0
      exact ⟨rfl, P2, B2⟩
    · have HR : Hid (nestF d t = t) := by unfold nestF; rw [if_neg (by omega)]; exact Lib.hid rfl
      rw [HR.out]
      go_enter Tryz.func235, Tryz.ntmps235
      go_wp2_with fail
      go_end0
      exact ⟨rfl, h, Bx.refl _ _ _⟩
  · have HR : Hid (nestF d t = t) := by unfold nestF; rw [if_neg (by omega)]; exact Lib.hid rfl
    rw [HR.out]
    go_enter Tryz.func235, Tryz.ntmps235
    go_wp2_with fail
    go_end0
    exact ⟨rfl, h, Bx.refl _ _ _⟩

def words6 : List ByteArray := [sTime, sAnd, sOr, sNot, sHas, sTrue]
set_option maxRecDepth 100000 in
theorem isName_calls (x : ByteArray) (w : World) (hx : x.size ≤ 1000000) : Calls Tryz.prog 88 #[.string x] w (BRet (.bool (nameB x)) w) := by
  have hK := fun W : World => key_calls x W (by unfold maxLen; omega)
  have hC := fun W : World => containsS_calls (W.heap.size + 1) (some ⟨W.heap.size, 0, none⟩) 6 6 words6 x (W.alloc (.cells #[.string ⟨#[116, 105, 109, 101]⟩, .string ⟨#[97, 110, 100]⟩, .string ⟨#[111, 114]⟩, .string ⟨#[110, 111, 116]⟩, .string ⟨#[104, 97, 115]⟩, .string ⟨#[116, 114, 117, 101]⟩] 9)) (Rd.lit W (W.heap.size + 1) 1 6 _ _ (by omega) (by decide) rfl)
  obtain ⟨M, hM⟩ : ∃ M, memS words6 x = M := ⟨_, rfl⟩
  obtain ⟨B, hB⟩ : ∃ B, keyB x.data.toList = B := ⟨_, rfl⟩
  rw [hM] at hC
  rw [hB] at hK
  have HC := Lib.hid hC
  have HK := Lib.hid hK
  have HR : Hid (nameB x = (B && !M)) := by rw [← hM, ← hB]; exact Lib.hid rfl
  rw [HR.out]
  clear hC hK hM hB HR
  cases B
  · go_enter Tryz.func88, Tryz.ntmps88
    go_wp2_with fail
    refine (HK.out _).mono ?_
    rintro e w2 ⟨rfl, rfl⟩
    go_wp2_with fail
    go_ret
    exact ⟨rfl, Below.refl _ _⟩
  · go_enter Tryz.func88, Tryz.ntmps88
    go_wp2_with fail
    refine (HK.out _).mono ?_
    rintro e w2 ⟨rfl, rfl⟩
    go_wp2_with fail
    refine (HC.out _).mono ?_
    rintro e w2 ⟨rfl, nq, rfl⟩
    go_wp2_with fail
    go_ret
    exact ⟨ret_bool (by cases M <;> rfl), below_drewN ((Below.refl _ _).alloc (Nat.le_refl _) _) nq⟩

theorem all_snoc_w (l : List UInt8) (c : UInt8) : (l ++ [c]).all wordB = (l.all wordB && wordB c) := by simp
theorem all_no_w {l : List UInt8} {c : UInt8} (h : c ∈ l) (h' : wordB c = false) : l.all wordB = false := by
  rw [List.all_eq_false]
  exact ⟨c, h, by simpa using h'⟩
set_option maxRecDepth 100000 in
theorem isValue_calls (s : ByteArray) (w : World) (hs : s.size ≤ 1000000) : Calls Tryz.prog 185 #[.string s] w fun e w' => e = .returned (.bool (valueB s)) ∧ w = w' := by
  by_cases h0 : 1 ≤ s.size ∧ s.size ≤ 40
  · have HO := Lib.hid (show outB (s.size : Int) 1 40 = false from outB_f (by omega) (by omega))
    have HV : Hid (valueB s = s.data.toList.all wordB) := by unfold valueB; rw [decide_eq_true h0]; exact Lib.hid rfl
    go_enter Tryz.func185, Tryz.ntmps185
    go_wp2_with fail
    refine (out_calls _ _ _ _).mono ?_
    rintro e w' ⟨rfl, rfl⟩
    rw [HO.out]
    go_wp2_with fail
    go_loop [9] (fun i => ∃ k : Nat, k ≤ s.size ∧ i = .int .i64 k ∧ Hid ((s.data.toList.take k).all wordB = true)) (fun i => s.size - (intOf i).toNat)
    case atStart => exact ⟨0, Nat.zero_le _, rfl, by simp [Hid]⟩
    case round =>
      obtain ⟨k, hk, rfl, HA⟩ := hrel
      by_cases hlt : k < s.size
      · have hsn := all_snoc_w (s.data.toList.take k) s[k]
        rw [← take_snoc s k hlt] at hsn
        have hmem : s[k] ∈ s.data.toList := by
          show s.data.toList[k]'(by simpa using hlt) ∈ _
          exact List.getElem_mem _
        have hno := all_no_w hmem
        have HW := Lib.hid (isWordByte_calls s[k] w)
        clear hmem
        cases hw : wordB s[k]
        · have HN := Lib.hid (hno hw)
          rw [hw] at HW
          clear hw hno hsn
          go_wp2_with (go_at_call 195; refine HW.out.mono ?_; rintro e w2 ⟨rfl, rfl⟩)
          go_ret
          exact ⟨ret_bool (HV.out.trans HN.out).symm, rfl⟩
        · rw [hw, Bool.and_true, HA.out] at hsn
          have HS := Lib.hid hsn
          rw [hw] at HW
          clear hw hno hsn
          go_wp2_with (go_at_call 195; refine HW.out.mono ?_; rintro e w2 ⟨rfl, rfl⟩)
          go_round
          case rel => exact ⟨k + 1, by omega, by go_num, HS⟩
          case measure => simp [intOf]; omega
      · go_wp2_with fail
        go_ret
        exact ⟨ret_bool (by rw [HV.out, ← HA.out, List.take_of_length_le (by simp; omega)]), rfl⟩
  · have HO := Lib.hid (show outB (s.size : Int) 1 40 = true from outB_t (by omega))
    have HV : Hid (valueB s = false) := by unfold valueB; rw [decide_eq_false h0]; exact Lib.hid rfl
    rw [HV.out]
    clear h0
    go_enter Tryz.func185, Tryz.ntmps185
    go_wp2_with fail
    refine (out_calls _ _ _ _).mono ?_
    rintro e w' ⟨rfl, rfl⟩
    rw [HO.out]
    go_wp2_with fail
    go_ret
    exact ⟨rfl, rfl⟩
end Go.Proofs.YthbcogekfdllmaaGreatDoor
/-
  What is wrong with a run: rule.CheckRun and splitref2.RunFault by contracts. (Printed by gen_run1.py.)
-/
namespace Go.Proofs.YthbcogekfdllmaaGreatDoor
open Go Go.RowKit

theorem name_key {x : ByteArray} (h : nameB x = true) : keyB x.data.toList = true := by
  unfold nameB at h
  rw [Bool.and_eq_true] at h
  exact h.1

set_option maxRecDepth 100000 in
set_option maxHeartbeats 2000000 in
theorem checkRun_calls (b : Nat) (x : Rn) (w : World) (hx : RnW w b x) : Calls Tryz.prog 146 #[.agg #[.string x.id, .string x.who, .int .i64 x.time, .int .i64 x.date, .slice x.fa x.fs.length x.fc]] w (BRet (.int .i64 (runF x)) w) := by
  obtain ⟨hrd, hi, hw, hf, _⟩ := hx
  obtain ⟨id, who, time, date, fa, fc, fs⟩ := x
  simp only at hrd hi hw hf
  obtain ⟨n, hn⟩ : ∃ n, fs.length = n := ⟨_, rfl⟩
  have hS : runF ⟨id, who, time, date, fa, fc, fs⟩ = (if (keyB id.data.toList && keyB who.data.toList) = true then if (outB time 0 864000000 || !momB date) = true then 1 else if 20 < n then 2 else fldG ⟨#[]⟩ fs else 5) := by
    subst hn; rfl
  obtain ⟨F, hF⟩ : ∃ F, runF ⟨id, who, time, date, fa, fc, fs⟩ = F := ⟨_, rfl⟩
  rw [hF] at hS ⊢
  simp only [hn]
  rw [hn] at hrd
  obtain ⟨hl, hnc, hcm, hcells⟩ := hrd.cells prC_len (by omega)
  unfold maxLen at hcm
  have HKI := Lib.hid (fun W => key_calls id W (by unfold maxLen; omega))
  have HKW := Lib.hid (fun W => key_calls who W (by unfold maxLen; omega))
  have HOT := Lib.hid (fun W => out_calls time 0 864000000 W)
  have HMD := Lib.hid (fun W => moment_calls date W)
  obtain ⟨KI, hKI⟩ : ∃ B, keyB id.data.toList = B := ⟨_, rfl⟩
  obtain ⟨KW, hKW⟩ : ∃ B, keyB who.data.toList = B := ⟨_, rfl⟩
  obtain ⟨OT, hOT⟩ : ∃ B, outB time 0 864000000 = B := ⟨_, rfl⟩
  obtain ⟨MD, hMD⟩ : ∃ B, momB date = B := ⟨_, rfl⟩
  rw [hKI, hKW, hOT, hMD] at hS
  rw [hKI] at HKI
  rw [hKW] at HKW
  rw [hOT] at HOT
  rw [hMD] at HMD
  clear hKI hKW hOT hMD hF
  have HL := Lib.hid hl
  have HC := Lib.hid hcells
  have HF := Lib.hid hf
  have hA : ∀ o : Obj, Below w.heap.size w (w.alloc o) := fun o => (Below.refl _ _).alloc (Nat.le_refl _) o
  clear hl hcells hf hrd
  cases KI
  · have HS := Lib.hid (hS.trans (if_neg (by simp)))
    clear hS
    go_enter Tryz.func146, Tryz.ntmps146
    go_wp2_with (first | (go_at_call 94; refine (HKI.out _).mono ?_; rintro e w1 ⟨rfl, rfl⟩))
    go_ret
    exact ⟨ret_int HS.out.symm, hA _⟩
  cases KW
  · have HS := Lib.hid (hS.trans (if_neg (by simp)))
    clear hS
    go_enter Tryz.func146, Tryz.ntmps146
    go_wp2_with (first | (go_at_call 94; refine (HKI.out _).mono ?_; rintro e w1 ⟨rfl, rfl⟩; clear HKI) | (go_at_call 94; refine (HKW.out _).mono ?_; rintro e w1 ⟨rfl, rfl⟩))
    go_ret
    exact ⟨ret_int HS.out.symm, hA _⟩
  replace hS := hS.trans (if_pos (by rfl))
  cases OT
  · cases MD
    · have HS := Lib.hid (hS.trans (if_pos (by rfl)))
      clear hS
      go_enter Tryz.func146, Tryz.ntmps146
      go_wp2_with (first | (go_at_call 94; refine (HKI.out _).mono ?_; rintro e w1 ⟨rfl, rfl⟩; clear HKI) | (go_at_call 94; refine (HKW.out _).mono ?_; rintro e w1 ⟨rfl, rfl⟩) | (go_at_call 66; refine (HOT.out _).mono ?_; rintro e w1 ⟨rfl, rfl⟩) | (go_at_call 110; refine (HMD.out _).mono ?_; rintro e w1 ⟨rfl, rfl⟩))
      go_ret
      exact ⟨ret_int HS.out.symm, hA _⟩
    · replace hS := hS.trans (if_neg (by decide))
      by_cases hbig : 20 < n
      · have HS := Lib.hid (hS.trans (if_pos hbig))
        clear hS
        go_enter Tryz.func146, Tryz.ntmps146
        go_wp2_with (first | (go_at_call 94; refine (HKI.out _).mono ?_; rintro e w1 ⟨rfl, rfl⟩; clear HKI) | (go_at_call 94; refine (HKW.out _).mono ?_; rintro e w1 ⟨rfl, rfl⟩) | (go_at_call 66; refine (HOT.out _).mono ?_; rintro e w1 ⟨rfl, rfl⟩) | (go_at_call 110; refine (HMD.out _).mono ?_; rintro e w1 ⟨rfl, rfl⟩))
        go_ret
        exact ⟨ret_int HS.out.symm, hA _⟩
      · have HG : Hid (F = fldG (lastP fs 0) (fs.drop 0)) := Lib.hid (hS.trans (if_neg hbig))
        clear hS
        go_enter Tryz.func146, Tryz.ntmps146
        go_wp2_with (first | (go_at_call 94; refine (HKI.out _).mono ?_; rintro e w1 ⟨rfl, rfl⟩; clear HKI) | (go_at_call 94; refine (HKW.out _).mono ?_; rintro e w1 ⟨rfl, rfl⟩) | (go_at_call 66; refine (HOT.out _).mono ?_; rintro e w1 ⟨rfl, rfl⟩) | (go_at_call 110; refine (HMD.out _).mono ?_; rintro e w1 ⟨rfl, rfl⟩))
        clear HKW HOT HMD
        obtain ⟨P, hP⟩ : ∃ P, P = w.alloc (.cells #[.string id, .string who, .int .i64 time, .int .i64 date, .slice fa n fc] 101) := ⟨_, rfl⟩
        have hbP : Below w.heap.size w P := by rw [hP]; exact hA _
        have hkP : Blk P w.heap.size 101 #[.string id, .string who, .int .i64 time, .int .i64 date, .slice fa n fc] := by rw [hP]; exact Blk.new _ _ _
        rw [← hP]
        clear hP
        obtain ⟨HW, hHW⟩ : ∃ H, H = w.heap.size := ⟨_, rfl⟩
        rw [← hHW] at hkP
        try rw [← hHW]
        have HHW := Lib.hid hHW
        clear hHW
        go_loopw [34] (fun i wr => ∃ k : Nat, k ≤ n ∧ i = .int .i64 k ∧ Hid (F = fldG (lastP fs k) (fs.drop k)) ∧ Below P.heap.size P wr) (fun i _ => n - (intOf i).toNat)
        case atStart => exact ⟨0, Nat.zero_le _, rfl, HG, Below.refl _ _⟩
        case round =>
          obtain ⟨k, hk, rfl, HG, hbr⟩ := hrel
          have hkr0 := hkP.below hbr
          by_cases hlt : k < n
          · have hkr : k < fs.length := by rw [HL.out]; exact hlt
            obtain ⟨g, o, hA2, _, hcs⟩ := HC.out (by omega)
            subst hA2
            have hbw := below_call hbP hbr (Nat.le_refl _)
            have hst := HG.out.trans (fldG_step fs k hkr)
            have c0 := below_cell hbw (hcs k hkr 0 (by omega))
            have c1 := below_cell hbw (hcs k hkr 1 (by omega))
            have hfk := HF.out _ (List.getElem_mem hkr)
            obtain ⟨⟨nm, vl⟩, hnv⟩ : ∃ p, fs[k] = p := ⟨_, rfl⟩
            rw [hnv] at c0 c1 hst hfk
            simp only [Nat.add_zero] at c0
            replace c0 : wr.cell? ⟨g, o + k * 2, none⟩ = some (.string nm) := c0
            replace c1 : wr.cell? ⟨g, o + k * 2 + 1, none⟩ = some (.string vl) := c1
            simp only at hfk
            have HNM := Lib.hid (fun W => isName_calls nm W hfk.1)
            have HVL := Lib.hid (fun W => isValue_calls vl W hfk.2)
            obtain ⟨NB, hNB⟩ : ∃ B, nameB nm = B := ⟨_, rfl⟩
            obtain ⟨VB, hVB⟩ : ∃ B, valueB vl = B := ⟨_, rfl⟩
            have hkey := fun h : nameB nm = true => le_nil (name_key h)
            simp only at hst
            rw [hNB, hVB] at hst
            rw [hNB] at HNM hkey
            rw [hVB] at HVL
            have hbA : Below P.heap.size P (wr.alloc (.cells #[.string nm, .string vl] 75)) := hbr.alloc hbr.size _
            have hkA : Blk (wr.alloc (.cells #[.string nm, .string vl] 75)) wr.heap.size 75 #[.string nm, .string vl] := Blk.new _ _ _
            have z0 := hkA.cell 0
            have z1 := hkA.cell 1
            have hk0 : (0 : Int) ≤ (k : Int) := by omega
            have hkn : (k : Int) < (n : Int) := by omega
            obtain ⟨WA, hWA⟩ : ∃ WA, WA = wr.alloc (.cells #[.string nm, .string vl] 75) := ⟨_, rfl⟩
            obtain ⟨HR, hHR⟩ : ∃ H, H = wr.heap.size := ⟨_, rfl⟩
            have HHR := Lib.hid hHR
            have HWA := Lib.hid hWA
            rw [← hWA, ← hHR] at hkA z0 z1
            rw [← hWA] at hbA
            clear hWA hHR
            have HCS := Lib.hid (fun j (hj : j < fs.length) => below_cell hbw (hcs j hj 0 (by omega)))
            clear hNB hVB hnv hfk hcs hbw
            cases NB
            · have HS := Lib.hid (hst.trans (if_pos rfl))
              clear hst
              go_wp2_with (first | (go_at_call 88; rw [← HWA.out]; refine (HNM.out _).mono ?_; rintro e w1 ⟨rfl, hb1⟩))
              go_ret
              exact ⟨ret_int HS.out.symm, below_call hbP (below_call hbA hb1 (Nat.le_refl _)) (Nat.le_refl _)⟩
            · replace hst := hst.trans (if_neg (by decide))
              cases VB
              · have HS := Lib.hid (hst.trans (if_pos rfl))
                clear hst
                go_wp2_with (first | (go_at_call 88; rw [← HWA.out, ← HHR.out]; refine (HNM.out _).mono ?_; rintro e w1 ⟨rfl, hb1⟩; have hk1 := hkA.below hb1; have y0 := hk1.cell 0; have y1 := hk1.cell 1) | (go_at_call 185; refine (HVL.out _).mono ?_; rintro e w2 ⟨rfl, rfl⟩))
                go_ret
                exact ⟨ret_int HS.out.symm, below_call hbP (below_call hbA hb1 (Nat.le_refl _)) (Nat.le_refl _)⟩
              · replace hst := hst.trans (if_neg (by decide))
                have hky := hkey rfl
                clear hkey
                have hRA : Below wr.heap.size wr WA := by rw [HWA.out]; exact (Below.refl _ _).alloc (Nat.le_refl _) _
                cases k with
                | zero =>
                  rw [show lastP fs 0 = ⟨#[]⟩ from rfl, hky, if_neg (by decide)] at hst
                  rw [Nat.zero_mul, Nat.add_zero] at c0 c1
                  have HST := Lib.hid hst
                  clear hst hky
                  go_wp2_with (first | (go_at_call 88; rw [← HWA.out, ← HHR.out]; refine (HNM.out _).mono ?_; rintro e w1 ⟨rfl, hb1⟩; have hk1 := hkA.below hb1; have y0 := hk1.cell 0; have y1 := hk1.cell 1; have hr1 := hkr0.below (below_call (hRA) hb1 (Nat.le_refl _)); have r4 := hr1.cell 4; have hbZ := below_call hbA hb1 (Nat.le_refl _)) | (go_at_call 185; refine (HVL.out _).mono ?_; rintro e w2 ⟨rfl, rfl⟩))
                  go_quiet (fail)
                  go_wp2_with fail
                  go_roundw
                  case rel => exact ⟨1, by omega, rfl, HST, below_drewN hbZ _⟩
                  case measure => simp [intOf]; omega
                | succ j =>
                  have hjr : j < fs.length := by omega
                  have p0 := below_cell hRA (HCS.out j hjr)
                  have hla : lastP fs (j + 1) = fs[j].1 := by simp [lastP, hjr]
                  rw [hla] at hst
                  obtain ⟨⟨nm2, vl2⟩, hx2⟩ : ∃ x, fs[j] = x := ⟨_, rfl⟩
                  rw [hx2] at p0 hst
                  simp only [Nat.add_zero] at p0
                  replace p0 : WA.cell? ⟨g, o + j * 2, none⟩ = some (.string nm2) := p0
                  have HP0 := Lib.hid p0
                  have hg : (0 : Int) < (((j + 1 : Nat)) : Int) := by omega
                  have hj0 : (0 : Int) ≤ (j : Int) := by omega
                  have hjn : (j : Int) < (n : Int) := by omega
                  have hj1 : ((j : Int) + 1) - 1 = (j : Int) := by omega
                  clear hla hx2 hky p0
                  simp only at hst
                  cases hle : leS nm nm2
                  · rw [hle, if_neg (by decide)] at hst
                    have hle' : (Op.bytesLess nm.toList nm2.toList || nm.toList == nm2.toList) = false := hle
                    have HS := Lib.hid hst
                    clear hle hst
                    go_wp2_with (first | (go_at_call 88; rw [← HWA.out, ← HHR.out]; refine (HNM.out _).mono ?_; rintro e w1 ⟨rfl, hb1⟩; have hk1 := hkA.below hb1; have y0 := hk1.cell 0; have y1 := hk1.cell 1; have hr1 := hkr0.below (below_call (hRA) hb1 (Nat.le_refl _)); have r4 := hr1.cell 4; have q0 := below_cell hb1 HP0.out; have hbZ := below_call hbA hb1 (Nat.le_refl _)) | (go_at_call 185; refine (HVL.out _).mono ?_; rintro e w2 ⟨rfl, rfl⟩))
                    go_quiet (fail)
                    go_wp2_with fail
                    go_roundw
                    case rel => exact ⟨j + 1 + 1, by omega, by go_num, HS, below_drewN hbZ _⟩
                    case measure => simp [intOf]; omega
                  · rw [hle, if_pos rfl] at hst
                    have hle' : (Op.bytesLess nm.toList nm2.toList || nm.toList == nm2.toList) = true := hle
                    have HS := Lib.hid hst
                    clear hle hst
                    go_wp2_with (first | (go_at_call 88; rw [← HWA.out, ← HHR.out]; refine (HNM.out _).mono ?_; rintro e w1 ⟨rfl, hb1⟩; have hk1 := hkA.below hb1; have y0 := hk1.cell 0; have y1 := hk1.cell 1; have hr1 := hkr0.below (below_call (hRA) hb1 (Nat.le_refl _)); have r4 := hr1.cell 4; have q0 := below_cell hb1 HP0.out; have hbZ := below_call hbA hb1 (Nat.le_refl _)) | (go_at_call 185; refine (HVL.out _).mono ?_; rintro e w2 ⟨rfl, rfl⟩))
                    go_quiet (fail)
                    go_wp2_with fail
                    go_ret
                    exact ⟨ret_int HS.out.symm, below_call hbP (below_drewN hbZ _) (Nat.le_refl _)⟩
          · obtain rfl : k = n := by omega
            have HS := Lib.hid (HG.out.trans (by rw [List.drop_of_length_le (by rw [HL.out]; exact Nat.le_refl _)]; rfl : _ = (0 : Int)))
            go_wp2_with fail
            go_ret
            exact ⟨ret_int HS.out.symm, below_call hbP hbr (Nat.le_refl _)⟩
  · have HS := Lib.hid (hS.trans (if_pos (by rfl)))
    clear hS
    go_enter Tryz.func146, Tryz.ntmps146
    go_wp2_with (first | (go_at_call 94; refine (HKI.out _).mono ?_; rintro e w1 ⟨rfl, rfl⟩; clear HKI) | (go_at_call 94; refine (HKW.out _).mono ?_; rintro e w1 ⟨rfl, rfl⟩) | (go_at_call 66; refine (HOT.out _).mono ?_; rintro e w1 ⟨rfl, rfl⟩))
    go_ret
    exact ⟨ret_int HS.out.symm, hA _⟩

end Go.Proofs.YthbcogekfdllmaaGreatDoor
/-
  What is wrong with runs: rule.CheckRuns and splitref2.RunsFault by contracts. (Printed by gen_run2.py.)
-/
namespace Go.Proofs.YthbcogekfdllmaaGreatDoor
open Go Go.RowKit

set_option maxRecDepth 100000 in
set_option maxHeartbeats 2000000 in
theorem checkRuns_calls (b : Nat) (A : Option Addr) (n c : Nat) (xs : List Rn) (w : World) (hr : Rns w b A n c xs) (_hb : b < w.heap.size) :
    Calls Tryz.prog 87 #[.slice A n c] w (BRet (.int .i64 (runsF xs)) w) := by
  obtain ⟨hl, hnc, hcm, hcells⟩ := hr.rd.cells rnC_len (by omega)
  unfold maxLen at hcm
  by_cases hbig : 1000 < n
  · have HF := Lib.hid (show runsF xs = 2 by unfold runsF; rw [if_pos (by omega)])
    clear hcells hl
    go_enter Tryz.func87, Tryz.ntmps87
    go_wp2_with fail
    go_ret
    exact ⟨ret_int HF.out.symm, Below.refl _ _⟩
  have HF := Lib.hid (show runsF xs = runsG (lastR xs 0) (xs.drop 0) by unfold runsF; rw [if_neg (by omega)]; rfl)
  have HL := Lib.hid hl
  have HC := Lib.hid hcells
  have HR := Lib.hid hr
  clear hcells hl hr
  go_enter Tryz.func87, Tryz.ntmps87
  go_wp2_with fail
  go_loopw [11] (fun i wr => ∃ k : Nat, k ≤ n ∧ i = .int .i64 k ∧ Hid (runsF xs = runsG (lastR xs k) (xs.drop k)) ∧ Below w.heap.size w wr) (fun i _ => n - (intOf i).toNat)
  case atStart => exact ⟨0, Nat.zero_le _, rfl, HF, Below.refl _ _⟩
  case round =>
    clear HF
    obtain ⟨k, hk, rfl, HG, hbr⟩ := hrel
    by_cases hlt : k < n
    · have hkr : k < xs.length := by rw [HL.out]; exact hlt
      obtain ⟨g, o, hA, _, hcs⟩ := HC.out (by omega)
      subst hA
      have hst := HG.out.trans (runsG_step xs k hkr)
      have hok := (HR.out.ok _ (List.getElem_mem hkr)).below hbr
      have HCS := Lib.hid (fun j (hj : j < xs.length) => below_cell hbr (hcs j hj 0 (by omega)))
      have c0 := below_cell hbr (hcs k hkr 0 (by omega))
      have c1 := below_cell hbr (hcs k hkr 1 (by omega))
      have c2 := below_cell hbr (hcs k hkr 2 (by omega))
      have c3 := below_cell hbr (hcs k hkr 3 (by omega))
      have c4 := below_cell hbr (hcs k hkr 4 (by omega))
      obtain ⟨x, hx⟩ : ∃ x, xs[k] = x := ⟨_, rfl⟩
      rw [hx] at c0 c1 c2 c3 c4 hst hok
      obtain ⟨id, who, ti, da, fa, fc, fs⟩ := x
      obtain ⟨m, hm⟩ : ∃ m, fs.length = m := ⟨_, rfl⟩
      replace c0 : wr.cell? ⟨g, o + k * 5, none⟩ = some (.string id) := c0
      replace c1 : wr.cell? ⟨g, o + k * 5 + 1, none⟩ = some (.string who) := c1
      replace c2 : wr.cell? ⟨g, o + k * 5 + 2, none⟩ = some (.int .i64 ti) := c2
      replace c3 : wr.cell? ⟨g, o + k * 5 + 3, none⟩ = some (.int .i64 da) := c3
      replace c4 : wr.cell? ⟨g, o + k * 5 + 4, none⟩ = some (.slice fa m fc) := by rw [← hm]; exact c4
      obtain ⟨WA, hWA⟩ : ∃ WA, WA = wr.alloc (.cells #[.string id, .string who, .int .i64 ti, .int .i64 da, .slice fa m fc] 101) := ⟨_, rfl⟩
      obtain ⟨H, hH⟩ : ∃ H, H = wr.heap.size := ⟨_, rfl⟩
      have hkA : Blk WA H 101 #[.string id, .string who, .int .i64 ti, .int .i64 da, .slice fa m fc] := by rw [hWA, hH]; exact Blk.new _ _ _
      have hRA : Below wr.heap.size wr WA := by rw [hWA]; exact (Below.refl _ _).alloc (Nat.le_refl _) _
      have hbA : Below w.heap.size w WA := below_call hbr hRA (Nat.le_refl _)
      obtain ⟨E, hE⟩ : ∃ E, runF ⟨id, who, ti, da, fa, fc, fs⟩ = E := ⟨_, rfl⟩
      have HCR : Hid (Calls Tryz.prog 146 #[.agg #[.string id, .string who, .int .i64 ti, .int .i64 da, .slice fa m fc]] WA (BRet (.int .i64 E) WA)) := by
        have := checkRun_calls b ⟨id, who, ti, da, fa, fc, fs⟩ WA (hok.below hRA)
        rw [hE] at this
        simp only [hm] at this
        exact Lib.hid this
      have hky := fun h : E = 0 => le_nil (runF_key (x := ⟨id, who, ti, da, fa, fc, fs⟩) (hE.trans h))
      simp only at hky
      rw [hE] at hst
      have z0 := hkA.cell 0
      have z1 := hkA.cell 1
      have z2 := hkA.cell 2
      have z3 := hkA.cell 3
      have z4 := hkA.cell 4
      have HWA := Lib.hid hWA
      have HH := Lib.hid hH
      have HX := Lib.hid hx
      have hk0 : (0 : Int) ≤ (k : Int) := by omega
      have hkn : (k : Int) < (n : Int) := by omega
      clear hcs hok hx hm hE hWA hH
      go_upto_region 6 with (fail)
      rw [← HWA.out, ← HH.out]
      clear c0 c1 c2 c3 c4
      by_cases hE0 : E = 0
      · subst hE0
        have hky := hky rfl
        replace hst := hst.trans (if_pos rfl)
        simp only at hst
        cases k with
        | zero =>
          rw [show lastR xs 0 = ⟨#[]⟩ from rfl, hky, if_neg (by decide)] at hst
          have HST := Lib.hid hst
          clear hst hky
          go_wp2_with (first | (go_at_call 146; refine HCR.out.mono ?_; rintro e w1 ⟨rfl, hb1⟩; have hk1 := hkA.below hb1; have y0 := hk1.cell 0; have hbZ := below_call hbA hb1 (Nat.le_refl _)))
          go_quiet (fail)
          go_wp2_with fail
          go_roundw
          case rel => exact ⟨1, by omega, rfl, HST, below_drewN hbZ _⟩
          case measure => simp [intOf]; omega
        | succ j =>
          have hjr : j < xs.length := by omega
          have p0 := below_cell hRA (HCS.out j hjr)
          have hla : lastR xs (j + 1) = xs[j].id := by simp [lastR, hjr]
          rw [hla] at hst
          obtain ⟨id2, hx2⟩ : ∃ x, xs[j].id = x := ⟨_, rfl⟩
          have p0' : WA.cell? ⟨g, o + j * 5, none⟩ = some (.string xs[j].id) := p0
          rw [hx2] at p0' hst
          have HP0 := Lib.hid p0'
          have hg : (0 : Int) < (((j + 1 : Nat)) : Int) := by omega
          have hj0 : (0 : Int) ≤ (j : Int) := by omega
          have hjn : (j : Int) < (n : Int) := by omega
          have hj1 : ((j : Int) + 1) - 1 = (j : Int) := by omega
          clear hla hx2 hky p0 p0'
          cases hle : leS id id2
          · rw [hle, if_neg (by decide)] at hst
            have hle' : (Op.bytesLess id.toList id2.toList || id.toList == id2.toList) = false := hle
            have HS := Lib.hid hst
            clear hle hst
            go_wp2_with (first | (go_at_call 146; refine HCR.out.mono ?_; rintro e w1 ⟨rfl, hb1⟩; have hk1 := hkA.below hb1; have y0 := hk1.cell 0; have q0 := below_cell hb1 HP0.out; have hbZ := below_call hbA hb1 (Nat.le_refl _)))
            go_quiet (fail)
            go_wp2_with fail
            go_roundw
            case rel => exact ⟨j + 1 + 1, by omega, by go_num, HS, below_drewN hbZ _⟩
            case measure => simp [intOf]; omega
          · rw [hle, if_pos rfl] at hst
            have hle' : (Op.bytesLess id.toList id2.toList || id.toList == id2.toList) = true := hle
            have HS := Lib.hid hst
            clear hle hst
            go_wp2_with (first | (go_at_call 146; refine HCR.out.mono ?_; rintro e w1 ⟨rfl, hb1⟩; have hk1 := hkA.below hb1; have y0 := hk1.cell 0; have q0 := below_cell hb1 HP0.out; have hbZ := below_call hbA hb1 (Nat.le_refl _)))
            go_quiet (fail)
            go_wp2_with fail
            go_ret
            exact ⟨ret_int HS.out.symm, below_drewN hbZ _⟩
      · have HS := Lib.hid (hst.trans (if_neg hE0))
        have hEb : (E != 0) = true := by rw [bne_iff_ne]; exact hE0
        clear hst hky
        go_wp2_with (first | (go_at_call 146; refine HCR.out.mono ?_; rintro e w1 ⟨rfl, hb1⟩))
        go_ret
        exact ⟨ret_int HS.out.symm, below_call hbA hb1 (Nat.le_refl _)⟩
    · obtain rfl : k = n := by omega
      have HS := Lib.hid (HG.out.trans (by rw [List.drop_of_length_le (by rw [HL.out]; exact Nat.le_refl _)]; rfl : _ = (0 : Int)))
      go_wp2_with fail
      go_ret
      exact ⟨ret_int HS.out.symm, hbr⟩

end Go.Proofs.YthbcogekfdllmaaGreatDoor
