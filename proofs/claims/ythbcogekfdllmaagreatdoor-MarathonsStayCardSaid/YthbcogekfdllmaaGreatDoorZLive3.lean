/-
  marathon.CheckLive by a contract. (Printed by gen_live3.py.)
-/
import Derived.Test.YthbcogekfdllmaaGreatDoorZSlot5
namespace Go.Proofs.YthbcogekfdllmaaGreatDoor
open Go Go.RowKit
attribute [local go_sem ↓] Go.wp_at_zero Go.wp_at_succ

theorem lvE_1 {xs : List Slt} {p : List Lv} {y : Lv} (h : momB y.1 = false) : lvE xs p y = 1 := by unfold lvE; rw [h]; rfl
theorem lvE_4 {xs : List Slt} {p : List Lv} {y : Lv} (h : momB y.1 = true) (h2 : outB y.2.1 1 3 = true) : lvE xs p y = 4 := by unfold lvE; rw [h, h2]; rfl
theorem lvE_8 {xs : List Slt} {p : List Lv} {y : Lv} (h : momB y.1 = true) (h2 : outB y.2.1 1 3 = false) (h3 : findL xs y.2.2 < 0) : lvE xs p y = 8 := by unfold lvE; rw [h, h2, if_pos h3]; rfl
theorem lvE_7 {xs : List Slt} {p : List Lv} {y : Lv} (h : momB y.1 = true) (h2 : outB y.2.1 1 3 = false) (h3 : ¬ findL xs y.2.2 < 0) (h4 : lateB p y = true) : lvE xs p y = 7 := by unfold lvE; rw [h, h2, if_neg h3, h4]; rfl
theorem lvE_0 {xs : List Slt} {p : List Lv} {y : Lv} (h : momB y.1 = true) (h2 : outB y.2.1 1 3 = false) (h3 : ¬ findL xs y.2.2 < 0) (h4 : lateB p y = false) : lvE xs p y = 0 := by unfold lvE; rw [h, h2, if_neg h3, h4]; rfl
theorem live_bad {xs : List Slt} {wr : List Lv → Lv → Bool} {ys : List Lv} {k : Nat} {hk : k < ys.length} {E : Int} (h : lvE xs (ys.take k) ys[k] = E) (hE : E ≠ 0) : liveG wr xs (ys.take k) (ys.drop k) = E := by
  rw [liveG_step wr xs ys k hk, if_neg (by rw [h]; exact hE), h]
theorem live_wrong {xs : List Slt} {wr : List Lv → Lv → Bool} {ys : List Lv} {k : Nat} {hk : k < ys.length} (h : lvE xs (ys.take k) ys[k] = 0) (hw : wr (ys.take k) ys[k] = true) : liveG wr xs (ys.take k) (ys.drop k) = 11 := by
  rw [liveG_step wr xs ys k hk, if_pos h, if_pos hw]
theorem live_next {xs : List Slt} {wr : List Lv → Lv → Bool} {ys : List Lv} {k : Nat} {hk : k < ys.length} (h : lvE xs (ys.take k) ys[k] = 0) (hw : wr (ys.take k) ys[k] = false) : liveG wr xs (ys.take k) (ys.drop k) = liveG wr xs (ys.take (k + 1)) (ys.drop (k + 1)) := by
  rw [liveG_step wr xs ys k hk, if_pos h, if_neg (by rw [hw]; simp)]
theorem kd_of {kd : Int} (h : outB kd 1 3 = false) : kd = 1 ∨ kd = 2 ∨ kd = 3 := by
  unfold outB at h
  simp at h
  omega

set_option maxRecDepth 100000 in
set_option maxHeartbeats 4000000 in
theorem checkLive_calls (b : Nat) (A A2 : Option Addr) (n c m c2 : Nat) (xs : List Slt) (ys : List Lv) (w : World) (hr : Slts w b A n c xs) (hr2 : Rd w b 3 (.slice A2 m c2) m (ys.flatMap lvC)) (hys : ∀ y ∈ ys, LvOk y) (hb : b < w.heap.size) :
    Calls Tryz.prog 78 #[.slice A n c, .slice A2 m c2] w (BRet (.int .i64 (liveF wrongP xs ys)) w) := by
  obtain ⟨hl2, hnc2, hcm2, hcells2⟩ := hr2.cells lvC_len (by omega)
  unfold maxLen at hcm2
  obtain ⟨E, hE⟩ : ∃ E, slotsF xs = E := ⟨_, rfl⟩
  have hF : liveF wrongP xs ys = if E = 0 then if 400 < m then 2 else liveG wrongP xs [] ys else E := by unfold liveF; rw [hE, hl2]
  have HCS := Lib.hid (checkSlots_calls b A n c xs w hr hb)
  rw [hE] at HCS
  have HL2 := Lib.hid hl2
  have HC2 := Lib.hid hcells2
  have HR := Lib.hid hr
  have HY := Lib.hid hys
  have hmm := @run_makeMap Tryz.prog
  clear hr hcells2 hl2 hr2 hE hys
  by_cases hz : E = 0
  · rw [if_pos hz] at hF
    subst hz
    by_cases hbig : 400 < m
    · have HF := Lib.hid (hF.trans (if_pos hbig))
      clear hF hmm
      go_enter Tryz.func78, Tryz.ntmps78
      go_wp2_with fail
      refine HCS.out.mono ?_
      rintro e w1 ⟨rfl, hb1⟩
      go_wp2_with fail
      go_ret
      exact ⟨ret_int HF.out.symm, hb1⟩
    rw [if_neg hbig] at hF
    have HF : Hid (liveF wrongP xs ys = liveG wrongP xs (ys.take 0) (ys.drop 0)) := hF
    clear hF
    go_enter Tryz.func78, Tryz.ntmps78
    go_wp2_with fail
    refine HCS.out.mono ?_
    rintro e w1 ⟨rfl, hb1⟩
    have hS0 : Sq w ((w1.alloc (.map #[] 0)).alloc (.cells #[.map (some w1.heap.size), .slice none 0 0, .bool false] 162)) (shL w1.heap.size (w1.heap.size + 1) w1.heap.size 0 none 0 show0 []) := by
      have h := ((((((Sq.start w).callB hb1).addMap 9)).add #[.map (some w1.heap.size), .slice none 0 0, .bool false] 162).nil w1.heap.size 9 1)
      simp only [size1] at h
      have h3 := (((h.front 2 rfl rfl).front 2 rfl rfl).front 1 rfl rfl)
      refine Sq.front (i := 1) (l := rStg w1.heap.size 0 show0.st :: rBlk (w1.heap.size + 1) 162 #[.map (some w1.heap.size), .slice none 0 0, .bool false] :: rOwn w1.heap.size 9 1 (.slice none 0 0) 0 [] :: []) ?_ rfl rfl
      exact ⟨h3.below, h3.hp.tail.cons ⟨_, h3.head, fun _ => rfl⟩ (rStg_ok _ _ _) (fun k hk => h3.hp.new _ (List.mem_cons_self ..) k hk) (fun s hs k hk hk2 => (List.pairwise_cons.1 h3.hp.apart).1 s hs k hk hk2)⟩
    have hw1 : w.heap.size ≤ w1.heap.size := hb1.size
    clear hb1
    go_wp2_with fail
    clear hmm
    go_loopw [22] (fun i wr => ∃ (k : Nat) (A' : Option Addr) (c' : Nat), k ≤ m ∧ i = .int .i64 k ∧ Hid (liveF wrongP xs ys = liveG wrongP xs (ys.take k) (ys.drop k)) ∧ Sq w wr (shL w1.heap.size (w1.heap.size + 1) w1.heap.size k A' c' (stateP (ys.take k)) [])) (fun i _ => m - (intOf i).toNat)
    case atStart => exact ⟨0, none, 0, Nat.zero_le _, rfl, HF, hS0⟩
    case round =>
      clear HF hS0
      obtain ⟨k, A', c', hk, rfl, HF, hS⟩ := hrel
      by_cases hlt : k < m
      · have hkr : k < ys.length := by rw [HL2.out]; exact hlt
        obtain ⟨g, o, hA, _, hcs⟩ := HC2.out (by omega)
        subst hA
        obtain ⟨y, hy⟩ : ∃ y, ys[k] = y := ⟨_, rfl⟩
        have c0 := below_cell hS.below (hcs k hkr 0 (by omega))
        have c1 := below_cell hS.below (hcs k hkr 1 (by omega))
        have cc2 := below_cell hS.below (hcs k hkr 2 (by omega))
        have hok := HY.out _ (List.getElem_mem hkr)
        have HCP : Hid (∀ W, Below w.heap.size w W → ∀ i (hi : i < ys.length), W.cell? ⟨g, o + i * 3, none⟩ = some (.int .i64 ys[i].1)) := fun W hW i hi => below_cell hW (hcs i hi 0 (by omega))
        rw [hy] at c0 c1 cc2 hok
        obtain ⟨at_, kd, key⟩ := y
        replace c0 : wr.cell? ⟨g, o + k * 3, none⟩ = some (.int .i64 at_) := c0
        replace c1 : wr.cell? ⟨g, o + k * 3 + 1, none⟩ = some (.int .i64 kd) := c1
        replace cc2 : wr.cell? ⟨g, o + k * 3 + 2, none⟩ = some (.string key) := cc2
        obtain ⟨hat, hkb, hkz⟩ := hok
        simp only at hat hkb hkz
        have HKR := Lib.hid hkr
        have HBAD : Hid (∀ E : Int, lvE xs (ys.take k) (at_, kd, key) = E → E ≠ 0 → liveF wrongP xs ys = E) := fun E h hE => by
          rw [← hy] at h
          rw [HF.out]; exact live_bad (hk := hkr) h hE
        have HWR : Hid (lvE xs (ys.take k) (at_, kd, key) = 0 → wrongP (ys.take k) (at_, kd, key) = true → liveF wrongP xs ys = 11) := fun h hE => by
          rw [← hy] at h hE
          rw [HF.out]; exact live_wrong (hk := hkr) h hE
        have HNX : Hid (lvE xs (ys.take k) (at_, kd, key) = 0 → wrongP (ys.take k) (at_, kd, key) = false → liveF wrongP xs ys = liveG wrongP xs (ys.take (k + 1)) (ys.drop (k + 1))) := fun h hE => by
          rw [← hy] at h hE
          rw [HF.out]; exact live_next (hk := hkr) h hE
        have HST : Hid (stateP (ys.take (k + 1)) = (stepP (stateP (ys.take k)) (at_, kd, key)).getD (stateP (ys.take k))) := by
          rw [List.take_succ_eq_append_getElem hkr, stateP_snoc, hy]; exact Lib.hid rfl
        have hln : (stateP (ys.take k)).order.length ≤ k := Nat.le_trans (stateP_len _) (by simp; omega)
        obtain ⟨MB, hMB⟩ : ∃ B, momB at_ = B := ⟨_, rfl⟩
        obtain ⟨OB, hOB⟩ : ∃ B, outB kd 1 3 = B := ⟨_, rfl⟩
        obtain ⟨F1, hF1⟩ : ∃ F, findL xs key = F := ⟨_, rfl⟩
        have hSa := hS.add #[.int .i64 at_, .int .i64 kd, .string key] 84
        have HMC : Hid (∀ W, Calls Tryz.prog 110 #[.int .i64 at_] W (fun e w' => e = .returned (.bool MB) ∧ W = w')) := by rw [← hMB]; exact fun W => moment_calls at_ W
        have HOC : Hid (∀ W, Calls Tryz.prog 66 #[.int .i64 kd, .int .i64 1, .int .i64 3] W (fun e w' => e = .returned (.bool OB) ∧ W = w')) := by rw [← hOB]; exact fun W => out_calls _ _ _ W
        have HFC : Hid (∀ W, Below w.heap.size w W → Calls Tryz.prog 74 #[.slice A n c, .string key] W (BRet (.int .i64 F1) W)) := by rw [← hF1]; exact fun W hW => findL_calls b A n c xs key W (HR.out.rd.below hW)
        have HM := Lib.hid hMB
        have HO := Lib.hid hOB
        have HFI := Lib.hid hF1
        have hlz := hS.size
        have hbelow := hSa.below
        clear hcs hy hS hMB hOB hF1
        cases MB
        · have HS := Lib.hid (HBAD.out 1 (lvE_1 HM.out) (by decide))
          go_wp2_with fail
          refine (HMC.out _).mono ?_
          rintro e w2 ⟨rfl, rfl⟩
          go_wp2_with fail
          go_ret
          exact ⟨ret_int HS.out.symm, hbelow⟩
        cases OB
        case true =>
          have HS := Lib.hid (HBAD.out 4 (lvE_4 HM.out HO.out) (by decide))
          go_wp2_with fail
          refine (HMC.out _).mono ?_
          rintro e w2 ⟨rfl, rfl⟩
          go_wp2_with fail
          refine (HOC.out _).mono ?_
          rintro e w2 ⟨rfl, rfl⟩
          go_wp2_with fail
          go_ret
          exact ⟨ret_int HS.out.symm, hbelow⟩
        have hkd := kd_of HO.out
        go_wp2_with fail
        refine (HMC.out _).mono ?_
        rintro e w2 ⟨rfl, rfl⟩
        go_wp2_with fail
        refine (HOC.out _).mono ?_
        rintro e w2 ⟨rfl, rfl⟩
        go_wp2_with fail
        refine (HFC.out _ hbelow).mono ?_
        rintro e w3 ⟨rfl, hb3⟩
        have hSb := hSa.callB hb3
        have hbl3 := hSb.below
        have hbx : Blk w3 wr.heap.size 84 #[.int .i64 at_, .int .i64 kd, .string key] := hSb.nth 0 rfl
        have x0 := hbx.cell 0
        have x1 := hbx.cell 1
        have x2 := hbx.cell 2
        clear hbx hSa hbelow hb3 HMC HOC HFC c0 c1 cc2
        by_cases hneg : F1 < 0
        · have HS := Lib.hid (HBAD.out 8 (lvE_8 HM.out HO.out (by rw [HFI.out]; exact hneg)) (by decide))
          clear x0 x1 x2
          go_wp2_with fail
          go_ret
          exact ⟨ret_int HS.out.symm, hbl3⟩
        have HFN : Hid (¬ findL xs key < 0) := by rw [HFI.out]; exact hneg
        obtain ⟨LB, hLB⟩ : ∃ B, lateB (ys.take k) (at_, kd, key) = B := ⟨_, rfl⟩
        have HLB := Lib.hid hLB
        have hSc : ∀ W nq, W = w3.drewN nq → Sq w W (shL w1.heap.size (w1.heap.size + 1) w1.heap.size k A' c' (stateP (ys.take k)) [rBlk wr.heap.size 84 #[.int .i64 at_, .int .i64 kd, .string key]]) := fun W nq h => by
          subst h
          exact (((hSb.front 3 rfl rfl).front 3 rfl rfl).front 3 rfl rfl).drewN nq
        have HSC := Lib.hid hSc
        have hbq : ∀ nq, Below w.heap.size w (w3.drewN nq) := fun nq => below_drewN hbl3 nq
        have HBQ := Lib.hid hbq
        have hwz : w1.heap.size ≤ w3.heap.size := by
          have := Blk.lt (show Blk w3 (w1.heap.size + 1) _ _ from hSb.nth 1 rfl)
          omega
        clear hLB hSc hSb hbl3 hbq
        have HFIN : Hid (LB = false → ∀ nq, Calls Tryz.prog 139 #[.pointer (some ⟨w1.heap.size + 1, 0, none⟩), .agg #[.int .i64 at_, .int .i64 kd, .string key]] (w3.drewN nq) (fun e w' => ∃ A2 c3, e = .returned (.bool (!wrongP (ys.take k) (at_, kd, key))) ∧ Sq w w' (shL w1.heap.size (w1.heap.size + 1) w1.heap.size (k + 1) A2 c3 (stateP (ys.take (k + 1))) []))) := fun h nq => by
          refine (step_calls w w1.heap.size (w1.heap.size + 1) w1.heap.size k A' c' (stateP (ys.take k)) _ at_ kd key _ (HSC.out _ nq rfl) hkd (by omega) (by omega) hkz (by show w1.heap.size ≤ w3.heap.size; exact hwz)).mono ?_
          rintro e w' ⟨A2, c3, rfl, h5⟩
          refine ⟨A2, c3, ?_, ?_⟩
          · unfold wrongP
            cases stepP (stateP (List.take k ys)) (at_, kd, key) <;> rfl
          · rw [HST.out]
            exact h5.drop 3 rfl rfl
        by_cases hk0 : k = 0
        · subst hk0
          have hlb : LB = false := by rw [← HLB.out]; rfl
          subst hlb
          have h0 : lvE xs (ys.take 0) (at_, kd, key) = 0 := lvE_0 HM.out HO.out HFN.out HLB.out
          have HZ := Lib.hid h0
          clear h0
          go_wp2_with fail
          go_quiet (fail)
          have HLT := Lib.hid hlt
          clear x0 x1 x2 hlt
          have y0 : (w3.drewN nq).cell? ⟨wr.heap.size, 0, none⟩ = some (.int .i64 at_) := Blk.cell (show Blk (w3.drewN nq) wr.heap.size _ _ from (HSC.out _ nq rfl).nth 3 rfl) 0
          have y1 : (w3.drewN nq).cell? ⟨wr.heap.size, 1, none⟩ = some (.int .i64 kd) := Blk.cell (show Blk (w3.drewN nq) wr.heap.size _ _ from (HSC.out _ nq rfl).nth 3 rfl) 1
          have y2 : (w3.drewN nq).cell? ⟨wr.heap.size, 2, none⟩ = some (.string key) := Blk.cell (show Blk (w3.drewN nq) wr.heap.size _ _ from (HSC.out _ nq rfl).nth 3 rfl) 2
          go_wp2_with fail
          refine (HFIN.out (by first | rfl | trivial) nq).mono ?_
          rintro e w4 ⟨A4, c4, rfl, hS4⟩
          obtain ⟨WB, hWB⟩ : ∃ B, wrongP (ys.take 0) (at_, kd, key) = B := ⟨_, rfl⟩
          rw [hWB]
          have HWB := Lib.hid hWB
          clear hWB y0 y1 y2
          cases WB
          · have HS := Lib.hid (HNX.out HZ.out HWB.out)
            go_wp2_with fail
            go_roundw
            case rel => exact ⟨0 + 1, A4, c4, HLT.out, by go_num, HS, hS4⟩
            case measure => have := HLT.out; simp [intOf]; omega
          · have HS := Lib.hid (HWR.out HZ.out HWB.out)
            have hbf := hS4.below
            go_wp2_with fail
            go_ret
            exact ⟨ret_int HS.out.symm, hbf⟩
        · obtain ⟨q, rfl⟩ : ∃ q, k = q + 1 := ⟨k - 1, by omega⟩
          have hqr : q < ys.length := Nat.lt_of_succ_lt HKR.out
          have p0 := HCP.out w3 (HBQ.out 0) q hqr
          obtain ⟨pa, hpa⟩ : ∃ a, (ys[q]'hqr).1 = a := ⟨_, rfl⟩
          have hpb : -2199023255552 ≤ pa ∧ pa ≤ 2199023255552 := by rw [← hpa]; exact (HY.out _ (List.getElem_mem _)).1
          rw [hpa] at p0
          have hlb : LB = decide (at_ < pa) := by rw [← HLB.out, lateB_succ _ _ q hqr, hpa]
          obtain ⟨hpb0, hpb1⟩ := hpb
          have hq0 : (0 : Int) ≤ (q : Int) := by omega
          have hqm : (q : Int) < (m : Int) := by omega
          have hqe : ((q + 1 : Nat) : Int) - 1 = (q : Int) := by omega
          clear hpa hk0
          by_cases hlate : at_ < pa
          · have hlt2 : LB = true := by rw [hlb]; exact decide_eq_true hlate
            subst hlt2
            have HS := Lib.hid (HBAD.out 7 (lvE_7 HM.out HO.out HFN.out HLB.out) (by decide))
            clear hlb
            go_wp2_with fail
            go_quiet (fail)
            clear x0 x1 x2 p0
            have hbf := HBQ.out nq
            go_wp2_with fail
            go_ret
            exact ⟨ret_int HS.out.symm, hbf⟩
          · have hlt2 : LB = false := by rw [hlb]; exact decide_eq_false hlate
            subst hlt2
            have HZ := Lib.hid (lvE_0 HM.out HO.out HFN.out HLB.out)
            clear hlb
            go_wp2_with fail
            go_quiet (fail)
            clear x0 x1 x2 p0
            have y0 : (w3.drewN nq).cell? ⟨wr.heap.size, 0, none⟩ = some (.int .i64 at_) := Blk.cell (show Blk (w3.drewN nq) wr.heap.size _ _ from (HSC.out _ nq rfl).nth 3 rfl) 0
            have y1 : (w3.drewN nq).cell? ⟨wr.heap.size, 1, none⟩ = some (.int .i64 kd) := Blk.cell (show Blk (w3.drewN nq) wr.heap.size _ _ from (HSC.out _ nq rfl).nth 3 rfl) 1
            have y2 : (w3.drewN nq).cell? ⟨wr.heap.size, 2, none⟩ = some (.string key) := Blk.cell (show Blk (w3.drewN nq) wr.heap.size _ _ from (HSC.out _ nq rfl).nth 3 rfl) 2
            go_wp2_with fail
            refine (HFIN.out (by first | rfl | trivial) nq).mono ?_
            rintro e w4 ⟨A4, c4, rfl, hS4⟩
            obtain ⟨WB, hWB⟩ : ∃ B, wrongP (ys.take (q + 1)) (at_, kd, key) = B := ⟨_, rfl⟩
            rw [hWB]
            have HWB := Lib.hid hWB
            clear hWB y0 y1 y2
            cases WB
            · have HS := Lib.hid (HNX.out HZ.out HWB.out)
              go_wp2_with fail
              go_roundw
              case rel => exact ⟨q + 1 + 1, A4, c4, by omega, by go_num, HS, hS4⟩
              case measure => simp [intOf]; omega
            · have HS := Lib.hid (HWR.out HZ.out HWB.out)
              have hbf := hS4.below
              go_wp2_with fail
              go_ret
              exact ⟨ret_int HS.out.symm, hbf⟩
      · obtain rfl : k = m := by omega
        have HS := Lib.hid (HF.out.trans (by rw [List.drop_of_length_le (by rw [HL2.out]; exact Nat.le_refl _)]; rfl : _ = (0 : Int)))
        have hbf := hS.below
        go_wp2_with fail
        go_ret
        exact ⟨ret_int HS.out.symm, hbf⟩
  · have HF := Lib.hid (hF.trans (if_neg hz))
    have hz' : (E != 0) = true := by rw [bne_iff_ne]; exact hz
    clear hF hmm
    go_enter Tryz.func78, Tryz.ntmps78
    go_wp2_with fail
    refine HCS.out.mono ?_
    rintro e w1 ⟨rfl, hb1⟩
    go_wp2_with fail
    go_ret
    exact ⟨ret_int HF.out.symm, hb1⟩
end Go.Proofs.YthbcogekfdllmaaGreatDoor
