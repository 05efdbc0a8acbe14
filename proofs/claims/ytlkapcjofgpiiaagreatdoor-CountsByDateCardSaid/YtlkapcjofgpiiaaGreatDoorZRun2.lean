/-
  What is wrong with runs: rule.CheckRuns and splitref2.RunsFault by contracts. (Printed by gen_run2.py.)
-/
import Derived.Test.YtlkapcjofgpiiaaGreatDoorZRun1
namespace Go.Proofs.YtlkapcjofgpiiaaGreatDoor
open Go Go.RowKit

set_option maxRecDepth 100000 in
set_option maxHeartbeats 2000000 in
theorem checkRuns_calls (b : Nat) (A : Option Addr) (n c : Nat) (xs : List Rn) (w : World) (hr : Rns w b A n c xs) (_hb : b < w.heap.size) :
    Calls Tryz.prog 55 #[.slice A n c] w (BRet (.int .i64 (runsF xs)) w) := by
  obtain ⟨hl, hnc, hcm, hcells⟩ := hr.rd.cells rnC_len (by omega)
  unfold maxLen at hcm
  by_cases hbig : 1000 < n
  · have HF := Lib.hid (show runsF xs = 2 by unfold runsF; rw [if_pos (by omega)])
    clear hcells hl
    go_enter Tryz.func55, Tryz.ntmps55
    go_wp2_with fail
    go_ret
    exact ⟨ret_int HF.out.symm, Below.refl _ _⟩
  have HF := Lib.hid (show runsF xs = runsG (lastR xs 0) (xs.drop 0) by unfold runsF; rw [if_neg (by omega)]; rfl)
  have HL := Lib.hid hl
  have HC := Lib.hid hcells
  have HR := Lib.hid hr
  clear hcells hl hr
  go_enter Tryz.func55, Tryz.ntmps55
  go_wp2_with fail
  go_loopw [11] (fun i wr => ∃ k : Nat, k ≤ n ∧ i = .int .i64 k ∧ Hid (runsF xs = runsG (lastR xs k) (xs.drop k)) ∧ Below w.heap.size w wr) (fun i _ => n - (intOf i).toNat)
  case atStart => exact ⟨0, Nat.zero_le _, rfl, HF, Below.refl _ _⟩
  case round =>
    clear HF
    obtain ⟨k, hk, rfl, HG, hbr⟩ := hrel
    by_cases hlt : k < n
    · have hkr : k < xs.length := by rw [HL.out]; exact hlt
      obtain ⟨g, o, hA, _, hcs⟩ := HC.out (by omega)
      subst hA
      have hst := HG.out.trans (runsG_step xs k hkr)
      have hok := (HR.out.ok _ (List.getElem_mem hkr)).below hbr
      have HCS := Lib.hid (fun j (hj : j < xs.length) => below_cell hbr (hcs j hj 0 (by omega)))
      have c0 := below_cell hbr (hcs k hkr 0 (by omega))
      have c1 := below_cell hbr (hcs k hkr 1 (by omega))
      have c2 := below_cell hbr (hcs k hkr 2 (by omega))
      have c3 := below_cell hbr (hcs k hkr 3 (by omega))
      have c4 := below_cell hbr (hcs k hkr 4 (by omega))
      obtain ⟨x, hx⟩ : ∃ x, xs[k] = x := ⟨_, rfl⟩
      rw [hx] at c0 c1 c2 c3 c4 hst hok
      obtain ⟨id, who, ti, da, fa, fc, fs⟩ := x
      obtain ⟨m, hm⟩ : ∃ m, fs.length = m := ⟨_, rfl⟩
      replace c0 : wr.cell? ⟨g, o + k * 5, none⟩ = some (.string id) := c0
      replace c1 : wr.cell? ⟨g, o + k * 5 + 1, none⟩ = some (.string who) := c1
      replace c2 : wr.cell? ⟨g, o + k * 5 + 2, none⟩ = some (.int .i64 ti) := c2
      replace c3 : wr.cell? ⟨g, o + k * 5 + 3, none⟩ = some (.int .i64 da) := c3
      replace c4 : wr.cell? ⟨g, o + k * 5 + 4, none⟩ = some (.slice fa m fc) := by rw [← hm]; exact c4
      obtain ⟨WA, hWA⟩ : ∃ WA, WA = wr.alloc (.cells #[.string id, .string who, .int .i64 ti, .int .i64 da, .slice fa m fc] 36) := ⟨_, rfl⟩
      obtain ⟨H, hH⟩ : ∃ H, H = wr.heap.size := ⟨_, rfl⟩
      have hkA : Blk WA H 36 #[.string id, .string who, .int .i64 ti, .int .i64 da, .slice fa m fc] := by rw [hWA, hH]; exact Blk.new _ _ _
      have hRA : Below wr.heap.size wr WA := by rw [hWA]; exact (Below.refl _ _).alloc (Nat.le_refl _) _
      have hbA : Below w.heap.size w WA := below_call hbr hRA (Nat.le_refl _)
      obtain ⟨E, hE⟩ : ∃ E, runF ⟨id, who, ti, da, fa, fc, fs⟩ = E := ⟨_, rfl⟩
      have HCR : Hid (Calls Tryz.prog 46 #[.agg #[.string id, .string who, .int .i64 ti, .int .i64 da, .slice fa m fc]] WA (BRet (.int .i64 E) WA)) := by
        have := checkRun_calls b ⟨id, who, ti, da, fa, fc, fs⟩ WA (hok.below hRA)
        rw [hE] at this
        simp only [hm] at this
        exact Lib.hid this
      have hky := fun h : E = 0 => le_nil (runF_key (x := ⟨id, who, ti, da, fa, fc, fs⟩) (hE.trans h))
      simp only at hky
      rw [hE] at hst
      have z0 := hkA.cell 0
      have z1 := hkA.cell 1
      have z2 := hkA.cell 2
      have z3 := hkA.cell 3
      have z4 := hkA.cell 4
      have HWA := Lib.hid hWA
      have HH := Lib.hid hH
      have HX := Lib.hid hx
      have hk0 : (0 : Int) ≤ (k : Int) := by omega
      have hkn : (k : Int) < (n : Int) := by omega
      clear hcs hok hx hm hE hWA hH
      go_upto_region 6 with (fail)
      rw [← HWA.out, ← HH.out]
      clear c0 c1 c2 c3 c4
      by_cases hE0 : E = 0
      · subst hE0
        have hky := hky rfl
        replace hst := hst.trans (if_pos rfl)
        simp only at hst
        cases k with
        | zero =>
          rw [show lastR xs 0 = ⟨#[]⟩ from rfl, hky, if_neg (by decide)] at hst
          have HST := Lib.hid hst
          clear hst hky
          go_wp2_with (first | (go_at_call 46; refine HCR.out.mono ?_; rintro e w1 ⟨rfl, hb1⟩; have hk1 := hkA.below hb1; have y0 := hk1.cell 0; have hbZ := below_call hbA hb1 (Nat.le_refl _)))
          go_quiet (fail)
          go_wp2_with fail
          go_roundw
          case rel => exact ⟨1, by omega, rfl, HST, below_drewN hbZ _⟩
          case measure => simp [intOf]; omega
        | succ j =>
          have hjr : j < xs.length := by omega
          have p0 := below_cell hRA (HCS.out j hjr)
          have hla : lastR xs (j + 1) = xs[j].id := by simp [lastR, hjr]
          rw [hla] at hst
          obtain ⟨id2, hx2⟩ : ∃ x, xs[j].id = x := ⟨_, rfl⟩
          have p0' : WA.cell? ⟨g, o + j * 5, none⟩ = some (.string xs[j].id) := p0
          rw [hx2] at p0' hst
          have HP0 := Lib.hid p0'
          have hg : (0 : Int) < (((j + 1 : Nat)) : Int) := by omega
          have hj0 : (0 : Int) ≤ (j : Int) := by omega
          have hjn : (j : Int) < (n : Int) := by omega
          have hj1 : ((j : Int) + 1) - 1 = (j : Int) := by omega
          clear hla hx2 hky p0 p0'
          cases hle : leS id id2
          · rw [hle, if_neg (by decide)] at hst
            have hle' : (Op.bytesLess id.toList id2.toList || id.toList == id2.toList) = false := hle
            have HS := Lib.hid hst
            clear hle hst
            go_wp2_with (first | (go_at_call 46; refine HCR.out.mono ?_; rintro e w1 ⟨rfl, hb1⟩; have hk1 := hkA.below hb1; have y0 := hk1.cell 0; have q0 := below_cell hb1 HP0.out; have hbZ := below_call hbA hb1 (Nat.le_refl _)))
            go_quiet (fail)
            go_wp2_with fail
            go_roundw
            case rel => exact ⟨j + 1 + 1, by omega, by go_num, HS, below_drewN hbZ _⟩
            case measure => simp [intOf]; omega
          · rw [hle, if_pos rfl] at hst
            have hle' : (Op.bytesLess id.toList id2.toList || id.toList == id2.toList) = true := hle
            have HS := Lib.hid hst
            clear hle hst
            go_wp2_with (first | (go_at_call 46; refine HCR.out.mono ?_; rintro e w1 ⟨rfl, hb1⟩; have hk1 := hkA.below hb1; have y0 := hk1.cell 0; have q0 := below_cell hb1 HP0.out; have hbZ := below_call hbA hb1 (Nat.le_refl _)))
            go_quiet (fail)
            go_wp2_with fail
            go_ret
            exact ⟨ret_int HS.out.symm, below_drewN hbZ _⟩
      · have HS := Lib.hid (hst.trans (if_neg hE0))
        have hEb : (E != 0) = true := by rw [bne_iff_ne]; exact hE0
        clear hst hky
        go_wp2_with (first | (go_at_call 46; refine HCR.out.mono ?_; rintro e w1 ⟨rfl, hb1⟩))
        go_ret
        exact ⟨ret_int HS.out.symm, below_call hbA hb1 (Nat.le_refl _)⟩
    · obtain rfl : k = n := by omega
      have HS := Lib.hid (HG.out.trans (by rw [List.drop_of_length_le (by rw [HL.out]; exact Nat.le_refl _)]; rfl : _ = (0 : Int)))
      go_wp2_with fail
      go_ret
      exact ⟨ret_int HS.out.symm, hbr⟩

set_option maxRecDepth 100000 in
set_option maxHeartbeats 2000000 in
theorem runsFaultQ_calls (b : Nat) (A : Option Addr) (n c : Nat) (xs : List Rn) (w : World) (hr : Rns w b A n c xs) (_hb : b < w.heap.size) :
    Calls Tryz.prog 8 #[.slice A n c] w (BRet (.int .i64 (runsF xs)) w) := by
  obtain ⟨hl, hnc, hcm, hcells⟩ := hr.rd.cells rnC_len (by omega)
  unfold maxLen at hcm
  by_cases hbig : 1000 < n
  · have HF := Lib.hid (show runsF xs = 2 by unfold runsF; rw [if_pos (by omega)])
    clear hcells hl
    go_enter Tryz.func8, Tryz.ntmps8
    go_wp2_with fail
    go_ret
    exact ⟨ret_int HF.out.symm, Below.refl _ _⟩
  have HF := Lib.hid (show runsF xs = runsG (lastR xs 0) (xs.drop 0) by unfold runsF; rw [if_neg (by omega)]; rfl)
  have HL := Lib.hid hl
  have HC := Lib.hid hcells
  have HR := Lib.hid hr
  clear hcells hl hr
  go_enter Tryz.func8, Tryz.ntmps8
  go_wp2_with fail
  go_loopw [3, 12] (fun s i wr => ∃ (k : Nat) (la : ByteArray), k ≤ n ∧ i = .int .i64 k ∧ s = .string la ∧ lastR xs k = la ∧ Hid (runsF xs = runsG (lastR xs k) (xs.drop k)) ∧ Below w.heap.size w wr) (fun _ i _ => n - (intOf i).toNat)
  case atStart => exact ⟨0, ⟨#[]⟩, Nat.zero_le _, rfl, rfl, rfl, HF, Below.refl _ _⟩
  case round =>
    clear HF
    obtain ⟨k, la, hk, rfl, rfl, hlast, HG, hbr⟩ := hrel
    by_cases hlt : k < n
    · have hkr : k < xs.length := by rw [HL.out]; exact hlt
      obtain ⟨g, o, hA, _, hcs⟩ := HC.out (by omega)
      subst hA
      have hst := HG.out.trans (runsG_step xs k hkr)
      have hok := (HR.out.ok _ (List.getElem_mem hkr)).below hbr
      have HCS := Lib.hid (fun j (hj : j < xs.length) => below_cell hbr (hcs j hj 0 (by omega)))
      have c0 := below_cell hbr (hcs k hkr 0 (by omega))
      have c1 := below_cell hbr (hcs k hkr 1 (by omega))
      have c2 := below_cell hbr (hcs k hkr 2 (by omega))
      have c3 := below_cell hbr (hcs k hkr 3 (by omega))
      have c4 := below_cell hbr (hcs k hkr 4 (by omega))
      obtain ⟨x, hx⟩ : ∃ x, xs[k] = x := ⟨_, rfl⟩
      rw [hx] at c0 c1 c2 c3 c4 hst hok
      obtain ⟨id, who, ti, da, fa, fc, fs⟩ := x
      obtain ⟨m, hm⟩ : ∃ m, fs.length = m := ⟨_, rfl⟩
      replace c0 : wr.cell? ⟨g, o + k * 5, none⟩ = some (.string id) := c0
      replace c1 : wr.cell? ⟨g, o + k * 5 + 1, none⟩ = some (.string who) := c1
      replace c2 : wr.cell? ⟨g, o + k * 5 + 2, none⟩ = some (.int .i64 ti) := c2
      replace c3 : wr.cell? ⟨g, o + k * 5 + 3, none⟩ = some (.int .i64 da) := c3
      replace c4 : wr.cell? ⟨g, o + k * 5 + 4, none⟩ = some (.slice fa m fc) := by rw [← hm]; exact c4
      obtain ⟨WA, hWA⟩ : ∃ WA, WA = wr.alloc (.cells #[.string id, .string who, .int .i64 ti, .int .i64 da, .slice fa m fc] 36) := ⟨_, rfl⟩
      obtain ⟨H, hH⟩ : ∃ H, H = wr.heap.size := ⟨_, rfl⟩
      have hkA : Blk WA H 36 #[.string id, .string who, .int .i64 ti, .int .i64 da, .slice fa m fc] := by rw [hWA, hH]; exact Blk.new _ _ _
      have hRA : Below wr.heap.size wr WA := by rw [hWA]; exact (Below.refl _ _).alloc (Nat.le_refl _) _
      have hbA : Below w.heap.size w WA := below_call hbr hRA (Nat.le_refl _)
      obtain ⟨E, hE⟩ : ∃ E, runF ⟨id, who, ti, da, fa, fc, fs⟩ = E := ⟨_, rfl⟩
      have HCR : Hid (Calls Tryz.prog 23 #[.agg #[.string id, .string who, .int .i64 ti, .int .i64 da, .slice fa m fc]] WA (BRet (.int .i64 E) WA)) := by
        have := runFault_calls b ⟨id, who, ti, da, fa, fc, fs⟩ WA (hok.below hRA)
        rw [hE] at this
        simp only [hm] at this
        exact Lib.hid this
      have hky := fun h : E = 0 => le_nil (runF_key (x := ⟨id, who, ti, da, fa, fc, fs⟩) (hE.trans h))
      simp only at hky
      rw [hE] at hst
      have z0 := hkA.cell 0
      have z1 := hkA.cell 1
      have z2 := hkA.cell 2
      have z3 := hkA.cell 3
      have z4 := hkA.cell 4
      have HWA := Lib.hid hWA
      have HH := Lib.hid hH
      have HX := Lib.hid hx
      have hk0 : (0 : Int) ≤ (k : Int) := by omega
      have hkn : (k : Int) < (n : Int) := by omega
      clear hcs hok hx hm hE hWA hH
      go_upto_region 7 with (fail)
      rw [← HWA.out, ← HH.out]
      clear c0 c1 c2 c3 c4
      by_cases hE0 : E = 0
      · subst hE0
        have hky := hky rfl
        replace hst := hst.trans (if_pos rfl)
        simp only at hst
        rw [hlast] at hst
        have hll : lastR xs (k + 1) = id := by simp [lastR, hkr, HX.out]
        have HLL := Lib.hid hll
        clear hky hll hlast
        cases hle : leS id la
        · rw [hle, if_neg (by decide)] at hst
          have hle' : (Op.bytesLess id.toList la.toList || id.toList == la.toList) = false := hle
          have HS := Lib.hid hst
          clear hle hst
          go_wp2_with (first | (go_at_call 23; refine HCR.out.mono ?_; rintro e w1 ⟨rfl, hb1⟩; have hk1 := hkA.below hb1; have y0 := hk1.cell 0; have hbZ := below_call hbA hb1 (Nat.le_refl _)))
          go_roundw
          case rel => exact ⟨k + 1, id, by omega, by go_num, rfl, HLL.out, HS, hbZ⟩
          case measure => simp [intOf]; omega
        · rw [hle, if_pos rfl] at hst
          have hle' : (Op.bytesLess id.toList la.toList || id.toList == la.toList) = true := hle
          have HS := Lib.hid hst
          clear hle hst
          go_wp2_with (first | (go_at_call 23; refine HCR.out.mono ?_; rintro e w1 ⟨rfl, hb1⟩; have hk1 := hkA.below hb1; have y0 := hk1.cell 0; have hbZ := below_call hbA hb1 (Nat.le_refl _)))
          go_ret
          exact ⟨ret_int HS.out.symm, hbZ⟩
      · have HS := Lib.hid (hst.trans (if_neg hE0))
        have hEb : (E != 0) = true := by rw [bne_iff_ne]; exact hE0
        clear hst hky
        go_wp2_with (first | (go_at_call 23; refine HCR.out.mono ?_; rintro e w1 ⟨rfl, hb1⟩))
        go_ret
        exact ⟨ret_int HS.out.symm, below_call hbA hb1 (Nat.le_refl _)⟩
    · obtain rfl : k = n := by omega
      have HS := Lib.hid (HG.out.trans (by rw [List.drop_of_length_le (by rw [HL.out]; exact Nat.le_refl _)]; rfl : _ = (0 : Int)))
      go_wp2_with fail
      go_ret
      exact ⟨ret_int HS.out.symm, hbr⟩
end Go.Proofs.YtlkapcjofgpiiaaGreatDoor
