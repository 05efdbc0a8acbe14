/-
  marathon.CheckSlots and splitref2.SlotsFault by contracts: both answer slotsF. (Printed by gen_slot3.py.)
-/
import Derived.Test.YthbcogekfdllmaaGreatDoorZSlot1
import Derived.Deep.RegionLaw
import Derived.Deep.RegionWith
import Derived.Deep.DrawnRows
import Derived.Test.YthbcogekfdllmaaGreatDoorZFlat
import Derived.Test.YthbcogekfdllmaaGreatDoorZNum2
import Derived.Deep.DeepMust
import Derived.Lib.SliceRun
import Derived.Laws.AppendOwnNone
namespace Go.Proofs.YthbcogekfdllmaaGreatDoor
open Go Go.RowKit
attribute [local go_sem ↓] Go.wp_at_zero Go.wp_at_succ

set_option maxRecDepth 100000 in
theorem checkSlotsW_calls (b : Nat) (A : Option Addr) (n c : Nat) (xs : List Slt) (w : World) (hr : SltsW w b A n c xs) (hb : b < w.heap.size) :
    Calls Tryz.prog 65 #[.slice A n c] w (BRet (.int .i64 (slotsF xs)) w) := by
  obtain ⟨hl, hnc, hcm, hcells⟩ := hr.rd.cells sltC_len (by omega)
  unfold maxLen at hcm
  by_cases hbig : 200 < n
  · have HF := Lib.hid (show slotsF xs = 2 by unfold slotsF; rw [if_pos (by omega)])
    clear hcells hl
    go_enter Tryz.func65, Tryz.ntmps65
    go_wp2_with fail
    go_ret
    exact ⟨ret_int HF.out.symm, Below.refl _ _⟩
  have HF := Lib.hid (show slotsF xs = slotsG (xs.take 0) (xs.drop 0) by unfold slotsF; rw [if_neg (by omega)]; rfl)
  have HL := Lib.hid hl
  have HC := Lib.hid hcells
  have HR := Lib.hid hr
  clear hcells hl hr
  go_enter Tryz.func65, Tryz.ntmps65
  go_wp2_with fail
  go_loopw [11] (fun i wr => ∃ k : Nat, k ≤ n ∧ i = .int .i64 k ∧ Hid (slotsF xs = slotsG (xs.take k) (xs.drop k)) ∧ Below w.heap.size w wr) (fun i _ => n - (intOf i).toNat)
  case atStart => exact ⟨0, Nat.zero_le _, rfl, HF, Below.refl _ _⟩
  case round =>
    clear HF
    obtain ⟨k, hk, rfl, HF, hbr⟩ := hrel
    by_cases hlt : k < n
    · have hkr : k < xs.length := by rw [HL.out]; exact hlt
      obtain ⟨g, o, hA, _, hcs⟩ := HC.out (by omega)
      subst hA
      have hst := HF.out.trans (slotsG_step xs k hkr)
      have hok := (HR.out.ok _ (List.getElem_mem hkr)).below hbr
      have htk := (HR.out.rd.take sltC_len (by omega) hk).below hbr
      obtain ⟨x, hx⟩ : ∃ x, xs[k] = x := ⟨_, rfl⟩
      have c0 := below_cell hbr (hcs k hkr 0 (by omega))
      have c1 := below_cell hbr (hcs k hkr 1 (by omega))
      have c2 := below_cell hbr (hcs k hkr 2 (by omega))
      have c3 := below_cell hbr (hcs k hkr 3 (by omega))
      have c4 := below_cell hbr (hcs k hkr 4 (by omega))
      rw [hx] at c0 c1 c2 c3 c4 hst hok
      obtain ⟨s, t, ha, hc, hh, s3, s4⟩ := x
      obtain ⟨m, hm⟩ : ∃ m, hh.length = m := ⟨_, rfl⟩
      simp only [Nat.add_zero] at c0
      simp only [hm] at c2
      have hlz := hbr.size
      have hsz : s.size ≤ 1000000 := hok.hk
      have htz : t.size ≤ 1000000 := hok.hw
      obtain ⟨F1, hF1⟩ : ∃ F, findL (xs.take k) s = F := ⟨_, rfl⟩
      obtain ⟨KS, hKS⟩ : ∃ B, keyB s.data.toList = B := ⟨_, rfl⟩
      obtain ⟨KT, hKT⟩ : ∃ B, keyB t.data.toList = B := ⟨_, rfl⟩
      simp only [hF1, hKS, hKT] at hst
      have HKS := Lib.hid hKS
      have HKT := Lib.hid hKT
      have HST := Lib.hid hst
      have HOK := Lib.hid (show SltW (wr.alloc (.cells #[.string s, .string t, .slice ha m hc, .int .i64 s3, .int .i64 s4] 64)) b ⟨s, t, ha, hc, hh, s3, s4⟩ from hok.below ((Below.refl _ _).alloc (Nat.le_refl _) _))
      have HA : Hid (∀ W, W = (wr.alloc (.cells #[.string s, .string t, .slice ha m hc, .int .i64 s3, .int .i64 s4] 64)).drew → Calls Tryz.prog 74 #[.slice (some ⟨g, o, none⟩) k c, .string s] W (BRet (.int .i64 F1) W)) := by
        rintro W rfl
        have := findL_calls b _ k c (xs.take k) s ((wr.alloc (.cells #[.string s, .string t, .slice ha m hc, .int .i64 s3, .int .i64 s4] 64)).drew) ((htk.below ((Below.refl _ _).alloc (Nat.le_refl _) _)).below (below_drewN (Below.refl _ _) 1))
        rw [hF1] at this
        exact this
      have HM := Lib.hid hm
      have hbr1 : Below w.heap.size w (wr.alloc (.cells #[.string s, .string t, .slice ha m hc, .int .i64 s3, .int .i64 s4] 64)) := hbr.alloc hlz _
      have hbr2 := below_drewN hbr1 1
      have B0 : Blk (wr.alloc (.cells #[.string s, .string t, .slice ha m hc, .int .i64 s3, .int .i64 s4] 64)) wr.heap.size 64 #[.string s, .string t, .slice ha m hc, .int .i64 s3, .int .i64 s4] := Blk.new wr _ _
      have b0 := B0.cell 0
      have b1 := B0.cell 1
      clear hcs hst hok htk hx hm hF1 hKS hKT
      cases KS
      · have HS := Lib.hid (HST.out.trans (if_pos (by simp)))
        clear HST
        go_wp2_with fail
        refine (key_calls s _ (by unfold maxLen; omega)).mono ?_
        rintro e w1 ⟨rfl, rfl⟩
        rw [HKS.out]
        go_wp2_with fail
        go_ret
        exact ⟨ret_int HS.out.symm, hbr1⟩
      cases KT
      · have HS := Lib.hid (HST.out.trans (if_pos (by simp)))
        clear HST
        go_wp2_with fail
        refine (key_calls s _ (by unfold maxLen; omega)).mono ?_
        rintro e w1 ⟨rfl, rfl⟩
        rw [HKS.out]
        go_wp2_with fail
        refine (key_calls t _ (by unfold maxLen; omega)).mono ?_
        rintro e w1 ⟨rfl, rfl⟩
        rw [HKT.out]
        go_wp2_with fail
        go_ret
        exact ⟨ret_int HS.out.symm, hbr1⟩
      have HST2 := Lib.hid (HST.out.trans (if_neg (by simp)))
      clear HST
      have hk0 : (0 : Int) ≤ (k : Int) := by omega
      have hkc : (k : Int) ≤ (c : Int) := by omega
      by_cases hF0 : 0 ≤ F1
      · have HS := Lib.hid (HST2.out.trans (if_pos hF0))
        clear HST2
        go_wp2_with fail
        refine (key_calls s _ (by unfold maxLen; omega)).mono ?_
        rintro e w1 ⟨rfl, rfl⟩
        rw [HKS.out]
        go_wp2_with fail
        refine (key_calls t _ (by unfold maxLen; omega)).mono ?_
        rintro e w1 ⟨rfl, rfl⟩
        rw [HKT.out]
        go_wp2_with fail
        go_region_law (first
          | (go_simp; go_at_call 74; ((with_reducible refine (HA.out _ rfl).mono ?_); rintro e w3 ⟨rfl, hb3⟩)))
        have hb4 := below_call hbr2 hb3 (Nat.le_refl _)
        clear b0 b1
        go_wp2_with fail
        go_ret
        exact ⟨ret_int HS.out.symm, hb4⟩
      have HST3 := Lib.hid (HST2.out.trans (if_neg hF0))
      clear HST2
      go_wp2_with fail
      refine (key_calls s _ (by unfold maxLen; omega)).mono ?_
      rintro e w1 ⟨rfl, rfl⟩
      rw [HKS.out]
      go_wp2_with fail
      refine (key_calls t _ (by unfold maxLen; omega)).mono ?_
      rintro e w1 ⟨rfl, rfl⟩
      rw [HKT.out]
      go_wp2_with fail
      go_region_law (first
        | (go_simp; go_at_call 74; ((with_reducible refine (HA.out _ rfl).mono ?_); rintro e w3 ⟨rfl, hb3⟩)))
      have hb4 := below_call hbr2 hb3 (Nat.le_refl _)
      have hz4 := hb4.size
      have B3 : Blk w3 wr.heap.size 64 #[.string s, .string t, .slice ha m hc, .int .i64 s3, .int .i64 s4] := Blk.below (w := (wr.alloc (.cells #[.string s, .string t, .slice ha m hc, .int .i64 s3, .int .i64 s4] 64)).drew) (Blk.new wr _ _) hb3
      have HOK3 := Lib.hid (SltW.below (w := (wr.alloc (.cells #[.string s, .string t, .slice ha m hc, .int .i64 s3, .int .i64 s4] 64)).drew) (HOK.out.below (below_drewN (Below.refl _ _) 1)) hb3)
      clear B0 b0 b1 HOK
      have d0 := B3.cell 0
      have d1 := B3.cell 1
      have d2 := B3.cell 2
      have d3 := B3.cell 3
      have d4 := B3.cell 4
      have HB := Lib.hid (Nat.lt_of_lt_of_le hb hz4)
      obtain ⟨SF, hSF⟩ : ∃ F, slotF ⟨s, t, ha, hc, hh, s3, s4⟩ = F := ⟨_, rfl⟩
      have hst := HST3.out
      rw [hSF] at hst
      have HCF : Hid (Calls Tryz.prog 125 #[.agg #[.string s, .string t, .slice ha m hc, .int .i64 s3, .int .i64 s4]] w3 (BRet (.int .i64 SF) w3)) := by
        have := slotFault_calls b ⟨s, t, ha, hc, hh, s3, s4⟩ w3 HOK3.out HB.out
        rw [hSF] at this
        simp only [HM.out] at this
        exact this
      clear HST3 B3 hSF
      by_cases hz : SF = 0
      · rw [if_pos hz] at hst
        have HS := Lib.hid hst
        subst hz
        clear hst
        go_wp2_with fail
        refine HCF.out.mono ?_
        rintro e w5 ⟨rfl, hb5⟩
        have hb6 := below_call hb4 hb5 (Nat.le_refl _)
        clear d0 d1 d2 d3 d4
        go_wp2_with fail
        go_roundw
        case rel => exact ⟨k + 1, by omega, by go_num, HS, hb6⟩
        case measure => simp [intOf]; omega
      · rw [if_neg hz] at hst
        have HS := Lib.hid hst
        have hz' : (SF != 0) = true := by rw [bne_iff_ne]; exact hz
        clear hst
        go_wp2_with fail
        refine HCF.out.mono ?_
        rintro e w5 ⟨rfl, hb5⟩
        have hb6 := below_call hb4 hb5 (Nat.le_refl _)
        clear d0 d1 d2 d3 d4
        go_wp2_with fail
        go_ret
        exact ⟨ret_int HS.out.symm, hb6⟩
    · obtain rfl : k = n := by omega
      have HS := Lib.hid (HF.out.trans (by rw [List.drop_of_length_le (by rw [HL.out]; exact Nat.le_refl _)]; rfl : _ = (0 : Int)))
      go_wp2_with fail
      go_ret
      exact ⟨ret_int HS.out.symm, hbr⟩

theorem checkSlots_calls (b : Nat) (A : Option Addr) (n c : Nat) (xs : List Slt) (w : World) (hr : Slts w b A n c xs) (hb : b < w.heap.size) :
    Calls Tryz.prog 65 #[.slice A n c] w (BRet (.int .i64 (slotsF xs)) w) := checkSlotsW_calls b A n c xs w hr.wide hb
end Go.Proofs.YthbcogekfdllmaaGreatDoor
/-
  Ranks as the stream makes them, by a contract.
-/
namespace Go.Proofs.YthbcogekfdllmaaGreatDoor
open Go Go.RowKit
attribute [local go_sem ↓] Go.wp_at_zero Go.wp_at_succ

abbrev Res := Int × ByteArray × Int
def resC (r : Res) : List Value := [.int .i64 r.1, .string r.2.1, .int .i64 r.2.2]
theorem resC_len (r : Res) : (resC r).length = 3 := rfl
theorem info_res : (Tryz.prog.info? 43).map (fun i => (i.zero, i.size, i.bytes)) = some (some (.agg #[.int .i64 0, .string ⟨#[]⟩, .int .i64 0]), 3, 32) := by kernel_rfl

theorem news_new (w : World) (cs : Array Value) (t : TypeId) (B : Nat) (hB : w.heap.size = B) : ∀ j u, cs.toList[j]? = some u → (w.alloc (.cells cs t)).cell? ((⟨B, 0, none⟩ : Addr).add j) = some u := by
  subst hB
  exact World.news_of_block (heap_alloc_new w _)

theorem base1 {w : World} {B : Nat} (h : B ≤ w.heap.size) (o : Obj) : B ≤ (w.alloc o).heap.size := by simp; omega
theorem size1 (w : World) (o : Obj) : (w.alloc o).heap.size = w.heap.size + 1 := by simp
end Go.Proofs.YthbcogekfdllmaaGreatDoor
/-
  slices.Clone of strings, marathon.needed and splitref2.people by contracts. (Printed by gen_slot4.py.)
-/
namespace Go.Proofs.YthbcogekfdllmaaGreatDoor
open Go Go.RowKit
attribute [local go_sem ↓] Go.wp_at_zero Go.wp_at_succ

theorem info_str : (Tryz.prog.info? 9).map (fun i => (i.zero, i.size, i.bytes)) = some (some (.string ⟨#[]⟩), 1, 16) := by kernel_rfl
theorem one1 {x : Value} (hx : x.oneCell' = true) : ∀ u ∈ [x], u.oneCell' = true := by
  intro u hu
  simp at hu
  subst hu
  exact hx
end Go.Proofs.YthbcogekfdllmaaGreatDoor
