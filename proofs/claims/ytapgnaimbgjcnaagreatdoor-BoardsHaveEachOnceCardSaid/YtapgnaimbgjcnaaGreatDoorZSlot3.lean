/-
  marathon.CheckSlots and splitref2.SlotsFault by contracts: both answer slotsF. (Printed by gen_slot3.py.)
-/
import Derived.Test.YtapgnaimbgjcnaaGreatDoorZSlot1
import Derived.Deep.RegionLaw
import Derived.Deep.RegionWith
import Derived.Deep.DrawnRows
import Derived.Test.YtapgnaimbgjcnaaGreatDoorZFlat
import Derived.Test.YtapgnaimbgjcnaaGreatDoorZBase
import Derived.Outline
import Derived.RegionTactic
import Derived.ChangeAlike
import Derived.BigRegion
import Derived.Deep.DeepMust
import Derived.Lib.SliceRun
import Derived.Laws.AppendOwnNone
import Derived.Test.YtapgnaimbgjcnaaGreatDoorZScmp
import Derived.Deep.DeepCutAuto
import Derived.Deep.RegionHeld3
import Derived.Deep.QuietTactic
import Derived.Test.YtapgnaimbgjcnaaGreatDoorProg
import Derived.Maps.OwnSet
import Derived.Maps.OwnOps
import Derived.Maps.Views
import Derived.Maps.RangeWalk
import Derived.Sort.KeysCollected
namespace Go.Proofs.YtapgnaimbgjcnaaGreatDoor
open Go Go.RowKit
attribute [local go_sem ↓] Go.wp_at_zero Go.wp_at_succ
set_option maxRecDepth 100000 in
theorem checkSlotsW_calls (b : Nat) (A : Option Addr) (n c : Nat) (xs : List Slt) (w : World) (hr : SltsW w b A n c xs) (hb : b < w.heap.size) :
 Calls Tryz.prog 151 #[.slice A n c] w (BRet (.int .i64 (slotsF xs)) w) := by
 obtain ⟨hl, hnc, hcm, hcells⟩ := hr.rd.cells sltC_len (by omega)
 unfold maxLen at hcm
 by_cases hbig : 200 < n
 · have HF := Lib.hid (show slotsF xs = 2 by unfold slotsF; rw [if_pos (by omega)])
   clear hcells hl
   go_enter Tryz.func151, Tryz.ntmps151
   go_wp2_with fail
   go_ret
   exact ⟨ret_int HF.out.symm, Below.refl _ _⟩
 have HF := Lib.hid (show slotsF xs = slotsG (xs.take 0) (xs.drop 0) by unfold slotsF; rw [if_neg (by omega)]; rfl)
 have HL := Lib.hid hl
 have HC := Lib.hid hcells
 have HR := Lib.hid hr
 clear hcells hl hr
 go_enter Tryz.func151, Tryz.ntmps151
 go_wp2_with fail
 go_loopw [11] (fun i wr => ∃ k : Nat, k ≤ n ∧ i = .int .i64 k ∧ Hid (slotsF xs = slotsG (xs.take k) (xs.drop k)) ∧ Below w.heap.size w wr) (fun i _ => n - (intOf i).toNat)
 case atStart => exact ⟨0, Nat.zero_le _, rfl, HF, Below.refl _ _⟩
 case round =>
  clear HF
  obtain ⟨k, hk, rfl, HF, hbr⟩ := hrel
  by_cases hlt : k < n
  · have hkr : k < xs.length := by rw [HL.out]; exact hlt
    obtain ⟨g, o, hA, _, hcs⟩ := HC.out (by omega)
    subst hA
    have hst := HF.out.trans (slotsG_step xs k hkr)
    have hok := (HR.out.ok _ (List.getElem_mem hkr)).below hbr
    have htk := (HR.out.rd.take sltC_len (by omega) hk).below hbr
    obtain ⟨x, hx⟩ : ∃ x, xs[k] = x := ⟨_, rfl⟩
    have c0 := below_cell hbr (hcs k hkr 0 (by omega))
    have c1 := below_cell hbr (hcs k hkr 1 (by omega))
    have c2 := below_cell hbr (hcs k hkr 2 (by omega))
    have c3 := below_cell hbr (hcs k hkr 3 (by omega))
    have c4 := below_cell hbr (hcs k hkr 4 (by omega))
    rw [hx] at c0 c1 c2 c3 c4 hst hok
    obtain ⟨s, t, ha, hc, hh, s3, s4⟩ := x
    obtain ⟨m, hm⟩ : ∃ m, hh.length = m := ⟨_, rfl⟩
    simp only [Nat.add_zero] at c0
    simp only [hm] at c2
    have hlz := hbr.size
    have hsz : s.size ≤ 1000000 := hok.hk
    have htz : t.size ≤ 1000000 := hok.hw
    obtain ⟨F1, hF1⟩ : ∃ F, findL (xs.take k) s = F := ⟨_, rfl⟩
    obtain ⟨KS, hKS⟩ : ∃ B, keyB s.data.toList = B := ⟨_, rfl⟩
    obtain ⟨KT, hKT⟩ : ∃ B, keyB t.data.toList = B := ⟨_, rfl⟩
    simp only [hF1, hKS, hKT] at hst
    have HKS := Lib.hid hKS
    have HKT := Lib.hid hKT
    have HST := Lib.hid hst
    have HOK := Lib.hid (show SltW (wr.alloc (.cells #[.string s, .string t, .slice ha m hc, .int .i64 s3, .int .i64 s4] 156)) b ⟨s, t, ha, hc, hh, s3, s4⟩ from hok.below ((Below.refl _ _).alloc (Nat.le_refl _) _))
    have HA : Hid (∀ W, W = (wr.alloc (.cells #[.string s, .string t, .slice ha m hc, .int .i64 s3, .int .i64 s4] 156)).drew → Calls Tryz.prog 201 #[.slice (some ⟨g, o, none⟩) k c, .string s] W (BRet (.int .i64 F1) W)) := by
     rintro W rfl
     have := findL_calls b _ k c (xs.take k) s ((wr.alloc (.cells #[.string s, .string t, .slice ha m hc, .int .i64 s3, .int .i64 s4] 156)).drew) ((htk.below ((Below.refl _ _).alloc (Nat.le_refl _) _)).below (below_drewN (Below.refl _ _) 1))
     rw [hF1] at this
     exact this
    have HM := Lib.hid hm
    have hbr1 : Below w.heap.size w (wr.alloc (.cells #[.string s, .string t, .slice ha m hc, .int .i64 s3, .int .i64 s4] 156)) := hbr.alloc hlz _
    have hbr2 := below_drewN hbr1 1
    have B0 : Blk (wr.alloc (.cells #[.string s, .string t, .slice ha m hc, .int .i64 s3, .int .i64 s4] 156)) wr.heap.size 156 #[.string s, .string t, .slice ha m hc, .int .i64 s3, .int .i64 s4] := Blk.new wr _ _
    have b0 := B0.cell 0
    have b1 := B0.cell 1
    clear hcs hst hok htk hx hm hF1 hKS hKT
    cases KS
    · have HS := Lib.hid (HST.out.trans (if_pos (by simp)))
      clear HST
      go_wp2_with fail
      refine (key_calls s _ (by unfold maxLen; omega)).mono ?_
      rintro e w1 ⟨rfl, rfl⟩
      rw [HKS.out]
      go_wp2_with fail
      go_ret
      exact ⟨ret_int HS.out.symm, hbr1⟩
    cases KT
    · have HS := Lib.hid (HST.out.trans (if_pos (by simp)))
      clear HST
      go_wp2_with fail
      refine (key_calls s _ (by unfold maxLen; omega)).mono ?_
      rintro e w1 ⟨rfl, rfl⟩
      rw [HKS.out]
      go_wp2_with fail
      refine (key_calls t _ (by unfold maxLen; omega)).mono ?_
      rintro e w1 ⟨rfl, rfl⟩
      rw [HKT.out]
      go_wp2_with fail
      go_ret
      exact ⟨ret_int HS.out.symm, hbr1⟩
    have HST2 := Lib.hid (HST.out.trans (if_neg (by simp)))
    clear HST
    have hk0 : (0 : Int) ≤ (k : Int) := by omega
    have hkc : (k : Int) ≤ (c : Int) := by omega
    by_cases hF0 : 0 ≤ F1
    · have HS := Lib.hid (HST2.out.trans (if_pos hF0))
      clear HST2
      go_wp2_with fail
      refine (key_calls s _ (by unfold maxLen; omega)).mono ?_
      rintro e w1 ⟨rfl, rfl⟩
      rw [HKS.out]
      go_wp2_with fail
      refine (key_calls t _ (by unfold maxLen; omega)).mono ?_
      rintro e w1 ⟨rfl, rfl⟩
      rw [HKT.out]
      go_wp2_with fail
      go_region_law (first
       | (go_simp; go_at_call 201; ((with_reducible refine (HA.out _ rfl).mono ?_); rintro e w3 ⟨rfl, hb3⟩)))
      have hb4 := below_call hbr2 hb3 (Nat.le_refl _)
      clear b0 b1
      go_wp2_with fail
      go_ret
      exact ⟨ret_int HS.out.symm, hb4⟩
    have HST3 := Lib.hid (HST2.out.trans (if_neg hF0))
    clear HST2
    go_wp2_with fail
    refine (key_calls s _ (by unfold maxLen; omega)).mono ?_
    rintro e w1 ⟨rfl, rfl⟩
    rw [HKS.out]
    go_wp2_with fail
    refine (key_calls t _ (by unfold maxLen; omega)).mono ?_
    rintro e w1 ⟨rfl, rfl⟩
    rw [HKT.out]
    go_wp2_with fail
    go_region_law (first
     | (go_simp; go_at_call 201; ((with_reducible refine (HA.out _ rfl).mono ?_); rintro e w3 ⟨rfl, hb3⟩)))
    have hb4 := below_call hbr2 hb3 (Nat.le_refl _)
    have hz4 := hb4.size
    have B3 : Blk w3 wr.heap.size 156 #[.string s, .string t, .slice ha m hc, .int .i64 s3, .int .i64 s4] := Blk.below (w := (wr.alloc (.cells #[.string s, .string t, .slice ha m hc, .int .i64 s3, .int .i64 s4] 156)).drew) (Blk.new wr _ _) hb3
    have HOK3 := Lib.hid (SltW.below (w := (wr.alloc (.cells #[.string s, .string t, .slice ha m hc, .int .i64 s3, .int .i64 s4] 156)).drew) (HOK.out.below (below_drewN (Below.refl _ _) 1)) hb3)
    clear B0 b0 b1 HOK
    have d0 := B3.cell 0
    have d1 := B3.cell 1
    have d2 := B3.cell 2
    have d3 := B3.cell 3
    have d4 := B3.cell 4
    have HB := Lib.hid (Nat.lt_of_lt_of_le hb hz4)
    obtain ⟨SF, hSF⟩ : ∃ F, slotF ⟨s, t, ha, hc, hh, s3, s4⟩ = F := ⟨_, rfl⟩
    have hst := HST3.out
    rw [hSF] at hst
    have HCF : Hid (Calls Tryz.prog 202 #[.agg #[.string s, .string t, .slice ha m hc, .int .i64 s3, .int .i64 s4]] w3 (BRet (.int .i64 SF) w3)) := by
     have := slotFault_calls b ⟨s, t, ha, hc, hh, s3, s4⟩ w3 HOK3.out HB.out
     rw [hSF] at this
     simp only [HM.out] at this
     exact this
    clear HST3 B3 hSF
    by_cases hz : SF = 0
    · rw [if_pos hz] at hst
      have HS := Lib.hid hst
      subst hz
      clear hst
      go_wp2_with fail
      refine HCF.out.mono ?_
      rintro e w5 ⟨rfl, hb5⟩
      have hb6 := below_call hb4 hb5 (Nat.le_refl _)
      clear d0 d1 d2 d3 d4
      go_wp2_with fail
      go_roundw
      case rel => exact ⟨k + 1, by omega, by go_num, HS, hb6⟩
      case measure => simp [intOf]; omega
    · rw [if_neg hz] at hst
      have HS := Lib.hid hst
      have hz' : (SF != 0) = true := by rw [bne_iff_ne]; exact hz
      clear hst
      go_wp2_with fail
      refine HCF.out.mono ?_
      rintro e w5 ⟨rfl, hb5⟩
      have hb6 := below_call hb4 hb5 (Nat.le_refl _)
      clear d0 d1 d2 d3 d4
      go_wp2_with fail
      go_ret
      exact ⟨ret_int HS.out.symm, hb6⟩
  · obtain rfl : k = n := by omega
    have HS := Lib.hid (HF.out.trans (by rw [List.drop_of_length_le (by rw [HL.out]; exact Nat.le_refl _)]; rfl : _ = (0 : Int)))
    go_wp2_with fail
    go_ret
    exact ⟨ret_int HS.out.symm, hbr⟩
theorem checkSlots_calls (b : Nat) (A : Option Addr) (n c : Nat) (xs : List Slt) (w : World) (hr : Slts w b A n c xs) (hb : b < w.heap.size) :
 Calls Tryz.prog 151 #[.slice A n c] w (BRet (.int .i64 (slotsF xs)) w) := checkSlotsW_calls b A n c xs w hr.wide hb
end Go.Proofs.YtapgnaimbgjcnaaGreatDoor
/-
  Ranks as the stream makes them, by a contract.
-/
namespace Go.Proofs.YtapgnaimbgjcnaaGreatDoor
open Go Go.RowKit
attribute [local go_sem ↓] Go.wp_at_zero Go.wp_at_succ
theorem news_new (w : World) (cs : Array Value) (t : TypeId) (B : Nat) (hB : w.heap.size = B) : ∀ j u, cs.toList[j]? = some u → (w.alloc (.cells cs t)).cell? ((⟨B, 0, none⟩ : Addr).add j) = some u := by
 subst hB
 exact World.news_of_block (heap_alloc_new w _)
theorem base1 {w : World} {B : Nat} (h : B ≤ w.heap.size) (o : Obj) : B ≤ (w.alloc o).heap.size := by simp; omega
theorem size1 (w : World) (o : Obj) : (w.alloc o).heap.size = w.heap.size + 1 := by simp
end Go.Proofs.YtapgnaimbgjcnaaGreatDoor
/-
  slices.Clone of strings, marathon.needed and splitref2.people by contracts. (Printed by gen_slot4.py.)
-/
namespace Go.Proofs.YtapgnaimbgjcnaaGreatDoor
open Go Go.RowKit
attribute [local go_sem ↓] Go.wp_at_zero Go.wp_at_succ
theorem info_str : (Tryz.prog.info? 9).map (fun i => (i.zero, i.size, i.bytes)) = some (some (.string ⟨#[]⟩), 1, 16) := by kernel_rfl
theorem one1 {x : Value} (hx : x.oneCell' = true) : ∀ u ∈ [x], u.oneCell' = true := by
 intro u hu
 simp at hu
 subst hu
 exact hx
end Go.Proofs.YtapgnaimbgjcnaaGreatDoor
/-
  marathon.timetable and splitref2.PlacesOf by contracts: both answer placesF. (Printed by gen_slot5.py.)
-/
namespace Go.Proofs.YtapgnaimbgjcnaaGreatDoor
open Go Go.RowKit
attribute [local go_sem ↓] Go.wp_at_zero Go.wp_at_succ
theorem info_plc : (Tryz.prog.info? 249).map (fun i => (i.zero, i.size, i.bytes)) = some (some (.agg #[.string ⟨#[]⟩, .int .i64 0, .int .i64 0, .int .i64 0]), 4, 40) := by kernel_rfl
def PlcsS (l : List Plc) (w : World) (e : Ending) (w' : World) : Prop :=
 ∃ v, e = .returned v ∧ w'.ownsRow w.heap.size 249 4 v l.length (l.flatMap plcC) ∧ Below w.heap.size w w'
set_option maxRecDepth 100000 in
set_option maxHeartbeats 1000000 in
theorem timetable_calls (b : Nat) (A : Option Addr) (n c : Nat) (xs : List Slt) (f : Int) (w : World) (hr : Slts w b A n c xs) (hn : n ≤ 1000) (hf : -4398046511104 ≤ f ∧ f ≤ 4398046511104) :
 Calls Tryz.prog 153 #[.slice A n c, .int .i64 f] w (PlcsS (placesF f xs) w) := by
 obtain ⟨hl, hnc, hcm, hcells⟩ := hr.rd.cells sltC_len (by omega)
 obtain ⟨i0, hi, hz0, hz1, hz2⟩ := info_parts info_plc
 unfold maxLen at hcm
 have hsm := hr.sml
 have HBD := Lib.hid (fromAt_bd hsm hf)
 have HSM := Lib.hid hsm
 have HL := Lib.hid hl
 have HC := Lib.hid hcells
 have H0 : Hid (f = fromAt f xs 0) := rfl
 clear hcells hl hr hsm hf
 go_enter Tryz.func153, Tryz.ntmps153
 go_wp2_with fail
 go_loopw [1, 5, 11] (fun f1 v i wr => ∃ k : Nat, k ≤ n ∧ i = .int .i64 k ∧ f1 = .int .i64 (fromAt f xs k) ∧ Os 249 4 w wr v (placesTo f xs k).length ((placesTo f xs k).flatMap plcC) []) (fun _ _ i _ => n - (intOf i).toNat)
 case atStart => exact ⟨0, Nat.zero_le _, rfl, rfl, Os.start (Bs.start w)⟩
 case round =>
  obtain ⟨k, hk, rfl, rfl, hO⟩ := hrel
  have hbr := hO.2.1.1
  by_cases hlt : k < n
  · have hkr : k < xs.length := by rw [HL.out]; exact hlt
    obtain ⟨g, o, hA, _, hcs⟩ := HC.out (by omega)
    subst hA
    have hpl := placesTo_len f xs k (by omega)
    have hbd := HBD.out k (by omega)
    have hst := placesTo_step f xs k hkr
    have hfs := fromAt_step f xs k hkr
    have hxs := HSM.out _ (List.getElem_mem hkr)
    obtain ⟨x, hx⟩ : ∃ x, xs[k] = x := ⟨_, rfl⟩
    have c0 := below_cell hbr (hcs k hkr 0 (by omega))
    have c1 := below_cell hbr (hcs k hkr 1 (by omega))
    have c2 := below_cell hbr (hcs k hkr 2 (by omega))
    have c3 := below_cell hbr (hcs k hkr 3 (by omega))
    have c4 := below_cell hbr (hcs k hkr 4 (by omega))
    rw [hx] at c0 c1 c2 c3 c4 hst hfs hxs
    obtain ⟨s, t, ha, hc, hh, su, lo⟩ := x
    simp only [Nat.add_zero] at c0
    simp only at hxs hfs
    obtain ⟨F, hF⟩ : ∃ F, fromAt f xs k = F := ⟨_, rfl⟩
    rw [hF] at hfs hst hbd ⊢
    obtain ⟨⟨u1, u2⟩, u3', u4'⟩ := hxs
    obtain ⟨d1, d2⟩ := hbd
    have HST := Lib.hid hst
    have HFS := Lib.hid hfs
    have HPL := Lib.hid hpl
    have hlz := hbr.size
    have hO1 := ((hO.add #[.string s, .string t, .slice ha hh.length hc, .int .i64 su, .int .i64 lo] 156).tail).add #[.string s, .int .i64 F, .int .i64 (F + su), .int .i64 (F + su + lo)] 249
    simp only [size1] at hO1
    clear hcs hx hst hfs hF H0 hpl
    go_wp2_with (first
     | (at_builtin; refine wpList_append_own_at _ rfl _ _ 152 rfl w.heap.size 249 i0 (.agg #[.string ⟨#[]⟩, .int .i64 0, .int .i64 0, .int .i64 0]) 4 40 Tryz.underlying152 hi hz0 hz1 hz2 rfl (by decide) _ _ _ rfl (hO1.alloc _).1 ⟨wr.heap.size + 1 + 1, 0, none⟩ 1 1 [.string s, .int .i64 F, .int .i64 (F + su), .int .i64 (F + su + lo)] rfl rfl (World.news_of_block (heap_new3 _ _ _ _)) (by simp [Value.oneCell']) (by rw [HPL.out]; unfold maxLen; omega) (by rw [HPL.out]; omega) (by simp; omega) ?_; intro v' w5 hown' hgrow _ hblk; have hO2 := (hO1.alloc _).append hown' hgrow hblk; clear hown' hgrow hblk; have e3 := hO2.head.cell 3))
    have hO3 : Os 249 4 w w5 v' (placesTo f xs (k + 1)).length ((placesTo f xs (k + 1)).flatMap plcC) [] := by
     rw [HST.out, flat_snoc, List.length_append]
     exact hO2.tail
    have HF1 : Hid (F + su + lo = fromAt f xs (k + 1)) := HFS.out.symm
    clear hO hO1 hO2
    go_wp2
    go_roundw
    case rel => exact ⟨k + 1, by omega, by go_num, by rw [HF1.out], hO3⟩
    case measure => simp [intOf]; omega
  · obtain rfl : k = n := by omega
    have HS : Hid (placesF f xs = placesTo f xs k) := by unfold placesF; rw [HL.out]; exact Lib.hid rfl
    go_wp2_with fail
    go_ret
    exact ⟨_, rfl, by rw [HS.out]; exact hO.1, hbr⟩
end Go.Proofs.YtapgnaimbgjcnaaGreatDoor
/-
  marathon.end, splitref2.endOf, both Moment, fromFault and FromFault by contracts. (Printed by gen_slot6.py.)
-/
namespace Go.Proofs.YtapgnaimbgjcnaaGreatDoor
open Go Go.RowKit
set_option maxRecDepth 100000 in
theorem end_calls (b : Nat) (A : Option Addr) (n c : Nat) (l : List Plc) (f : Int) (w : World) (hr : Rd w b 4 (.slice A n c) n (l.flatMap plcC)) :
 Calls Tryz.prog 203 #[.slice A n c, .int .i64 f] w (QRet (.int .i64 (endP f l)) w) := by
 obtain ⟨hl, hnc, hcm, hcells⟩ := hr.cells plcC_len (by omega)
 unfold maxLen at hcm
 by_cases h0 : n = 0
 · subst h0
   have hx : l = [] := List.eq_nil_of_length_eq_zero hl
   subst hx
   clear hcells
   go_enter Tryz.func203, Tryz.ntmps203
   go_wp2_with fail
   go_ret
   exact ⟨rfl, 0, rfl⟩
 · obtain ⟨g, o, hA, _, hcs⟩ := hcells (by omega)
   obtain ⟨q, rfl⟩ : ∃ q, n = q + 1 := ⟨n - 1, by omega⟩
   have hlast := endP_last f l (by omega)
   have hq : l.length - 1 = q := by omega
   simp only [hq] at hlast
   have c3 := hcs q (by omega) 3 (by omega)
   have HE : Hid (endP f l = (l[q]'(by omega)).2.2.2) := hlast
   obtain ⟨z, hz⟩ : ∃ z, l[q]'(by omega) = z := ⟨_, rfl⟩
   rw [hz] at HE c3
   obtain ⟨z0, z1, z2, z3⟩ := z
   replace c3 : w.cell? ⟨g, o + q * 4 + 3, none⟩ = some (.int .i64 z3) := c3
   have hq0 : (0 : Int) ≤ (q : Int) := by omega
   have hnn : ((((q + 1 : Nat) : Int)) == 0) = false := by rw [beq_eq_false_iff_ne]; omega
   have hq1 : (q : Int) < ((q + 1 : Nat) : Int) := by omega
   subst hA
   clear hcs hcells hlast hz hq hl hr
   go_enter Tryz.func203, Tryz.ntmps203
   go_wp2_with fail
   go_ret
   exact ⟨ret_int HE.out.symm, 0, rfl⟩
theorem moment_calls (f : Int) (w : World) : Calls Tryz.prog 105 #[.int .i64 f] w fun e w' => e = .returned (.bool (momB f)) ∧ w = w' := by
 have HM : Hid ((!outB f 0 345686399999) = momB f) := rfl
 go_enter Tryz.func105, Tryz.ntmps105
 go_wp2_with fail
 refine (out_calls _ _ _ _).mono ?_
 rintro e w1 ⟨rfl, rfl⟩
 go_wp2_with fail
 go_ret
 exact ⟨ret_bool HM.out, rfl⟩
theorem momentQ_calls (f : Int) (w : World) : Calls Tryz.prog 67 #[.int .i64 f] w fun e w' => e = .returned (.bool (momB f)) ∧ w = w' := by
 have HM : Hid ((!outB f 0 345686399999) = momB f) := rfl
 go_enter Tryz.func67, Tryz.ntmps67
 go_wp2_with fail
 refine (in_calls _ _ _ _).mono ?_
 rintro e w1 ⟨rfl, rfl⟩
 rw [HM.out]
 go_wp2_with fail
 go_ret
 exact ⟨rfl, rfl⟩
set_option maxRecDepth 100000 in
theorem fromFault_calls (b : Nat) (A : Option Addr) (n c : Nat) (xs : List Slt) (f : Int) (w : World) (hr : Slts w b A n c xs) (hn : n ≤ 1000) (hf : -4398046511104 ≤ f ∧ f ≤ 4398046511104) (hb : b < w.heap.size) :
 Calls Tryz.prog 152 #[.slice A n c, .int .i64 f] w (BRet (.int .i64 (fromF f xs)) w) := by
 obtain ⟨M, hM⟩ : ∃ M, momB f = M := ⟨_, rfl⟩
 obtain ⟨E, hE⟩ : ∃ E, endP f (placesF f xs) = E := ⟨_, rfl⟩
 have hF : fromF f xs = if M = true then if 345686400000 < E then 1 else 0 else 1 := by rw [← hM, ← hE]; rfl
 have HM := Lib.hid hM
 have HE := Lib.hid hE
 cases M
 · have HS := Lib.hid (hF.trans (if_neg (by simp)))
   clear hM hE hF
   go_enter Tryz.func152, Tryz.ntmps152
   go_wp2_with fail
   refine (moment_calls f _).mono ?_
   rintro e w1 ⟨rfl, rfl⟩
   rw [HM.out]
   go_wp2_with fail
   go_ret
   exact ⟨ret_int HS.out.symm, Below.refl _ _⟩
 · have hF1 := hF.trans (if_pos rfl)
   by_cases hgt : 345686400000 < E
   · have HS := Lib.hid (hF1.trans (if_pos hgt))
     clear hM hE hF hF1
     go_enter Tryz.func152, Tryz.ntmps152
     go_wp2_with fail
     refine (moment_calls f _).mono ?_
     rintro e w1 ⟨rfl, rfl⟩
     rw [HM.out]
     go_wp2_with fail
     refine (timetable_calls b A n c xs f _ hr hn hf).mono ?_
     rintro e w1 ⟨v, rfl, hown, hb1⟩
     obtain ⟨A2, c2, hv⟩ := own_form hown
     subst hv
     go_wp2_with fail
     refine (end_calls b A2 _ c2 (placesF f xs) f _ (Rd.own hown hb)).mono ?_
     rintro e w2 ⟨rfl, nq, rfl⟩
     rw [HE.out]
     go_wp2_with fail
     go_ret
     exact ⟨ret_int HS.out.symm, below_drewN hb1 _⟩
   · have HS := Lib.hid (hF1.trans (if_neg hgt))
     clear hM hE hF hF1
     go_enter Tryz.func152, Tryz.ntmps152
     go_wp2_with fail
     refine (moment_calls f _).mono ?_
     rintro e w1 ⟨rfl, rfl⟩
     rw [HM.out]
     go_wp2_with fail
     refine (timetable_calls b A n c xs f _ hr hn hf).mono ?_
     rintro e w1 ⟨v, rfl, hown, hb1⟩
     obtain ⟨A2, c2, hv⟩ := own_form hown
     subst hv
     go_wp2_with fail
     refine (end_calls b A2 _ c2 (placesF f xs) f _ (Rd.own hown hb)).mono ?_
     rintro e w2 ⟨rfl, nq, rfl⟩
     rw [HE.out]
     go_wp2_with fail
     go_ret
     exact ⟨ret_int HS.out.symm, below_drewN hb1 _⟩
end Go.Proofs.YtapgnaimbgjcnaaGreatDoor
/-
  What is wrong with an event: board.eventFault by a contract. (Printed by gen_ev1.py.)
-/
namespace Go.Proofs.YtapgnaimbgjcnaaGreatDoor
open Go Go.RowKit
attribute [local go_sem ↓] Go.wp_at_zero Go.wp_at_succ
theorem uses_calls (w : World) : Calls Tryz.prog 178 #[] w fun e w' => e = .returned (.slice (some ⟨w.heap.size, 0, none⟩) 6 6) ∧ w' = w.alloc (.cells #[.string ⟨#[115, 101, 110, 116]⟩, .bool true, .bool true, .bool false, .bool true, .string ⟨#[118, 101, 114, 105, 102, 105, 101, 100]⟩, .bool true, .bool false, .bool true, .bool false, .string ⟨#[114, 101, 102, 117, 115, 101, 100]⟩, .bool true, .bool false, .bool true, .bool false, .string ⟨#[98, 97, 99, 107]⟩, .bool true, .bool true, .bool false, .bool false, .string ⟨#[98, 97, 110, 110, 101, 100]⟩, .bool false, .bool true, .bool true, .bool false, .string ⟨#[102, 114, 101, 101, 100]⟩, .bool false, .bool true, .bool true, .bool false] 221) := by
 go_enter Tryz.func178, Tryz.ntmps178
 go_wp2_with fail
 go_ret
 exact ⟨rfl, rfl⟩
theorem neq_bev (a1 k1 t1 d1 a2 k2 t2 d2 : Int) (i1 w1 b1 c1 i2 w2 b2 c2 : ByteArray) (w : World) : (binOp .neq 78 (.agg #[.int .i64 a1, .int .i64 k1, .string i1, .string w1, .string b1, .string c1, .int .i64 t1, .int .i64 d1]) (.agg #[.int .i64 a2, .int .i64 k2, .string i2, .string w2, .string b2, .string c2, .int .i64 t2, .int .i64 d2])).run Tryz.prog w = .ok (.bool (!sameBev ⟨a1, k1, i1, w1, b1, c1, t1, d1⟩ ⟨a2, k2, i2, w2, b2, c2, t2, d2⟩)) w := by
 simp only [sameBev, eqS]
 simp [go_sem]
 by_cases h1 : a1 = a2 <;> by_cases h2 : k1 = k2 <;> by_cases h3 : i1.toList = i2.toList <;> by_cases h4 : w1.toList = w2.toList <;> by_cases h5 : b1.toList = b2.toList <;> by_cases h6 : c1.toList = c2.toList <;> by_cases h7 : t1 = t2 <;> by_cases h8 : d1 = d2 <;> simp [h1, h2, h3, h4, h5, h6, h7, h8]
attribute [local go_sem ↓ high] neq_bev
theorem bevF_of (x : Bev) (ha : momB x.at_ = true) (hk : outB x.kind 1 6 = false) : bevF x = if bevK x = true then 5 else if (usS x.kind && (outB x.time 1 864000000 || outB x.date 0 x.at_)) = true then 1 else if sameBev x (bevU x) = true then 0 else 3 := by
 unfold bevF
 rw [if_pos ha, if_neg (by rw [hk]; decide)]
end Go.Proofs.YtapgnaimbgjcnaaGreatDoor
/-
  A map of the call's own with strings for keys, whatever its elements: MapS says what stands at each key. No Go text is named here.
-/
namespace Go.Proofs.YtapgnaimbgjcnaaGreatDoor
open Go Go.RowKit
open Go.Maps (Keyed)
def tokR (v : Value) : Option (DataW Value × List MemPlace) := some (.held v, [])
def kLit (s : ByteArray) : Lit := .string s.data.toList
theorem kLit_inj {s t : ByteArray} (h : kLit s = kLit t) : s = t := by
 unfold kLit at h
 injection h with h
 cases s; cases t
 congr
 exact Array.toList_inj.1 h
def MapS (w : World) (kt : TypeId) (b n : Nat) (f : ByteArray → Option Value) : Prop :=
 ∃ D : DataW Value, w.ownsMap Tryz.prog kt tokR b n D ∧ ∀ s : ByteArray, s.size ≤ maxLen → Maps.has D (kLit s) = (f s).isSome ∧ ∀ z : Value, D.atKey (kLit s) (.held z) = .held ((f s).getD z)
def upd (f : ByteArray → Option Value) (s : ByteArray) (v : Value) : ByteArray → Option Value := fun t => if t = s then some v else f t
theorem keyOf_s {kt : TypeId} (hk : Tryz.prog.underlying kt = some .string) {s : ByteArray} (hs : s.size ≤ maxLen) : keyOf Tryz.prog kt (.string s) = some (kLit s) := WideMaps.keyOf_string_mk hk hs
section
variable {w w' : World} {kt t e : TypeId} {b n : Nat} {f : ByteArray → Option Value}
theorem MapS.made (w : World) (kt : TypeId) : MapS (w.alloc (.map #[] 0)) kt w.heap.size 0 (fun _ => none) :=
 ⟨_, World.ownsMap_made w _ kt tokR, fun _ _ => ⟨rfl, fun _ => rfl⟩⟩
theorem MapS.mono (h : MapS w kt b n f) {n' : Nat} (hn : n ≤ n') : MapS w kt b n' f := by
 obtain ⟨D, h1, h2⟩ := h
 exact ⟨D, h1.mono hn, h2⟩
theorem MapS.lt (h : MapS w kt b n f) : b < w.heap.size := by
 obtain ⟨D, h1, _⟩ := h
 exact h1.lt
theorem MapS.block (h : MapS w kt b n f) (hb : w'.heap[b]? = w.heap[b]?) : MapS w' kt b n f := by
 obtain ⟨D, ⟨es, clock, h0, h1⟩, h2⟩ := h
 exact ⟨D, ⟨es, clock, hb.trans h0, h1⟩, h2⟩
theorem MapS.below (h : MapS w kt b n f) (hb : Below w.heap.size w w') : MapS w' kt b n f := h.block (hb.block b h.lt)
theorem tok_inv {v : Value} {z : DataW Value} {ps : List MemPlace} (h : tokR v = some (z, ps)) : z = .held v := by
 unfold tokR at h
 injection h with h
 exact (Prod.mk.inj h).1.symm
theorem MapS.look (h : MapS w kt b n f) (hk : Tryz.prog.underlying kt = some .string) (ht : Tryz.prog.underlying t = some (.map kt e)) {z : Value} (hz : (zeroValue e).run Tryz.prog w = .ok z w) {s : ByteArray} (hs : s.size ≤ maxLen) :
 (Instr.lookup t (.map (some b)) (.string s) false).run Tryz.prog w = .ok ((f s).getD z) w := by
 obtain ⟨D, h1, h2⟩ := h
 obtain ⟨v, ps, hrun, hv⟩ := h1.lookup (Maps.string_keyed hk) ht hz (zd := .held z) (zp := []) rfl (keyOf_s hk hs)
 have he : DataW.held ((f s).getD z) = DataW.held v := ((h2 s hs).2 z).symm.trans (tok_inv hv)
 have he2 : (f s).getD z = v := DataW.held.inj he
 rw [he2]
 exact hrun
theorem MapS.update (h : MapS w kt b n f) (hk : Tryz.prog.underlying kt = some .string) (ht : Tryz.prog.underlying t = some (.map kt e)) (hn : n < maxLen) {s : ByteArray} (hs : s.size ≤ maxLen) (v : Value) :
 ∃ w', (Instr.mapUpdate t (.map (some b)) (.string s) v).run Tryz.prog w = .ok () w' ∧ MapS w' kt b (n + 1) (upd f s v) ∧ w.grownBy w' (some b) := by
 obtain ⟨D, h1, h2⟩ := h
 obtain ⟨w', hrun, h3, h4⟩ := h1.update (Maps.string_keyed hk) ht hn (keyOf_s hk hs) (val := v) (d := .held v) (ps := []) rfl
 refine ⟨w', hrun, ⟨_, h3, fun x hx => ?_⟩, h4⟩
 by_cases he : x = s
 · subst he
   have hm : Maps.IsMap D := h1.isMap
   simp only [upd, if_true]
   exact ⟨by rw [Maps.has_put_same hm (by trivial)]; rfl, fun z => by rw [Maps.atKey_put_same hm (by trivial)]; rfl⟩
 · have hne : kLit x ≠ kLit s := fun h => he (kLit_inj h)
   simp only [upd, if_neg he]
   exact ⟨by rw [Maps.has_put_other hne]; exact (h2 x hx).1, fun z => by rw [Maps.atKey_put_other hne]; exact (h2 x hx).2 z⟩
end
def rMap (kt : TypeId) (b n : Nat) (f : ByteArray → Option Value) : Rsc := ⟨fun W => MapS W kt b n f, fun k => k = b⟩
theorem rMap_ok (kt : TypeId) (b n : Nat) (f : ByteArray → Option Value) : (rMap kt b n f).Ok := fun _ _ h hp => hp.block (h b rfl)
theorem Sq.addMap {w W : World} {l : List Rsc} (h : Sq w W l) (kt : TypeId) : Sq w (W.alloc (.map #[] 0)) (rMap kt W.heap.size 0 (fun _ => none) :: l) :=
 h.new_ ((Below.refl _ _).alloc (Nat.le_refl _) _) (MapS.made W kt) (rMap_ok _ _ _ _) (fun g hg => by
  have hg : g = W.heap.size := hg
  subst hg
  exact ⟨Nat.le_refl _, by simp⟩)
theorem Sq.mapSet {w W W' : World} {l : List Rsc} {kt : TypeId} {g n n' : Nat} {f f' : ByteArray → Option Value} (h : Sq w W (rMap kt g n f :: l)) (hm : MapS W' kt g n' f') (hg : W.grownBy W' (some g)) : Sq w W' (rMap kt g n' f' :: l) :=
 h.turn hg (fun k hk => by injection hk with hk; exact hk.symm) hm (rMap_ok _ _ _ _) (fun k hk => by
  have hk : k = g := hk
  subst hk
  exact ⟨.inl rfl, hm.lt⟩)
end Go.Proofs.YtapgnaimbgjcnaaGreatDoor
/-
  A range over a map of the call's own with strings for keys (MapS): which keys have come. No Go text is named here.
-/
namespace Go.Proofs.YtapgnaimbgjcnaaGreatDoor
open Go Go.RowKit
open Go.Maps (Keyed)
def RngS (w : World) (kt : TypeId) (b r n : Nat) (f : ByteArray → Option Value) (seen : List ByteArray) (cnt : Nat) : Prop :=
 ∃ (D : DataW Value) (lf : Lit → Bool), w.ranges Tryz.prog kt tokR b r n D lf cnt ∧ Collected D lf (seen.map (·.data.toList)) ∧
  ∀ s : ByteArray, s.size ≤ maxLen → Maps.has D (kLit s) = (f s).isSome ∧ ∀ z : Value, D.atKey (kLit s) (.held z) = .held ((f s).getD z)
theorem ba_inj {s t : ByteArray} (h : s.data.toList = t.data.toList) : s = t := by
 cases s; cases t
 congr
 exact Array.toList_inj.1 h
theorem mem_bytes {l : List ByteArray} {s : ByteArray} : s.data.toList ∈ l.map (·.data.toList) ↔ s ∈ l := by
 rw [List.mem_map]
 constructor
 · rintro ⟨t, ht, he⟩
   rw [← ba_inj he]; exact ht
 · intro h; exact ⟨s, h, rfl⟩
section
variable {w w' : World} {kt t e : TypeId} {b r n : Nat} {f : ByteArray → Option Value} {seen : List ByteArray} {cnt : Nat}
theorem RngS.map (h : RngS w kt b r n f seen cnt) : MapS w kt b n f := by
 obtain ⟨D, lf, h1, _, h3⟩ := h
 exact ⟨D, h1.owns, h3⟩
theorem RngS.left (h : RngS w kt b r n f seen cnt) : w.rangeLeft b r = cnt := by
 obtain ⟨D, lf, h1, _, _⟩ := h
 exact h1.left_eq
theorem RngS.lt (h : RngS w kt b r n f seen cnt) : b < w.heap.size ∧ r < w.heap.size := by
 obtain ⟨D, lf, h1, _, h3⟩ := h
 exact ⟨h1.owns.lt, h1.lt⟩
theorem RngS.nodup (h : RngS w kt b r n f seen cnt) : seen.Nodup := by
 obtain ⟨D, lf, _, h2, _⟩ := h
 have := h2.1
 unfold List.Nodup at this ⊢
 rw [List.pairwise_map] at this
 exact this.imp (fun hne he => hne (by rw [he]))
theorem RngS.block (h : RngS w kt b r n f seen cnt) (hb : w'.heap[b]? = w.heap[b]?) (hr : w'.heap[r]? = w.heap[r]?) : RngS w' kt b r n f seen cnt := by
 obtain ⟨D, lf, ⟨es, clock, since, sn, c0, e1, e2, e3, e4, e5, e6⟩, h2⟩ := h
 exact ⟨D, lf, ⟨es, clock, since, sn, c0, hb.trans e1, e2, e3, e4, hr.trans e5, e6⟩, h2⟩
theorem MapS.range (h : MapS w kt b n f) (hk : Tryz.prog.underlying kt = some .string) (ht : Tryz.prog.underlying t = some (.map kt e)) :
 ∃ w', (Instr.range t (.map (some b))).run Tryz.prog w = .ok (.pointer (some ⟨w.heap.size, 0, none⟩)) w' ∧ (∃ cnt, RngS w' kt b w.heap.size n f [] cnt) ∧ w.grownBy w' none ∧ w'.heap.size = w.heap.size + 1 := by
 obtain ⟨D, h1, h2⟩ := h
 obtain ⟨w', e1, e2, e3, e4⟩ := h1.range (Maps.string_keyed hk) ht
 exact ⟨w', e1, ⟨_, D, _, e2, Collected.start D, h2⟩, e3, e4⟩
theorem RngS.next (h : RngS w kt b r n f seen cnt) (hk : Tryz.prog.underlying kt = some .string) (ty : TypeId) :
 ((∀ s : ByteArray, s.size ≤ maxLen → ((f s).isSome = true ↔ s ∈ seen)) ∧ (Instr.next (.pointer (some ⟨r, 0, none⟩)) false ty).run Tryz.prog w = .ok (.tuple #[.bool false]) w) ∨
 ∃ s v w' cnt', s ∉ seen ∧ s.size ≤ maxLen ∧ f s = some v ∧ RngS w' kt b r n f (seen ++ [s]) cnt' ∧ cnt' < cnt ∧ w.grownBy w' (some r) ∧ w'.heap.size = w.heap.size ∧
  (Instr.next (.pointer (some ⟨r, 0, none⟩)) false ty).run Tryz.prog w = .ok (.tuple #[.bool true, .string s, v]) w' ∧ (Instr.entry (.pointer (some ⟨r, 0, none⟩))).run Tryz.prog w' = .ok (.tuple #[.string s, v]) w' := by
 obtain ⟨D, lf, h1, h2, h3⟩ := h
 rcases h1.next (Maps.string_keyed hk) ty with ⟨h0, hl, hrun⟩ | ⟨key, v, kl, y, w', cnt', hkey, hlk, hv, hat, hrun, hrg, hlt, hgr, hsz, hen⟩
 · refine .inl ⟨fun s hs => ?_, hrun⟩
   rw [← mem_bytes, h2.2, hl, (show Maps.has D (.string s.data.toList) = (f s).isSome from (h3 s hs).1)]
   simp
 · right
   obtain ⟨x, rfl, rfl, hx⟩ := Maps.keyOf_str hk hkey
   obtain ⟨s, hs⟩ : ∃ s : ByteArray, s.data.toList = x := ⟨⟨x.toArray⟩, by simp⟩
   subst hs
   have hsl : s.size ≤ maxLen := by simpa using hx
   have hsv : Go.Proofs.encStr s.data.toList = .string s := by unfold Go.Proofs.encStr; cases s; simp
   rw [hsv] at hrun hen
   have hnew : s ∉ seen := fun hm => by
    have := ((h2.2 _).1 (mem_bytes.2 hm)).2
    rw [hlk] at this; cases this
   have hhas : Maps.has D (kLit s) = true := Maps.has_true_of_atKey hat
   have hy := tok_inv (z := y.1) (ps := y.2) hv
   have hf : f s = some v := by
    have h4 := (h3 s hsl).1
    rw [hhas] at h4
    obtain ⟨u, hu⟩ := Option.isSome_iff_exists.1 h4.symm
    have h5 := (h3 s hsl).2 v
    rw [hu] at h5
    have h6 := hat (.held v)
    have h7 : D.atKey (kLit s) (.held v) = .held v := h6.trans hy
    rw [h7] at h5
    rw [Option.getD_some] at h5
    rw [hu, DataW.held.inj h5]
   refine ⟨s, v, w', cnt', hnew, hsl, hf, ⟨D, _, hrg, ?_, h3⟩, hlt, hgr, hsz, hrun, hen⟩
   rw [List.map_append]
   exact h2.step hlk hat
end
section
variable {ops : Array Oper} {rest : List Oper} {o : Oper} {a : Act} {Q : Exit → Act → World → Prop}
theorem wpList_range_map (w : World) (hg : o.guard = none) (m : Operand) (t : TypeId) (hop : o.op = Op.range t m) (kt e : TypeId) (hk : Tryz.prog.underlying kt = some .string) (ht : Tryz.prog.underlying t = some (.map kt e)) (b n : Nat) (f : ByteArray → Option Value)
 (hm : a.eval m = .map (some b)) (hown : MapS w kt b n f)
 (hK : ∀ w' cnt, RngS w' kt b w.heap.size n f [] cnt → w.grownBy w' none → w'.heap.size = w.heap.size + 1 → wpList Tryz.prog ops Q rest (a.put o.dst (.pointer (some ⟨w.heap.size, 0, none⟩))) w') :
 wpList Tryz.prog ops Q (o :: rest) a w := by
 refine wpList_plain hg fun K' hK' => ?_
 obtain ⟨w', hrun, ⟨cnt, r1⟩, r2, r3⟩ := hown.range hk ht
 unfold Oper.wp
 simp [execOp, hop, hm, hrun, Result.andThen]
 exact hK' _ _ (hK w' cnt r1 r2 r3)
theorem wpList_next_map (w : World) (hg : o.guard = none) (it : Operand) (hop : o.op = Op.next it false) (kt : TypeId) (hk : Tryz.prog.underlying kt = some .string) (b r n : Nat) (f : ByteArray → Option Value) (seen : List ByteArray) (cnt : Nat)
 (hit : a.eval it = .pointer (some ⟨r, 0, none⟩)) (h : RngS w kt b r n f seen cnt)
 (hDone : (∀ s : ByteArray, s.size ≤ maxLen → ((f s).isSome = true ↔ s ∈ seen)) → wpList Tryz.prog ops Q rest (a.put o.dst (.tuple #[.bool false])) w)
 (hMore : ∀ (s : ByteArray) (v : Value) (w' : World) (cnt' : Nat), s ∉ seen → s.size ≤ maxLen → f s = some v → RngS w' kt b r n f (seen ++ [s]) cnt' → cnt' < cnt → w.grownBy w' (some r) → w'.heap.size = w.heap.size →
  (Instr.entry (.pointer (some ⟨r, 0, none⟩))).run Tryz.prog w' = .ok (.tuple #[.string s, v]) w' → wpList Tryz.prog ops Q rest (a.put o.dst (.tuple #[.bool true, .string s, v])) w') :
 wpList Tryz.prog ops Q (o :: rest) a w := by
 refine wpList_plain hg fun K' hK' => ?_
 unfold Oper.wp
 rcases h.next hk o.type with ⟨h0, hrun⟩ | ⟨s, v, w', cnt', h1, h2, h3, h4, h5, h6, h7, hrun, hen⟩
 · simp [execOp, hop, hit, hrun, Result.andThen]
   exact hK' _ _ (hDone h0)
 · simp [execOp, hop, hit, hrun, Result.andThen]
   exact hK' _ _ (hMore s v w' cnt' h1 h2 h3 h4 h5 h6 h7 hen)
end
def rRng (kt : TypeId) (b r n : Nat) (f : ByteArray → Option Value) (seen : List ByteArray) (cnt : Nat) : Rsc := ⟨fun W => RngS W kt b r n f seen cnt, fun k => k = b ∨ k = r⟩
theorem rRng_ok (kt : TypeId) (b r n : Nat) (f : ByteArray → Option Value) (seen : List ByteArray) (cnt : Nat) : (rRng kt b r n f seen cnt).Ok := fun _ _ h hp => hp.block (h b (.inl rfl)) (h r (.inr rfl))
theorem Sq.rngStart {w W W' : World} {l : List Rsc} {kt : TypeId} {b n : Nat} {f : ByteArray → Option Value} {cnt : Nat} (h : Sq w W (rMap kt b n f :: l)) (hr : RngS W' kt b W.heap.size n f [] cnt) (hg : W.grownBy W' none) : Sq w W' (rRng kt b W.heap.size n f [] cnt :: l) :=
 h.turn hg (fun k hk => by cases hk) hr (rRng_ok _ _ _ _ _ _ _) (fun k hk => by
  rcases hk with hk | hk
  · have hk : k = b := hk
    subst hk
    exact ⟨.inl rfl, hr.lt.1⟩
  · have hk : k = W.heap.size := hk
    subst hk
    exact ⟨.inr (Nat.le_refl _), hr.lt.2⟩)
theorem Sq.rngStep {w W W' : World} {l : List Rsc} {kt : TypeId} {b r n : Nat} {f : ByteArray → Option Value} {seen seen' : List ByteArray} {cnt cnt' : Nat} (h : Sq w W (rRng kt b r n f seen cnt :: l)) (hr : RngS W' kt b r n f seen' cnt') (hg : W.grownBy W' (some r)) : Sq w W' (rRng kt b r n f seen' cnt' :: l) :=
 h.turn hg (fun k hk => by injection hk with hk; exact .inr hk.symm) hr (rRng_ok _ _ _ _ _ _ _) (fun k hk => by
  rcases hk with hk | hk
  · have hk : k = b := hk
    subst hk
    exact ⟨.inl (.inl rfl), hr.lt.1⟩
  · have hk : k = r := hk
    subst hk
    exact ⟨.inl (.inr rfl), hr.lt.2⟩)
end Go.Proofs.YtapgnaimbgjcnaaGreatDoor
/-
  What is wrong with an event, as the reference says it: names that have come. (Printed by gen_ev5.py.)
-/
namespace Go.Proofs.YtapgnaimbgjcnaaGreatDoor
open Go Go.RowKit
def OkN (s k : ByteArray) (b : Bool) : Prop := s = k → b = true
end Go.Proofs.YtapgnaimbgjcnaaGreatDoor
