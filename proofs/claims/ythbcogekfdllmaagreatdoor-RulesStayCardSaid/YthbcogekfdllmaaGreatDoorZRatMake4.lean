/-
  Ranks as the stream makes them, by a contract.
-/
import Derived.Test.YthbcogekfdllmaaGreatDoorZBs
import Derived.Test.YthbcogekfdllmaaGreatDoorZBase
import Derived.Outline
import Derived.RegionTactic
import Derived.ChangeAlike
import Derived.BigRegion
import Derived.Test.YthbcogekfdllmaaGreatDoorZRatPure
import Derived.Deep.RegionLaw
import Derived.Deep.RegionWith
import Derived.Deep.DrawnRows
import Derived.Deep.DeepMust
import Derived.Test.YthbcogekfdllmaaGreatDoorZSlot1
import Derived.Lib.SliceRun
import Derived.Laws.AppendOwnNone
import Derived.Test.YthbcogekfdllmaaGreatDoorZTxt2
import Derived.Test.YthbcogekfdllmaaGreatDoorZSlotPure
import Derived.Deep.DeepCutAuto
import Derived.Deep.RegionHeld3
import Derived.Deep.QuietTactic
import Derived.BigQuiet
namespace Go.Proofs.YthbcogekfdllmaaGreatDoor
open Go Go.RowKit
attribute [local go_sem ↓] Go.wp_at_zero Go.wp_at_succ

theorem news_new (w : World) (cs : Array Value) (t : TypeId) (B : Nat) (hB : w.heap.size = B) : ∀ j u, cs.toList[j]? = some u → (w.alloc (.cells cs t)).cell? ((⟨B, 0, none⟩ : Addr).add j) = some u := by
  subst hB
  exact World.news_of_block (heap_alloc_new w _)

theorem base1 {w : World} {B : Nat} (h : B ≤ w.heap.size) (o : Obj) : B ≤ (w.alloc o).heap.size := by simp; omega
theorem size1 (w : World) (o : Obj) : (w.alloc o).heap.size = w.heap.size + 1 := by simp
end Go.Proofs.YthbcogekfdllmaaGreatDoor
/-
  slices.Clone of strings, marathon.needed and splitref2.people by contracts. (Printed by gen_slot4.py.)
-/
namespace Go.Proofs.YthbcogekfdllmaaGreatDoor
open Go Go.RowKit
attribute [local go_sem ↓] Go.wp_at_zero Go.wp_at_succ

theorem info_str : (Tryz.prog.info? 9).map (fun i => (i.zero, i.size, i.bytes)) = some (some (.string ⟨#[]⟩), 1, 16) := by kernel_rfl
theorem one1 {x : Value} (hx : x.oneCell' = true) : ∀ u ∈ [x], u.oneCell' = true := by
  intro u hu
  simp at hu
  subst hu
  exact hx
end Go.Proofs.YthbcogekfdllmaaGreatDoor
/-
  marathon.timetable and splitref2.PlacesOf by contracts: both answer placesF. (Printed by gen_slot5.py.)
-/
namespace Go.Proofs.YthbcogekfdllmaaGreatDoor
open Go Go.RowKit
attribute [local go_sem ↓] Go.wp_at_zero Go.wp_at_succ

theorem info_plc : (Tryz.prog.info? 71).map (fun i => (i.zero, i.size, i.bytes)) = some (some (.agg #[.string ⟨#[]⟩, .int .i64 0, .int .i64 0, .int .i64 0]), 4, 40) := by kernel_rfl
/-- places in new memory -/
def PlcsS (l : List Plc) (w : World) (e : Ending) (w' : World) : Prop :=
  ∃ v, e = .returned v ∧ w'.ownsRow w.heap.size 71 4 v l.length (l.flatMap plcC) ∧ Below w.heap.size w w'

set_option maxRecDepth 100000 in
set_option maxHeartbeats 1000000 in
theorem timetable_calls (b : Nat) (A : Option Addr) (n c : Nat) (xs : List Slt) (f : Int) (w : World) (hr : Slts w b A n c xs) (hn : n ≤ 1000) (hf : -4398046511104 ≤ f ∧ f ≤ 4398046511104) :
    Calls Tryz.prog 83 #[.slice A n c, .int .i64 f] w (PlcsS (placesF f xs) w) := by
  obtain ⟨hl, hnc, hcm, hcells⟩ := hr.rd.cells sltC_len (by omega)
  obtain ⟨i0, hi, hz0, hz1, hz2⟩ := info_parts info_plc
  unfold maxLen at hcm
  have hsm := hr.sml
  have HBD := Lib.hid (fromAt_bd hsm hf)
  have HSM := Lib.hid hsm
  have HL := Lib.hid hl
  have HC := Lib.hid hcells
  have H0 : Hid (f = fromAt f xs 0) := rfl
  clear hcells hl hr hsm hf
  go_enter Tryz.func83, Tryz.ntmps83
  go_wp2_with fail
  go_loopw [1, 5, 11] (fun f1 v i wr => ∃ k : Nat, k ≤ n ∧ i = .int .i64 k ∧ f1 = .int .i64 (fromAt f xs k) ∧ Os 71 4 w wr v (placesTo f xs k).length ((placesTo f xs k).flatMap plcC) []) (fun _ _ i _ => n - (intOf i).toNat)
  case atStart => exact ⟨0, Nat.zero_le _, rfl, rfl, Os.start (Bs.start w)⟩
  case round =>
    obtain ⟨k, hk, rfl, rfl, hO⟩ := hrel
    have hbr := hO.2.1.1
    by_cases hlt : k < n
    · have hkr : k < xs.length := by rw [HL.out]; exact hlt
      obtain ⟨g, o, hA, _, hcs⟩ := HC.out (by omega)
      subst hA
      have hpl := placesTo_len f xs k (by omega)
      have hbd := HBD.out k (by omega)
      have hst := placesTo_step f xs k hkr
      have hfs := fromAt_step f xs k hkr
      have hxs := HSM.out _ (List.getElem_mem hkr)
      obtain ⟨x, hx⟩ : ∃ x, xs[k] = x := ⟨_, rfl⟩
      have c0 := below_cell hbr (hcs k hkr 0 (by omega))
      have c1 := below_cell hbr (hcs k hkr 1 (by omega))
      have c2 := below_cell hbr (hcs k hkr 2 (by omega))
      have c3 := below_cell hbr (hcs k hkr 3 (by omega))
      have c4 := below_cell hbr (hcs k hkr 4 (by omega))
      rw [hx] at c0 c1 c2 c3 c4 hst hfs hxs
      obtain ⟨s, t, ha, hc, hh, su, lo⟩ := x
      simp only [Nat.add_zero] at c0
      simp only at hxs hfs
      obtain ⟨F, hF⟩ : ∃ F, fromAt f xs k = F := ⟨_, rfl⟩
      rw [hF] at hfs hst hbd ⊢
      obtain ⟨⟨u1, u2⟩, u3', u4'⟩ := hxs
      obtain ⟨d1, d2⟩ := hbd
      have HST := Lib.hid hst
      have HFS := Lib.hid hfs
      have HPL := Lib.hid hpl
      have hlz := hbr.size
      have hO1 := ((hO.add #[.string s, .string t, .slice ha hh.length hc, .int .i64 su, .int .i64 lo] 64).tail).add #[.string s, .int .i64 F, .int .i64 (F + su), .int .i64 (F + su + lo)] 71
      simp only [size1] at hO1
      clear hcs hx hst hfs hF H0 hpl
      go_wp2_with (first
        | (at_builtin; refine wpList_append_own_at _ rfl _ _ 66 rfl w.heap.size 71 i0 (.agg #[.string ⟨#[]⟩, .int .i64 0, .int .i64 0, .int .i64 0]) 4 40 Tryz.underlying66 hi hz0 hz1 hz2 rfl (by decide) _ _ _ rfl (hO1.alloc _).1 ⟨wr.heap.size + 1 + 1, 0, none⟩ 1 1 [.string s, .int .i64 F, .int .i64 (F + su), .int .i64 (F + su + lo)] rfl rfl (World.news_of_block (heap_new3 _ _ _ _)) (by simp [Value.oneCell']) (by rw [HPL.out]; unfold maxLen; omega) (by rw [HPL.out]; omega) (by simp; omega) ?_; intro v' w5 hown' hgrow _ hblk; have hO2 := (hO1.alloc _).append hown' hgrow hblk; clear hown' hgrow hblk; have e3 := hO2.head.cell 3))
      have hO3 : Os 71 4 w w5 v' (placesTo f xs (k + 1)).length ((placesTo f xs (k + 1)).flatMap plcC) [] := by
        rw [HST.out, flat_snoc, List.length_append]
        exact hO2.tail
      have HF1 : Hid (F + su + lo = fromAt f xs (k + 1)) := HFS.out.symm
      clear hO hO1 hO2
      go_wp2
      go_roundw
      case rel => exact ⟨k + 1, by omega, by go_num, by rw [HF1.out], hO3⟩
      case measure => simp [intOf]; omega
    · obtain rfl : k = n := by omega
      have HS : Hid (placesF f xs = placesTo f xs k) := by unfold placesF; rw [HL.out]; exact Lib.hid rfl
      go_wp2_with fail
      go_ret
      exact ⟨_, rfl, by rw [HS.out]; exact hO.1, hbr⟩

end Go.Proofs.YthbcogekfdllmaaGreatDoor
/-
  marathon.end, splitref2.endOf, both Moment, fromFault and FromFault by contracts. (Printed by gen_slot6.py.)
-/
namespace Go.Proofs.YthbcogekfdllmaaGreatDoor
open Go Go.RowKit

set_option maxRecDepth 100000 in
theorem end_calls (b : Nat) (A : Option Addr) (n c : Nat) (l : List Plc) (f : Int) (w : World) (hr : Rd w b 4 (.slice A n c) n (l.flatMap plcC)) :
    Calls Tryz.prog 145 #[.slice A n c, .int .i64 f] w (QRet (.int .i64 (endP f l)) w) := by
  obtain ⟨hl, hnc, hcm, hcells⟩ := hr.cells plcC_len (by omega)
  unfold maxLen at hcm
  by_cases h0 : n = 0
  · subst h0
    have hx : l = [] := List.eq_nil_of_length_eq_zero hl
    subst hx
    clear hcells
    go_enter Tryz.func145, Tryz.ntmps145
    go_wp2_with fail
    go_ret
    exact ⟨rfl, 0, rfl⟩
  · obtain ⟨g, o, hA, _, hcs⟩ := hcells (by omega)
    obtain ⟨q, rfl⟩ : ∃ q, n = q + 1 := ⟨n - 1, by omega⟩
    have hlast := endP_last f l (by omega)
    have hq : l.length - 1 = q := by omega
    simp only [hq] at hlast
    have c3 := hcs q (by omega) 3 (by omega)
    have HE : Hid (endP f l = (l[q]'(by omega)).2.2.2) := hlast
    obtain ⟨z, hz⟩ : ∃ z, l[q]'(by omega) = z := ⟨_, rfl⟩
    rw [hz] at HE c3
    obtain ⟨z0, z1, z2, z3⟩ := z
    replace c3 : w.cell? ⟨g, o + q * 4 + 3, none⟩ = some (.int .i64 z3) := c3
    have hq0 : (0 : Int) ≤ (q : Int) := by omega
    have hnn : ((((q + 1 : Nat) : Int)) == 0) = false := by rw [beq_eq_false_iff_ne]; omega
    have hq1 : (q : Int) < ((q + 1 : Nat) : Int) := by omega
    subst hA
    clear hcs hcells hlast hz hq hl hr
    go_enter Tryz.func145, Tryz.ntmps145
    go_wp2_with fail
    go_ret
    exact ⟨ret_int HE.out.symm, 0, rfl⟩

theorem moment_calls (f : Int) (w : World) : Calls Tryz.prog 110 #[.int .i64 f] w fun e w' => e = .returned (.bool (momB f)) ∧ w = w' := by
  have HM : Hid ((!outB f 0 345686399999) = momB f) := rfl
  go_enter Tryz.func110, Tryz.ntmps110
  go_wp2_with fail
  refine (out_calls _ _ _ _).mono ?_
  rintro e w1 ⟨rfl, rfl⟩
  go_wp2_with fail
  go_ret
  exact ⟨ret_bool HM.out, rfl⟩
set_option maxRecDepth 100000 in
theorem fromFault_calls (b : Nat) (A : Option Addr) (n c : Nat) (xs : List Slt) (f : Int) (w : World) (hr : Slts w b A n c xs) (hn : n ≤ 1000) (hf : -4398046511104 ≤ f ∧ f ≤ 4398046511104) (hb : b < w.heap.size) :
    Calls Tryz.prog 81 #[.slice A n c, .int .i64 f] w (BRet (.int .i64 (fromF f xs)) w) := by
  obtain ⟨M, hM⟩ : ∃ M, momB f = M := ⟨_, rfl⟩
  obtain ⟨E, hE⟩ : ∃ E, endP f (placesF f xs) = E := ⟨_, rfl⟩
  have hF : fromF f xs = if M = true then if 345686400000 < E then 1 else 0 else 1 := by rw [← hM, ← hE]; rfl
  have HM := Lib.hid hM
  have HE := Lib.hid hE
  cases M
  · have HS := Lib.hid (hF.trans (if_neg (by simp)))
    clear hM hE hF
    go_enter Tryz.func81, Tryz.ntmps81
    go_wp2_with fail
    refine (moment_calls f _).mono ?_
    rintro e w1 ⟨rfl, rfl⟩
    rw [HM.out]
    go_wp2_with fail
    go_ret
    exact ⟨ret_int HS.out.symm, Below.refl _ _⟩
  · have hF1 := hF.trans (if_pos rfl)
    by_cases hgt : 345686400000 < E
    · have HS := Lib.hid (hF1.trans (if_pos hgt))
      clear hM hE hF hF1
      go_enter Tryz.func81, Tryz.ntmps81
      go_wp2_with fail
      refine (moment_calls f _).mono ?_
      rintro e w1 ⟨rfl, rfl⟩
      rw [HM.out]
      go_wp2_with fail
      refine (timetable_calls b A n c xs f _ hr hn hf).mono ?_
      rintro e w1 ⟨v, rfl, hown, hb1⟩
      obtain ⟨A2, c2, hv⟩ := own_form hown
      subst hv
      go_wp2_with fail
      refine (end_calls b A2 _ c2 (placesF f xs) f _ (Rd.own hown hb)).mono ?_
      rintro e w2 ⟨rfl, nq, rfl⟩
      rw [HE.out]
      go_wp2_with fail
      go_ret
      exact ⟨ret_int HS.out.symm, below_drewN hb1 _⟩
    · have HS := Lib.hid (hF1.trans (if_neg hgt))
      clear hM hE hF hF1
      go_enter Tryz.func81, Tryz.ntmps81
      go_wp2_with fail
      refine (moment_calls f _).mono ?_
      rintro e w1 ⟨rfl, rfl⟩
      rw [HM.out]
      go_wp2_with fail
      refine (timetable_calls b A n c xs f _ hr hn hf).mono ?_
      rintro e w1 ⟨v, rfl, hown, hb1⟩
      obtain ⟨A2, c2, hv⟩ := own_form hown
      subst hv
      go_wp2_with fail
      refine (end_calls b A2 _ c2 (placesF f xs) f _ (Rd.own hown hb)).mono ?_
      rintro e w2 ⟨rfl, nq, rfl⟩
      rw [HE.out]
      go_wp2_with fail
      go_ret
      exact ⟨ret_int HS.out.symm, below_drewN hb1 _⟩

end Go.Proofs.YthbcogekfdllmaaGreatDoor
/-
  A press's line: timer.Read's closure by its contract.
-/
namespace Go.Proofs.YthbcogekfdllmaaGreatDoor
open Go Go.RowKit TxtP

theorem ba_eta (s : ByteArray) : (⟨s.data.toList.toArray⟩ : ByteArray) = s := by cases s; simp
end Go.Proofs.YthbcogekfdllmaaGreatDoor
/-
  Several numbers that are read: base.Numbers and splitref2.NumbersIn by contracts.
-/
namespace Go.Proofs.YthbcogekfdllmaaGreatDoor
open Go Go.RowKit TxtP

theorem info_intN : (Tryz.prog.info? 3).map (fun i => (i.zero, i.size, i.bytes)) = some (some (.int .i64 0), 1, 8) := by kernel_rfl
def nmsB (ss : List ByteArray) (most : Nat) : Bool := ss.all (fun s => numB s.data.toList most)
def nmsL (ss : List ByteArray) : List Int := ss.map (fun s => numI s.data.toList)
theorem nmsB_snoc {ss : List ByteArray} {most k : Nat} (hk : k < ss.length) : nmsB (ss.take (k + 1)) most = (nmsB (ss.take k) most && numB ss[k].data.toList most) := by
  unfold nmsB
  rw [List.take_succ_eq_append_getElem hk, List.all_append]
  simp
theorem nmsB_at {ss : List ByteArray} {most k : Nat} (hk : k < ss.length) (h : numB ss[k].data.toList most = false) : nmsB ss most = false := by
  unfold nmsB
  rw [List.all_eq_false]
  exact ⟨ss[k], List.getElem_mem hk, by rw [h]; decide⟩
def NmR (ss : List ByteArray) (most : Nat) (w : World) (e : Ending) (w' : World) : Prop :=
  Below w.heap.size w w' ∧ (nmsB ss most = true → ∃ A c, e = .returned (.tuple #[.slice A ss.length c, .bool true]) ∧ w'.ownsRow w.heap.size 3 1 (.slice A ss.length c) ss.length ((nmsL ss).map (Value.int .i64))) ∧
    (nmsB ss most = false → e = .returned (.tuple #[.slice none 0 0, .bool false]))
theorem numR_form2 (a : ByteArray) (most : Nat) (hm : most ≤ 17) : ∃ (z : Int) (B : Bool), -1000000000000000000 < z ∧ z < 1000000000000000000 ∧ numR a.data.toList most = .tuple #[.int .i64 z, .bool B] ∧ B = numB a.data.toList most ∧ (B = true → z = numI a.data.toList) := by
  cases hb : numB a.data.toList most
  · exact ⟨0, false, by decide, by decide, numR_no hb, rfl, fun h => by cases h⟩
  · have h1 := (numB_iff.1 hb)
    have h2 := body_len a.data.toList
    have h3 := numI_bound (l := a.data.toList) (by omega)
    exact ⟨_, true, h3.1, h3.2, numR_yes hb, rfl, fun _ => rfl⟩
set_option maxRecDepth 100000 in
set_option maxHeartbeats 1000000 in
theorem numbersP_calls (b : Nat) (A : Option Addr) (n c most : Nat) (ss : List ByteArray) (w : World) (hr : Rd w b 1 (.slice A n c) n (strsV ss)) (hm : most ≤ 17) (hn : n ≤ 100000) (hz : ∀ s ∈ ss, s.size ≤ 1000000) :
    Calls Tryz.prog 158 #[.slice A n c, .int .i64 most] w (NmR ss most w) := by
  obtain ⟨hl, hnc, hcm, hcells⟩ := strs_cells hr
  unfold maxLen at hcm
  obtain ⟨j0, hj, hy0, hy1, hy2⟩ := info_parts info_intN
  have HL := Lib.hid hl
  have HCS := Lib.hid hcells
  have HZ := Lib.hid hz
  have HRN : Hid (nmsB ss most = false → ∀ w', Below w.heap.size w w' → NmR ss most w (.returned (.tuple #[.slice none 0 0, .bool false])) w') := by
    refine Lib.hid (fun h0 w' hb => ⟨hb, fun h => ?_, fun _ => rfl⟩)
    rw [h0] at h; cases h
  have HRY : Hid (nmsB ss most = true → ∀ A c w', Below w.heap.size w w' → w'.ownsRow w.heap.size 3 1 (.slice A n c) n ((nmsL ss).map (Value.int .i64)) → NmR ss most w (.returned (.tuple #[.slice A n c, .bool true])) w') := by
    subst hl
    refine Lib.hid (fun h0 A c w' hb ho => ⟨hb, fun _ => ⟨A, c, rfl, ho⟩, fun h => ?_⟩)
    rw [h0] at h; cases h
  have hS0 := (Sq.start w).nil w.heap.size 3 1
  clear hr hl hcells hz
  go_enter Tryz.func158, Tryz.ntmps158
  go_wp2_with fail
  go_loopw [6, 13] (fun v i wr => ∃ (k : Nat) (A1 : Option Addr) (c1 : Nat), k ≤ n ∧ i = .int .i64 k ∧ v = .slice A1 k c1 ∧ Hid (nmsB (ss.take k) most = true) ∧ Sq w wr [rOwn w.heap.size 3 1 (.slice A1 k c1) k ((nmsL (ss.take k)).map (Value.int .i64))]) (fun _ i _ => n - (intOf i).toNat)
  case atStart => exact ⟨0, none, 0, Nat.zero_le _, rfl, rfl, Lib.hid rfl, hS0⟩
  case round =>
    clear hS0
    obtain ⟨k, A1, c1, hk, rfl, rfl, HB, hS⟩ := hrel
    by_cases hlt : k < n
    · have hkz : k < ss.length := by rw [HL.out]; exact hlt
      obtain ⟨g, o, hA, _, hcs⟩ := HCS.out (by omega)
      subst hA
      have c0 := below_cell hS.below (hcs k hkz)
      have hzk := HZ.out _ (List.getElem_mem hkz)
      have HI : Hid (nmsL (ss.take (k + 1)) = nmsL (ss.take k) ++ [numI ss[k].data.toList]) := by
        refine Lib.hid ?_
        rw [List.take_succ_eq_append_getElem hkz]
        unfold nmsL
        rw [List.map_append]
        rfl
      have HB1 : Hid (nmsB (ss.take (k + 1)) most = (nmsB (ss.take k) most && numB ss[k].data.toList most)) := Lib.hid (nmsB_snoc hkz)
      have HB0 : Hid (numB ss[k].data.toList most = false → nmsB ss most = false) := Lib.hid (nmsB_at hkz)
      obtain ⟨x, hx⟩ : ∃ z, z = ss[k] := ⟨_, rfl⟩
      rw [← hx] at c0 hzk HI HB0 HB1
      have HNU := Lib.hid (fun V => number_calls x most hm V (by unfold maxLen; omega))
      obtain ⟨z, B, zb0, zb1, hzR, hzB, hzV⟩ := numR_form2 x most hm
      rw [hzR] at HNU
      rw [← hzB] at HB0 HB1
      have HZV := Lib.hid hzV
      clear hcs hx hzR hzB hzV
      cases B
      · have HR := Lib.hid (HRN.out (HB0.out rfl))
        go_wp2_with (first | (go_at_call 207; refine (HNU.out _).mono ?_; rintro e w2 ⟨rfl, hb2⟩))
        go_ret2
        exact HR.out _ (below_call hS.below hb2 (Nat.le_refl _))
      · have hzv := HZV.out rfl
        rw [← hzv] at HI
        clear hzv
        have HB2 : Hid (nmsB (ss.take (k + 1)) most = true) := Lib.hid (by rw [HB1.out, HB.out]; rfl)
        go_wp2_with (first
          | (go_at_call 207; refine (HNU.out _).mono ?_; rintro e w2 ⟨rfl, hb2⟩; have hS2 := hS.callB hb2; have HO := hS2.head; have hz2 := hS2.size)
          | (at_builtin; refine wpList_append_own_at _ rfl _ _ 22 rfl w.heap.size 3 j0 (.int .i64 0) 1 8 Tryz.underlying22 hj hy0 hy1 hy2 rfl (by decide) _ _ _ rfl (HO.alloc _) ⟨w2.heap.size, 0, none⟩ 1 1 [.int .i64 z] rfl rfl (World.news_of_block (heap_alloc_new _ _)) (one1 rfl) (by unfold maxLen; omega) (by omega) (by simp; omega) ?_; intro v' w8 hown' hgrow _ hblk; have hS8 := (hS2.alloc _).append hown' hgrow hblk; obtain ⟨A8, c8, hv8⟩ := own_form hown'; subst hv8; clear hown' hgrow hblk HO))
        have hS9 : Sq w w8 [rOwn w.heap.size 3 1 (.slice A8 (k + 1) c8) (k + 1) ((nmsL (ss.take (k + 1))).map (Value.int .i64))] := by
          rw [HI.out, List.map_append]
          exact hS8
        go_roundw
        case rel => exact ⟨k + 1, A8, c8, by omega, by go_num, rfl, HB2, hS9⟩
        case measure => simp [intOf]; omega
    · obtain rfl : k = n := by omega
      have hb := HB.out
      have ho : wr.ownsRow w.heap.size 3 1 (.slice A1 k c1) k ((nmsL (ss.take k)).map (Value.int .i64)) := hS.head
      rw [List.take_of_length_le (by rw [HL.out]; exact Nat.le_refl _)] at ho hb
      have HR := Lib.hid (HRY.out hb A1 c1 wr hS.below ho)
      clear ho hb
      go_wp2_with fail
      go_ret2
      exact HR.out
end Go.Proofs.YthbcogekfdllmaaGreatDoor
