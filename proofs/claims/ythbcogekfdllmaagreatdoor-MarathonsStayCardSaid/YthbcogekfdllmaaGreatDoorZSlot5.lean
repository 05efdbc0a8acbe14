/-
  marathon.timetable and splitref2.PlacesOf by contracts: both answer placesF. (Printed by gen_slot5.py.)
-/
import Derived.Test.YthbcogekfdllmaaGreatDoorZSlot3
import Derived.Test.YthbcogekfdllmaaGreatDoorZBs
import Derived.Test.YthbcogekfdllmaaGreatDoorZMap
import Derived.Deep.MidRow
import Derived.Deep.RegionHeld3
import Derived.Test.YthbcogekfdllmaaGreatDoorZFlat
import Derived.Deep.DeepCutAuto
import Derived.Deep.CutBlock
namespace Go.Proofs.YthbcogekfdllmaaGreatDoor
open Go Go.RowKit
attribute [local go_sem ↓] Go.wp_at_zero Go.wp_at_succ

theorem info_plc : (Tryz.prog.info? 71).map (fun i => (i.zero, i.size, i.bytes)) = some (some (.agg #[.string ⟨#[]⟩, .int .i64 0, .int .i64 0, .int .i64 0]), 4, 40) := by kernel_rfl
theorem one4 {x y z u : Value} (hx : x.oneCell' = true) (hy : y.oneCell' = true) (hz : z.oneCell' = true) (hu : u.oneCell' = true) : ∀ v ∈ [x, y, z, u], v.oneCell' = true := by
  intro v hv
  simp at hv
  rcases hv with rfl | rfl | rfl | rfl <;> assumption
theorem own_at {v : Value} {g n c H : Nat} (h : v.ownBlock = some g ∨ g = H) : (Value.slice (some ⟨g, 0, none⟩) n c).ownBlock = v.ownBlock ∨ (Value.slice (some ⟨g, 0, none⟩) n c).ownBlock = some H := by
  rcases h with h | rfl
  · exact .inl h.symm
  · exact .inr rfl
/-- places in new memory -/
def PlcsS (l : List Plc) (w : World) (e : Ending) (w' : World) : Prop :=
  ∃ v, e = .returned v ∧ w'.ownsRow w.heap.size 71 4 v l.length (l.flatMap plcC) ∧ Below w.heap.size w w'

set_option maxRecDepth 100000 in
set_option maxHeartbeats 1000000 in
theorem timetable_calls (b : Nat) (A : Option Addr) (n c : Nat) (xs : List Slt) (f : Int) (w : World) (hr : Slts w b A n c xs) (hn : n ≤ 1000) (hf : -4398046511104 ≤ f ∧ f ≤ 4398046511104) :
    Calls Tryz.prog 83 #[.slice A n c, .int .i64 f] w (PlcsS (placesF f xs) w) := by
  obtain ⟨hl, hnc, hcm, hcells⟩ := hr.rd.cells sltC_len (by omega)
  obtain ⟨i0, hi, hz0, hz1, hz2⟩ := info_parts info_plc
  unfold maxLen at hcm
  have hsm := hr.sml
  have HBD := Lib.hid (fromAt_bd hsm hf)
  have HSM := Lib.hid hsm
  have HL := Lib.hid hl
  have HC := Lib.hid hcells
  have H0 : Hid (f = fromAt f xs 0) := rfl
  clear hcells hl hr hsm hf
  go_enter Tryz.func83, Tryz.ntmps83
  go_wp2_with fail
  go_loopw [1, 5, 11] (fun f1 v i wr => ∃ k : Nat, k ≤ n ∧ i = .int .i64 k ∧ f1 = .int .i64 (fromAt f xs k) ∧ Os 71 4 w wr v (placesTo f xs k).length ((placesTo f xs k).flatMap plcC) []) (fun _ _ i _ => n - (intOf i).toNat)
  case atStart => exact ⟨0, Nat.zero_le _, rfl, rfl, Os.start (Bs.start w)⟩
  case round =>
    obtain ⟨k, hk, rfl, rfl, hO⟩ := hrel
    have hbr := hO.2.1.1
    by_cases hlt : k < n
    · have hkr : k < xs.length := by rw [HL.out]; exact hlt
      obtain ⟨g, o, hA, _, hcs⟩ := HC.out (by omega)
      subst hA
      have hpl := placesTo_len f xs k (by omega)
      have hbd := HBD.out k (by omega)
      have hst := placesTo_step f xs k hkr
      have hfs := fromAt_step f xs k hkr
      have hxs := HSM.out _ (List.getElem_mem hkr)
      obtain ⟨x, hx⟩ : ∃ x, xs[k] = x := ⟨_, rfl⟩
      have c0 := below_cell hbr (hcs k hkr 0 (by omega))
      have c1 := below_cell hbr (hcs k hkr 1 (by omega))
      have c2 := below_cell hbr (hcs k hkr 2 (by omega))
      have c3 := below_cell hbr (hcs k hkr 3 (by omega))
      have c4 := below_cell hbr (hcs k hkr 4 (by omega))
      rw [hx] at c0 c1 c2 c3 c4 hst hfs hxs
      obtain ⟨s, t, ha, hc, hh, su, lo⟩ := x
      simp only [Nat.add_zero] at c0
      simp only at hxs hfs
      obtain ⟨F, hF⟩ : ∃ F, fromAt f xs k = F := ⟨_, rfl⟩
      rw [hF] at hfs hst hbd ⊢
      obtain ⟨⟨u1, u2⟩, u3', u4'⟩ := hxs
      obtain ⟨d1, d2⟩ := hbd
      have HST := Lib.hid hst
      have HFS := Lib.hid hfs
      have HPL := Lib.hid hpl
      have hlz := hbr.size
      have hO1 := ((hO.add #[.string s, .string t, .slice ha hh.length hc, .int .i64 su, .int .i64 lo] 64).tail).add #[.string s, .int .i64 F, .int .i64 (F + su), .int .i64 (F + su + lo)] 71
      simp only [size1] at hO1
      clear hcs hx hst hfs hF H0 hpl
      go_wp2_with (first
        | (at_builtin; refine wpList_append_own_at _ rfl _ _ 66 rfl w.heap.size 71 i0 (.agg #[.string ⟨#[]⟩, .int .i64 0, .int .i64 0, .int .i64 0]) 4 40 Tryz.underlying66 hi hz0 hz1 hz2 rfl (by decide) _ _ _ rfl (hO1.alloc _).1 ⟨wr.heap.size + 1 + 1, 0, none⟩ 1 1 [.string s, .int .i64 F, .int .i64 (F + su), .int .i64 (F + su + lo)] rfl rfl (World.news_of_block (heap_new3 _ _ _ _)) (by simp [Value.oneCell']) (by rw [HPL.out]; unfold maxLen; omega) (by rw [HPL.out]; omega) (by simp; omega) ?_; intro v' w5 hown' hgrow _ hblk; have hO2 := (hO1.alloc _).append hown' hgrow hblk; clear hown' hgrow hblk; have e3 := hO2.head.cell 3))
      have hO3 : Os 71 4 w w5 v' (placesTo f xs (k + 1)).length ((placesTo f xs (k + 1)).flatMap plcC) [] := by
        rw [HST.out, flat_snoc, List.length_append]
        exact hO2.tail
      have HF1 : Hid (F + su + lo = fromAt f xs (k + 1)) := HFS.out.symm
      clear hO hO1 hO2
      go_wp2
      go_roundw
      case rel => exact ⟨k + 1, by omega, by go_num, by rw [HF1.out], hO3⟩
      case measure => simp [intOf]; omega
    · obtain rfl : k = n := by omega
      have HS : Hid (placesF f xs = placesTo f xs k) := by unfold placesF; rw [HL.out]; exact Lib.hid rfl
      go_wp2_with fail
      go_ret
      exact ⟨_, rfl, by rw [HS.out]; exact hO.1, hbr⟩

end Go.Proofs.YthbcogekfdllmaaGreatDoor
/-
  marathon.end, splitref2.endOf, both Moment, fromFault and FromFault by contracts. (Printed by gen_slot6.py.)
-/
namespace Go.Proofs.YthbcogekfdllmaaGreatDoor
open Go Go.RowKit

set_option maxRecDepth 100000 in
theorem end_calls (b : Nat) (A : Option Addr) (n c : Nat) (l : List Plc) (f : Int) (w : World) (hr : Rd w b 4 (.slice A n c) n (l.flatMap plcC)) :
    Calls Tryz.prog 145 #[.slice A n c, .int .i64 f] w (QRet (.int .i64 (endP f l)) w) := by
  obtain ⟨hl, hnc, hcm, hcells⟩ := hr.cells plcC_len (by omega)
  unfold maxLen at hcm
  by_cases h0 : n = 0
  · subst h0
    have hx : l = [] := List.eq_nil_of_length_eq_zero hl
    subst hx
    clear hcells
    go_enter Tryz.func145, Tryz.ntmps145
    go_wp2_with fail
    go_ret
    exact ⟨rfl, 0, rfl⟩
  · obtain ⟨g, o, hA, _, hcs⟩ := hcells (by omega)
    obtain ⟨q, rfl⟩ : ∃ q, n = q + 1 := ⟨n - 1, by omega⟩
    have hlast := endP_last f l (by omega)
    have hq : l.length - 1 = q := by omega
    simp only [hq] at hlast
    have c3 := hcs q (by omega) 3 (by omega)
    have HE : Hid (endP f l = (l[q]'(by omega)).2.2.2) := hlast
    obtain ⟨z, hz⟩ : ∃ z, l[q]'(by omega) = z := ⟨_, rfl⟩
    rw [hz] at HE c3
    obtain ⟨z0, z1, z2, z3⟩ := z
    replace c3 : w.cell? ⟨g, o + q * 4 + 3, none⟩ = some (.int .i64 z3) := c3
    have hq0 : (0 : Int) ≤ (q : Int) := by omega
    have hnn : ((((q + 1 : Nat) : Int)) == 0) = false := by rw [beq_eq_false_iff_ne]; omega
    have hq1 : (q : Int) < ((q + 1 : Nat) : Int) := by omega
    subst hA
    clear hcs hcells hlast hz hq hl hr
    go_enter Tryz.func145, Tryz.ntmps145
    go_wp2_with fail
    go_ret
    exact ⟨ret_int HE.out.symm, 0, rfl⟩

theorem moment_calls (f : Int) (w : World) : Calls Tryz.prog 110 #[.int .i64 f] w fun e w' => e = .returned (.bool (momB f)) ∧ w = w' := by
  have HM : Hid ((!outB f 0 345686399999) = momB f) := rfl
  go_enter Tryz.func110, Tryz.ntmps110
  go_wp2_with fail
  refine (out_calls _ _ _ _).mono ?_
  rintro e w1 ⟨rfl, rfl⟩
  go_wp2_with fail
  go_ret
  exact ⟨ret_bool HM.out, rfl⟩
set_option maxRecDepth 100000 in
theorem fromFault_calls (b : Nat) (A : Option Addr) (n c : Nat) (xs : List Slt) (f : Int) (w : World) (hr : Slts w b A n c xs) (hn : n ≤ 1000) (hf : -4398046511104 ≤ f ∧ f ≤ 4398046511104) (hb : b < w.heap.size) :
    Calls Tryz.prog 81 #[.slice A n c, .int .i64 f] w (BRet (.int .i64 (fromF f xs)) w) := by
  obtain ⟨M, hM⟩ : ∃ M, momB f = M := ⟨_, rfl⟩
  obtain ⟨E, hE⟩ : ∃ E, endP f (placesF f xs) = E := ⟨_, rfl⟩
  have hF : fromF f xs = if M = true then if 345686400000 < E then 1 else 0 else 1 := by rw [← hM, ← hE]; rfl
  have HM := Lib.hid hM
  have HE := Lib.hid hE
  cases M
  · have HS := Lib.hid (hF.trans (if_neg (by simp)))
    clear hM hE hF
    go_enter Tryz.func81, Tryz.ntmps81
    go_wp2_with fail
    refine (moment_calls f _).mono ?_
    rintro e w1 ⟨rfl, rfl⟩
    rw [HM.out]
    go_wp2_with fail
    go_ret
    exact ⟨ret_int HS.out.symm, Below.refl _ _⟩
  · have hF1 := hF.trans (if_pos rfl)
    by_cases hgt : 345686400000 < E
    · have HS := Lib.hid (hF1.trans (if_pos hgt))
      clear hM hE hF hF1
      go_enter Tryz.func81, Tryz.ntmps81
      go_wp2_with fail
      refine (moment_calls f _).mono ?_
      rintro e w1 ⟨rfl, rfl⟩
      rw [HM.out]
      go_wp2_with fail
      refine (timetable_calls b A n c xs f _ hr hn hf).mono ?_
      rintro e w1 ⟨v, rfl, hown, hb1⟩
      obtain ⟨A2, c2, hv⟩ := own_form hown
      subst hv
      go_wp2_with fail
      refine (end_calls b A2 _ c2 (placesF f xs) f _ (Rd.own hown hb)).mono ?_
      rintro e w2 ⟨rfl, nq, rfl⟩
      rw [HE.out]
      go_wp2_with fail
      go_ret
      exact ⟨ret_int HS.out.symm, below_drewN hb1 _⟩
    · have HS := Lib.hid (hF1.trans (if_neg hgt))
      clear hM hE hF hF1
      go_enter Tryz.func81, Tryz.ntmps81
      go_wp2_with fail
      refine (moment_calls f _).mono ?_
      rintro e w1 ⟨rfl, rfl⟩
      rw [HM.out]
      go_wp2_with fail
      refine (timetable_calls b A n c xs f _ hr hn hf).mono ?_
      rintro e w1 ⟨v, rfl, hown, hb1⟩
      obtain ⟨A2, c2, hv⟩ := own_form hown
      subst hv
      go_wp2_with fail
      refine (end_calls b A2 _ c2 (placesF f xs) f _ (Rd.own hown hb)).mono ?_
      rintro e w2 ⟨rfl, nq, rfl⟩
      rw [HE.out]
      go_wp2_with fail
      go_ret
      exact ⟨ret_int HS.out.symm, below_drewN hb1 _⟩

end Go.Proofs.YthbcogekfdllmaaGreatDoor
/-
  marathon.follow and CheckLive by contracts. (Printed by gen_live2.py.)
-/
namespace Go.Proofs.YthbcogekfdllmaaGreatDoor
open Go Go.RowKit
attribute [local go_sem ↓] Go.wp_at_zero Go.wp_at_succ

/-- something live within its bounds -/
def LvOk (y : Lv) : Prop := (-2199023255552 ≤ y.1 ∧ y.1 ≤ 2199023255552) ∧ (-2199023255552 ≤ y.2.1 ∧ y.2.1 ≤ 2199023255552) ∧ y.2.2.size ≤ 1000
theorem step_len (S : ShowP) (y : Lv) : ((stepP S y).getD S).order.length ≤ S.order.length + 1 := by
  unfold stepP
  split
  · split <;> simp
  · split
    · split <;> simp
    · split <;> simp
theorem state_len : ∀ p : List Lv, ∀ S : ShowP, (p.foldl (fun S y => (stepP S y).getD S) S).order.length ≤ S.order.length + p.length
  | [], S => by simp
  | y :: p, S => by
    have := state_len p ((stepP S y).getD S)
    have := step_len S y
    simp only [List.foldl_cons, List.length_cons]
    omega
theorem stateP_len (p : List Lv) : (stateP p).order.length ≤ p.length := by
  have := state_len p show0
  simpa [show0, stateP] using this
theorem upTo_step (ys : List Lv) (u : Int) (k : Nat) (hk : k < ys.length) : upTo (ys.take (k + 1)) u = if ys[k].1 ≤ u then upTo (ys.take k) u ++ [ys[k]] else upTo (ys.take k) u := by
  unfold upTo
  rw [List.take_succ_eq_append_getElem hk, List.filter_append]
  by_cases h : ys[k].1 ≤ u
  · simp [h]
  · simp [h]
theorem upTo_le (ys : List Lv) (u : Int) (k : Nat) : (upTo (ys.take k) u).length ≤ k := by
  unfold upTo
  have := List.length_filter_le (fun y : Lv => decide (y.1 ≤ u)) (ys.take k)
  simp at this ⊢
  omega
/-- a show in new memory -/
def ShowS (S : ShowP) (w : World) (e : Ending) (w' : World) : Prop :=
  ∃ gs gm N A c, e = .returned (.pointer (some ⟨gs, 0, none⟩)) ∧ N ≤ 1000 ∧ Sq w w' (shL w.heap.size gs gm N A c S [])

set_option maxRecDepth 100000 in
set_option maxHeartbeats 2000000 in
theorem follow_calls (b : Nat) (A : Option Addr) (n c : Nat) (ys : List Lv) (u : Int) (w : World) (hr : Rd w b 3 (.slice A n c) n (ys.flatMap lvC)) (hys : ∀ y ∈ ys, LvOk y) (hkd : ∀ y ∈ ys, y.2.1 = 1 ∨ y.2.1 = 2 ∨ y.2.1 = 3) (hn : n ≤ 900) :
    Calls Tryz.prog 82 #[.slice A n c, .int .i64 u] w (ShowS (stateP (upTo ys u)) w) := by
  obtain ⟨hl, hnc, hcm, hcells⟩ := hr.cells lvC_len (by omega)
  unfold maxLen at hcm
  have HL := Lib.hid hl
  have HC := Lib.hid hcells
  have HY := Lib.hid hys
  have HK := Lib.hid hkd
  have hmm := @run_makeMap Tryz.prog
  have hS0 : Sq w ((w.alloc (.map #[] 0)).alloc (.cells #[.map (some w.heap.size), .slice none 0 0, .bool false] 162)) (shL w.heap.size (w.heap.size + 1) w.heap.size 0 none 0 show0 []) := by
    have h := (((((Sq.start w).addMap 9)).add #[.map (some w.heap.size), .slice none 0 0, .bool false] 162).nil w.heap.size 9 1)
    simp only [size1] at h
    refine ((h.front 2 rfl rfl).front 2 rfl rfl |> fun h2 => ?_)
    have h3 := (h2.front 1 rfl rfl)
    refine Sq.front (i := 1) (l := rStg w.heap.size 0 show0.st :: rBlk (w.heap.size + 1) 162 #[.map (some w.heap.size), .slice none 0 0, .bool false] :: rOwn w.heap.size 9 1 (.slice none 0 0) 0 [] :: []) ?_ rfl rfl
    exact ⟨h3.below, h3.hp.tail.cons ⟨_, h3.head, fun _ => rfl⟩ (rStg_ok _ _ _) (fun k hk => h3.hp.new _ (List.mem_cons_self ..) k hk) (fun s hs k hk hk2 => (List.pairwise_cons.1 h3.hp.apart).1 s hs k hk hk2)⟩
  clear hcells hl hr hys hkd
  go_enter Tryz.func82, Tryz.ntmps82
  go_wp2_with fail
  clear hmm
  go_loopw [13] (fun i wr => ∃ (k : Nat) (A' : Option Addr) (c' : Nat), k ≤ n ∧ i = .int .i64 k ∧ Sq w wr (shL w.heap.size (w.heap.size + 1) w.heap.size k A' c' (stateP (upTo (ys.take k) u)) [])) (fun i _ => n - (intOf i).toNat)
  case atStart => exact ⟨0, none, 0, Nat.zero_le _, rfl, hS0⟩
  case round =>
    clear hS0
    obtain ⟨k, A', c', hk, rfl, hS⟩ := hrel
    by_cases hlt : k < n
    · have hkr : k < ys.length := by rw [HL.out]; exact hlt
      obtain ⟨g, o, hA, _, hcs⟩ := HC.out (by omega)
      subst hA
      obtain ⟨y, hy⟩ : ∃ y, ys[k] = y := ⟨_, rfl⟩
      have c0 := below_cell hS.below (hcs k hkr 0 (by omega))
      have c1 := below_cell hS.below (hcs k hkr 1 (by omega))
      have c2 := below_cell hS.below (hcs k hkr 2 (by omega))
      have hok := HY.out _ (List.getElem_mem hkr)
      have hkd := HK.out _ (List.getElem_mem hkr)
      have hst := upTo_step ys u k hkr
      rw [hy] at c0 c1 c2 hok hkd hst
      obtain ⟨at_, kd, key⟩ := y
      replace c0 : wr.cell? ⟨g, o + k * 3, none⟩ = some (.int .i64 at_) := c0
      replace c1 : wr.cell? ⟨g, o + k * 3 + 1, none⟩ = some (.int .i64 kd) := c1
      replace c2 : wr.cell? ⟨g, o + k * 3 + 2, none⟩ = some (.string key) := c2
      have hln : (stateP (upTo (ys.take k) u)).order.length ≤ k := Nat.le_trans (stateP_len _) (upTo_le ys u k)
      have HB := Lib.hid (hS.size)
      have hSa := hS.alloc (.cells #[.int .i64 at_, .int .i64 kd, .string key] 84)
      by_cases hle : at_ ≤ u
      · have HST : Hid (stateP (upTo (ys.take (k + 1)) u) = (stepP (stateP (upTo (ys.take k) u)) (at_, kd, key)).getD (stateP (upTo (ys.take k) u))) := by
          rw [hst, if_pos hle, stateP_snoc]; exact Lib.hid rfl
        have HCALL := Lib.hid (step_calls w w.heap.size (w.heap.size + 1) w.heap.size k A' c' (stateP (upTo (ys.take k) u)) [] at_ kd key _ hSa hkd (by omega) (by omega) hok.2.2 (by have := HB.out; simp; omega))
        clear hcs hy hok hkd hst hS hSa
        go_wp2_with fail
        refine HCALL.out.mono ?_
        rintro e w2 ⟨A2, c2', rfl, hS2⟩
        rw [← HST.out] at hS2
        clear HCALL
        go_wp2_with fail
        go_roundw
        case rel => exact ⟨k + 1, A2, c2', by omega, by go_num, hS2⟩
        case measure => simp [intOf]; omega
      · have HST : Hid (upTo (ys.take (k + 1)) u = upTo (ys.take k) u) := hst.trans (if_neg hle)
        clear hcs hy hok hkd hst hS
        go_wp2_with fail
        go_roundw
        case rel => exact ⟨k + 1, A', c', by omega, by go_num, by rw [HST.out]; exact (hSa.front 1 rfl rfl |>.stgMore (Nat.le_succ _)).front 1 rfl rfl⟩
        case measure => simp [intOf]; omega
    · obtain rfl : k = n := by omega
      have HS : Hid (ys.take k = ys) := List.take_of_length_le (by rw [HL.out]; exact Nat.le_refl _)
      rw [HS.out] at hS
      go_wp2_with fail
      go_ret
      exact ⟨_, _, _, _, _, rfl, by omega, hS⟩
end Go.Proofs.YthbcogekfdllmaaGreatDoor
/-
  slices.Clone, IndexFunc and DeleteFunc of what is live. (Printed from XSlot4's text by hand.)
-/
namespace Go.Proofs.YthbcogekfdllmaaGreatDoor
open Go Go.RowKit
attribute [local go_sem ↓] Go.wp_at_zero Go.wp_at_succ

theorem info_lv : (Tryz.prog.info? 84).map (fun i => (i.zero, i.size, i.bytes)) = some (some (.agg #[.int .i64 0, .int .i64 0, .string ⟨#[]⟩]), 3, 32) := by kernel_rfl
end Go.Proofs.YthbcogekfdllmaaGreatDoor
/-
  Lives of the stream by a contract.
-/
namespace Go.Proofs.YthbcogekfdllmaaGreatDoor
open Go Go.RowKit
attribute [local go_sem ↓] Go.wp_at_zero Go.wp_at_succ

theorem one3' {x y z : Value} (hx : x.oneCell' = true) (hy : y.oneCell' = true) (hz : z.oneCell' = true) : ∀ u ∈ [x, y, z], u.oneCell' = true := by
  intro u hu
  simp at hu
  rcases hu with rfl | rfl | rfl <;> assumption
def LvOks (ys : List Lv) : Prop := ∀ y ∈ ys, LvOk y
theorem LvOks.snoc {ys : List Lv} {y : Lv} (h : LvOks ys) (hy : LvOk y) : LvOks (ys ++ [y]) := by
  intro z hz
  rcases List.mem_append.1 hz with hz | hz
  · exact h z hz
  · simp at hz; subst hz; exact hy
theorem LvOks.set {ys : List Lv} {y : Lv} (h : LvOks ys) (i : Nat) (hy : LvOk y) : LvOks (ys.set i y) := by
  intro z hz
  rcases List.mem_or_eq_of_mem_set hz with hz | hz
  · exact h z hz
  · subst hz; exact hy
theorem lvD (ys : List Lv) (y : Lv) (base : Nat) (W : World) (g n c j : Nat) (o : W.ownsRow base 84 3 (.slice (some ⟨g, 0, none⟩) n c) n (ys.flatMap lvC)) (hj : j < ys.length) (hn : j < n) (hx : ys[j] = y) :
    W.cell? ⟨g, j * 3, none⟩ = some (.int .i64 y.1) ∧ W.cell? ⟨g, j * 3 + 1, none⟩ = some (.int .i64 y.2.1) ∧ W.cell? ⟨g, j * 3 + 2, none⟩ = some (.string y.2.2) ∧
    W.frozen? ⟨g, j * 3, none⟩ = false ∧ W.frozen? ⟨g, j * 3 + 1, none⟩ = false ∧ W.frozen? ⟨g, j * 3 + 2, none⟩ = false := by
  subst hx
  exact ⟨own_cell lvC 3 lvC_len o j 0 hj hn (by omega), own_cell lvC 3 lvC_len o j 1 hj hn (by omega), own_cell lvC 3 lvC_len o j 2 hj hn (by omega), o.frozenAt _, o.frozenAt _, o.frozenAt _⟩
end Go.Proofs.YthbcogekfdllmaaGreatDoor
