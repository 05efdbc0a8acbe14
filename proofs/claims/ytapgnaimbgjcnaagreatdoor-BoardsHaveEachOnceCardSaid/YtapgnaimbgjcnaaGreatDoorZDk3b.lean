/-
  board.(*desk).follow at the events that turn a run, the rest (Printed by gen_dk2.py.)
-/
import Derived.Test.YtapgnaimbgjcnaaGreatDoorZDk2
import Derived.Deep.RegionHeld3
import Derived.RegionTactic
import Derived.Deep.DeepCutAuto
import Derived.Deep.CutBlock
namespace Go.Proofs.YtapgnaimbgjcnaaGreatDoor
open Go Go.RowKit
attribute [local go_sem ↓] Go.wp_at_zero Go.wp_at_succ
set_option maxRecDepth 100000 in
set_option maxHeartbeats 4000000 in
theorem folT3_1_calls (w0 : World) (gd m1 m2 n : Nat) (D : Dsk) (L : List Rpt) (l : List Rsc) (at_ tm dt : Int) (id who by1 ct : ByteArray) (w : World) (hS : Sq w0 w (dskL gd m1 n m2 n L D l)) (hK : KD D) (hL : LD L D) (hx : EvK ⟨at_, 3, id, who, by1, ct, tm, dt⟩) (hb : D.bn by1 = false) (g : Nat) (r : Bev) (hp : ptOf L id = some (g, (r, 1))) :
 Calls Tryz.prog 136 #[.pointer (some ⟨gd, 0, none⟩), .agg #[.int .i64 at_, .int .i64 3, .string id, .string who, .string by1, .string ct, .int .i64 tm, .int .i64 dt]] w (FolD w0 gd m1 m2 n D l (stpE D ⟨at_, 3, id, who, by1, ct, tm, dt⟩) ) := by
 obtain ⟨o, ho⟩ : ∃ o, o = stpE D ⟨at_, 3, id, who, by1, ct, tm, dt⟩ := ⟨_, rfl⟩
 rw [← ho]
 have hiz := hx.iz
 have hwz := hx.wz
 have hbz := hx.bz
 simp only at hiz hwz hbz
 obtain ⟨B1, hB1⟩ : ∃ b, D.bn by1 = b := ⟨_, rfl⟩
 obtain ⟨B2, hB2⟩ : ∃ b, D.bn who = b := ⟨_, rfl⟩
 obtain ⟨pv, hpv⟩ : ∃ p : Option Addr, p = (ptOf L id).map (fun x => (⟨x.1, 0, none⟩ : Addr)) := ⟨_, rfl⟩
 have hptf : (ptF L id).getD (.pointer none) = .pointer pv := by
  rw [hpv]
  unfold ptF
  cases ptOf L id <;> rfl
 unfold dskL at hS
 have hM1 : MapS w 9 m1 n (ptF L) := hS.nth 1 rfl
 have hM2 : MapS w 9 m2 n (bnF D) := hS.nth 2 rfl
 have hgl : gd < w.heap.size := Blk.lt (show Blk w gd _ _ from hS.nth 0 rfl)
 obtain ⟨gx, hgx⟩ : ∃ gx, gx = w.heap.size := ⟨_, rfl⟩
 have hS1 := hS.add #[.int .i64 at_, .int .i64 3, .string id, .string who, .string by1, .string ct, .int .i64 tm, .int .i64 dt] 78
 obtain ⟨w1, hw1⟩ : ∃ W, w.alloc (.cells #[.int .i64 at_, .int .i64 3, .string id, .string who, .string by1, .string ct, .int .i64 tm, .int .i64 dt] 78) = W := ⟨_, rfl⟩
 have hbw1 : Below w.heap.size w w1 := by rw [← hw1]; exact (Below.refl _ _).alloc (Nat.le_refl _) _
 rw [hw1] at hS1
 have bx : Blk w1 w.heap.size 78 #[.int .i64 at_, .int .i64 3, .string id, .string who, .string by1, .string ct, .int .i64 tm, .int .i64 dt] := hS1.nth 0 rfl
 have bg : Blk w1 gd 183 #[.map (some m1), .map (some m2)] := hS1.nth 1 rfl
 have HSP : Hid (∀ W, Below w1.heap.size w1 W → W.cell? ⟨gd, 0, none⟩ = some (.map (some m1)) ∧ W.cell? ⟨gd, 1, none⟩ = some (.map (some m2)) ∧ W.cell? ⟨gx, 1, none⟩ = some (.int .i64 3) ∧ W.cell? ⟨gx, 2, none⟩ = some (.string id) ∧ W.cell? ⟨gx, 3, none⟩ = some (.string who) ∧ W.cell? ⟨gx, 4, none⟩ = some (.string by1) ∧ (Instr.lookup 181 (.map (some m1)) (.string id) false).run Tryz.prog W = .ok (.pointer pv) W ∧ (Instr.lookup 137 (.map (some m2)) (.string by1) false).run Tryz.prog W = .ok (.bool B1) W ∧ (Instr.lookup 137 (.map (some m2)) (.string who) false).run Tryz.prog W = .ok (.bool B2) W) := fun W hW => by
  have hWw := below_call hbw1 hW (by have := hbw1.size; omega)
  have h1 := (hM1.below hWw).look (t := 181) (e := 166) Tryz.underlying9 Tryz.underlying181 (zero_run W) (s := id) (by unfold maxLen; omega)
  have h2 := (hM2.below hWw).look (t := 137) (e := 4) Tryz.underlying9 Tryz.underlying137 (zero_bol W) (s := by1) (by unfold maxLen; omega)
  have h3 := (hM2.below hWw).look (t := 137) (e := 4) Tryz.underlying9 Tryz.underlying137 (zero_bol W) (s := who) (by unfold maxLen; omega)
  rw [hptf] at h1
  rw [bnF_get hK, hB1] at h2
  rw [bnF_get hK, hB2] at h3
  rw [hgx]
  exact ⟨(bg.below hW).cell 0, (bg.below hW).cell 1, (bx.below hW).cell 1, (bx.below hW).cell 2, (bx.below hW).cell 3, (bx.below hW).cell 4, h1, h2, h3⟩
 have hge : ¬ gd = gx := by omega
 have hge2 : ¬ gx = gd := by omega
 rw [← hgx] at hS1
 obtain rfl : B1 = false := by rw [← hB1]; exact hb
 have hb2 : ¬ D.bn by1 = true := by rw [hb]; decide
 have hrn : rnOf D id = some (r, 1) := by rw [ptOf_rn hL, hp]; rfl
 have HO : Hid (o = (turnE ⟨at_, 3, id, who, by1, ct, tm, dt⟩ (r, 1)).map (setR D id)) := Lib.hid (ho.trans (stpE_turn hb (.inr (.inl rfl)) hrn))
 have HL := Lib.hid hL
 have HKD := Lib.hid hK
 have HP := Lib.hid hp
 have HM := Lib.hid (ptOf_mem hp).1
 obtain ⟨hs, hhs⟩ : ∃ z, hwV 1 = z := ⟨_, rfl⟩
 have HHS := Lib.hid hhs
 obtain ⟨rw1, hrw⟩ : ∃ z, r.who = z := ⟨_, rfl⟩
 have HRW := Lib.hid hrw
 obtain rfl : pv = some ⟨g, 0, none⟩ := by rw [hpv, hp]; rfl
 clear ho hB1 hB2 hpv hp hrn hhs hrw
 clear hS hM1 hM2 hptf bx bg hbw1 hiz hwz hbz
 go_enter Tryz.func136, Tryz.ntmps136
 go_upto_region 1 with (fail)
 rw [← hgx]
 clear hw1 hgx
 have hdr : Below w1.heap.size w1 w1.drew := below_drewN (Below.refl _ _) 1
 go_wp2_with fail
 go_region_held3 (fun W => W.cell? ⟨gd, 0, none⟩ = some (.map (some m1)) ∧ W.cell? ⟨gd, 1, none⟩ = some (.map (some m2)) ∧ W.cell? ⟨gx, 1, none⟩ = some (.int .i64 3) ∧ W.cell? ⟨gx, 2, none⟩ = some (.string id) ∧ W.cell? ⟨gx, 3, none⟩ = some (.string who) ∧ W.cell? ⟨gx, 4, none⟩ = some (.string by1) ∧ (Instr.lookup 181 (.map (some m1)) (.string id) false).run Tryz.prog W = .ok (.pointer (some ⟨g, 0, none⟩)) W ∧ (Instr.lookup 137 (.map (some m2)) (.string by1) false).run Tryz.prog W = .ok (.bool false) W ∧ (Instr.lookup 137 (.map (some m2)) (.string who) false).run Tryz.prog W = .ok (.bool B2) W)
  (first | exact HSP.out _ hdr) (fail)
 have hdr2 : Below w1.heap.size w1 w1.drew.drew := below_call hdr (below_drewN (Below.refl _ _) 1) (Nat.le_refl _)
 go_wp2_with fail
 go_region_held3 (fun W => W.cell? ⟨gd, 0, none⟩ = some (.map (some m1)) ∧ W.cell? ⟨gd, 1, none⟩ = some (.map (some m2)) ∧ W.cell? ⟨gx, 1, none⟩ = some (.int .i64 3) ∧ W.cell? ⟨gx, 2, none⟩ = some (.string id) ∧ W.cell? ⟨gx, 3, none⟩ = some (.string who) ∧ W.cell? ⟨gx, 4, none⟩ = some (.string by1) ∧ (Instr.lookup 181 (.map (some m1)) (.string id) false).run Tryz.prog W = .ok (.pointer (some ⟨g, 0, none⟩)) W ∧ (Instr.lookup 137 (.map (some m2)) (.string by1) false).run Tryz.prog W = .ok (.bool false) W ∧ (Instr.lookup 137 (.map (some m2)) (.string who) false).run Tryz.prog W = .ok (.bool B2) W)
  (first | exact HSP.out _ hdr2) (fail)
 have hS2 := hS1.drew.drew
 obtain ⟨w2, hw2⟩ : ∃ W, W = w1.drew.drew := ⟨_, rfl⟩
 rw [← hw2] at hS2 hdr2 ⊢
 obtain ⟨y0, y1, y2, y3, y4, y5, y6, y7, y8⟩ := HSP.out w2 hdr2
 clear hw2 hS1 hdr
 have HS2 := Lib.hid hS2
 have hz8 : Blk w2 g 168 (runC (r, 1)).toArray := (hS2.nth 4 rfl : ∀ y ∈ L, (rRun y).P w2) _ HM.out
 have z3 : w2.cell? ⟨g, 3, none⟩ = some (.string rw1) := by rw [← HRW.out]; exact hz8.cell 3
 have z8 : w2.cell? ⟨g, 8, none⟩ = some (.string hs) := by rw [← HHS.out]; exact hz8.cell 8
 have f8 : w2.frozen? ⟨g, 8, none⟩ = false := hz8.frozen 8
 have l0 : (hs.toList == [119, 97, 105, 116, 115]) = false := by rw [← HHS.out]; exact litH 1 0 (by omega) (by omega)
 have l1 : (hs.toList == [118, 101, 114, 105, 102, 105, 101, 100]) = true := by rw [← HHS.out]; exact litH 1 1 (by omega) (by omega)
 have q0 := (eqL_ba by1 rw1)
 rw [← HRW.out] at q0
 obtain ⟨EQ, hEQ⟩ : ∃ z, decide (by1 = r.who) = z := ⟨_, rfl⟩
 rw [hEQ] at q0
 rw [HRW.out] at q0
 clear hS2 HSP hdr2 hz8 y6 y7 y8
 cases EQ
 · have HNE : Hid (by1 ≠ r.who) := Lib.hid (of_decide_eq_false hEQ)
   clear hEQ
   have HX : Hid (o = some (setR D id 2)) := Lib.hid (HO.out.trans (by
    show (turnE ⟨at_, 3, id, who, by1, ct, tm, dt⟩ (r, 1)).map _ = _
    rw [show turnE ⟨at_, 3, id, who, by1, ct, tm, dt⟩ (r, 1) = some 2 from (by unfold turnE; rw [if_neg (by show ¬ (3 : Int) = 2; decide), if_pos rfl, if_pos ⟨.inr rfl, HNE.out⟩])]
    rfl))
   have HST : Hid (∀ q, Sq w0 ((w2.drewN q).setCell ⟨g, 8, none⟩ (.string (hwV 2))) (dskL gd m1 n m2 n (turnL L g 2) (setR D id 2) l)) := Lib.hid (fun q => by
    have h3 := (((HS2.out.drewN q).tail).front 3 rfl rfl).runTurn HM.out 2
    unfold dskL
    rw [turnL_pt]
    exact ((h3.front 3 rfl rfl).front 3 rfl rfl).front 3 rfl rfl)
   have HLT := Lib.hid (HL.out.turn HKD.out HP.out 2)
   clear HS2
   go_wp2_with fail
   go_quiet (fail)
   go_wp2_with fail
   go_ret
   exact fol_yes HX.out HLT.out (by omega) (by omega) (HST.out _)
 · have HNE : Hid (by1 = r.who) := Lib.hid (of_decide_eq_true hEQ)
   clear hEQ
   have HX : Hid (o = none) := Lib.hid (HO.out.trans (by
    show (turnE ⟨at_, 3, id, who, by1, ct, tm, dt⟩ (r, 1)).map _ = _
    rw [show turnE ⟨at_, 3, id, who, by1, ct, tm, dt⟩ (r, 1) = none from (by unfold turnE; rw [if_neg (by show ¬ (3 : Int) = 2; decide), if_pos rfl, if_neg (fun h => h.2 HNE.out)])]
    rfl))
   clear HO
   go_wp2_with fail
   go_quiet (fail)
   go_wp2_with fail
   go_ret
   exact fol_no HX.out HL.out (by unfold dskL; exact (HS2.out.drewN _).tail)
set_option maxRecDepth 100000 in
set_option maxHeartbeats 4000000 in
theorem folT3_2_calls (w0 : World) (gd m1 m2 n : Nat) (D : Dsk) (L : List Rpt) (l : List Rsc) (at_ tm dt : Int) (id who by1 ct : ByteArray) (w : World) (hS : Sq w0 w (dskL gd m1 n m2 n L D l)) (hK : KD D) (hL : LD L D) (hx : EvK ⟨at_, 3, id, who, by1, ct, tm, dt⟩) (hb : D.bn by1 = false) (g : Nat) (r : Bev) (hp : ptOf L id = some (g, (r, 2))) :
 Calls Tryz.prog 136 #[.pointer (some ⟨gd, 0, none⟩), .agg #[.int .i64 at_, .int .i64 3, .string id, .string who, .string by1, .string ct, .int .i64 tm, .int .i64 dt]] w (FolD w0 gd m1 m2 n D l (stpE D ⟨at_, 3, id, who, by1, ct, tm, dt⟩) ) := by
 obtain ⟨o, ho⟩ : ∃ o, o = stpE D ⟨at_, 3, id, who, by1, ct, tm, dt⟩ := ⟨_, rfl⟩
 rw [← ho]
 have hiz := hx.iz
 have hwz := hx.wz
 have hbz := hx.bz
 simp only at hiz hwz hbz
 obtain ⟨B1, hB1⟩ : ∃ b, D.bn by1 = b := ⟨_, rfl⟩
 obtain ⟨B2, hB2⟩ : ∃ b, D.bn who = b := ⟨_, rfl⟩
 obtain ⟨pv, hpv⟩ : ∃ p : Option Addr, p = (ptOf L id).map (fun x => (⟨x.1, 0, none⟩ : Addr)) := ⟨_, rfl⟩
 have hptf : (ptF L id).getD (.pointer none) = .pointer pv := by
  rw [hpv]
  unfold ptF
  cases ptOf L id <;> rfl
 unfold dskL at hS
 have hM1 : MapS w 9 m1 n (ptF L) := hS.nth 1 rfl
 have hM2 : MapS w 9 m2 n (bnF D) := hS.nth 2 rfl
 have hgl : gd < w.heap.size := Blk.lt (show Blk w gd _ _ from hS.nth 0 rfl)
 obtain ⟨gx, hgx⟩ : ∃ gx, gx = w.heap.size := ⟨_, rfl⟩
 have hS1 := hS.add #[.int .i64 at_, .int .i64 3, .string id, .string who, .string by1, .string ct, .int .i64 tm, .int .i64 dt] 78
 obtain ⟨w1, hw1⟩ : ∃ W, w.alloc (.cells #[.int .i64 at_, .int .i64 3, .string id, .string who, .string by1, .string ct, .int .i64 tm, .int .i64 dt] 78) = W := ⟨_, rfl⟩
 have hbw1 : Below w.heap.size w w1 := by rw [← hw1]; exact (Below.refl _ _).alloc (Nat.le_refl _) _
 rw [hw1] at hS1
 have bx : Blk w1 w.heap.size 78 #[.int .i64 at_, .int .i64 3, .string id, .string who, .string by1, .string ct, .int .i64 tm, .int .i64 dt] := hS1.nth 0 rfl
 have bg : Blk w1 gd 183 #[.map (some m1), .map (some m2)] := hS1.nth 1 rfl
 have HSP : Hid (∀ W, Below w1.heap.size w1 W → W.cell? ⟨gd, 0, none⟩ = some (.map (some m1)) ∧ W.cell? ⟨gd, 1, none⟩ = some (.map (some m2)) ∧ W.cell? ⟨gx, 1, none⟩ = some (.int .i64 3) ∧ W.cell? ⟨gx, 2, none⟩ = some (.string id) ∧ W.cell? ⟨gx, 3, none⟩ = some (.string who) ∧ W.cell? ⟨gx, 4, none⟩ = some (.string by1) ∧ (Instr.lookup 181 (.map (some m1)) (.string id) false).run Tryz.prog W = .ok (.pointer pv) W ∧ (Instr.lookup 137 (.map (some m2)) (.string by1) false).run Tryz.prog W = .ok (.bool B1) W ∧ (Instr.lookup 137 (.map (some m2)) (.string who) false).run Tryz.prog W = .ok (.bool B2) W) := fun W hW => by
  have hWw := below_call hbw1 hW (by have := hbw1.size; omega)
  have h1 := (hM1.below hWw).look (t := 181) (e := 166) Tryz.underlying9 Tryz.underlying181 (zero_run W) (s := id) (by unfold maxLen; omega)
  have h2 := (hM2.below hWw).look (t := 137) (e := 4) Tryz.underlying9 Tryz.underlying137 (zero_bol W) (s := by1) (by unfold maxLen; omega)
  have h3 := (hM2.below hWw).look (t := 137) (e := 4) Tryz.underlying9 Tryz.underlying137 (zero_bol W) (s := who) (by unfold maxLen; omega)
  rw [hptf] at h1
  rw [bnF_get hK, hB1] at h2
  rw [bnF_get hK, hB2] at h3
  rw [hgx]
  exact ⟨(bg.below hW).cell 0, (bg.below hW).cell 1, (bx.below hW).cell 1, (bx.below hW).cell 2, (bx.below hW).cell 3, (bx.below hW).cell 4, h1, h2, h3⟩
 have hge : ¬ gd = gx := by omega
 have hge2 : ¬ gx = gd := by omega
 rw [← hgx] at hS1
 obtain rfl : B1 = false := by rw [← hB1]; exact hb
 have hb2 : ¬ D.bn by1 = true := by rw [hb]; decide
 have hrn : rnOf D id = some (r, 2) := by rw [ptOf_rn hL, hp]; rfl
 have HO : Hid (o = (turnE ⟨at_, 3, id, who, by1, ct, tm, dt⟩ (r, 2)).map (setR D id)) := Lib.hid (ho.trans (stpE_turn hb (.inr (.inl rfl)) hrn))
 have HL := Lib.hid hL
 have HKD := Lib.hid hK
 have HP := Lib.hid hp
 have HM := Lib.hid (ptOf_mem hp).1
 obtain ⟨hs, hhs⟩ : ∃ z, hwV 2 = z := ⟨_, rfl⟩
 have HHS := Lib.hid hhs
 obtain ⟨rw1, hrw⟩ : ∃ z, r.who = z := ⟨_, rfl⟩
 have HRW := Lib.hid hrw
 obtain rfl : pv = some ⟨g, 0, none⟩ := by rw [hpv, hp]; rfl
 clear ho hB1 hB2 hpv hp hrn hhs hrw
 clear hS hM1 hM2 hptf bx bg hbw1 hiz hwz hbz
 go_enter Tryz.func136, Tryz.ntmps136
 go_upto_region 1 with (fail)
 rw [← hgx]
 clear hw1 hgx
 have hdr : Below w1.heap.size w1 w1.drew := below_drewN (Below.refl _ _) 1
 go_wp2_with fail
 go_region_held3 (fun W => W.cell? ⟨gd, 0, none⟩ = some (.map (some m1)) ∧ W.cell? ⟨gd, 1, none⟩ = some (.map (some m2)) ∧ W.cell? ⟨gx, 1, none⟩ = some (.int .i64 3) ∧ W.cell? ⟨gx, 2, none⟩ = some (.string id) ∧ W.cell? ⟨gx, 3, none⟩ = some (.string who) ∧ W.cell? ⟨gx, 4, none⟩ = some (.string by1) ∧ (Instr.lookup 181 (.map (some m1)) (.string id) false).run Tryz.prog W = .ok (.pointer (some ⟨g, 0, none⟩)) W ∧ (Instr.lookup 137 (.map (some m2)) (.string by1) false).run Tryz.prog W = .ok (.bool false) W ∧ (Instr.lookup 137 (.map (some m2)) (.string who) false).run Tryz.prog W = .ok (.bool B2) W)
  (first | exact HSP.out _ hdr) (fail)
 have hdr2 : Below w1.heap.size w1 w1.drew.drew := below_call hdr (below_drewN (Below.refl _ _) 1) (Nat.le_refl _)
 go_wp2_with fail
 go_region_held3 (fun W => W.cell? ⟨gd, 0, none⟩ = some (.map (some m1)) ∧ W.cell? ⟨gd, 1, none⟩ = some (.map (some m2)) ∧ W.cell? ⟨gx, 1, none⟩ = some (.int .i64 3) ∧ W.cell? ⟨gx, 2, none⟩ = some (.string id) ∧ W.cell? ⟨gx, 3, none⟩ = some (.string who) ∧ W.cell? ⟨gx, 4, none⟩ = some (.string by1) ∧ (Instr.lookup 181 (.map (some m1)) (.string id) false).run Tryz.prog W = .ok (.pointer (some ⟨g, 0, none⟩)) W ∧ (Instr.lookup 137 (.map (some m2)) (.string by1) false).run Tryz.prog W = .ok (.bool false) W ∧ (Instr.lookup 137 (.map (some m2)) (.string who) false).run Tryz.prog W = .ok (.bool B2) W)
  (first | exact HSP.out _ hdr2) (fail)
 have hS2 := hS1.drew.drew
 obtain ⟨w2, hw2⟩ : ∃ W, W = w1.drew.drew := ⟨_, rfl⟩
 rw [← hw2] at hS2 hdr2 ⊢
 obtain ⟨y0, y1, y2, y3, y4, y5, y6, y7, y8⟩ := HSP.out w2 hdr2
 clear hw2 hS1 hdr
 have HS2 := Lib.hid hS2
 have hz8 : Blk w2 g 168 (runC (r, 2)).toArray := (hS2.nth 4 rfl : ∀ y ∈ L, (rRun y).P w2) _ HM.out
 have z3 : w2.cell? ⟨g, 3, none⟩ = some (.string rw1) := by rw [← HRW.out]; exact hz8.cell 3
 have z8 : w2.cell? ⟨g, 8, none⟩ = some (.string hs) := by rw [← HHS.out]; exact hz8.cell 8
 have f8 : w2.frozen? ⟨g, 8, none⟩ = false := hz8.frozen 8
 have l0 : (hs.toList == [119, 97, 105, 116, 115]) = false := by rw [← HHS.out]; exact litH 2 0 (by omega) (by omega)
 have l1 : (hs.toList == [118, 101, 114, 105, 102, 105, 101, 100]) = false := by rw [← HHS.out]; exact litH 2 1 (by omega) (by omega)
 have q0 := (eqL_ba by1 rw1)
 rw [← HRW.out] at q0
 obtain ⟨EQ, hEQ⟩ : ∃ z, decide (by1 = r.who) = z := ⟨_, rfl⟩
 rw [hEQ] at q0
 rw [HRW.out] at q0
 clear hS2 HSP hdr2 hz8 y6 y7 y8
 cases EQ
 · have HNE : Hid (by1 ≠ r.who) := Lib.hid (of_decide_eq_false hEQ)
   clear hEQ
   have HX : Hid (o = none) := Lib.hid (HO.out.trans (by
    show (turnE ⟨at_, 3, id, who, by1, ct, tm, dt⟩ (r, 2)).map _ = _
    rw [show turnE ⟨at_, 3, id, who, by1, ct, tm, dt⟩ (r, 2) = none from (by unfold turnE; rw [if_neg (by show ¬ (3 : Int) = 2; decide), if_pos rfl, if_neg (fun h => by have h1 := h.1; simp at h1)])]
    rfl))
   clear HO
   go_wp2_with fail
   go_quiet (fail)
   go_wp2_with fail
   go_ret
   exact fol_no HX.out HL.out (by unfold dskL; exact (HS2.out.drewN _).tail)
 · have HNE : Hid (by1 = r.who) := Lib.hid (of_decide_eq_true hEQ)
   clear hEQ
   have HX : Hid (o = none) := Lib.hid (HO.out.trans (by
    show (turnE ⟨at_, 3, id, who, by1, ct, tm, dt⟩ (r, 2)).map _ = _
    rw [show turnE ⟨at_, 3, id, who, by1, ct, tm, dt⟩ (r, 2) = none from (by unfold turnE; rw [if_neg (by show ¬ (3 : Int) = 2; decide), if_pos rfl, if_neg (fun h => by have h1 := h.1; simp at h1)])]
    rfl))
   clear HO
   go_wp2_with fail
   go_quiet (fail)
   go_wp2_with fail
   go_ret
   exact fol_no HX.out HL.out (by unfold dskL; exact (HS2.out.drewN _).tail)
set_option maxRecDepth 100000 in
set_option maxHeartbeats 4000000 in
theorem folT3_3_calls (w0 : World) (gd m1 m2 n : Nat) (D : Dsk) (L : List Rpt) (l : List Rsc) (at_ tm dt : Int) (id who by1 ct : ByteArray) (w : World) (hS : Sq w0 w (dskL gd m1 n m2 n L D l)) (hK : KD D) (hL : LD L D) (hx : EvK ⟨at_, 3, id, who, by1, ct, tm, dt⟩) (hb : D.bn by1 = false) (g : Nat) (r : Bev) (hp : ptOf L id = some (g, (r, 3))) :
 Calls Tryz.prog 136 #[.pointer (some ⟨gd, 0, none⟩), .agg #[.int .i64 at_, .int .i64 3, .string id, .string who, .string by1, .string ct, .int .i64 tm, .int .i64 dt]] w (FolD w0 gd m1 m2 n D l (stpE D ⟨at_, 3, id, who, by1, ct, tm, dt⟩) ) := by
 obtain ⟨o, ho⟩ : ∃ o, o = stpE D ⟨at_, 3, id, who, by1, ct, tm, dt⟩ := ⟨_, rfl⟩
 rw [← ho]
 have hiz := hx.iz
 have hwz := hx.wz
 have hbz := hx.bz
 simp only at hiz hwz hbz
 obtain ⟨B1, hB1⟩ : ∃ b, D.bn by1 = b := ⟨_, rfl⟩
 obtain ⟨B2, hB2⟩ : ∃ b, D.bn who = b := ⟨_, rfl⟩
 obtain ⟨pv, hpv⟩ : ∃ p : Option Addr, p = (ptOf L id).map (fun x => (⟨x.1, 0, none⟩ : Addr)) := ⟨_, rfl⟩
 have hptf : (ptF L id).getD (.pointer none) = .pointer pv := by
  rw [hpv]
  unfold ptF
  cases ptOf L id <;> rfl
 unfold dskL at hS
 have hM1 : MapS w 9 m1 n (ptF L) := hS.nth 1 rfl
 have hM2 : MapS w 9 m2 n (bnF D) := hS.nth 2 rfl
 have hgl : gd < w.heap.size := Blk.lt (show Blk w gd _ _ from hS.nth 0 rfl)
 obtain ⟨gx, hgx⟩ : ∃ gx, gx = w.heap.size := ⟨_, rfl⟩
 have hS1 := hS.add #[.int .i64 at_, .int .i64 3, .string id, .string who, .string by1, .string ct, .int .i64 tm, .int .i64 dt] 78
 obtain ⟨w1, hw1⟩ : ∃ W, w.alloc (.cells #[.int .i64 at_, .int .i64 3, .string id, .string who, .string by1, .string ct, .int .i64 tm, .int .i64 dt] 78) = W := ⟨_, rfl⟩
 have hbw1 : Below w.heap.size w w1 := by rw [← hw1]; exact (Below.refl _ _).alloc (Nat.le_refl _) _
 rw [hw1] at hS1
 have bx : Blk w1 w.heap.size 78 #[.int .i64 at_, .int .i64 3, .string id, .string who, .string by1, .string ct, .int .i64 tm, .int .i64 dt] := hS1.nth 0 rfl
 have bg : Blk w1 gd 183 #[.map (some m1), .map (some m2)] := hS1.nth 1 rfl
 have HSP : Hid (∀ W, Below w1.heap.size w1 W → W.cell? ⟨gd, 0, none⟩ = some (.map (some m1)) ∧ W.cell? ⟨gd, 1, none⟩ = some (.map (some m2)) ∧ W.cell? ⟨gx, 1, none⟩ = some (.int .i64 3) ∧ W.cell? ⟨gx, 2, none⟩ = some (.string id) ∧ W.cell? ⟨gx, 3, none⟩ = some (.string who) ∧ W.cell? ⟨gx, 4, none⟩ = some (.string by1) ∧ (Instr.lookup 181 (.map (some m1)) (.string id) false).run Tryz.prog W = .ok (.pointer pv) W ∧ (Instr.lookup 137 (.map (some m2)) (.string by1) false).run Tryz.prog W = .ok (.bool B1) W ∧ (Instr.lookup 137 (.map (some m2)) (.string who) false).run Tryz.prog W = .ok (.bool B2) W) := fun W hW => by
  have hWw := below_call hbw1 hW (by have := hbw1.size; omega)
  have h1 := (hM1.below hWw).look (t := 181) (e := 166) Tryz.underlying9 Tryz.underlying181 (zero_run W) (s := id) (by unfold maxLen; omega)
  have h2 := (hM2.below hWw).look (t := 137) (e := 4) Tryz.underlying9 Tryz.underlying137 (zero_bol W) (s := by1) (by unfold maxLen; omega)
  have h3 := (hM2.below hWw).look (t := 137) (e := 4) Tryz.underlying9 Tryz.underlying137 (zero_bol W) (s := who) (by unfold maxLen; omega)
  rw [hptf] at h1
  rw [bnF_get hK, hB1] at h2
  rw [bnF_get hK, hB2] at h3
  rw [hgx]
  exact ⟨(bg.below hW).cell 0, (bg.below hW).cell 1, (bx.below hW).cell 1, (bx.below hW).cell 2, (bx.below hW).cell 3, (bx.below hW).cell 4, h1, h2, h3⟩
 have hge : ¬ gd = gx := by omega
 have hge2 : ¬ gx = gd := by omega
 rw [← hgx] at hS1
 obtain rfl : B1 = false := by rw [← hB1]; exact hb
 have hb2 : ¬ D.bn by1 = true := by rw [hb]; decide
 have hrn : rnOf D id = some (r, 3) := by rw [ptOf_rn hL, hp]; rfl
 have HO : Hid (o = (turnE ⟨at_, 3, id, who, by1, ct, tm, dt⟩ (r, 3)).map (setR D id)) := Lib.hid (ho.trans (stpE_turn hb (.inr (.inl rfl)) hrn))
 have HL := Lib.hid hL
 have HKD := Lib.hid hK
 have HP := Lib.hid hp
 have HM := Lib.hid (ptOf_mem hp).1
 obtain ⟨hs, hhs⟩ : ∃ z, hwV 3 = z := ⟨_, rfl⟩
 have HHS := Lib.hid hhs
 obtain ⟨rw1, hrw⟩ : ∃ z, r.who = z := ⟨_, rfl⟩
 have HRW := Lib.hid hrw
 obtain rfl : pv = some ⟨g, 0, none⟩ := by rw [hpv, hp]; rfl
 clear ho hB1 hB2 hpv hp hrn hhs hrw
 clear hS hM1 hM2 hptf bx bg hbw1 hiz hwz hbz
 go_enter Tryz.func136, Tryz.ntmps136
 go_upto_region 1 with (fail)
 rw [← hgx]
 clear hw1 hgx
 have hdr : Below w1.heap.size w1 w1.drew := below_drewN (Below.refl _ _) 1
 go_wp2_with fail
 go_region_held3 (fun W => W.cell? ⟨gd, 0, none⟩ = some (.map (some m1)) ∧ W.cell? ⟨gd, 1, none⟩ = some (.map (some m2)) ∧ W.cell? ⟨gx, 1, none⟩ = some (.int .i64 3) ∧ W.cell? ⟨gx, 2, none⟩ = some (.string id) ∧ W.cell? ⟨gx, 3, none⟩ = some (.string who) ∧ W.cell? ⟨gx, 4, none⟩ = some (.string by1) ∧ (Instr.lookup 181 (.map (some m1)) (.string id) false).run Tryz.prog W = .ok (.pointer (some ⟨g, 0, none⟩)) W ∧ (Instr.lookup 137 (.map (some m2)) (.string by1) false).run Tryz.prog W = .ok (.bool false) W ∧ (Instr.lookup 137 (.map (some m2)) (.string who) false).run Tryz.prog W = .ok (.bool B2) W)
  (first | exact HSP.out _ hdr) (fail)
 have hdr2 : Below w1.heap.size w1 w1.drew.drew := below_call hdr (below_drewN (Below.refl _ _) 1) (Nat.le_refl _)
 go_wp2_with fail
 go_region_held3 (fun W => W.cell? ⟨gd, 0, none⟩ = some (.map (some m1)) ∧ W.cell? ⟨gd, 1, none⟩ = some (.map (some m2)) ∧ W.cell? ⟨gx, 1, none⟩ = some (.int .i64 3) ∧ W.cell? ⟨gx, 2, none⟩ = some (.string id) ∧ W.cell? ⟨gx, 3, none⟩ = some (.string who) ∧ W.cell? ⟨gx, 4, none⟩ = some (.string by1) ∧ (Instr.lookup 181 (.map (some m1)) (.string id) false).run Tryz.prog W = .ok (.pointer (some ⟨g, 0, none⟩)) W ∧ (Instr.lookup 137 (.map (some m2)) (.string by1) false).run Tryz.prog W = .ok (.bool false) W ∧ (Instr.lookup 137 (.map (some m2)) (.string who) false).run Tryz.prog W = .ok (.bool B2) W)
  (first | exact HSP.out _ hdr2) (fail)
 have hS2 := hS1.drew.drew
 obtain ⟨w2, hw2⟩ : ∃ W, W = w1.drew.drew := ⟨_, rfl⟩
 rw [← hw2] at hS2 hdr2 ⊢
 obtain ⟨y0, y1, y2, y3, y4, y5, y6, y7, y8⟩ := HSP.out w2 hdr2
 clear hw2 hS1 hdr
 have HS2 := Lib.hid hS2
 have hz8 : Blk w2 g 168 (runC (r, 3)).toArray := (hS2.nth 4 rfl : ∀ y ∈ L, (rRun y).P w2) _ HM.out
 have z3 : w2.cell? ⟨g, 3, none⟩ = some (.string rw1) := by rw [← HRW.out]; exact hz8.cell 3
 have z8 : w2.cell? ⟨g, 8, none⟩ = some (.string hs) := by rw [← HHS.out]; exact hz8.cell 8
 have f8 : w2.frozen? ⟨g, 8, none⟩ = false := hz8.frozen 8
 have l0 : (hs.toList == [119, 97, 105, 116, 115]) = false := by rw [← HHS.out]; exact litH 3 0 (by omega) (by omega)
 have l1 : (hs.toList == [118, 101, 114, 105, 102, 105, 101, 100]) = false := by rw [← HHS.out]; exact litH 3 1 (by omega) (by omega)
 have q0 := (eqL_ba by1 rw1)
 rw [← HRW.out] at q0
 obtain ⟨EQ, hEQ⟩ : ∃ z, decide (by1 = r.who) = z := ⟨_, rfl⟩
 rw [hEQ] at q0
 rw [HRW.out] at q0
 clear hS2 HSP hdr2 hz8 y6 y7 y8
 cases EQ
 · have HNE : Hid (by1 ≠ r.who) := Lib.hid (of_decide_eq_false hEQ)
   clear hEQ
   have HX : Hid (o = none) := Lib.hid (HO.out.trans (by
    show (turnE ⟨at_, 3, id, who, by1, ct, tm, dt⟩ (r, 3)).map _ = _
    rw [show turnE ⟨at_, 3, id, who, by1, ct, tm, dt⟩ (r, 3) = none from (by unfold turnE; rw [if_neg (by show ¬ (3 : Int) = 2; decide), if_pos rfl, if_neg (fun h => by have h1 := h.1; simp at h1)])]
    rfl))
   clear HO
   go_wp2_with fail
   go_quiet (fail)
   go_wp2_with fail
   go_ret
   exact fol_no HX.out HL.out (by unfold dskL; exact (HS2.out.drewN _).tail)
 · have HNE : Hid (by1 = r.who) := Lib.hid (of_decide_eq_true hEQ)
   clear hEQ
   have HX : Hid (o = none) := Lib.hid (HO.out.trans (by
    show (turnE ⟨at_, 3, id, who, by1, ct, tm, dt⟩ (r, 3)).map _ = _
    rw [show turnE ⟨at_, 3, id, who, by1, ct, tm, dt⟩ (r, 3) = none from (by unfold turnE; rw [if_neg (by show ¬ (3 : Int) = 2; decide), if_pos rfl, if_neg (fun h => by have h1 := h.1; simp at h1)])]
    rfl))
   clear HO
   go_wp2_with fail
   go_quiet (fail)
   go_wp2_with fail
   go_ret
   exact fol_no HX.out HL.out (by unfold dskL; exact (HS2.out.drewN _).tail)
set_option maxRecDepth 100000 in
set_option maxHeartbeats 4000000 in
theorem folN4_calls (w0 : World) (gd m1 m2 n : Nat) (D : Dsk) (L : List Rpt) (l : List Rsc) (at_ tm dt : Int) (id who by1 ct : ByteArray) (w : World) (hS : Sq w0 w (dskL gd m1 n m2 n L D l)) (hK : KD D) (hL : LD L D) (hx : EvK ⟨at_, 4, id, who, by1, ct, tm, dt⟩) (hb : D.bn by1 = false) (hp : ptOf L id = none) :
 Calls Tryz.prog 136 #[.pointer (some ⟨gd, 0, none⟩), .agg #[.int .i64 at_, .int .i64 4, .string id, .string who, .string by1, .string ct, .int .i64 tm, .int .i64 dt]] w (FolD w0 gd m1 m2 n D l (stpE D ⟨at_, 4, id, who, by1, ct, tm, dt⟩) ) := by
 obtain ⟨o, ho⟩ : ∃ o, o = stpE D ⟨at_, 4, id, who, by1, ct, tm, dt⟩ := ⟨_, rfl⟩
 rw [← ho]
 have hiz := hx.iz
 have hwz := hx.wz
 have hbz := hx.bz
 simp only at hiz hwz hbz
 obtain ⟨B1, hB1⟩ : ∃ b, D.bn by1 = b := ⟨_, rfl⟩
 obtain ⟨B2, hB2⟩ : ∃ b, D.bn who = b := ⟨_, rfl⟩
 obtain ⟨pv, hpv⟩ : ∃ p : Option Addr, p = (ptOf L id).map (fun x => (⟨x.1, 0, none⟩ : Addr)) := ⟨_, rfl⟩
 have hptf : (ptF L id).getD (.pointer none) = .pointer pv := by
  rw [hpv]
  unfold ptF
  cases ptOf L id <;> rfl
 unfold dskL at hS
 have hM1 : MapS w 9 m1 n (ptF L) := hS.nth 1 rfl
 have hM2 : MapS w 9 m2 n (bnF D) := hS.nth 2 rfl
 have hgl : gd < w.heap.size := Blk.lt (show Blk w gd _ _ from hS.nth 0 rfl)
 obtain ⟨gx, hgx⟩ : ∃ gx, gx = w.heap.size := ⟨_, rfl⟩
 have hS1 := hS.add #[.int .i64 at_, .int .i64 4, .string id, .string who, .string by1, .string ct, .int .i64 tm, .int .i64 dt] 78
 obtain ⟨w1, hw1⟩ : ∃ W, w.alloc (.cells #[.int .i64 at_, .int .i64 4, .string id, .string who, .string by1, .string ct, .int .i64 tm, .int .i64 dt] 78) = W := ⟨_, rfl⟩
 have hbw1 : Below w.heap.size w w1 := by rw [← hw1]; exact (Below.refl _ _).alloc (Nat.le_refl _) _
 rw [hw1] at hS1
 have bx : Blk w1 w.heap.size 78 #[.int .i64 at_, .int .i64 4, .string id, .string who, .string by1, .string ct, .int .i64 tm, .int .i64 dt] := hS1.nth 0 rfl
 have bg : Blk w1 gd 183 #[.map (some m1), .map (some m2)] := hS1.nth 1 rfl
 have HSP : Hid (∀ W, Below w1.heap.size w1 W → W.cell? ⟨gd, 0, none⟩ = some (.map (some m1)) ∧ W.cell? ⟨gd, 1, none⟩ = some (.map (some m2)) ∧ W.cell? ⟨gx, 1, none⟩ = some (.int .i64 4) ∧ W.cell? ⟨gx, 2, none⟩ = some (.string id) ∧ W.cell? ⟨gx, 3, none⟩ = some (.string who) ∧ W.cell? ⟨gx, 4, none⟩ = some (.string by1) ∧ (Instr.lookup 181 (.map (some m1)) (.string id) false).run Tryz.prog W = .ok (.pointer pv) W ∧ (Instr.lookup 137 (.map (some m2)) (.string by1) false).run Tryz.prog W = .ok (.bool B1) W ∧ (Instr.lookup 137 (.map (some m2)) (.string who) false).run Tryz.prog W = .ok (.bool B2) W) := fun W hW => by
  have hWw := below_call hbw1 hW (by have := hbw1.size; omega)
  have h1 := (hM1.below hWw).look (t := 181) (e := 166) Tryz.underlying9 Tryz.underlying181 (zero_run W) (s := id) (by unfold maxLen; omega)
  have h2 := (hM2.below hWw).look (t := 137) (e := 4) Tryz.underlying9 Tryz.underlying137 (zero_bol W) (s := by1) (by unfold maxLen; omega)
  have h3 := (hM2.below hWw).look (t := 137) (e := 4) Tryz.underlying9 Tryz.underlying137 (zero_bol W) (s := who) (by unfold maxLen; omega)
  rw [hptf] at h1
  rw [bnF_get hK, hB1] at h2
  rw [bnF_get hK, hB2] at h3
  rw [hgx]
  exact ⟨(bg.below hW).cell 0, (bg.below hW).cell 1, (bx.below hW).cell 1, (bx.below hW).cell 2, (bx.below hW).cell 3, (bx.below hW).cell 4, h1, h2, h3⟩
 have hge : ¬ gd = gx := by omega
 have hge2 : ¬ gx = gd := by omega
 rw [← hgx] at hS1
 obtain rfl : B1 = false := by rw [← hB1]; exact hb
 have hb2 : ¬ D.bn by1 = true := by rw [hb]; decide
 have HO : Hid (o = none) := Lib.hid (ho.trans (stpE_turn0 hb (.inr (.inr rfl)) (by show rnOf D id = none; rw [ptOf_rn hL, hp]; rfl)))
 have HL := Lib.hid hL
 obtain rfl : pv = none := by rw [hpv, hp]; rfl
 clear ho hB1 hB2 hpv hp
 clear hS hM1 hM2 hptf bx bg hbw1 hiz hwz hbz
 go_enter Tryz.func136, Tryz.ntmps136
 go_upto_region 1 with (fail)
 rw [← hgx]
 clear hw1 hgx
 have hdr : Below w1.heap.size w1 w1.drew := below_drewN (Below.refl _ _) 1
 go_wp2_with fail
 go_region_held3 (fun W => W.cell? ⟨gd, 0, none⟩ = some (.map (some m1)) ∧ W.cell? ⟨gd, 1, none⟩ = some (.map (some m2)) ∧ W.cell? ⟨gx, 1, none⟩ = some (.int .i64 4) ∧ W.cell? ⟨gx, 2, none⟩ = some (.string id) ∧ W.cell? ⟨gx, 3, none⟩ = some (.string who) ∧ W.cell? ⟨gx, 4, none⟩ = some (.string by1) ∧ (Instr.lookup 181 (.map (some m1)) (.string id) false).run Tryz.prog W = .ok (.pointer none) W ∧ (Instr.lookup 137 (.map (some m2)) (.string by1) false).run Tryz.prog W = .ok (.bool false) W ∧ (Instr.lookup 137 (.map (some m2)) (.string who) false).run Tryz.prog W = .ok (.bool B2) W)
  (first | exact HSP.out _ hdr) (fail)
 have hdr2 : Below w1.heap.size w1 w1.drew.drew := below_call hdr (below_drewN (Below.refl _ _) 1) (Nat.le_refl _)
 go_wp2_with fail
 go_region_held3 (fun W => W.cell? ⟨gd, 0, none⟩ = some (.map (some m1)) ∧ W.cell? ⟨gd, 1, none⟩ = some (.map (some m2)) ∧ W.cell? ⟨gx, 1, none⟩ = some (.int .i64 4) ∧ W.cell? ⟨gx, 2, none⟩ = some (.string id) ∧ W.cell? ⟨gx, 3, none⟩ = some (.string who) ∧ W.cell? ⟨gx, 4, none⟩ = some (.string by1) ∧ (Instr.lookup 181 (.map (some m1)) (.string id) false).run Tryz.prog W = .ok (.pointer none) W ∧ (Instr.lookup 137 (.map (some m2)) (.string by1) false).run Tryz.prog W = .ok (.bool false) W ∧ (Instr.lookup 137 (.map (some m2)) (.string who) false).run Tryz.prog W = .ok (.bool B2) W)
  (first | exact HSP.out _ hdr2) (fail)
 have hS2 := hS1.drew.drew
 obtain ⟨w2, hw2⟩ : ∃ W, W = w1.drew.drew := ⟨_, rfl⟩
 rw [← hw2] at hS2 hdr2 ⊢
 obtain ⟨y0, y1, y2, y3, y4, y5, y6, y7, y8⟩ := HSP.out w2 hdr2
 clear hw2 hS1 hdr
 have HS2 := Lib.hid hS2
 clear hS2 HSP hdr2 y6 y7 y8
 go_wp2_with fail
 go_quiet (fail)
 go_wp2_with fail
 go_ret
 exact fol_no HO.out HL.out (by unfold dskL; exact (HS2.out.drewN _).tail)
set_option maxRecDepth 100000 in
set_option maxHeartbeats 4000000 in
theorem folT4_0_calls (w0 : World) (gd m1 m2 n : Nat) (D : Dsk) (L : List Rpt) (l : List Rsc) (at_ tm dt : Int) (id who by1 ct : ByteArray) (w : World) (hS : Sq w0 w (dskL gd m1 n m2 n L D l)) (hK : KD D) (hL : LD L D) (hx : EvK ⟨at_, 4, id, who, by1, ct, tm, dt⟩) (hb : D.bn by1 = false) (g : Nat) (r : Bev) (hp : ptOf L id = some (g, (r, 0))) :
 Calls Tryz.prog 136 #[.pointer (some ⟨gd, 0, none⟩), .agg #[.int .i64 at_, .int .i64 4, .string id, .string who, .string by1, .string ct, .int .i64 tm, .int .i64 dt]] w (FolD w0 gd m1 m2 n D l (stpE D ⟨at_, 4, id, who, by1, ct, tm, dt⟩) ) := by
 obtain ⟨o, ho⟩ : ∃ o, o = stpE D ⟨at_, 4, id, who, by1, ct, tm, dt⟩ := ⟨_, rfl⟩
 rw [← ho]
 have hiz := hx.iz
 have hwz := hx.wz
 have hbz := hx.bz
 simp only at hiz hwz hbz
 obtain ⟨B1, hB1⟩ : ∃ b, D.bn by1 = b := ⟨_, rfl⟩
 obtain ⟨B2, hB2⟩ : ∃ b, D.bn who = b := ⟨_, rfl⟩
 obtain ⟨pv, hpv⟩ : ∃ p : Option Addr, p = (ptOf L id).map (fun x => (⟨x.1, 0, none⟩ : Addr)) := ⟨_, rfl⟩
 have hptf : (ptF L id).getD (.pointer none) = .pointer pv := by
  rw [hpv]
  unfold ptF
  cases ptOf L id <;> rfl
 unfold dskL at hS
 have hM1 : MapS w 9 m1 n (ptF L) := hS.nth 1 rfl
 have hM2 : MapS w 9 m2 n (bnF D) := hS.nth 2 rfl
 have hgl : gd < w.heap.size := Blk.lt (show Blk w gd _ _ from hS.nth 0 rfl)
 obtain ⟨gx, hgx⟩ : ∃ gx, gx = w.heap.size := ⟨_, rfl⟩
 have hS1 := hS.add #[.int .i64 at_, .int .i64 4, .string id, .string who, .string by1, .string ct, .int .i64 tm, .int .i64 dt] 78
 obtain ⟨w1, hw1⟩ : ∃ W, w.alloc (.cells #[.int .i64 at_, .int .i64 4, .string id, .string who, .string by1, .string ct, .int .i64 tm, .int .i64 dt] 78) = W := ⟨_, rfl⟩
 have hbw1 : Below w.heap.size w w1 := by rw [← hw1]; exact (Below.refl _ _).alloc (Nat.le_refl _) _
 rw [hw1] at hS1
 have bx : Blk w1 w.heap.size 78 #[.int .i64 at_, .int .i64 4, .string id, .string who, .string by1, .string ct, .int .i64 tm, .int .i64 dt] := hS1.nth 0 rfl
 have bg : Blk w1 gd 183 #[.map (some m1), .map (some m2)] := hS1.nth 1 rfl
 have HSP : Hid (∀ W, Below w1.heap.size w1 W → W.cell? ⟨gd, 0, none⟩ = some (.map (some m1)) ∧ W.cell? ⟨gd, 1, none⟩ = some (.map (some m2)) ∧ W.cell? ⟨gx, 1, none⟩ = some (.int .i64 4) ∧ W.cell? ⟨gx, 2, none⟩ = some (.string id) ∧ W.cell? ⟨gx, 3, none⟩ = some (.string who) ∧ W.cell? ⟨gx, 4, none⟩ = some (.string by1) ∧ (Instr.lookup 181 (.map (some m1)) (.string id) false).run Tryz.prog W = .ok (.pointer pv) W ∧ (Instr.lookup 137 (.map (some m2)) (.string by1) false).run Tryz.prog W = .ok (.bool B1) W ∧ (Instr.lookup 137 (.map (some m2)) (.string who) false).run Tryz.prog W = .ok (.bool B2) W) := fun W hW => by
  have hWw := below_call hbw1 hW (by have := hbw1.size; omega)
  have h1 := (hM1.below hWw).look (t := 181) (e := 166) Tryz.underlying9 Tryz.underlying181 (zero_run W) (s := id) (by unfold maxLen; omega)
  have h2 := (hM2.below hWw).look (t := 137) (e := 4) Tryz.underlying9 Tryz.underlying137 (zero_bol W) (s := by1) (by unfold maxLen; omega)
  have h3 := (hM2.below hWw).look (t := 137) (e := 4) Tryz.underlying9 Tryz.underlying137 (zero_bol W) (s := who) (by unfold maxLen; omega)
  rw [hptf] at h1
  rw [bnF_get hK, hB1] at h2
  rw [bnF_get hK, hB2] at h3
  rw [hgx]
  exact ⟨(bg.below hW).cell 0, (bg.below hW).cell 1, (bx.below hW).cell 1, (bx.below hW).cell 2, (bx.below hW).cell 3, (bx.below hW).cell 4, h1, h2, h3⟩
 have hge : ¬ gd = gx := by omega
 have hge2 : ¬ gx = gd := by omega
 rw [← hgx] at hS1
 obtain rfl : B1 = false := by rw [← hB1]; exact hb
 have hb2 : ¬ D.bn by1 = true := by rw [hb]; decide
 have hrn : rnOf D id = some (r, 0) := by rw [ptOf_rn hL, hp]; rfl
 have HO : Hid (o = (turnE ⟨at_, 4, id, who, by1, ct, tm, dt⟩ (r, 0)).map (setR D id)) := Lib.hid (ho.trans (stpE_turn hb (.inr (.inr rfl)) hrn))
 have HL := Lib.hid hL
 have HKD := Lib.hid hK
 have HP := Lib.hid hp
 have HM := Lib.hid (ptOf_mem hp).1
 obtain ⟨hs, hhs⟩ : ∃ z, hwV 0 = z := ⟨_, rfl⟩
 have HHS := Lib.hid hhs
 obtain ⟨rw1, hrw⟩ : ∃ z, r.who = z := ⟨_, rfl⟩
 have HRW := Lib.hid hrw
 obtain rfl : pv = some ⟨g, 0, none⟩ := by rw [hpv, hp]; rfl
 clear ho hB1 hB2 hpv hp hrn hhs hrw
 clear hS hM1 hM2 hptf bx bg hbw1 hiz hwz hbz
 go_enter Tryz.func136, Tryz.ntmps136
 go_upto_region 1 with (fail)
 rw [← hgx]
 clear hw1 hgx
 have hdr : Below w1.heap.size w1 w1.drew := below_drewN (Below.refl _ _) 1
 go_wp2_with fail
 go_region_held3 (fun W => W.cell? ⟨gd, 0, none⟩ = some (.map (some m1)) ∧ W.cell? ⟨gd, 1, none⟩ = some (.map (some m2)) ∧ W.cell? ⟨gx, 1, none⟩ = some (.int .i64 4) ∧ W.cell? ⟨gx, 2, none⟩ = some (.string id) ∧ W.cell? ⟨gx, 3, none⟩ = some (.string who) ∧ W.cell? ⟨gx, 4, none⟩ = some (.string by1) ∧ (Instr.lookup 181 (.map (some m1)) (.string id) false).run Tryz.prog W = .ok (.pointer (some ⟨g, 0, none⟩)) W ∧ (Instr.lookup 137 (.map (some m2)) (.string by1) false).run Tryz.prog W = .ok (.bool false) W ∧ (Instr.lookup 137 (.map (some m2)) (.string who) false).run Tryz.prog W = .ok (.bool B2) W)
  (first | exact HSP.out _ hdr) (fail)
 have hdr2 : Below w1.heap.size w1 w1.drew.drew := below_call hdr (below_drewN (Below.refl _ _) 1) (Nat.le_refl _)
 go_wp2_with fail
 go_region_held3 (fun W => W.cell? ⟨gd, 0, none⟩ = some (.map (some m1)) ∧ W.cell? ⟨gd, 1, none⟩ = some (.map (some m2)) ∧ W.cell? ⟨gx, 1, none⟩ = some (.int .i64 4) ∧ W.cell? ⟨gx, 2, none⟩ = some (.string id) ∧ W.cell? ⟨gx, 3, none⟩ = some (.string who) ∧ W.cell? ⟨gx, 4, none⟩ = some (.string by1) ∧ (Instr.lookup 181 (.map (some m1)) (.string id) false).run Tryz.prog W = .ok (.pointer (some ⟨g, 0, none⟩)) W ∧ (Instr.lookup 137 (.map (some m2)) (.string by1) false).run Tryz.prog W = .ok (.bool false) W ∧ (Instr.lookup 137 (.map (some m2)) (.string who) false).run Tryz.prog W = .ok (.bool B2) W)
  (first | exact HSP.out _ hdr2) (fail)
 have hS2 := hS1.drew.drew
 obtain ⟨w2, hw2⟩ : ∃ W, W = w1.drew.drew := ⟨_, rfl⟩
 rw [← hw2] at hS2 hdr2 ⊢
 obtain ⟨y0, y1, y2, y3, y4, y5, y6, y7, y8⟩ := HSP.out w2 hdr2
 clear hw2 hS1 hdr
 have HS2 := Lib.hid hS2
 have hz8 : Blk w2 g 168 (runC (r, 0)).toArray := (hS2.nth 4 rfl : ∀ y ∈ L, (rRun y).P w2) _ HM.out
 have z3 : w2.cell? ⟨g, 3, none⟩ = some (.string rw1) := by rw [← HRW.out]; exact hz8.cell 3
 have z8 : w2.cell? ⟨g, 8, none⟩ = some (.string hs) := by rw [← HHS.out]; exact hz8.cell 8
 have f8 : w2.frozen? ⟨g, 8, none⟩ = false := hz8.frozen 8
 have l3 : (hs.toList == [98, 97, 99, 107]) = false := by rw [← HHS.out]; exact litH 0 3 (by omega) (by omega)
 have q0 := (eqL_ba who rw1)
 rw [← HRW.out] at q0
 obtain ⟨EQ, hEQ⟩ : ∃ z, decide (who = r.who) = z := ⟨_, rfl⟩
 rw [hEQ] at q0
 rw [HRW.out] at q0
 clear hS2 HSP hdr2 hz8 y6 y7 y8
 cases EQ
 · have HNE : Hid (who ≠ r.who) := Lib.hid (of_decide_eq_false hEQ)
   clear hEQ
   have HX : Hid (o = none) := Lib.hid (HO.out.trans (by
    show (turnE ⟨at_, 4, id, who, by1, ct, tm, dt⟩ (r, 0)).map _ = _
    rw [show turnE ⟨at_, 4, id, who, by1, ct, tm, dt⟩ (r, 0) = none from (by unfold turnE; rw [if_neg (by show ¬ (4 : Int) = 2; decide), if_neg (by show ¬ (4 : Int) = 3; decide), if_neg (fun h => HNE.out h.2)])]
    rfl))
   clear HO
   go_wp2_with fail
   go_quiet (fail)
   go_wp2_with fail
   go_ret
   exact fol_no HX.out HL.out (by unfold dskL; exact (HS2.out.drewN _).tail)
 · have HNE : Hid (who = r.who) := Lib.hid (of_decide_eq_true hEQ)
   clear hEQ
   have HX : Hid (o = some (setR D id 3)) := Lib.hid (HO.out.trans (by
    show (turnE ⟨at_, 4, id, who, by1, ct, tm, dt⟩ (r, 0)).map _ = _
    rw [show turnE ⟨at_, 4, id, who, by1, ct, tm, dt⟩ (r, 0) = some 3 from (by unfold turnE; rw [if_neg (by show ¬ (4 : Int) = 2; decide), if_neg (by show ¬ (4 : Int) = 3; decide), if_pos ⟨(by show ¬ 0 = 3; omega), HNE.out⟩])]
    rfl))
   have HST : Hid (∀ q, Sq w0 ((w2.drewN q).setCell ⟨g, 8, none⟩ (.string (hwV 3))) (dskL gd m1 n m2 n (turnL L g 3) (setR D id 3) l)) := Lib.hid (fun q => by
    have h3 := (((HS2.out.drewN q).tail).front 3 rfl rfl).runTurn HM.out 3
    unfold dskL
    rw [turnL_pt]
    exact ((h3.front 3 rfl rfl).front 3 rfl rfl).front 3 rfl rfl)
   have HLT := Lib.hid (HL.out.turn HKD.out HP.out 3)
   clear HS2
   go_wp2_with fail
   go_quiet (fail)
   go_wp2_with fail
   go_ret
   exact fol_yes HX.out HLT.out (by omega) (by omega) (HST.out _)
set_option maxRecDepth 100000 in
set_option maxHeartbeats 4000000 in
theorem folT4_1_calls (w0 : World) (gd m1 m2 n : Nat) (D : Dsk) (L : List Rpt) (l : List Rsc) (at_ tm dt : Int) (id who by1 ct : ByteArray) (w : World) (hS : Sq w0 w (dskL gd m1 n m2 n L D l)) (hK : KD D) (hL : LD L D) (hx : EvK ⟨at_, 4, id, who, by1, ct, tm, dt⟩) (hb : D.bn by1 = false) (g : Nat) (r : Bev) (hp : ptOf L id = some (g, (r, 1))) :
 Calls Tryz.prog 136 #[.pointer (some ⟨gd, 0, none⟩), .agg #[.int .i64 at_, .int .i64 4, .string id, .string who, .string by1, .string ct, .int .i64 tm, .int .i64 dt]] w (FolD w0 gd m1 m2 n D l (stpE D ⟨at_, 4, id, who, by1, ct, tm, dt⟩) ) := by
 obtain ⟨o, ho⟩ : ∃ o, o = stpE D ⟨at_, 4, id, who, by1, ct, tm, dt⟩ := ⟨_, rfl⟩
 rw [← ho]
 have hiz := hx.iz
 have hwz := hx.wz
 have hbz := hx.bz
 simp only at hiz hwz hbz
 obtain ⟨B1, hB1⟩ : ∃ b, D.bn by1 = b := ⟨_, rfl⟩
 obtain ⟨B2, hB2⟩ : ∃ b, D.bn who = b := ⟨_, rfl⟩
 obtain ⟨pv, hpv⟩ : ∃ p : Option Addr, p = (ptOf L id).map (fun x => (⟨x.1, 0, none⟩ : Addr)) := ⟨_, rfl⟩
 have hptf : (ptF L id).getD (.pointer none) = .pointer pv := by
  rw [hpv]
  unfold ptF
  cases ptOf L id <;> rfl
 unfold dskL at hS
 have hM1 : MapS w 9 m1 n (ptF L) := hS.nth 1 rfl
 have hM2 : MapS w 9 m2 n (bnF D) := hS.nth 2 rfl
 have hgl : gd < w.heap.size := Blk.lt (show Blk w gd _ _ from hS.nth 0 rfl)
 obtain ⟨gx, hgx⟩ : ∃ gx, gx = w.heap.size := ⟨_, rfl⟩
 have hS1 := hS.add #[.int .i64 at_, .int .i64 4, .string id, .string who, .string by1, .string ct, .int .i64 tm, .int .i64 dt] 78
 obtain ⟨w1, hw1⟩ : ∃ W, w.alloc (.cells #[.int .i64 at_, .int .i64 4, .string id, .string who, .string by1, .string ct, .int .i64 tm, .int .i64 dt] 78) = W := ⟨_, rfl⟩
 have hbw1 : Below w.heap.size w w1 := by rw [← hw1]; exact (Below.refl _ _).alloc (Nat.le_refl _) _
 rw [hw1] at hS1
 have bx : Blk w1 w.heap.size 78 #[.int .i64 at_, .int .i64 4, .string id, .string who, .string by1, .string ct, .int .i64 tm, .int .i64 dt] := hS1.nth 0 rfl
 have bg : Blk w1 gd 183 #[.map (some m1), .map (some m2)] := hS1.nth 1 rfl
 have HSP : Hid (∀ W, Below w1.heap.size w1 W → W.cell? ⟨gd, 0, none⟩ = some (.map (some m1)) ∧ W.cell? ⟨gd, 1, none⟩ = some (.map (some m2)) ∧ W.cell? ⟨gx, 1, none⟩ = some (.int .i64 4) ∧ W.cell? ⟨gx, 2, none⟩ = some (.string id) ∧ W.cell? ⟨gx, 3, none⟩ = some (.string who) ∧ W.cell? ⟨gx, 4, none⟩ = some (.string by1) ∧ (Instr.lookup 181 (.map (some m1)) (.string id) false).run Tryz.prog W = .ok (.pointer pv) W ∧ (Instr.lookup 137 (.map (some m2)) (.string by1) false).run Tryz.prog W = .ok (.bool B1) W ∧ (Instr.lookup 137 (.map (some m2)) (.string who) false).run Tryz.prog W = .ok (.bool B2) W) := fun W hW => by
  have hWw := below_call hbw1 hW (by have := hbw1.size; omega)
  have h1 := (hM1.below hWw).look (t := 181) (e := 166) Tryz.underlying9 Tryz.underlying181 (zero_run W) (s := id) (by unfold maxLen; omega)
  have h2 := (hM2.below hWw).look (t := 137) (e := 4) Tryz.underlying9 Tryz.underlying137 (zero_bol W) (s := by1) (by unfold maxLen; omega)
  have h3 := (hM2.below hWw).look (t := 137) (e := 4) Tryz.underlying9 Tryz.underlying137 (zero_bol W) (s := who) (by unfold maxLen; omega)
  rw [hptf] at h1
  rw [bnF_get hK, hB1] at h2
  rw [bnF_get hK, hB2] at h3
  rw [hgx]
  exact ⟨(bg.below hW).cell 0, (bg.below hW).cell 1, (bx.below hW).cell 1, (bx.below hW).cell 2, (bx.below hW).cell 3, (bx.below hW).cell 4, h1, h2, h3⟩
 have hge : ¬ gd = gx := by omega
 have hge2 : ¬ gx = gd := by omega
 rw [← hgx] at hS1
 obtain rfl : B1 = false := by rw [← hB1]; exact hb
 have hb2 : ¬ D.bn by1 = true := by rw [hb]; decide
 have hrn : rnOf D id = some (r, 1) := by rw [ptOf_rn hL, hp]; rfl
 have HO : Hid (o = (turnE ⟨at_, 4, id, who, by1, ct, tm, dt⟩ (r, 1)).map (setR D id)) := Lib.hid (ho.trans (stpE_turn hb (.inr (.inr rfl)) hrn))
 have HL := Lib.hid hL
 have HKD := Lib.hid hK
 have HP := Lib.hid hp
 have HM := Lib.hid (ptOf_mem hp).1
 obtain ⟨hs, hhs⟩ : ∃ z, hwV 1 = z := ⟨_, rfl⟩
 have HHS := Lib.hid hhs
 obtain ⟨rw1, hrw⟩ : ∃ z, r.who = z := ⟨_, rfl⟩
 have HRW := Lib.hid hrw
 obtain rfl : pv = some ⟨g, 0, none⟩ := by rw [hpv, hp]; rfl
 clear ho hB1 hB2 hpv hp hrn hhs hrw
 clear hS hM1 hM2 hptf bx bg hbw1 hiz hwz hbz
 go_enter Tryz.func136, Tryz.ntmps136
 go_upto_region 1 with (fail)
 rw [← hgx]
 clear hw1 hgx
 have hdr : Below w1.heap.size w1 w1.drew := below_drewN (Below.refl _ _) 1
 go_wp2_with fail
 go_region_held3 (fun W => W.cell? ⟨gd, 0, none⟩ = some (.map (some m1)) ∧ W.cell? ⟨gd, 1, none⟩ = some (.map (some m2)) ∧ W.cell? ⟨gx, 1, none⟩ = some (.int .i64 4) ∧ W.cell? ⟨gx, 2, none⟩ = some (.string id) ∧ W.cell? ⟨gx, 3, none⟩ = some (.string who) ∧ W.cell? ⟨gx, 4, none⟩ = some (.string by1) ∧ (Instr.lookup 181 (.map (some m1)) (.string id) false).run Tryz.prog W = .ok (.pointer (some ⟨g, 0, none⟩)) W ∧ (Instr.lookup 137 (.map (some m2)) (.string by1) false).run Tryz.prog W = .ok (.bool false) W ∧ (Instr.lookup 137 (.map (some m2)) (.string who) false).run Tryz.prog W = .ok (.bool B2) W)
  (first | exact HSP.out _ hdr) (fail)
 have hdr2 : Below w1.heap.size w1 w1.drew.drew := below_call hdr (below_drewN (Below.refl _ _) 1) (Nat.le_refl _)
 go_wp2_with fail
 go_region_held3 (fun W => W.cell? ⟨gd, 0, none⟩ = some (.map (some m1)) ∧ W.cell? ⟨gd, 1, none⟩ = some (.map (some m2)) ∧ W.cell? ⟨gx, 1, none⟩ = some (.int .i64 4) ∧ W.cell? ⟨gx, 2, none⟩ = some (.string id) ∧ W.cell? ⟨gx, 3, none⟩ = some (.string who) ∧ W.cell? ⟨gx, 4, none⟩ = some (.string by1) ∧ (Instr.lookup 181 (.map (some m1)) (.string id) false).run Tryz.prog W = .ok (.pointer (some ⟨g, 0, none⟩)) W ∧ (Instr.lookup 137 (.map (some m2)) (.string by1) false).run Tryz.prog W = .ok (.bool false) W ∧ (Instr.lookup 137 (.map (some m2)) (.string who) false).run Tryz.prog W = .ok (.bool B2) W)
  (first | exact HSP.out _ hdr2) (fail)
 have hS2 := hS1.drew.drew
 obtain ⟨w2, hw2⟩ : ∃ W, W = w1.drew.drew := ⟨_, rfl⟩
 rw [← hw2] at hS2 hdr2 ⊢
 obtain ⟨y0, y1, y2, y3, y4, y5, y6, y7, y8⟩ := HSP.out w2 hdr2
 clear hw2 hS1 hdr
 have HS2 := Lib.hid hS2
 have hz8 : Blk w2 g 168 (runC (r, 1)).toArray := (hS2.nth 4 rfl : ∀ y ∈ L, (rRun y).P w2) _ HM.out
 have z3 : w2.cell? ⟨g, 3, none⟩ = some (.string rw1) := by rw [← HRW.out]; exact hz8.cell 3
 have z8 : w2.cell? ⟨g, 8, none⟩ = some (.string hs) := by rw [← HHS.out]; exact hz8.cell 8
 have f8 : w2.frozen? ⟨g, 8, none⟩ = false := hz8.frozen 8
 have l3 : (hs.toList == [98, 97, 99, 107]) = false := by rw [← HHS.out]; exact litH 1 3 (by omega) (by omega)
 have q0 := (eqL_ba who rw1)
 rw [← HRW.out] at q0
 obtain ⟨EQ, hEQ⟩ : ∃ z, decide (who = r.who) = z := ⟨_, rfl⟩
 rw [hEQ] at q0
 rw [HRW.out] at q0
 clear hS2 HSP hdr2 hz8 y6 y7 y8
 cases EQ
 · have HNE : Hid (who ≠ r.who) := Lib.hid (of_decide_eq_false hEQ)
   clear hEQ
   have HX : Hid (o = none) := Lib.hid (HO.out.trans (by
    show (turnE ⟨at_, 4, id, who, by1, ct, tm, dt⟩ (r, 1)).map _ = _
    rw [show turnE ⟨at_, 4, id, who, by1, ct, tm, dt⟩ (r, 1) = none from (by unfold turnE; rw [if_neg (by show ¬ (4 : Int) = 2; decide), if_neg (by show ¬ (4 : Int) = 3; decide), if_neg (fun h => HNE.out h.2)])]
    rfl))
   clear HO
   go_wp2_with fail
   go_quiet (fail)
   go_wp2_with fail
   go_ret
   exact fol_no HX.out HL.out (by unfold dskL; exact (HS2.out.drewN _).tail)
 · have HNE : Hid (who = r.who) := Lib.hid (of_decide_eq_true hEQ)
   clear hEQ
   have HX : Hid (o = some (setR D id 3)) := Lib.hid (HO.out.trans (by
    show (turnE ⟨at_, 4, id, who, by1, ct, tm, dt⟩ (r, 1)).map _ = _
    rw [show turnE ⟨at_, 4, id, who, by1, ct, tm, dt⟩ (r, 1) = some 3 from (by unfold turnE; rw [if_neg (by show ¬ (4 : Int) = 2; decide), if_neg (by show ¬ (4 : Int) = 3; decide), if_pos ⟨(by show ¬ 1 = 3; omega), HNE.out⟩])]
    rfl))
   have HST : Hid (∀ q, Sq w0 ((w2.drewN q).setCell ⟨g, 8, none⟩ (.string (hwV 3))) (dskL gd m1 n m2 n (turnL L g 3) (setR D id 3) l)) := Lib.hid (fun q => by
    have h3 := (((HS2.out.drewN q).tail).front 3 rfl rfl).runTurn HM.out 3
    unfold dskL
    rw [turnL_pt]
    exact ((h3.front 3 rfl rfl).front 3 rfl rfl).front 3 rfl rfl)
   have HLT := Lib.hid (HL.out.turn HKD.out HP.out 3)
   clear HS2
   go_wp2_with fail
   go_quiet (fail)
   go_wp2_with fail
   go_ret
   exact fol_yes HX.out HLT.out (by omega) (by omega) (HST.out _)
set_option maxRecDepth 100000 in
set_option maxHeartbeats 4000000 in
theorem folT4_2_calls (w0 : World) (gd m1 m2 n : Nat) (D : Dsk) (L : List Rpt) (l : List Rsc) (at_ tm dt : Int) (id who by1 ct : ByteArray) (w : World) (hS : Sq w0 w (dskL gd m1 n m2 n L D l)) (hK : KD D) (hL : LD L D) (hx : EvK ⟨at_, 4, id, who, by1, ct, tm, dt⟩) (hb : D.bn by1 = false) (g : Nat) (r : Bev) (hp : ptOf L id = some (g, (r, 2))) :
 Calls Tryz.prog 136 #[.pointer (some ⟨gd, 0, none⟩), .agg #[.int .i64 at_, .int .i64 4, .string id, .string who, .string by1, .string ct, .int .i64 tm, .int .i64 dt]] w (FolD w0 gd m1 m2 n D l (stpE D ⟨at_, 4, id, who, by1, ct, tm, dt⟩) ) := by
 obtain ⟨o, ho⟩ : ∃ o, o = stpE D ⟨at_, 4, id, who, by1, ct, tm, dt⟩ := ⟨_, rfl⟩
 rw [← ho]
 have hiz := hx.iz
 have hwz := hx.wz
 have hbz := hx.bz
 simp only at hiz hwz hbz
 obtain ⟨B1, hB1⟩ : ∃ b, D.bn by1 = b := ⟨_, rfl⟩
 obtain ⟨B2, hB2⟩ : ∃ b, D.bn who = b := ⟨_, rfl⟩
 obtain ⟨pv, hpv⟩ : ∃ p : Option Addr, p = (ptOf L id).map (fun x => (⟨x.1, 0, none⟩ : Addr)) := ⟨_, rfl⟩
 have hptf : (ptF L id).getD (.pointer none) = .pointer pv := by
  rw [hpv]
  unfold ptF
  cases ptOf L id <;> rfl
 unfold dskL at hS
 have hM1 : MapS w 9 m1 n (ptF L) := hS.nth 1 rfl
 have hM2 : MapS w 9 m2 n (bnF D) := hS.nth 2 rfl
 have hgl : gd < w.heap.size := Blk.lt (show Blk w gd _ _ from hS.nth 0 rfl)
 obtain ⟨gx, hgx⟩ : ∃ gx, gx = w.heap.size := ⟨_, rfl⟩
 have hS1 := hS.add #[.int .i64 at_, .int .i64 4, .string id, .string who, .string by1, .string ct, .int .i64 tm, .int .i64 dt] 78
 obtain ⟨w1, hw1⟩ : ∃ W, w.alloc (.cells #[.int .i64 at_, .int .i64 4, .string id, .string who, .string by1, .string ct, .int .i64 tm, .int .i64 dt] 78) = W := ⟨_, rfl⟩
 have hbw1 : Below w.heap.size w w1 := by rw [← hw1]; exact (Below.refl _ _).alloc (Nat.le_refl _) _
 rw [hw1] at hS1
 have bx : Blk w1 w.heap.size 78 #[.int .i64 at_, .int .i64 4, .string id, .string who, .string by1, .string ct, .int .i64 tm, .int .i64 dt] := hS1.nth 0 rfl
 have bg : Blk w1 gd 183 #[.map (some m1), .map (some m2)] := hS1.nth 1 rfl
 have HSP : Hid (∀ W, Below w1.heap.size w1 W → W.cell? ⟨gd, 0, none⟩ = some (.map (some m1)) ∧ W.cell? ⟨gd, 1, none⟩ = some (.map (some m2)) ∧ W.cell? ⟨gx, 1, none⟩ = some (.int .i64 4) ∧ W.cell? ⟨gx, 2, none⟩ = some (.string id) ∧ W.cell? ⟨gx, 3, none⟩ = some (.string who) ∧ W.cell? ⟨gx, 4, none⟩ = some (.string by1) ∧ (Instr.lookup 181 (.map (some m1)) (.string id) false).run Tryz.prog W = .ok (.pointer pv) W ∧ (Instr.lookup 137 (.map (some m2)) (.string by1) false).run Tryz.prog W = .ok (.bool B1) W ∧ (Instr.lookup 137 (.map (some m2)) (.string who) false).run Tryz.prog W = .ok (.bool B2) W) := fun W hW => by
  have hWw := below_call hbw1 hW (by have := hbw1.size; omega)
  have h1 := (hM1.below hWw).look (t := 181) (e := 166) Tryz.underlying9 Tryz.underlying181 (zero_run W) (s := id) (by unfold maxLen; omega)
  have h2 := (hM2.below hWw).look (t := 137) (e := 4) Tryz.underlying9 Tryz.underlying137 (zero_bol W) (s := by1) (by unfold maxLen; omega)
  have h3 := (hM2.below hWw).look (t := 137) (e := 4) Tryz.underlying9 Tryz.underlying137 (zero_bol W) (s := who) (by unfold maxLen; omega)
  rw [hptf] at h1
  rw [bnF_get hK, hB1] at h2
  rw [bnF_get hK, hB2] at h3
  rw [hgx]
  exact ⟨(bg.below hW).cell 0, (bg.below hW).cell 1, (bx.below hW).cell 1, (bx.below hW).cell 2, (bx.below hW).cell 3, (bx.below hW).cell 4, h1, h2, h3⟩
 have hge : ¬ gd = gx := by omega
 have hge2 : ¬ gx = gd := by omega
 rw [← hgx] at hS1
 obtain rfl : B1 = false := by rw [← hB1]; exact hb
 have hb2 : ¬ D.bn by1 = true := by rw [hb]; decide
 have hrn : rnOf D id = some (r, 2) := by rw [ptOf_rn hL, hp]; rfl
 have HO : Hid (o = (turnE ⟨at_, 4, id, who, by1, ct, tm, dt⟩ (r, 2)).map (setR D id)) := Lib.hid (ho.trans (stpE_turn hb (.inr (.inr rfl)) hrn))
 have HL := Lib.hid hL
 have HKD := Lib.hid hK
 have HP := Lib.hid hp
 have HM := Lib.hid (ptOf_mem hp).1
 obtain ⟨hs, hhs⟩ : ∃ z, hwV 2 = z := ⟨_, rfl⟩
 have HHS := Lib.hid hhs
 obtain ⟨rw1, hrw⟩ : ∃ z, r.who = z := ⟨_, rfl⟩
 have HRW := Lib.hid hrw
 obtain rfl : pv = some ⟨g, 0, none⟩ := by rw [hpv, hp]; rfl
 clear ho hB1 hB2 hpv hp hrn hhs hrw
 clear hS hM1 hM2 hptf bx bg hbw1 hiz hwz hbz
 go_enter Tryz.func136, Tryz.ntmps136
 go_upto_region 1 with (fail)
 rw [← hgx]
 clear hw1 hgx
 have hdr : Below w1.heap.size w1 w1.drew := below_drewN (Below.refl _ _) 1
 go_wp2_with fail
 go_region_held3 (fun W => W.cell? ⟨gd, 0, none⟩ = some (.map (some m1)) ∧ W.cell? ⟨gd, 1, none⟩ = some (.map (some m2)) ∧ W.cell? ⟨gx, 1, none⟩ = some (.int .i64 4) ∧ W.cell? ⟨gx, 2, none⟩ = some (.string id) ∧ W.cell? ⟨gx, 3, none⟩ = some (.string who) ∧ W.cell? ⟨gx, 4, none⟩ = some (.string by1) ∧ (Instr.lookup 181 (.map (some m1)) (.string id) false).run Tryz.prog W = .ok (.pointer (some ⟨g, 0, none⟩)) W ∧ (Instr.lookup 137 (.map (some m2)) (.string by1) false).run Tryz.prog W = .ok (.bool false) W ∧ (Instr.lookup 137 (.map (some m2)) (.string who) false).run Tryz.prog W = .ok (.bool B2) W)
  (first | exact HSP.out _ hdr) (fail)
 have hdr2 : Below w1.heap.size w1 w1.drew.drew := below_call hdr (below_drewN (Below.refl _ _) 1) (Nat.le_refl _)
 go_wp2_with fail
 go_region_held3 (fun W => W.cell? ⟨gd, 0, none⟩ = some (.map (some m1)) ∧ W.cell? ⟨gd, 1, none⟩ = some (.map (some m2)) ∧ W.cell? ⟨gx, 1, none⟩ = some (.int .i64 4) ∧ W.cell? ⟨gx, 2, none⟩ = some (.string id) ∧ W.cell? ⟨gx, 3, none⟩ = some (.string who) ∧ W.cell? ⟨gx, 4, none⟩ = some (.string by1) ∧ (Instr.lookup 181 (.map (some m1)) (.string id) false).run Tryz.prog W = .ok (.pointer (some ⟨g, 0, none⟩)) W ∧ (Instr.lookup 137 (.map (some m2)) (.string by1) false).run Tryz.prog W = .ok (.bool false) W ∧ (Instr.lookup 137 (.map (some m2)) (.string who) false).run Tryz.prog W = .ok (.bool B2) W)
  (first | exact HSP.out _ hdr2) (fail)
 have hS2 := hS1.drew.drew
 obtain ⟨w2, hw2⟩ : ∃ W, W = w1.drew.drew := ⟨_, rfl⟩
 rw [← hw2] at hS2 hdr2 ⊢
 obtain ⟨y0, y1, y2, y3, y4, y5, y6, y7, y8⟩ := HSP.out w2 hdr2
 clear hw2 hS1 hdr
 have HS2 := Lib.hid hS2
 have hz8 : Blk w2 g 168 (runC (r, 2)).toArray := (hS2.nth 4 rfl : ∀ y ∈ L, (rRun y).P w2) _ HM.out
 have z3 : w2.cell? ⟨g, 3, none⟩ = some (.string rw1) := by rw [← HRW.out]; exact hz8.cell 3
 have z8 : w2.cell? ⟨g, 8, none⟩ = some (.string hs) := by rw [← HHS.out]; exact hz8.cell 8
 have f8 : w2.frozen? ⟨g, 8, none⟩ = false := hz8.frozen 8
 have l3 : (hs.toList == [98, 97, 99, 107]) = false := by rw [← HHS.out]; exact litH 2 3 (by omega) (by omega)
 have q0 := (eqL_ba who rw1)
 rw [← HRW.out] at q0
 obtain ⟨EQ, hEQ⟩ : ∃ z, decide (who = r.who) = z := ⟨_, rfl⟩
 rw [hEQ] at q0
 rw [HRW.out] at q0
 clear hS2 HSP hdr2 hz8 y6 y7 y8
 cases EQ
 · have HNE : Hid (who ≠ r.who) := Lib.hid (of_decide_eq_false hEQ)
   clear hEQ
   have HX : Hid (o = none) := Lib.hid (HO.out.trans (by
    show (turnE ⟨at_, 4, id, who, by1, ct, tm, dt⟩ (r, 2)).map _ = _
    rw [show turnE ⟨at_, 4, id, who, by1, ct, tm, dt⟩ (r, 2) = none from (by unfold turnE; rw [if_neg (by show ¬ (4 : Int) = 2; decide), if_neg (by show ¬ (4 : Int) = 3; decide), if_neg (fun h => HNE.out h.2)])]
    rfl))
   clear HO
   go_wp2_with fail
   go_quiet (fail)
   go_wp2_with fail
   go_ret
   exact fol_no HX.out HL.out (by unfold dskL; exact (HS2.out.drewN _).tail)
 · have HNE : Hid (who = r.who) := Lib.hid (of_decide_eq_true hEQ)
   clear hEQ
   have HX : Hid (o = some (setR D id 3)) := Lib.hid (HO.out.trans (by
    show (turnE ⟨at_, 4, id, who, by1, ct, tm, dt⟩ (r, 2)).map _ = _
    rw [show turnE ⟨at_, 4, id, who, by1, ct, tm, dt⟩ (r, 2) = some 3 from (by unfold turnE; rw [if_neg (by show ¬ (4 : Int) = 2; decide), if_neg (by show ¬ (4 : Int) = 3; decide), if_pos ⟨(by show ¬ 2 = 3; omega), HNE.out⟩])]
    rfl))
   have HST : Hid (∀ q, Sq w0 ((w2.drewN q).setCell ⟨g, 8, none⟩ (.string (hwV 3))) (dskL gd m1 n m2 n (turnL L g 3) (setR D id 3) l)) := Lib.hid (fun q => by
    have h3 := (((HS2.out.drewN q).tail).front 3 rfl rfl).runTurn HM.out 3
    unfold dskL
    rw [turnL_pt]
    exact ((h3.front 3 rfl rfl).front 3 rfl rfl).front 3 rfl rfl)
   have HLT := Lib.hid (HL.out.turn HKD.out HP.out 3)
   clear HS2
   go_wp2_with fail
   go_quiet (fail)
   go_wp2_with fail
   go_ret
   exact fol_yes HX.out HLT.out (by omega) (by omega) (HST.out _)
set_option maxRecDepth 100000 in
set_option maxHeartbeats 4000000 in
theorem folT4_3_calls (w0 : World) (gd m1 m2 n : Nat) (D : Dsk) (L : List Rpt) (l : List Rsc) (at_ tm dt : Int) (id who by1 ct : ByteArray) (w : World) (hS : Sq w0 w (dskL gd m1 n m2 n L D l)) (hK : KD D) (hL : LD L D) (hx : EvK ⟨at_, 4, id, who, by1, ct, tm, dt⟩) (hb : D.bn by1 = false) (g : Nat) (r : Bev) (hp : ptOf L id = some (g, (r, 3))) :
 Calls Tryz.prog 136 #[.pointer (some ⟨gd, 0, none⟩), .agg #[.int .i64 at_, .int .i64 4, .string id, .string who, .string by1, .string ct, .int .i64 tm, .int .i64 dt]] w (FolD w0 gd m1 m2 n D l (stpE D ⟨at_, 4, id, who, by1, ct, tm, dt⟩) ) := by
 obtain ⟨o, ho⟩ : ∃ o, o = stpE D ⟨at_, 4, id, who, by1, ct, tm, dt⟩ := ⟨_, rfl⟩
 rw [← ho]
 have hiz := hx.iz
 have hwz := hx.wz
 have hbz := hx.bz
 simp only at hiz hwz hbz
 obtain ⟨B1, hB1⟩ : ∃ b, D.bn by1 = b := ⟨_, rfl⟩
 obtain ⟨B2, hB2⟩ : ∃ b, D.bn who = b := ⟨_, rfl⟩
 obtain ⟨pv, hpv⟩ : ∃ p : Option Addr, p = (ptOf L id).map (fun x => (⟨x.1, 0, none⟩ : Addr)) := ⟨_, rfl⟩
 have hptf : (ptF L id).getD (.pointer none) = .pointer pv := by
  rw [hpv]
  unfold ptF
  cases ptOf L id <;> rfl
 unfold dskL at hS
 have hM1 : MapS w 9 m1 n (ptF L) := hS.nth 1 rfl
 have hM2 : MapS w 9 m2 n (bnF D) := hS.nth 2 rfl
 have hgl : gd < w.heap.size := Blk.lt (show Blk w gd _ _ from hS.nth 0 rfl)
 obtain ⟨gx, hgx⟩ : ∃ gx, gx = w.heap.size := ⟨_, rfl⟩
 have hS1 := hS.add #[.int .i64 at_, .int .i64 4, .string id, .string who, .string by1, .string ct, .int .i64 tm, .int .i64 dt] 78
 obtain ⟨w1, hw1⟩ : ∃ W, w.alloc (.cells #[.int .i64 at_, .int .i64 4, .string id, .string who, .string by1, .string ct, .int .i64 tm, .int .i64 dt] 78) = W := ⟨_, rfl⟩
 have hbw1 : Below w.heap.size w w1 := by rw [← hw1]; exact (Below.refl _ _).alloc (Nat.le_refl _) _
 rw [hw1] at hS1
 have bx : Blk w1 w.heap.size 78 #[.int .i64 at_, .int .i64 4, .string id, .string who, .string by1, .string ct, .int .i64 tm, .int .i64 dt] := hS1.nth 0 rfl
 have bg : Blk w1 gd 183 #[.map (some m1), .map (some m2)] := hS1.nth 1 rfl
 have HSP : Hid (∀ W, Below w1.heap.size w1 W → W.cell? ⟨gd, 0, none⟩ = some (.map (some m1)) ∧ W.cell? ⟨gd, 1, none⟩ = some (.map (some m2)) ∧ W.cell? ⟨gx, 1, none⟩ = some (.int .i64 4) ∧ W.cell? ⟨gx, 2, none⟩ = some (.string id) ∧ W.cell? ⟨gx, 3, none⟩ = some (.string who) ∧ W.cell? ⟨gx, 4, none⟩ = some (.string by1) ∧ (Instr.lookup 181 (.map (some m1)) (.string id) false).run Tryz.prog W = .ok (.pointer pv) W ∧ (Instr.lookup 137 (.map (some m2)) (.string by1) false).run Tryz.prog W = .ok (.bool B1) W ∧ (Instr.lookup 137 (.map (some m2)) (.string who) false).run Tryz.prog W = .ok (.bool B2) W) := fun W hW => by
  have hWw := below_call hbw1 hW (by have := hbw1.size; omega)
  have h1 := (hM1.below hWw).look (t := 181) (e := 166) Tryz.underlying9 Tryz.underlying181 (zero_run W) (s := id) (by unfold maxLen; omega)
  have h2 := (hM2.below hWw).look (t := 137) (e := 4) Tryz.underlying9 Tryz.underlying137 (zero_bol W) (s := by1) (by unfold maxLen; omega)
  have h3 := (hM2.below hWw).look (t := 137) (e := 4) Tryz.underlying9 Tryz.underlying137 (zero_bol W) (s := who) (by unfold maxLen; omega)
  rw [hptf] at h1
  rw [bnF_get hK, hB1] at h2
  rw [bnF_get hK, hB2] at h3
  rw [hgx]
  exact ⟨(bg.below hW).cell 0, (bg.below hW).cell 1, (bx.below hW).cell 1, (bx.below hW).cell 2, (bx.below hW).cell 3, (bx.below hW).cell 4, h1, h2, h3⟩
 have hge : ¬ gd = gx := by omega
 have hge2 : ¬ gx = gd := by omega
 rw [← hgx] at hS1
 obtain rfl : B1 = false := by rw [← hB1]; exact hb
 have hb2 : ¬ D.bn by1 = true := by rw [hb]; decide
 have hrn : rnOf D id = some (r, 3) := by rw [ptOf_rn hL, hp]; rfl
 have HO : Hid (o = (turnE ⟨at_, 4, id, who, by1, ct, tm, dt⟩ (r, 3)).map (setR D id)) := Lib.hid (ho.trans (stpE_turn hb (.inr (.inr rfl)) hrn))
 have HL := Lib.hid hL
 have HKD := Lib.hid hK
 have HP := Lib.hid hp
 have HM := Lib.hid (ptOf_mem hp).1
 obtain ⟨hs, hhs⟩ : ∃ z, hwV 3 = z := ⟨_, rfl⟩
 have HHS := Lib.hid hhs
 obtain ⟨rw1, hrw⟩ : ∃ z, r.who = z := ⟨_, rfl⟩
 have HRW := Lib.hid hrw
 obtain rfl : pv = some ⟨g, 0, none⟩ := by rw [hpv, hp]; rfl
 clear ho hB1 hB2 hpv hp hrn hhs hrw
 clear hS hM1 hM2 hptf bx bg hbw1 hiz hwz hbz
 go_enter Tryz.func136, Tryz.ntmps136
 go_upto_region 1 with (fail)
 rw [← hgx]
 clear hw1 hgx
 have hdr : Below w1.heap.size w1 w1.drew := below_drewN (Below.refl _ _) 1
 go_wp2_with fail
 go_region_held3 (fun W => W.cell? ⟨gd, 0, none⟩ = some (.map (some m1)) ∧ W.cell? ⟨gd, 1, none⟩ = some (.map (some m2)) ∧ W.cell? ⟨gx, 1, none⟩ = some (.int .i64 4) ∧ W.cell? ⟨gx, 2, none⟩ = some (.string id) ∧ W.cell? ⟨gx, 3, none⟩ = some (.string who) ∧ W.cell? ⟨gx, 4, none⟩ = some (.string by1) ∧ (Instr.lookup 181 (.map (some m1)) (.string id) false).run Tryz.prog W = .ok (.pointer (some ⟨g, 0, none⟩)) W ∧ (Instr.lookup 137 (.map (some m2)) (.string by1) false).run Tryz.prog W = .ok (.bool false) W ∧ (Instr.lookup 137 (.map (some m2)) (.string who) false).run Tryz.prog W = .ok (.bool B2) W)
  (first | exact HSP.out _ hdr) (fail)
 have hdr2 : Below w1.heap.size w1 w1.drew.drew := below_call hdr (below_drewN (Below.refl _ _) 1) (Nat.le_refl _)
 go_wp2_with fail
 go_region_held3 (fun W => W.cell? ⟨gd, 0, none⟩ = some (.map (some m1)) ∧ W.cell? ⟨gd, 1, none⟩ = some (.map (some m2)) ∧ W.cell? ⟨gx, 1, none⟩ = some (.int .i64 4) ∧ W.cell? ⟨gx, 2, none⟩ = some (.string id) ∧ W.cell? ⟨gx, 3, none⟩ = some (.string who) ∧ W.cell? ⟨gx, 4, none⟩ = some (.string by1) ∧ (Instr.lookup 181 (.map (some m1)) (.string id) false).run Tryz.prog W = .ok (.pointer (some ⟨g, 0, none⟩)) W ∧ (Instr.lookup 137 (.map (some m2)) (.string by1) false).run Tryz.prog W = .ok (.bool false) W ∧ (Instr.lookup 137 (.map (some m2)) (.string who) false).run Tryz.prog W = .ok (.bool B2) W)
  (first | exact HSP.out _ hdr2) (fail)
 have hS2 := hS1.drew.drew
 obtain ⟨w2, hw2⟩ : ∃ W, W = w1.drew.drew := ⟨_, rfl⟩
 rw [← hw2] at hS2 hdr2 ⊢
 obtain ⟨y0, y1, y2, y3, y4, y5, y6, y7, y8⟩ := HSP.out w2 hdr2
 clear hw2 hS1 hdr
 have HS2 := Lib.hid hS2
 have hz8 : Blk w2 g 168 (runC (r, 3)).toArray := (hS2.nth 4 rfl : ∀ y ∈ L, (rRun y).P w2) _ HM.out
 have z3 : w2.cell? ⟨g, 3, none⟩ = some (.string rw1) := by rw [← HRW.out]; exact hz8.cell 3
 have z8 : w2.cell? ⟨g, 8, none⟩ = some (.string hs) := by rw [← HHS.out]; exact hz8.cell 8
 have f8 : w2.frozen? ⟨g, 8, none⟩ = false := hz8.frozen 8
 have l3 : (hs.toList == [98, 97, 99, 107]) = true := by rw [← HHS.out]; exact litH 3 3 (by omega) (by omega)
 have q0 := (eqL_ba who rw1)
 rw [← HRW.out] at q0
 obtain ⟨EQ, hEQ⟩ : ∃ z, decide (who = r.who) = z := ⟨_, rfl⟩
 rw [hEQ] at q0
 rw [HRW.out] at q0
 clear hS2 HSP hdr2 hz8 y6 y7 y8
 cases EQ
 · have HNE : Hid (who ≠ r.who) := Lib.hid (of_decide_eq_false hEQ)
   clear hEQ
   have HX : Hid (o = none) := Lib.hid (HO.out.trans (by
    show (turnE ⟨at_, 4, id, who, by1, ct, tm, dt⟩ (r, 3)).map _ = _
    rw [show turnE ⟨at_, 4, id, who, by1, ct, tm, dt⟩ (r, 3) = none from (by unfold turnE; rw [if_neg (by show ¬ (4 : Int) = 2; decide), if_neg (by show ¬ (4 : Int) = 3; decide), if_neg (fun h => by have h1 := h.1; simp at h1)])]
    rfl))
   clear HO
   go_wp2_with fail
   go_quiet (fail)
   go_wp2_with fail
   go_ret
   exact fol_no HX.out HL.out (by unfold dskL; exact (HS2.out.drewN _).tail)
 · have HNE : Hid (who = r.who) := Lib.hid (of_decide_eq_true hEQ)
   clear hEQ
   have HX : Hid (o = none) := Lib.hid (HO.out.trans (by
    show (turnE ⟨at_, 4, id, who, by1, ct, tm, dt⟩ (r, 3)).map _ = _
    rw [show turnE ⟨at_, 4, id, who, by1, ct, tm, dt⟩ (r, 3) = none from (by unfold turnE; rw [if_neg (by show ¬ (4 : Int) = 2; decide), if_neg (by show ¬ (4 : Int) = 3; decide), if_neg (fun h => by have h1 := h.1; simp at h1)])]
    rfl))
   clear HO
   go_wp2_with fail
   go_quiet (fail)
   go_wp2_with fail
   go_ret
   exact fol_no HX.out HL.out (by unfold dskL; exact (HS2.out.drewN _).tail)
end Go.Proofs.YtapgnaimbgjcnaaGreatDoor
