/-
  board.(*desk).follow at bans; the whole (Printed by gen_dk2.py.)
-/
import Derived.Test.YtapgnaimbgjcnaaGreatDoorZDk3
import Derived.Test.YtapgnaimbgjcnaaGreatDoorZDk3b
import Derived.Deep.RegionHeld3
import Derived.RegionTactic
import Derived.Deep.DeepCutAuto
import Derived.Deep.CutBlock
namespace Go.Proofs.YtapgnaimbgjcnaaGreatDoor
open Go Go.RowKit
attribute [local go_sem ↓] Go.wp_at_zero Go.wp_at_succ
set_option maxRecDepth 100000 in
set_option maxHeartbeats 4000000 in
theorem folX5_no_calls (w0 : World) (gd m1 m2 n : Nat) (D : Dsk) (L : List Rpt) (l : List Rsc) (at_ tm dt : Int) (id who by1 ct : ByteArray) (w : World) (hS : Sq w0 w (dskL gd m1 n m2 n L D l)) (hK : KD D) (hL : LD L D) (hx : EvK ⟨at_, 5, id, who, by1, ct, tm, dt⟩) (hb : D.bn by1 = false) (hw : D.bn who = true) :
 Calls Tryz.prog 136 #[.pointer (some ⟨gd, 0, none⟩), .agg #[.int .i64 at_, .int .i64 5, .string id, .string who, .string by1, .string ct, .int .i64 tm, .int .i64 dt]] w (FolD w0 gd m1 m2 n D l (stpE D ⟨at_, 5, id, who, by1, ct, tm, dt⟩) ) := by
 obtain ⟨o, ho⟩ : ∃ o, o = stpE D ⟨at_, 5, id, who, by1, ct, tm, dt⟩ := ⟨_, rfl⟩
 rw [← ho]
 have hiz := hx.iz
 have hwz := hx.wz
 have hbz := hx.bz
 simp only at hiz hwz hbz
 obtain ⟨B1, hB1⟩ : ∃ b, D.bn by1 = b := ⟨_, rfl⟩
 obtain ⟨B2, hB2⟩ : ∃ b, D.bn who = b := ⟨_, rfl⟩
 obtain ⟨pv, hpv⟩ : ∃ p : Option Addr, p = (ptOf L id).map (fun x => (⟨x.1, 0, none⟩ : Addr)) := ⟨_, rfl⟩
 have hptf : (ptF L id).getD (.pointer none) = .pointer pv := by
  rw [hpv]
  unfold ptF
  cases ptOf L id <;> rfl
 unfold dskL at hS
 have hM1 : MapS w 9 m1 n (ptF L) := hS.nth 1 rfl
 have hM2 : MapS w 9 m2 n (bnF D) := hS.nth 2 rfl
 have hgl : gd < w.heap.size := Blk.lt (show Blk w gd _ _ from hS.nth 0 rfl)
 obtain ⟨gx, hgx⟩ : ∃ gx, gx = w.heap.size := ⟨_, rfl⟩
 have hS1 := hS.add #[.int .i64 at_, .int .i64 5, .string id, .string who, .string by1, .string ct, .int .i64 tm, .int .i64 dt] 78
 obtain ⟨w1, hw1⟩ : ∃ W, w.alloc (.cells #[.int .i64 at_, .int .i64 5, .string id, .string who, .string by1, .string ct, .int .i64 tm, .int .i64 dt] 78) = W := ⟨_, rfl⟩
 have hbw1 : Below w.heap.size w w1 := by rw [← hw1]; exact (Below.refl _ _).alloc (Nat.le_refl _) _
 rw [hw1] at hS1
 have bx : Blk w1 w.heap.size 78 #[.int .i64 at_, .int .i64 5, .string id, .string who, .string by1, .string ct, .int .i64 tm, .int .i64 dt] := hS1.nth 0 rfl
 have bg : Blk w1 gd 183 #[.map (some m1), .map (some m2)] := hS1.nth 1 rfl
 have HSP : Hid (∀ W, Below w1.heap.size w1 W → W.cell? ⟨gd, 0, none⟩ = some (.map (some m1)) ∧ W.cell? ⟨gd, 1, none⟩ = some (.map (some m2)) ∧ W.cell? ⟨gx, 1, none⟩ = some (.int .i64 5) ∧ W.cell? ⟨gx, 2, none⟩ = some (.string id) ∧ W.cell? ⟨gx, 3, none⟩ = some (.string who) ∧ W.cell? ⟨gx, 4, none⟩ = some (.string by1) ∧ (Instr.lookup 181 (.map (some m1)) (.string id) false).run Tryz.prog W = .ok (.pointer pv) W ∧ (Instr.lookup 137 (.map (some m2)) (.string by1) false).run Tryz.prog W = .ok (.bool B1) W ∧ (Instr.lookup 137 (.map (some m2)) (.string who) false).run Tryz.prog W = .ok (.bool B2) W) := fun W hW => by
  have hWw := below_call hbw1 hW (by have := hbw1.size; omega)
  have h1 := (hM1.below hWw).look (t := 181) (e := 166) Tryz.underlying9 Tryz.underlying181 (zero_run W) (s := id) (by unfold maxLen; omega)
  have h2 := (hM2.below hWw).look (t := 137) (e := 4) Tryz.underlying9 Tryz.underlying137 (zero_bol W) (s := by1) (by unfold maxLen; omega)
  have h3 := (hM2.below hWw).look (t := 137) (e := 4) Tryz.underlying9 Tryz.underlying137 (zero_bol W) (s := who) (by unfold maxLen; omega)
  rw [hptf] at h1
  rw [bnF_get hK, hB1] at h2
  rw [bnF_get hK, hB2] at h3
  rw [hgx]
  exact ⟨(bg.below hW).cell 0, (bg.below hW).cell 1, (bx.below hW).cell 1, (bx.below hW).cell 2, (bx.below hW).cell 3, (bx.below hW).cell 4, h1, h2, h3⟩
 have hge : ¬ gd = gx := by omega
 have hge2 : ¬ gx = gd := by omega
 rw [← hgx] at hS1
 obtain rfl : B1 = false := by rw [← hB1]; exact hb
 have hb2 : ¬ D.bn by1 = true := by rw [hb]; decide
 obtain rfl : B2 = true := by rw [← hB2]; exact hw
 have HO : Hid (o = none) := Lib.hid (ho.trans ((stpE_ban hb (.inl rfl)).trans (if_pos (hw.trans (show (decide ((5 : Int) = 5)) = true from rfl).symm))))
 have HL := Lib.hid hL
 have HWZ := Lib.hid hwz
 clear ho hB1 hB2 hpv
 clear hS hM1 hM2 hptf bx bg hbw1 hiz hwz hbz
 go_enter Tryz.func136, Tryz.ntmps136
 go_upto_region 1 with (fail)
 rw [← hgx]
 clear hw1 hgx
 have hdr : Below w1.heap.size w1 w1.drew := below_drewN (Below.refl _ _) 1
 go_wp2_with fail
 go_region_held3 (fun W => W.cell? ⟨gd, 0, none⟩ = some (.map (some m1)) ∧ W.cell? ⟨gd, 1, none⟩ = some (.map (some m2)) ∧ W.cell? ⟨gx, 1, none⟩ = some (.int .i64 5) ∧ W.cell? ⟨gx, 2, none⟩ = some (.string id) ∧ W.cell? ⟨gx, 3, none⟩ = some (.string who) ∧ W.cell? ⟨gx, 4, none⟩ = some (.string by1) ∧ (Instr.lookup 181 (.map (some m1)) (.string id) false).run Tryz.prog W = .ok (.pointer pv) W ∧ (Instr.lookup 137 (.map (some m2)) (.string by1) false).run Tryz.prog W = .ok (.bool false) W ∧ (Instr.lookup 137 (.map (some m2)) (.string who) false).run Tryz.prog W = .ok (.bool true) W)
  (first | exact HSP.out _ hdr) (fail)
 have hdr2 : Below w1.heap.size w1 w1.drew.drew := below_call hdr (below_drewN (Below.refl _ _) 1) (Nat.le_refl _)
 go_wp2_with fail
 go_region_held3 (fun W => W.cell? ⟨gd, 0, none⟩ = some (.map (some m1)) ∧ W.cell? ⟨gd, 1, none⟩ = some (.map (some m2)) ∧ W.cell? ⟨gx, 1, none⟩ = some (.int .i64 5) ∧ W.cell? ⟨gx, 2, none⟩ = some (.string id) ∧ W.cell? ⟨gx, 3, none⟩ = some (.string who) ∧ W.cell? ⟨gx, 4, none⟩ = some (.string by1) ∧ (Instr.lookup 181 (.map (some m1)) (.string id) false).run Tryz.prog W = .ok (.pointer pv) W ∧ (Instr.lookup 137 (.map (some m2)) (.string by1) false).run Tryz.prog W = .ok (.bool false) W ∧ (Instr.lookup 137 (.map (some m2)) (.string who) false).run Tryz.prog W = .ok (.bool true) W)
  (first | exact HSP.out _ hdr2) (fail)
 have hS2 := hS1.drew.drew
 obtain ⟨w2, hw2⟩ : ∃ W, W = w1.drew.drew := ⟨_, rfl⟩
 rw [← hw2] at hS2 hdr2 ⊢
 obtain ⟨y0, y1, y2, y3, y4, y5, y6, y7, y8⟩ := HSP.out w2 hdr2
 clear hw2 hS1 hdr
 have HS2 := Lib.hid hS2
 have HSP2 := Lib.hid (HSP.out w2.drew (below_call hdr2 (below_drewN (Below.refl _ _) 1) (Nat.le_refl _)))
 clear hS2 hdr2
 go_wp2_with fail
 go_region_held3 (fun W => W.cell? ⟨gd, 0, none⟩ = some (.map (some m1)) ∧ W.cell? ⟨gd, 1, none⟩ = some (.map (some m2)) ∧ W.cell? ⟨gx, 1, none⟩ = some (.int .i64 5) ∧ W.cell? ⟨gx, 2, none⟩ = some (.string id) ∧ W.cell? ⟨gx, 3, none⟩ = some (.string who) ∧ W.cell? ⟨gx, 4, none⟩ = some (.string by1) ∧ (Instr.lookup 181 (.map (some m1)) (.string id) false).run Tryz.prog W = .ok (.pointer pv) W ∧ (Instr.lookup 137 (.map (some m2)) (.string by1) false).run Tryz.prog W = .ok (.bool false) W ∧ (Instr.lookup 137 (.map (some m2)) (.string who) false).run Tryz.prog W = .ok (.bool true) W)
  (first | exact HSP2.out) (fail)
 go_wp2_with fail
 go_ret
 exact fol_no HO.out HL.out (by unfold dskL; exact (HS2.out.drewN _).tail)
set_option maxRecDepth 100000 in
set_option maxHeartbeats 4000000 in
theorem folX5_calls (w0 : World) (gd m1 m2 n : Nat) (D : Dsk) (L : List Rpt) (l : List Rsc) (at_ tm dt : Int) (id who by1 ct : ByteArray) (w : World) (hS : Sq w0 w (dskL gd m1 n m2 n L D l)) (hK : KD D) (hL : LD L D) (hn : n ≤ 100000) (hx : EvK ⟨at_, 5, id, who, by1, ct, tm, dt⟩) (hb : D.bn by1 = false) (hw : D.bn who = false) :
 Calls Tryz.prog 136 #[.pointer (some ⟨gd, 0, none⟩), .agg #[.int .i64 at_, .int .i64 5, .string id, .string who, .string by1, .string ct, .int .i64 tm, .int .i64 dt]] w (FolD w0 gd m1 m2 n D l (stpE D ⟨at_, 5, id, who, by1, ct, tm, dt⟩) ) := by
 obtain ⟨o, ho⟩ : ∃ o, o = stpE D ⟨at_, 5, id, who, by1, ct, tm, dt⟩ := ⟨_, rfl⟩
 rw [← ho]
 have hiz := hx.iz
 have hwz := hx.wz
 have hbz := hx.bz
 simp only at hiz hwz hbz
 obtain ⟨B1, hB1⟩ : ∃ b, D.bn by1 = b := ⟨_, rfl⟩
 obtain ⟨B2, hB2⟩ : ∃ b, D.bn who = b := ⟨_, rfl⟩
 obtain ⟨pv, hpv⟩ : ∃ p : Option Addr, p = (ptOf L id).map (fun x => (⟨x.1, 0, none⟩ : Addr)) := ⟨_, rfl⟩
 have hptf : (ptF L id).getD (.pointer none) = .pointer pv := by
  rw [hpv]
  unfold ptF
  cases ptOf L id <;> rfl
 unfold dskL at hS
 have hM1 : MapS w 9 m1 n (ptF L) := hS.nth 1 rfl
 have hM2 : MapS w 9 m2 n (bnF D) := hS.nth 2 rfl
 have hgl : gd < w.heap.size := Blk.lt (show Blk w gd _ _ from hS.nth 0 rfl)
 obtain ⟨gx, hgx⟩ : ∃ gx, gx = w.heap.size := ⟨_, rfl⟩
 have hS1 := hS.add #[.int .i64 at_, .int .i64 5, .string id, .string who, .string by1, .string ct, .int .i64 tm, .int .i64 dt] 78
 obtain ⟨w1, hw1⟩ : ∃ W, w.alloc (.cells #[.int .i64 at_, .int .i64 5, .string id, .string who, .string by1, .string ct, .int .i64 tm, .int .i64 dt] 78) = W := ⟨_, rfl⟩
 have hbw1 : Below w.heap.size w w1 := by rw [← hw1]; exact (Below.refl _ _).alloc (Nat.le_refl _) _
 rw [hw1] at hS1
 have bx : Blk w1 w.heap.size 78 #[.int .i64 at_, .int .i64 5, .string id, .string who, .string by1, .string ct, .int .i64 tm, .int .i64 dt] := hS1.nth 0 rfl
 have bg : Blk w1 gd 183 #[.map (some m1), .map (some m2)] := hS1.nth 1 rfl
 have HSP : Hid (∀ W, Below w1.heap.size w1 W → W.cell? ⟨gd, 0, none⟩ = some (.map (some m1)) ∧ W.cell? ⟨gd, 1, none⟩ = some (.map (some m2)) ∧ W.cell? ⟨gx, 1, none⟩ = some (.int .i64 5) ∧ W.cell? ⟨gx, 2, none⟩ = some (.string id) ∧ W.cell? ⟨gx, 3, none⟩ = some (.string who) ∧ W.cell? ⟨gx, 4, none⟩ = some (.string by1) ∧ (Instr.lookup 181 (.map (some m1)) (.string id) false).run Tryz.prog W = .ok (.pointer pv) W ∧ (Instr.lookup 137 (.map (some m2)) (.string by1) false).run Tryz.prog W = .ok (.bool B1) W ∧ (Instr.lookup 137 (.map (some m2)) (.string who) false).run Tryz.prog W = .ok (.bool B2) W) := fun W hW => by
  have hWw := below_call hbw1 hW (by have := hbw1.size; omega)
  have h1 := (hM1.below hWw).look (t := 181) (e := 166) Tryz.underlying9 Tryz.underlying181 (zero_run W) (s := id) (by unfold maxLen; omega)
  have h2 := (hM2.below hWw).look (t := 137) (e := 4) Tryz.underlying9 Tryz.underlying137 (zero_bol W) (s := by1) (by unfold maxLen; omega)
  have h3 := (hM2.below hWw).look (t := 137) (e := 4) Tryz.underlying9 Tryz.underlying137 (zero_bol W) (s := who) (by unfold maxLen; omega)
  rw [hptf] at h1
  rw [bnF_get hK, hB1] at h2
  rw [bnF_get hK, hB2] at h3
  rw [hgx]
  exact ⟨(bg.below hW).cell 0, (bg.below hW).cell 1, (bx.below hW).cell 1, (bx.below hW).cell 2, (bx.below hW).cell 3, (bx.below hW).cell 4, h1, h2, h3⟩
 have hge : ¬ gd = gx := by omega
 have hge2 : ¬ gx = gd := by omega
 rw [← hgx] at hS1
 obtain rfl : B1 = false := by rw [← hB1]; exact hb
 have hb2 : ¬ D.bn by1 = true := by rw [hb]; decide
 obtain rfl : B2 = false := by rw [← hB2]; exact hw
 have HO : Hid (o = some (setB D who true)) := Lib.hid (ho.trans ((stpE_ban hb (.inl rfl)).trans (if_neg (by show ¬ D.bn who = decide ((5 : Int) = 5); rw [hw]; decide))))
 have HL := Lib.hid hL
 have HWZ := Lib.hid hwz
 clear ho hB1 hB2 hpv
 clear hS hM1 hM2 hptf bx bg hbw1 hiz hwz hbz
 go_enter Tryz.func136, Tryz.ntmps136
 go_upto_region 1 with (fail)
 rw [← hgx]
 clear hw1 hgx
 have hdr : Below w1.heap.size w1 w1.drew := below_drewN (Below.refl _ _) 1
 go_wp2_with fail
 go_region_held3 (fun W => W.cell? ⟨gd, 0, none⟩ = some (.map (some m1)) ∧ W.cell? ⟨gd, 1, none⟩ = some (.map (some m2)) ∧ W.cell? ⟨gx, 1, none⟩ = some (.int .i64 5) ∧ W.cell? ⟨gx, 2, none⟩ = some (.string id) ∧ W.cell? ⟨gx, 3, none⟩ = some (.string who) ∧ W.cell? ⟨gx, 4, none⟩ = some (.string by1) ∧ (Instr.lookup 181 (.map (some m1)) (.string id) false).run Tryz.prog W = .ok (.pointer pv) W ∧ (Instr.lookup 137 (.map (some m2)) (.string by1) false).run Tryz.prog W = .ok (.bool false) W ∧ (Instr.lookup 137 (.map (some m2)) (.string who) false).run Tryz.prog W = .ok (.bool false) W)
  (first | exact HSP.out _ hdr) (fail)
 have hdr2 : Below w1.heap.size w1 w1.drew.drew := below_call hdr (below_drewN (Below.refl _ _) 1) (Nat.le_refl _)
 go_wp2_with fail
 go_region_held3 (fun W => W.cell? ⟨gd, 0, none⟩ = some (.map (some m1)) ∧ W.cell? ⟨gd, 1, none⟩ = some (.map (some m2)) ∧ W.cell? ⟨gx, 1, none⟩ = some (.int .i64 5) ∧ W.cell? ⟨gx, 2, none⟩ = some (.string id) ∧ W.cell? ⟨gx, 3, none⟩ = some (.string who) ∧ W.cell? ⟨gx, 4, none⟩ = some (.string by1) ∧ (Instr.lookup 181 (.map (some m1)) (.string id) false).run Tryz.prog W = .ok (.pointer pv) W ∧ (Instr.lookup 137 (.map (some m2)) (.string by1) false).run Tryz.prog W = .ok (.bool false) W ∧ (Instr.lookup 137 (.map (some m2)) (.string who) false).run Tryz.prog W = .ok (.bool false) W)
  (first | exact HSP.out _ hdr2) (fail)
 have hS2 := hS1.drew.drew
 obtain ⟨w2, hw2⟩ : ∃ W, W = w1.drew.drew := ⟨_, rfl⟩
 rw [← hw2] at hS2 hdr2 ⊢
 obtain ⟨y0, y1, y2, y3, y4, y5, y6, y7, y8⟩ := HSP.out w2 hdr2
 clear hw2 hS1 hdr
 have HS2 := Lib.hid hS2
 have hdr3 : Below w1.heap.size w1 w2.drew := below_call hdr2 (below_drewN (Below.refl _ _) 1) (Nat.le_refl _)
 have HSP2 := Lib.hid (HSP.out w2.drew hdr3)
 have hS3 := hS2.drew
 clear hS2 hdr2
 go_wp2_with fail
 go_region_held3 (fun W => W.cell? ⟨gd, 0, none⟩ = some (.map (some m1)) ∧ W.cell? ⟨gd, 1, none⟩ = some (.map (some m2)) ∧ W.cell? ⟨gx, 1, none⟩ = some (.int .i64 5) ∧ W.cell? ⟨gx, 2, none⟩ = some (.string id) ∧ W.cell? ⟨gx, 3, none⟩ = some (.string who) ∧ W.cell? ⟨gx, 4, none⟩ = some (.string by1) ∧ (Instr.lookup 181 (.map (some m1)) (.string id) false).run Tryz.prog W = .ok (.pointer pv) W ∧ (Instr.lookup 137 (.map (some m2)) (.string by1) false).run Tryz.prog W = .ok (.bool false) W ∧ (Instr.lookup 137 (.map (some m2)) (.string who) false).run Tryz.prog W = .ok (.bool false) W)
  (first | exact HSP2.out) (fail)
 obtain ⟨w3, hw3⟩ : ∃ W, W = w2.drew := ⟨_, rfl⟩
 rw [← hw3] at hS3 hdr3 ⊢
 clear hw3 HSP2 y0 y1 y2 y3 y4 y5 y6 y7 y8
 obtain ⟨w6, hput, hS6⟩ := map_put Tryz.underlying137 (hS3.drew.front 3 rfl rfl) (by unfold maxLen; omega) (s := who) (by have := HWZ.out; unfold maxLen; omega) (.bool true)
 have HK : Hid (∀ W i r, Sq w0 W r → r[i]? = some (rBlk gx 78 #[.int .i64 at_, .int .i64 5, .string id, .string who, .string by1, .string ct, .int .i64 tm, .int .i64 dt]) → r[i + 1]? = some (rBlk gd 183 #[.map (some m1), .map (some m2)]) → W.cell? ⟨gd, 1, none⟩ = some (.map (some m2)) ∧ W.cell? ⟨gx, 3, none⟩ = some (.string who)) := Lib.hid (fun W i r h h1 h2 => by
  have b1 : Blk W gx 78 #[.int .i64 at_, .int .i64 5, .string id, .string who, .string by1, .string ct, .int .i64 tm, .int .i64 dt] := h.nth i h1
  have b2 : Blk W gd 183 #[.map (some m1), .map (some m2)] := h.nth (i + 1) h2
  exact ⟨b2.cell 1, b1.cell 3⟩)
 have K3 := Lib.hid (HK.out _ 0 _ hS3.drew rfl rfl)
 have K6 := Lib.hid (HK.out _ 1 _ hS6 rfl rfl)
 have HFI : Hid (FolD w0 gd m1 m2 n D l o (.returned (.bool true)) w6) := Lib.hid (by
  refine fol_yes HO.out (show LD L (setB D who true) from ⟨HL.out.rn, HL.out.nd⟩) (n1 := n) (n2 := n + 1) (by omega) (by omega) ?_
  unfold dskL
  rw [← bnF_set]
  exact ((hS6.drop 1 rfl rfl).front 2 rfl rfl).front 2 rfl rfl)
 clear hS6 hS3 HK HS2 HSP hdr3
 go_wp2_with fail
 go_region_held3 (fun W => W.cell? ⟨gd, 1, none⟩ = some (.map (some m2)) ∧ W.cell? ⟨gx, 3, none⟩ = some (.string who))
  (first | exact K3.out | exact K6.out) (fail)
 all_goals (go_wp2_with fail; go_ret; exact HFI.out)
set_option maxRecDepth 100000 in
set_option maxHeartbeats 4000000 in
theorem folX6_calls (w0 : World) (gd m1 m2 n : Nat) (D : Dsk) (L : List Rpt) (l : List Rsc) (at_ tm dt : Int) (id who by1 ct : ByteArray) (w : World) (hS : Sq w0 w (dskL gd m1 n m2 n L D l)) (hK : KD D) (hL : LD L D) (hn : n ≤ 100000) (hx : EvK ⟨at_, 6, id, who, by1, ct, tm, dt⟩) (hb : D.bn by1 = false) (hw : D.bn who = true) :
 Calls Tryz.prog 136 #[.pointer (some ⟨gd, 0, none⟩), .agg #[.int .i64 at_, .int .i64 6, .string id, .string who, .string by1, .string ct, .int .i64 tm, .int .i64 dt]] w (FolD w0 gd m1 m2 n D l (stpE D ⟨at_, 6, id, who, by1, ct, tm, dt⟩) ) := by
 obtain ⟨o, ho⟩ : ∃ o, o = stpE D ⟨at_, 6, id, who, by1, ct, tm, dt⟩ := ⟨_, rfl⟩
 rw [← ho]
 have hiz := hx.iz
 have hwz := hx.wz
 have hbz := hx.bz
 simp only at hiz hwz hbz
 obtain ⟨B1, hB1⟩ : ∃ b, D.bn by1 = b := ⟨_, rfl⟩
 obtain ⟨B2, hB2⟩ : ∃ b, D.bn who = b := ⟨_, rfl⟩
 obtain ⟨pv, hpv⟩ : ∃ p : Option Addr, p = (ptOf L id).map (fun x => (⟨x.1, 0, none⟩ : Addr)) := ⟨_, rfl⟩
 have hptf : (ptF L id).getD (.pointer none) = .pointer pv := by
  rw [hpv]
  unfold ptF
  cases ptOf L id <;> rfl
 unfold dskL at hS
 have hM1 : MapS w 9 m1 n (ptF L) := hS.nth 1 rfl
 have hM2 : MapS w 9 m2 n (bnF D) := hS.nth 2 rfl
 have hgl : gd < w.heap.size := Blk.lt (show Blk w gd _ _ from hS.nth 0 rfl)
 obtain ⟨gx, hgx⟩ : ∃ gx, gx = w.heap.size := ⟨_, rfl⟩
 have hS1 := hS.add #[.int .i64 at_, .int .i64 6, .string id, .string who, .string by1, .string ct, .int .i64 tm, .int .i64 dt] 78
 obtain ⟨w1, hw1⟩ : ∃ W, w.alloc (.cells #[.int .i64 at_, .int .i64 6, .string id, .string who, .string by1, .string ct, .int .i64 tm, .int .i64 dt] 78) = W := ⟨_, rfl⟩
 have hbw1 : Below w.heap.size w w1 := by rw [← hw1]; exact (Below.refl _ _).alloc (Nat.le_refl _) _
 rw [hw1] at hS1
 have bx : Blk w1 w.heap.size 78 #[.int .i64 at_, .int .i64 6, .string id, .string who, .string by1, .string ct, .int .i64 tm, .int .i64 dt] := hS1.nth 0 rfl
 have bg : Blk w1 gd 183 #[.map (some m1), .map (some m2)] := hS1.nth 1 rfl
 have HSP : Hid (∀ W, Below w1.heap.size w1 W → W.cell? ⟨gd, 0, none⟩ = some (.map (some m1)) ∧ W.cell? ⟨gd, 1, none⟩ = some (.map (some m2)) ∧ W.cell? ⟨gx, 1, none⟩ = some (.int .i64 6) ∧ W.cell? ⟨gx, 2, none⟩ = some (.string id) ∧ W.cell? ⟨gx, 3, none⟩ = some (.string who) ∧ W.cell? ⟨gx, 4, none⟩ = some (.string by1) ∧ (Instr.lookup 181 (.map (some m1)) (.string id) false).run Tryz.prog W = .ok (.pointer pv) W ∧ (Instr.lookup 137 (.map (some m2)) (.string by1) false).run Tryz.prog W = .ok (.bool B1) W ∧ (Instr.lookup 137 (.map (some m2)) (.string who) false).run Tryz.prog W = .ok (.bool B2) W) := fun W hW => by
  have hWw := below_call hbw1 hW (by have := hbw1.size; omega)
  have h1 := (hM1.below hWw).look (t := 181) (e := 166) Tryz.underlying9 Tryz.underlying181 (zero_run W) (s := id) (by unfold maxLen; omega)
  have h2 := (hM2.below hWw).look (t := 137) (e := 4) Tryz.underlying9 Tryz.underlying137 (zero_bol W) (s := by1) (by unfold maxLen; omega)
  have h3 := (hM2.below hWw).look (t := 137) (e := 4) Tryz.underlying9 Tryz.underlying137 (zero_bol W) (s := who) (by unfold maxLen; omega)
  rw [hptf] at h1
  rw [bnF_get hK, hB1] at h2
  rw [bnF_get hK, hB2] at h3
  rw [hgx]
  exact ⟨(bg.below hW).cell 0, (bg.below hW).cell 1, (bx.below hW).cell 1, (bx.below hW).cell 2, (bx.below hW).cell 3, (bx.below hW).cell 4, h1, h2, h3⟩
 have hge : ¬ gd = gx := by omega
 have hge2 : ¬ gx = gd := by omega
 rw [← hgx] at hS1
 obtain rfl : B1 = false := by rw [← hB1]; exact hb
 have hb2 : ¬ D.bn by1 = true := by rw [hb]; decide
 obtain rfl : B2 = true := by rw [← hB2]; exact hw
 have HO : Hid (o = some (setB D who false)) := Lib.hid (ho.trans ((stpE_ban hb (.inr rfl)).trans (if_neg (by show ¬ D.bn who = decide ((6 : Int) = 5); rw [hw]; decide))))
 have HL := Lib.hid hL
 have HWZ := Lib.hid hwz
 clear ho hB1 hB2 hpv
 clear hS hM1 hM2 hptf bx bg hbw1 hiz hwz hbz
 go_enter Tryz.func136, Tryz.ntmps136
 go_upto_region 1 with (fail)
 rw [← hgx]
 clear hw1 hgx
 have hdr : Below w1.heap.size w1 w1.drew := below_drewN (Below.refl _ _) 1
 go_wp2_with fail
 go_region_held3 (fun W => W.cell? ⟨gd, 0, none⟩ = some (.map (some m1)) ∧ W.cell? ⟨gd, 1, none⟩ = some (.map (some m2)) ∧ W.cell? ⟨gx, 1, none⟩ = some (.int .i64 6) ∧ W.cell? ⟨gx, 2, none⟩ = some (.string id) ∧ W.cell? ⟨gx, 3, none⟩ = some (.string who) ∧ W.cell? ⟨gx, 4, none⟩ = some (.string by1) ∧ (Instr.lookup 181 (.map (some m1)) (.string id) false).run Tryz.prog W = .ok (.pointer pv) W ∧ (Instr.lookup 137 (.map (some m2)) (.string by1) false).run Tryz.prog W = .ok (.bool false) W ∧ (Instr.lookup 137 (.map (some m2)) (.string who) false).run Tryz.prog W = .ok (.bool true) W)
  (first | exact HSP.out _ hdr) (fail)
 have hdr2 : Below w1.heap.size w1 w1.drew.drew := below_call hdr (below_drewN (Below.refl _ _) 1) (Nat.le_refl _)
 go_wp2_with fail
 go_region_held3 (fun W => W.cell? ⟨gd, 0, none⟩ = some (.map (some m1)) ∧ W.cell? ⟨gd, 1, none⟩ = some (.map (some m2)) ∧ W.cell? ⟨gx, 1, none⟩ = some (.int .i64 6) ∧ W.cell? ⟨gx, 2, none⟩ = some (.string id) ∧ W.cell? ⟨gx, 3, none⟩ = some (.string who) ∧ W.cell? ⟨gx, 4, none⟩ = some (.string by1) ∧ (Instr.lookup 181 (.map (some m1)) (.string id) false).run Tryz.prog W = .ok (.pointer pv) W ∧ (Instr.lookup 137 (.map (some m2)) (.string by1) false).run Tryz.prog W = .ok (.bool false) W ∧ (Instr.lookup 137 (.map (some m2)) (.string who) false).run Tryz.prog W = .ok (.bool true) W)
  (first | exact HSP.out _ hdr2) (fail)
 have hS2 := hS1.drew.drew
 obtain ⟨w2, hw2⟩ : ∃ W, W = w1.drew.drew := ⟨_, rfl⟩
 rw [← hw2] at hS2 hdr2 ⊢
 obtain ⟨y0, y1, y2, y3, y4, y5, y6, y7, y8⟩ := HSP.out w2 hdr2
 clear hw2 hS1 hdr
 have HS2 := Lib.hid hS2
 have hdr3 : Below w1.heap.size w1 w2.drew := below_call hdr2 (below_drewN (Below.refl _ _) 1) (Nat.le_refl _)
 have HSP2 := Lib.hid (HSP.out w2.drew hdr3)
 have hS3 := hS2.drew
 clear hS2 hdr2
 go_wp2_with fail
 go_region_held3 (fun W => W.cell? ⟨gd, 0, none⟩ = some (.map (some m1)) ∧ W.cell? ⟨gd, 1, none⟩ = some (.map (some m2)) ∧ W.cell? ⟨gx, 1, none⟩ = some (.int .i64 6) ∧ W.cell? ⟨gx, 2, none⟩ = some (.string id) ∧ W.cell? ⟨gx, 3, none⟩ = some (.string who) ∧ W.cell? ⟨gx, 4, none⟩ = some (.string by1) ∧ (Instr.lookup 181 (.map (some m1)) (.string id) false).run Tryz.prog W = .ok (.pointer pv) W ∧ (Instr.lookup 137 (.map (some m2)) (.string by1) false).run Tryz.prog W = .ok (.bool false) W ∧ (Instr.lookup 137 (.map (some m2)) (.string who) false).run Tryz.prog W = .ok (.bool true) W)
  (first | exact HSP2.out) (fail)
 obtain ⟨w3, hw3⟩ : ∃ W, W = w2.drew := ⟨_, rfl⟩
 rw [← hw3] at hS3 hdr3 ⊢
 clear hw3 HSP2 y0 y1 y2 y3 y4 y5 y6 y7 y8
 obtain ⟨w6, hput, hS6⟩ := map_put Tryz.underlying137 (hS3.drew.front 3 rfl rfl) (by unfold maxLen; omega) (s := who) (by have := HWZ.out; unfold maxLen; omega) (.bool false)
 have HK : Hid (∀ W i r, Sq w0 W r → r[i]? = some (rBlk gx 78 #[.int .i64 at_, .int .i64 6, .string id, .string who, .string by1, .string ct, .int .i64 tm, .int .i64 dt]) → r[i + 1]? = some (rBlk gd 183 #[.map (some m1), .map (some m2)]) → W.cell? ⟨gd, 1, none⟩ = some (.map (some m2)) ∧ W.cell? ⟨gx, 3, none⟩ = some (.string who)) := Lib.hid (fun W i r h h1 h2 => by
  have b1 : Blk W gx 78 #[.int .i64 at_, .int .i64 6, .string id, .string who, .string by1, .string ct, .int .i64 tm, .int .i64 dt] := h.nth i h1
  have b2 : Blk W gd 183 #[.map (some m1), .map (some m2)] := h.nth (i + 1) h2
  exact ⟨b2.cell 1, b1.cell 3⟩)
 have K3 := Lib.hid (HK.out _ 0 _ hS3.drew rfl rfl)
 have K6 := Lib.hid (HK.out _ 1 _ hS6 rfl rfl)
 have HFI : Hid (FolD w0 gd m1 m2 n D l o (.returned (.bool true)) w6) := Lib.hid (by
  refine fol_yes HO.out (show LD L (setB D who false) from ⟨HL.out.rn, HL.out.nd⟩) (n1 := n) (n2 := n + 1) (by omega) (by omega) ?_
  unfold dskL
  rw [← bnF_set]
  exact ((hS6.drop 1 rfl rfl).front 2 rfl rfl).front 2 rfl rfl)
 clear hS6 hS3 HK HS2 HSP hdr3
 go_wp2_with fail
 go_region_held3 (fun W => W.cell? ⟨gd, 1, none⟩ = some (.map (some m2)) ∧ W.cell? ⟨gx, 3, none⟩ = some (.string who))
  (first | exact K3.out | exact K6.out) (fail)
 all_goals (go_wp2_with fail; go_ret; exact HFI.out)
set_option maxRecDepth 100000 in
set_option maxHeartbeats 4000000 in
theorem folX6_no_calls (w0 : World) (gd m1 m2 n : Nat) (D : Dsk) (L : List Rpt) (l : List Rsc) (at_ tm dt : Int) (id who by1 ct : ByteArray) (w : World) (hS : Sq w0 w (dskL gd m1 n m2 n L D l)) (hK : KD D) (hL : LD L D) (hx : EvK ⟨at_, 6, id, who, by1, ct, tm, dt⟩) (hb : D.bn by1 = false) (hw : D.bn who = false) :
 Calls Tryz.prog 136 #[.pointer (some ⟨gd, 0, none⟩), .agg #[.int .i64 at_, .int .i64 6, .string id, .string who, .string by1, .string ct, .int .i64 tm, .int .i64 dt]] w (FolD w0 gd m1 m2 n D l (stpE D ⟨at_, 6, id, who, by1, ct, tm, dt⟩) ) := by
 obtain ⟨o, ho⟩ : ∃ o, o = stpE D ⟨at_, 6, id, who, by1, ct, tm, dt⟩ := ⟨_, rfl⟩
 rw [← ho]
 have hiz := hx.iz
 have hwz := hx.wz
 have hbz := hx.bz
 simp only at hiz hwz hbz
 obtain ⟨B1, hB1⟩ : ∃ b, D.bn by1 = b := ⟨_, rfl⟩
 obtain ⟨B2, hB2⟩ : ∃ b, D.bn who = b := ⟨_, rfl⟩
 obtain ⟨pv, hpv⟩ : ∃ p : Option Addr, p = (ptOf L id).map (fun x => (⟨x.1, 0, none⟩ : Addr)) := ⟨_, rfl⟩
 have hptf : (ptF L id).getD (.pointer none) = .pointer pv := by
  rw [hpv]
  unfold ptF
  cases ptOf L id <;> rfl
 unfold dskL at hS
 have hM1 : MapS w 9 m1 n (ptF L) := hS.nth 1 rfl
 have hM2 : MapS w 9 m2 n (bnF D) := hS.nth 2 rfl
 have hgl : gd < w.heap.size := Blk.lt (show Blk w gd _ _ from hS.nth 0 rfl)
 obtain ⟨gx, hgx⟩ : ∃ gx, gx = w.heap.size := ⟨_, rfl⟩
 have hS1 := hS.add #[.int .i64 at_, .int .i64 6, .string id, .string who, .string by1, .string ct, .int .i64 tm, .int .i64 dt] 78
 obtain ⟨w1, hw1⟩ : ∃ W, w.alloc (.cells #[.int .i64 at_, .int .i64 6, .string id, .string who, .string by1, .string ct, .int .i64 tm, .int .i64 dt] 78) = W := ⟨_, rfl⟩
 have hbw1 : Below w.heap.size w w1 := by rw [← hw1]; exact (Below.refl _ _).alloc (Nat.le_refl _) _
 rw [hw1] at hS1
 have bx : Blk w1 w.heap.size 78 #[.int .i64 at_, .int .i64 6, .string id, .string who, .string by1, .string ct, .int .i64 tm, .int .i64 dt] := hS1.nth 0 rfl
 have bg : Blk w1 gd 183 #[.map (some m1), .map (some m2)] := hS1.nth 1 rfl
 have HSP : Hid (∀ W, Below w1.heap.size w1 W → W.cell? ⟨gd, 0, none⟩ = some (.map (some m1)) ∧ W.cell? ⟨gd, 1, none⟩ = some (.map (some m2)) ∧ W.cell? ⟨gx, 1, none⟩ = some (.int .i64 6) ∧ W.cell? ⟨gx, 2, none⟩ = some (.string id) ∧ W.cell? ⟨gx, 3, none⟩ = some (.string who) ∧ W.cell? ⟨gx, 4, none⟩ = some (.string by1) ∧ (Instr.lookup 181 (.map (some m1)) (.string id) false).run Tryz.prog W = .ok (.pointer pv) W ∧ (Instr.lookup 137 (.map (some m2)) (.string by1) false).run Tryz.prog W = .ok (.bool B1) W ∧ (Instr.lookup 137 (.map (some m2)) (.string who) false).run Tryz.prog W = .ok (.bool B2) W) := fun W hW => by
  have hWw := below_call hbw1 hW (by have := hbw1.size; omega)
  have h1 := (hM1.below hWw).look (t := 181) (e := 166) Tryz.underlying9 Tryz.underlying181 (zero_run W) (s := id) (by unfold maxLen; omega)
  have h2 := (hM2.below hWw).look (t := 137) (e := 4) Tryz.underlying9 Tryz.underlying137 (zero_bol W) (s := by1) (by unfold maxLen; omega)
  have h3 := (hM2.below hWw).look (t := 137) (e := 4) Tryz.underlying9 Tryz.underlying137 (zero_bol W) (s := who) (by unfold maxLen; omega)
  rw [hptf] at h1
  rw [bnF_get hK, hB1] at h2
  rw [bnF_get hK, hB2] at h3
  rw [hgx]
  exact ⟨(bg.below hW).cell 0, (bg.below hW).cell 1, (bx.below hW).cell 1, (bx.below hW).cell 2, (bx.below hW).cell 3, (bx.below hW).cell 4, h1, h2, h3⟩
 have hge : ¬ gd = gx := by omega
 have hge2 : ¬ gx = gd := by omega
 rw [← hgx] at hS1
 obtain rfl : B1 = false := by rw [← hB1]; exact hb
 have hb2 : ¬ D.bn by1 = true := by rw [hb]; decide
 obtain rfl : B2 = false := by rw [← hB2]; exact hw
 have HO : Hid (o = none) := Lib.hid (ho.trans ((stpE_ban hb (.inr rfl)).trans (if_pos (hw.trans (show (decide ((6 : Int) = 5)) = false from rfl).symm))))
 have HL := Lib.hid hL
 have HWZ := Lib.hid hwz
 clear ho hB1 hB2 hpv
 clear hS hM1 hM2 hptf bx bg hbw1 hiz hwz hbz
 go_enter Tryz.func136, Tryz.ntmps136
 go_upto_region 1 with (fail)
 rw [← hgx]
 clear hw1 hgx
 have hdr : Below w1.heap.size w1 w1.drew := below_drewN (Below.refl _ _) 1
 go_wp2_with fail
 go_region_held3 (fun W => W.cell? ⟨gd, 0, none⟩ = some (.map (some m1)) ∧ W.cell? ⟨gd, 1, none⟩ = some (.map (some m2)) ∧ W.cell? ⟨gx, 1, none⟩ = some (.int .i64 6) ∧ W.cell? ⟨gx, 2, none⟩ = some (.string id) ∧ W.cell? ⟨gx, 3, none⟩ = some (.string who) ∧ W.cell? ⟨gx, 4, none⟩ = some (.string by1) ∧ (Instr.lookup 181 (.map (some m1)) (.string id) false).run Tryz.prog W = .ok (.pointer pv) W ∧ (Instr.lookup 137 (.map (some m2)) (.string by1) false).run Tryz.prog W = .ok (.bool false) W ∧ (Instr.lookup 137 (.map (some m2)) (.string who) false).run Tryz.prog W = .ok (.bool false) W)
  (first | exact HSP.out _ hdr) (fail)
 have hdr2 : Below w1.heap.size w1 w1.drew.drew := below_call hdr (below_drewN (Below.refl _ _) 1) (Nat.le_refl _)
 go_wp2_with fail
 go_region_held3 (fun W => W.cell? ⟨gd, 0, none⟩ = some (.map (some m1)) ∧ W.cell? ⟨gd, 1, none⟩ = some (.map (some m2)) ∧ W.cell? ⟨gx, 1, none⟩ = some (.int .i64 6) ∧ W.cell? ⟨gx, 2, none⟩ = some (.string id) ∧ W.cell? ⟨gx, 3, none⟩ = some (.string who) ∧ W.cell? ⟨gx, 4, none⟩ = some (.string by1) ∧ (Instr.lookup 181 (.map (some m1)) (.string id) false).run Tryz.prog W = .ok (.pointer pv) W ∧ (Instr.lookup 137 (.map (some m2)) (.string by1) false).run Tryz.prog W = .ok (.bool false) W ∧ (Instr.lookup 137 (.map (some m2)) (.string who) false).run Tryz.prog W = .ok (.bool false) W)
  (first | exact HSP.out _ hdr2) (fail)
 have hS2 := hS1.drew.drew
 obtain ⟨w2, hw2⟩ : ∃ W, W = w1.drew.drew := ⟨_, rfl⟩
 rw [← hw2] at hS2 hdr2 ⊢
 obtain ⟨y0, y1, y2, y3, y4, y5, y6, y7, y8⟩ := HSP.out w2 hdr2
 clear hw2 hS1 hdr
 have HS2 := Lib.hid hS2
 have HSP2 := Lib.hid (HSP.out w2.drew (below_call hdr2 (below_drewN (Below.refl _ _) 1) (Nat.le_refl _)))
 clear hS2 hdr2
 go_wp2_with fail
 go_region_held3 (fun W => W.cell? ⟨gd, 0, none⟩ = some (.map (some m1)) ∧ W.cell? ⟨gd, 1, none⟩ = some (.map (some m2)) ∧ W.cell? ⟨gx, 1, none⟩ = some (.int .i64 6) ∧ W.cell? ⟨gx, 2, none⟩ = some (.string id) ∧ W.cell? ⟨gx, 3, none⟩ = some (.string who) ∧ W.cell? ⟨gx, 4, none⟩ = some (.string by1) ∧ (Instr.lookup 181 (.map (some m1)) (.string id) false).run Tryz.prog W = .ok (.pointer pv) W ∧ (Instr.lookup 137 (.map (some m2)) (.string by1) false).run Tryz.prog W = .ok (.bool false) W ∧ (Instr.lookup 137 (.map (some m2)) (.string who) false).run Tryz.prog W = .ok (.bool false) W)
  (first | exact HSP2.out) (fail)
 go_wp2_with fail
 go_ret
 exact fol_no HO.out HL.out (by unfold dskL; exact (HS2.out.drewN _).tail)
theorem folD_calls (w0 : World) (gd m1 m2 n : Nat) (D : Dsk) (L : List Rpt) (l : List Rsc) (x : Bev) (w : World) (hS : Sq w0 w (dskL gd m1 n m2 n L D l)) (hK : KD D) (hL : LD L D) (hn : n ≤ 100000) (hx : EvK x) :
 Calls Tryz.prog 136 #[.pointer (some ⟨gd, 0, none⟩), .agg (bevC x).toArray] w (FolD w0 gd m1 m2 n D l (stpE D x)) := by
 obtain ⟨at_, kd, id, who, by1, ct, tm, dt⟩ := x
 show Calls Tryz.prog 136 #[.pointer (some ⟨gd, 0, none⟩), .agg #[.int .i64 at_, .int .i64 kd, .string id, .string who, .string by1, .string ct, .int .i64 tm, .int .i64 dt]] w _
 cases hb : D.bn by1 with
 | true => exact folB_calls w0 gd m1 m2 n D L l at_ kd tm dt id who by1 ct w hS hK hL hx hb
 | false =>
   have hkd := hx.kd
   simp only at hkd
   have kc : kd = 1 ∨ kd = 2 ∨ kd = 3 ∨ kd = 4 ∨ kd = 5 ∨ kd = 6 := by omega
   have hc3 : ∀ g r c, ptOf L id = some (g, (r, c)) → c = 0 ∨ c = 1 ∨ c = 2 ∨ c = 3 := fun g r c h => by
    have h1 := (ptOf_mem h).1
    have h2 : (r, c) ∈ D.rn := by rw [← hL.rn]; exact List.mem_map.2 ⟨_, h1, rfl⟩
    have := hK.c3 _ h2
    simp only at this
    omega
   rcases kc with rfl | rfl | rfl | rfl | rfl | rfl
   · cases hp : ptOf L id with
     | some x0 => exact fol1a_calls w0 gd m1 m2 n D L l at_ tm dt id who by1 ct w hS hK hL hx hb x0 hp
     | none =>
       cases hw : D.bn who with
       | true => exact fol1b_calls w0 gd m1 m2 n D L l at_ tm dt id who by1 ct w hS hK hL hx hb hp hw
       | false => exact fol1c_calls w0 gd m1 m2 n D L l at_ tm dt id who by1 ct w hS hK hL hn hx hb hp hw
   · cases hp : ptOf L id with
     | none => exact folN2_calls w0 gd m1 m2 n D L l at_ tm dt id who by1 ct w hS hK hL hx hb hp
     | some x0 =>
       obtain ⟨g, r, c⟩ := x0
       rcases hc3 g r c hp with rfl | rfl | rfl | rfl
       · exact folT2_0_calls w0 gd m1 m2 n D L l at_ tm dt id who by1 ct w hS hK hL hx hb g r hp
       · exact folT2_1_calls w0 gd m1 m2 n D L l at_ tm dt id who by1 ct w hS hK hL hx hb g r hp
       · exact folT2_2_calls w0 gd m1 m2 n D L l at_ tm dt id who by1 ct w hS hK hL hx hb g r hp
       · exact folT2_3_calls w0 gd m1 m2 n D L l at_ tm dt id who by1 ct w hS hK hL hx hb g r hp
   · cases hp : ptOf L id with
     | none => exact folN3_calls w0 gd m1 m2 n D L l at_ tm dt id who by1 ct w hS hK hL hx hb hp
     | some x0 =>
       obtain ⟨g, r, c⟩ := x0
       rcases hc3 g r c hp with rfl | rfl | rfl | rfl
       · exact folT3_0_calls w0 gd m1 m2 n D L l at_ tm dt id who by1 ct w hS hK hL hx hb g r hp
       · exact folT3_1_calls w0 gd m1 m2 n D L l at_ tm dt id who by1 ct w hS hK hL hx hb g r hp
       · exact folT3_2_calls w0 gd m1 m2 n D L l at_ tm dt id who by1 ct w hS hK hL hx hb g r hp
       · exact folT3_3_calls w0 gd m1 m2 n D L l at_ tm dt id who by1 ct w hS hK hL hx hb g r hp
   · cases hp : ptOf L id with
     | none => exact folN4_calls w0 gd m1 m2 n D L l at_ tm dt id who by1 ct w hS hK hL hx hb hp
     | some x0 =>
       obtain ⟨g, r, c⟩ := x0
       rcases hc3 g r c hp with rfl | rfl | rfl | rfl
       · exact folT4_0_calls w0 gd m1 m2 n D L l at_ tm dt id who by1 ct w hS hK hL hx hb g r hp
       · exact folT4_1_calls w0 gd m1 m2 n D L l at_ tm dt id who by1 ct w hS hK hL hx hb g r hp
       · exact folT4_2_calls w0 gd m1 m2 n D L l at_ tm dt id who by1 ct w hS hK hL hx hb g r hp
       · exact folT4_3_calls w0 gd m1 m2 n D L l at_ tm dt id who by1 ct w hS hK hL hx hb g r hp
   · cases hw : D.bn who with
     | true => exact folX5_no_calls w0 gd m1 m2 n D L l at_ tm dt id who by1 ct w hS hK hL hx hb hw
     | false => exact folX5_calls w0 gd m1 m2 n D L l at_ tm dt id who by1 ct w hS hK hL hn hx hb hw
   · cases hw : D.bn who with
     | true => exact folX6_calls w0 gd m1 m2 n D L l at_ tm dt id who by1 ct w hS hK hL hn hx hb hw
     | false => exact folX6_no_calls w0 gd m1 m2 n D L l at_ tm dt id who by1 ct w hS hK hL hx hb hw
end Go.Proofs.YtapgnaimbgjcnaaGreatDoor
