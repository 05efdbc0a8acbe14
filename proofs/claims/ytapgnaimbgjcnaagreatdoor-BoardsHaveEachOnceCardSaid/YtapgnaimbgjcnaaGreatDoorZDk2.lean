/-
  board.(*desk).follow by its contract: it answers as stpE.
-/
import Derived.Test.YtapgnaimbgjcnaaGreatDoorZSortRun0
import Derived.Test.YtapgnaimbgjcnaaGreatDoorZSlot3
import Derived.Deep.RegionHeld3
import Derived.RegionTactic
import Derived.Deep.DeepCutAuto
import Derived.Deep.CutBlock
namespace Go.Proofs.YtapgnaimbgjcnaaGreatDoor
open Go Go.RowKit
attribute [local go_sem ↓] Go.wp_at_zero Go.wp_at_succ
theorem fol_no {w0 W : World} {gd m1 m2 n : Nat} {D : Dsk} {L : List Rpt} {l : List Rsc} {o : Option Dsk} (ho : o = none) (hL : LD L D) (h : Sq w0 W (dskL gd m1 n m2 n L D l)) : FolD w0 gd m1 m2 n D l o (.returned (.bool false)) W := by
 subst ho
 exact ⟨L, n, n, rfl, hL, by omega, by omega, h⟩
theorem fol_yes {w0 W : World} {gd m1 m2 n n1 n2 : Nat} {D D' : Dsk} {L : List Rpt} {l : List Rsc} {o : Option Dsk} (ho : o = some D') (hL : LD L D') (h1 : n1 ≤ n + 1) (h2 : n2 ≤ n + 1) (h : Sq w0 W (dskL gd m1 n1 m2 n2 L D' l)) : FolD w0 gd m1 m2 n D l o (.returned (.bool true)) W := by
 subst ho
 exact ⟨L, n1, n2, rfl, hL, h1, h2, h⟩
theorem eqL_ba (x y : ByteArray) : (x.toList == y.toList) = decide (x = y) := by
 rw [Lib.toList_data, Lib.toList_data]
 by_cases h : x = y
 · subst h; simp
 · rw [decide_eq_false h]
   have : x.data.toList ≠ y.data.toList := fun e => h (by cases x; cases y; congr; exact Array.toList_inj.1 e)
   simpa using this
-- BODY
set_option maxRecDepth 100000 in
set_option maxHeartbeats 4000000 in
theorem folB_calls (w0 : World) (gd m1 m2 n : Nat) (D : Dsk) (L : List Rpt) (l : List Rsc) (at_ kd tm dt : Int) (id who by1 ct : ByteArray) (w : World) (hS : Sq w0 w (dskL gd m1 n m2 n L D l)) (hK : KD D) (hL : LD L D) (hx : EvK ⟨at_, kd, id, who, by1, ct, tm, dt⟩) (hb : D.bn by1 = true) :
 Calls Tryz.prog 136 #[.pointer (some ⟨gd, 0, none⟩), .agg #[.int .i64 at_, .int .i64 kd, .string id, .string who, .string by1, .string ct, .int .i64 tm, .int .i64 dt]] w (FolD w0 gd m1 m2 n D l (stpE D ⟨at_, kd, id, who, by1, ct, tm, dt⟩) ) := by
 obtain ⟨o, ho⟩ : ∃ o, o = stpE D ⟨at_, kd, id, who, by1, ct, tm, dt⟩ := ⟨_, rfl⟩
 rw [← ho]
 have hiz := hx.iz
 have hwz := hx.wz
 have hbz := hx.bz
 simp only at hiz hwz hbz
 obtain ⟨B1, hB1⟩ : ∃ b, D.bn by1 = b := ⟨_, rfl⟩
 obtain ⟨B2, hB2⟩ : ∃ b, D.bn who = b := ⟨_, rfl⟩
 obtain ⟨pv, hpv⟩ : ∃ p : Option Addr, p = (ptOf L id).map (fun x => (⟨x.1, 0, none⟩ : Addr)) := ⟨_, rfl⟩
 have hptf : (ptF L id).getD (.pointer none) = .pointer pv := by
  rw [hpv]
  unfold ptF
  cases ptOf L id <;> rfl
 unfold dskL at hS
 have hM1 : MapS w 9 m1 n (ptF L) := hS.nth 1 rfl
 have hM2 : MapS w 9 m2 n (bnF D) := hS.nth 2 rfl
 have hgl : gd < w.heap.size := Blk.lt (show Blk w gd _ _ from hS.nth 0 rfl)
 obtain ⟨gx, hgx⟩ : ∃ gx, gx = w.heap.size := ⟨_, rfl⟩
 have hS1 := hS.add #[.int .i64 at_, .int .i64 kd, .string id, .string who, .string by1, .string ct, .int .i64 tm, .int .i64 dt] 78
 obtain ⟨w1, hw1⟩ : ∃ W, w.alloc (.cells #[.int .i64 at_, .int .i64 kd, .string id, .string who, .string by1, .string ct, .int .i64 tm, .int .i64 dt] 78) = W := ⟨_, rfl⟩
 have hbw1 : Below w.heap.size w w1 := by rw [← hw1]; exact (Below.refl _ _).alloc (Nat.le_refl _) _
 rw [hw1] at hS1
 have bx : Blk w1 w.heap.size 78 #[.int .i64 at_, .int .i64 kd, .string id, .string who, .string by1, .string ct, .int .i64 tm, .int .i64 dt] := hS1.nth 0 rfl
 have bg : Blk w1 gd 183 #[.map (some m1), .map (some m2)] := hS1.nth 1 rfl
 have HSP : Hid (∀ W, Below w1.heap.size w1 W → W.cell? ⟨gd, 0, none⟩ = some (.map (some m1)) ∧ W.cell? ⟨gd, 1, none⟩ = some (.map (some m2)) ∧ W.cell? ⟨gx, 1, none⟩ = some (.int .i64 kd) ∧ W.cell? ⟨gx, 2, none⟩ = some (.string id) ∧ W.cell? ⟨gx, 3, none⟩ = some (.string who) ∧ W.cell? ⟨gx, 4, none⟩ = some (.string by1) ∧ (Instr.lookup 181 (.map (some m1)) (.string id) false).run Tryz.prog W = .ok (.pointer pv) W ∧ (Instr.lookup 137 (.map (some m2)) (.string by1) false).run Tryz.prog W = .ok (.bool B1) W ∧ (Instr.lookup 137 (.map (some m2)) (.string who) false).run Tryz.prog W = .ok (.bool B2) W) := fun W hW => by
  have hWw := below_call hbw1 hW (by have := hbw1.size; omega)
  have h1 := (hM1.below hWw).look (t := 181) (e := 166) Tryz.underlying9 Tryz.underlying181 (zero_run W) (s := id) (by unfold maxLen; omega)
  have h2 := (hM2.below hWw).look (t := 137) (e := 4) Tryz.underlying9 Tryz.underlying137 (zero_bol W) (s := by1) (by unfold maxLen; omega)
  have h3 := (hM2.below hWw).look (t := 137) (e := 4) Tryz.underlying9 Tryz.underlying137 (zero_bol W) (s := who) (by unfold maxLen; omega)
  rw [hptf] at h1
  rw [bnF_get hK, hB1] at h2
  rw [bnF_get hK, hB2] at h3
  rw [hgx]
  exact ⟨(bg.below hW).cell 0, (bg.below hW).cell 1, (bx.below hW).cell 1, (bx.below hW).cell 2, (bx.below hW).cell 3, (bx.below hW).cell 4, h1, h2, h3⟩
 have hge : ¬ gd = gx := by omega
 have hge2 : ¬ gx = gd := by omega
 rw [← hgx] at hS1
 obtain rfl : B1 = true := by rw [← hB1]; exact hb
 have HO : Hid (o = none) := Lib.hid (ho.trans (by unfold stpE; rw [if_pos hb]))
 clear ho hpv hB1 hB2
 clear hS hM1 hM2 hptf bx bg hbw1 hiz hwz hbz
 go_enter Tryz.func136, Tryz.ntmps136
 go_upto_region 1 with (fail)
 rw [← hgx]
 clear hw1 hgx
 have hdr : Below w1.heap.size w1 w1.drew := below_drewN (Below.refl _ _) 1
 go_wp2_with fail
 go_region_held3 (fun W => W.cell? ⟨gd, 0, none⟩ = some (.map (some m1)) ∧ W.cell? ⟨gd, 1, none⟩ = some (.map (some m2)) ∧ W.cell? ⟨gx, 1, none⟩ = some (.int .i64 kd) ∧ W.cell? ⟨gx, 2, none⟩ = some (.string id) ∧ W.cell? ⟨gx, 3, none⟩ = some (.string who) ∧ W.cell? ⟨gx, 4, none⟩ = some (.string by1) ∧ (Instr.lookup 181 (.map (some m1)) (.string id) false).run Tryz.prog W = .ok (.pointer pv) W ∧ (Instr.lookup 137 (.map (some m2)) (.string by1) false).run Tryz.prog W = .ok (.bool true) W ∧ (Instr.lookup 137 (.map (some m2)) (.string who) false).run Tryz.prog W = .ok (.bool B2) W)
  (first | exact HSP.out _ hdr) (fail)
 have hdr2 : Below w1.heap.size w1 w1.drew.drew := below_call hdr (below_drewN (Below.refl _ _) 1) (Nat.le_refl _)
 go_wp2_with fail
 go_region_held3 (fun W => W.cell? ⟨gd, 0, none⟩ = some (.map (some m1)) ∧ W.cell? ⟨gd, 1, none⟩ = some (.map (some m2)) ∧ W.cell? ⟨gx, 1, none⟩ = some (.int .i64 kd) ∧ W.cell? ⟨gx, 2, none⟩ = some (.string id) ∧ W.cell? ⟨gx, 3, none⟩ = some (.string who) ∧ W.cell? ⟨gx, 4, none⟩ = some (.string by1) ∧ (Instr.lookup 181 (.map (some m1)) (.string id) false).run Tryz.prog W = .ok (.pointer pv) W ∧ (Instr.lookup 137 (.map (some m2)) (.string by1) false).run Tryz.prog W = .ok (.bool true) W ∧ (Instr.lookup 137 (.map (some m2)) (.string who) false).run Tryz.prog W = .ok (.bool B2) W)
  (first | exact HSP.out _ hdr2) (fail)
 have hS2 := hS1.drew.drew
 obtain ⟨w2, hw2⟩ : ∃ W, W = w1.drew.drew := ⟨_, rfl⟩
 rw [← hw2] at hS2 hdr2 ⊢
 obtain ⟨y0, y1, y2, y3, y4, y5, y6, y7, y8⟩ := HSP.out w2 hdr2
 clear hw2 hS1 hdr
 have HFI : Hid (FolD w0 gd m1 m2 n D l o (.returned (.bool false)) w2) := Lib.hid (fol_no (HO.out) hL (by unfold dskL; exact hS2.tail))
 clear hS2 HSP hdr2 y0 y1 y2 y3 y4 y5 y6 y7 y8
 go_wp2_with fail
 go_ret
 exact HFI.out
set_option maxRecDepth 100000 in
set_option maxHeartbeats 4000000 in
theorem fol1a_calls (w0 : World) (gd m1 m2 n : Nat) (D : Dsk) (L : List Rpt) (l : List Rsc) (at_ tm dt : Int) (id who by1 ct : ByteArray) (w : World) (hS : Sq w0 w (dskL gd m1 n m2 n L D l)) (hK : KD D) (hL : LD L D) (hx : EvK ⟨at_, 1, id, who, by1, ct, tm, dt⟩) (hb : D.bn by1 = false) (x0 : Rpt) (hp : ptOf L id = some x0) :
 Calls Tryz.prog 136 #[.pointer (some ⟨gd, 0, none⟩), .agg #[.int .i64 at_, .int .i64 1, .string id, .string who, .string by1, .string ct, .int .i64 tm, .int .i64 dt]] w (FolD w0 gd m1 m2 n D l (stpE D ⟨at_, 1, id, who, by1, ct, tm, dt⟩) ) := by
 obtain ⟨o, ho⟩ : ∃ o, o = stpE D ⟨at_, 1, id, who, by1, ct, tm, dt⟩ := ⟨_, rfl⟩
 rw [← ho]
 have hiz := hx.iz
 have hwz := hx.wz
 have hbz := hx.bz
 simp only at hiz hwz hbz
 obtain ⟨B1, hB1⟩ : ∃ b, D.bn by1 = b := ⟨_, rfl⟩
 obtain ⟨B2, hB2⟩ : ∃ b, D.bn who = b := ⟨_, rfl⟩
 obtain ⟨pv, hpv⟩ : ∃ p : Option Addr, p = (ptOf L id).map (fun x => (⟨x.1, 0, none⟩ : Addr)) := ⟨_, rfl⟩
 have hptf : (ptF L id).getD (.pointer none) = .pointer pv := by
  rw [hpv]
  unfold ptF
  cases ptOf L id <;> rfl
 unfold dskL at hS
 have hM1 : MapS w 9 m1 n (ptF L) := hS.nth 1 rfl
 have hM2 : MapS w 9 m2 n (bnF D) := hS.nth 2 rfl
 have hgl : gd < w.heap.size := Blk.lt (show Blk w gd _ _ from hS.nth 0 rfl)
 obtain ⟨gx, hgx⟩ : ∃ gx, gx = w.heap.size := ⟨_, rfl⟩
 have hS1 := hS.add #[.int .i64 at_, .int .i64 1, .string id, .string who, .string by1, .string ct, .int .i64 tm, .int .i64 dt] 78
 obtain ⟨w1, hw1⟩ : ∃ W, w.alloc (.cells #[.int .i64 at_, .int .i64 1, .string id, .string who, .string by1, .string ct, .int .i64 tm, .int .i64 dt] 78) = W := ⟨_, rfl⟩
 have hbw1 : Below w.heap.size w w1 := by rw [← hw1]; exact (Below.refl _ _).alloc (Nat.le_refl _) _
 rw [hw1] at hS1
 have bx : Blk w1 w.heap.size 78 #[.int .i64 at_, .int .i64 1, .string id, .string who, .string by1, .string ct, .int .i64 tm, .int .i64 dt] := hS1.nth 0 rfl
 have bg : Blk w1 gd 183 #[.map (some m1), .map (some m2)] := hS1.nth 1 rfl
 have HSP : Hid (∀ W, Below w1.heap.size w1 W → W.cell? ⟨gd, 0, none⟩ = some (.map (some m1)) ∧ W.cell? ⟨gd, 1, none⟩ = some (.map (some m2)) ∧ W.cell? ⟨gx, 1, none⟩ = some (.int .i64 1) ∧ W.cell? ⟨gx, 2, none⟩ = some (.string id) ∧ W.cell? ⟨gx, 3, none⟩ = some (.string who) ∧ W.cell? ⟨gx, 4, none⟩ = some (.string by1) ∧ (Instr.lookup 181 (.map (some m1)) (.string id) false).run Tryz.prog W = .ok (.pointer pv) W ∧ (Instr.lookup 137 (.map (some m2)) (.string by1) false).run Tryz.prog W = .ok (.bool B1) W ∧ (Instr.lookup 137 (.map (some m2)) (.string who) false).run Tryz.prog W = .ok (.bool B2) W) := fun W hW => by
  have hWw := below_call hbw1 hW (by have := hbw1.size; omega)
  have h1 := (hM1.below hWw).look (t := 181) (e := 166) Tryz.underlying9 Tryz.underlying181 (zero_run W) (s := id) (by unfold maxLen; omega)
  have h2 := (hM2.below hWw).look (t := 137) (e := 4) Tryz.underlying9 Tryz.underlying137 (zero_bol W) (s := by1) (by unfold maxLen; omega)
  have h3 := (hM2.below hWw).look (t := 137) (e := 4) Tryz.underlying9 Tryz.underlying137 (zero_bol W) (s := who) (by unfold maxLen; omega)
  rw [hptf] at h1
  rw [bnF_get hK, hB1] at h2
  rw [bnF_get hK, hB2] at h3
  rw [hgx]
  exact ⟨(bg.below hW).cell 0, (bg.below hW).cell 1, (bx.below hW).cell 1, (bx.below hW).cell 2, (bx.below hW).cell 3, (bx.below hW).cell 4, h1, h2, h3⟩
 have hge : ¬ gd = gx := by omega
 have hge2 : ¬ gx = gd := by omega
 rw [← hgx] at hS1
 obtain rfl : B1 = false := by rw [← hB1]; exact hb
 have hb2 : ¬ D.bn by1 = true := by rw [hb]; decide
 have HO : Hid (o = none) := Lib.hid (ho.trans (by
  unfold stpE
  rw [if_neg hb2, if_pos rfl, if_pos (.inl (by show (rnOf D id).isSome = true; rw [ptOf_rn hL, hp]; rfl))]))
 have HL := Lib.hid hL
 obtain rfl : pv = some ⟨x0.1, 0, none⟩ := by rw [hpv, hp]; rfl
 clear ho hB1 hB2 hpv hp
 clear hS hM1 hM2 hptf bx bg hbw1 hiz hwz hbz
 go_enter Tryz.func136, Tryz.ntmps136
 go_upto_region 1 with (fail)
 rw [← hgx]
 clear hw1 hgx
 have hdr : Below w1.heap.size w1 w1.drew := below_drewN (Below.refl _ _) 1
 go_wp2_with fail
 go_region_held3 (fun W => W.cell? ⟨gd, 0, none⟩ = some (.map (some m1)) ∧ W.cell? ⟨gd, 1, none⟩ = some (.map (some m2)) ∧ W.cell? ⟨gx, 1, none⟩ = some (.int .i64 1) ∧ W.cell? ⟨gx, 2, none⟩ = some (.string id) ∧ W.cell? ⟨gx, 3, none⟩ = some (.string who) ∧ W.cell? ⟨gx, 4, none⟩ = some (.string by1) ∧ (Instr.lookup 181 (.map (some m1)) (.string id) false).run Tryz.prog W = .ok (.pointer (some ⟨x0.1, 0, none⟩)) W ∧ (Instr.lookup 137 (.map (some m2)) (.string by1) false).run Tryz.prog W = .ok (.bool false) W ∧ (Instr.lookup 137 (.map (some m2)) (.string who) false).run Tryz.prog W = .ok (.bool B2) W)
  (first | exact HSP.out _ hdr) (fail)
 have hdr2 : Below w1.heap.size w1 w1.drew.drew := below_call hdr (below_drewN (Below.refl _ _) 1) (Nat.le_refl _)
 go_wp2_with fail
 go_region_held3 (fun W => W.cell? ⟨gd, 0, none⟩ = some (.map (some m1)) ∧ W.cell? ⟨gd, 1, none⟩ = some (.map (some m2)) ∧ W.cell? ⟨gx, 1, none⟩ = some (.int .i64 1) ∧ W.cell? ⟨gx, 2, none⟩ = some (.string id) ∧ W.cell? ⟨gx, 3, none⟩ = some (.string who) ∧ W.cell? ⟨gx, 4, none⟩ = some (.string by1) ∧ (Instr.lookup 181 (.map (some m1)) (.string id) false).run Tryz.prog W = .ok (.pointer (some ⟨x0.1, 0, none⟩)) W ∧ (Instr.lookup 137 (.map (some m2)) (.string by1) false).run Tryz.prog W = .ok (.bool false) W ∧ (Instr.lookup 137 (.map (some m2)) (.string who) false).run Tryz.prog W = .ok (.bool B2) W)
  (first | exact HSP.out _ hdr2) (fail)
 have hS2 := hS1.drew.drew
 obtain ⟨w2, hw2⟩ : ∃ W, W = w1.drew.drew := ⟨_, rfl⟩
 rw [← hw2] at hS2 hdr2 ⊢
 obtain ⟨y0, y1, y2, y3, y4, y5, y6, y7, y8⟩ := HSP.out w2 hdr2
 clear hw2 hS1 hdr
 have HS2 := Lib.hid hS2
 clear hS2 HSP hdr2 y6 y7 y8
 go_wp2_with fail
 go_quiet (fail)
 go_wp2_with fail
 go_ret
 exact fol_no HO.out HL.out (by unfold dskL; exact (HS2.out.drewN _).tail)
set_option maxRecDepth 100000 in
set_option maxHeartbeats 4000000 in
theorem fol1b_calls (w0 : World) (gd m1 m2 n : Nat) (D : Dsk) (L : List Rpt) (l : List Rsc) (at_ tm dt : Int) (id who by1 ct : ByteArray) (w : World) (hS : Sq w0 w (dskL gd m1 n m2 n L D l)) (hK : KD D) (hL : LD L D) (hx : EvK ⟨at_, 1, id, who, by1, ct, tm, dt⟩) (hb : D.bn by1 = false) (hp : ptOf L id = none) (hw : D.bn who = true) :
 Calls Tryz.prog 136 #[.pointer (some ⟨gd, 0, none⟩), .agg #[.int .i64 at_, .int .i64 1, .string id, .string who, .string by1, .string ct, .int .i64 tm, .int .i64 dt]] w (FolD w0 gd m1 m2 n D l (stpE D ⟨at_, 1, id, who, by1, ct, tm, dt⟩) ) := by
 obtain ⟨o, ho⟩ : ∃ o, o = stpE D ⟨at_, 1, id, who, by1, ct, tm, dt⟩ := ⟨_, rfl⟩
 rw [← ho]
 have hiz := hx.iz
 have hwz := hx.wz
 have hbz := hx.bz
 simp only at hiz hwz hbz
 obtain ⟨B1, hB1⟩ : ∃ b, D.bn by1 = b := ⟨_, rfl⟩
 obtain ⟨B2, hB2⟩ : ∃ b, D.bn who = b := ⟨_, rfl⟩
 obtain ⟨pv, hpv⟩ : ∃ p : Option Addr, p = (ptOf L id).map (fun x => (⟨x.1, 0, none⟩ : Addr)) := ⟨_, rfl⟩
 have hptf : (ptF L id).getD (.pointer none) = .pointer pv := by
  rw [hpv]
  unfold ptF
  cases ptOf L id <;> rfl
 unfold dskL at hS
 have hM1 : MapS w 9 m1 n (ptF L) := hS.nth 1 rfl
 have hM2 : MapS w 9 m2 n (bnF D) := hS.nth 2 rfl
 have hgl : gd < w.heap.size := Blk.lt (show Blk w gd _ _ from hS.nth 0 rfl)
 obtain ⟨gx, hgx⟩ : ∃ gx, gx = w.heap.size := ⟨_, rfl⟩
 have hS1 := hS.add #[.int .i64 at_, .int .i64 1, .string id, .string who, .string by1, .string ct, .int .i64 tm, .int .i64 dt] 78
 obtain ⟨w1, hw1⟩ : ∃ W, w.alloc (.cells #[.int .i64 at_, .int .i64 1, .string id, .string who, .string by1, .string ct, .int .i64 tm, .int .i64 dt] 78) = W := ⟨_, rfl⟩
 have hbw1 : Below w.heap.size w w1 := by rw [← hw1]; exact (Below.refl _ _).alloc (Nat.le_refl _) _
 rw [hw1] at hS1
 have bx : Blk w1 w.heap.size 78 #[.int .i64 at_, .int .i64 1, .string id, .string who, .string by1, .string ct, .int .i64 tm, .int .i64 dt] := hS1.nth 0 rfl
 have bg : Blk w1 gd 183 #[.map (some m1), .map (some m2)] := hS1.nth 1 rfl
 have HSP : Hid (∀ W, Below w1.heap.size w1 W → W.cell? ⟨gd, 0, none⟩ = some (.map (some m1)) ∧ W.cell? ⟨gd, 1, none⟩ = some (.map (some m2)) ∧ W.cell? ⟨gx, 1, none⟩ = some (.int .i64 1) ∧ W.cell? ⟨gx, 2, none⟩ = some (.string id) ∧ W.cell? ⟨gx, 3, none⟩ = some (.string who) ∧ W.cell? ⟨gx, 4, none⟩ = some (.string by1) ∧ (Instr.lookup 181 (.map (some m1)) (.string id) false).run Tryz.prog W = .ok (.pointer pv) W ∧ (Instr.lookup 137 (.map (some m2)) (.string by1) false).run Tryz.prog W = .ok (.bool B1) W ∧ (Instr.lookup 137 (.map (some m2)) (.string who) false).run Tryz.prog W = .ok (.bool B2) W) := fun W hW => by
  have hWw := below_call hbw1 hW (by have := hbw1.size; omega)
  have h1 := (hM1.below hWw).look (t := 181) (e := 166) Tryz.underlying9 Tryz.underlying181 (zero_run W) (s := id) (by unfold maxLen; omega)
  have h2 := (hM2.below hWw).look (t := 137) (e := 4) Tryz.underlying9 Tryz.underlying137 (zero_bol W) (s := by1) (by unfold maxLen; omega)
  have h3 := (hM2.below hWw).look (t := 137) (e := 4) Tryz.underlying9 Tryz.underlying137 (zero_bol W) (s := who) (by unfold maxLen; omega)
  rw [hptf] at h1
  rw [bnF_get hK, hB1] at h2
  rw [bnF_get hK, hB2] at h3
  rw [hgx]
  exact ⟨(bg.below hW).cell 0, (bg.below hW).cell 1, (bx.below hW).cell 1, (bx.below hW).cell 2, (bx.below hW).cell 3, (bx.below hW).cell 4, h1, h2, h3⟩
 have hge : ¬ gd = gx := by omega
 have hge2 : ¬ gx = gd := by omega
 rw [← hgx] at hS1
 obtain rfl : B1 = false := by rw [← hB1]; exact hb
 have hb2 : ¬ D.bn by1 = true := by rw [hb]; decide
 obtain rfl : B2 = true := by rw [← hB2]; exact hw
 have HO : Hid (o = none) := Lib.hid (ho.trans (by
  unfold stpE
  rw [if_neg hb2, if_pos rfl, if_pos (.inr hw)]))
 have HL := Lib.hid hL
 obtain rfl : pv = none := by rw [hpv, hp]; rfl
 clear ho hB1 hB2 hpv hp
 clear hS hM1 hM2 hptf bx bg hbw1 hiz hwz hbz
 go_enter Tryz.func136, Tryz.ntmps136
 go_upto_region 1 with (fail)
 rw [← hgx]
 clear hw1 hgx
 have hdr : Below w1.heap.size w1 w1.drew := below_drewN (Below.refl _ _) 1
 go_wp2_with fail
 go_region_held3 (fun W => W.cell? ⟨gd, 0, none⟩ = some (.map (some m1)) ∧ W.cell? ⟨gd, 1, none⟩ = some (.map (some m2)) ∧ W.cell? ⟨gx, 1, none⟩ = some (.int .i64 1) ∧ W.cell? ⟨gx, 2, none⟩ = some (.string id) ∧ W.cell? ⟨gx, 3, none⟩ = some (.string who) ∧ W.cell? ⟨gx, 4, none⟩ = some (.string by1) ∧ (Instr.lookup 181 (.map (some m1)) (.string id) false).run Tryz.prog W = .ok (.pointer none) W ∧ (Instr.lookup 137 (.map (some m2)) (.string by1) false).run Tryz.prog W = .ok (.bool false) W ∧ (Instr.lookup 137 (.map (some m2)) (.string who) false).run Tryz.prog W = .ok (.bool true) W)
  (first | exact HSP.out _ hdr) (fail)
 have hdr2 : Below w1.heap.size w1 w1.drew.drew := below_call hdr (below_drewN (Below.refl _ _) 1) (Nat.le_refl _)
 go_wp2_with fail
 go_region_held3 (fun W => W.cell? ⟨gd, 0, none⟩ = some (.map (some m1)) ∧ W.cell? ⟨gd, 1, none⟩ = some (.map (some m2)) ∧ W.cell? ⟨gx, 1, none⟩ = some (.int .i64 1) ∧ W.cell? ⟨gx, 2, none⟩ = some (.string id) ∧ W.cell? ⟨gx, 3, none⟩ = some (.string who) ∧ W.cell? ⟨gx, 4, none⟩ = some (.string by1) ∧ (Instr.lookup 181 (.map (some m1)) (.string id) false).run Tryz.prog W = .ok (.pointer none) W ∧ (Instr.lookup 137 (.map (some m2)) (.string by1) false).run Tryz.prog W = .ok (.bool false) W ∧ (Instr.lookup 137 (.map (some m2)) (.string who) false).run Tryz.prog W = .ok (.bool true) W)
  (first | exact HSP.out _ hdr2) (fail)
 have hS2 := hS1.drew.drew
 obtain ⟨w2, hw2⟩ : ∃ W, W = w1.drew.drew := ⟨_, rfl⟩
 rw [← hw2] at hS2 hdr2 ⊢
 obtain ⟨y0, y1, y2, y3, y4, y5, y6, y7, y8⟩ := HSP.out w2 hdr2
 clear hw2 hS1 hdr
 have HS2 := Lib.hid hS2
 have HSP2 := Lib.hid (HSP.out w2.drew (below_call hdr2 (below_drewN (Below.refl _ _) 1) (Nat.le_refl _)))
 clear hS2 hdr2
 go_wp2_with fail
 go_region_held3 (fun W => W.cell? ⟨gd, 0, none⟩ = some (.map (some m1)) ∧ W.cell? ⟨gd, 1, none⟩ = some (.map (some m2)) ∧ W.cell? ⟨gx, 1, none⟩ = some (.int .i64 1) ∧ W.cell? ⟨gx, 2, none⟩ = some (.string id) ∧ W.cell? ⟨gx, 3, none⟩ = some (.string who) ∧ W.cell? ⟨gx, 4, none⟩ = some (.string by1) ∧ (Instr.lookup 181 (.map (some m1)) (.string id) false).run Tryz.prog W = .ok (.pointer none) W ∧ (Instr.lookup 137 (.map (some m2)) (.string by1) false).run Tryz.prog W = .ok (.bool false) W ∧ (Instr.lookup 137 (.map (some m2)) (.string who) false).run Tryz.prog W = .ok (.bool true) W)
  (first | exact HSP2.out) (fail)
 go_wp2_with fail
 go_ret
 exact fol_no HO.out HL.out (by unfold dskL; exact (HS2.out.drewN _).tail)
set_option maxRecDepth 100000 in
set_option maxHeartbeats 4000000 in
theorem fol1c_calls (w0 : World) (gd m1 m2 n : Nat) (D : Dsk) (L : List Rpt) (l : List Rsc) (at_ tm dt : Int) (id who by1 ct : ByteArray) (w : World) (hS : Sq w0 w (dskL gd m1 n m2 n L D l)) (hK : KD D) (hL : LD L D) (hn : n ≤ 100000) (hx : EvK ⟨at_, 1, id, who, by1, ct, tm, dt⟩) (hb : D.bn by1 = false) (hp : ptOf L id = none) (hw : D.bn who = false) :
 Calls Tryz.prog 136 #[.pointer (some ⟨gd, 0, none⟩), .agg #[.int .i64 at_, .int .i64 1, .string id, .string who, .string by1, .string ct, .int .i64 tm, .int .i64 dt]] w (FolD w0 gd m1 m2 n D l (stpE D ⟨at_, 1, id, who, by1, ct, tm, dt⟩) ) := by
 obtain ⟨o, ho⟩ : ∃ o, o = stpE D ⟨at_, 1, id, who, by1, ct, tm, dt⟩ := ⟨_, rfl⟩
 rw [← ho]
 have hiz := hx.iz
 have hwz := hx.wz
 have hbz := hx.bz
 simp only at hiz hwz hbz
 obtain ⟨B1, hB1⟩ : ∃ b, D.bn by1 = b := ⟨_, rfl⟩
 obtain ⟨B2, hB2⟩ : ∃ b, D.bn who = b := ⟨_, rfl⟩
 obtain ⟨pv, hpv⟩ : ∃ p : Option Addr, p = (ptOf L id).map (fun x => (⟨x.1, 0, none⟩ : Addr)) := ⟨_, rfl⟩
 have hptf : (ptF L id).getD (.pointer none) = .pointer pv := by
  rw [hpv]
  unfold ptF
  cases ptOf L id <;> rfl
 unfold dskL at hS
 have hM1 : MapS w 9 m1 n (ptF L) := hS.nth 1 rfl
 have hM2 : MapS w 9 m2 n (bnF D) := hS.nth 2 rfl
 have hgl : gd < w.heap.size := Blk.lt (show Blk w gd _ _ from hS.nth 0 rfl)
 obtain ⟨gx, hgx⟩ : ∃ gx, gx = w.heap.size := ⟨_, rfl⟩
 have hS1 := hS.add #[.int .i64 at_, .int .i64 1, .string id, .string who, .string by1, .string ct, .int .i64 tm, .int .i64 dt] 78
 obtain ⟨w1, hw1⟩ : ∃ W, w.alloc (.cells #[.int .i64 at_, .int .i64 1, .string id, .string who, .string by1, .string ct, .int .i64 tm, .int .i64 dt] 78) = W := ⟨_, rfl⟩
 have hbw1 : Below w.heap.size w w1 := by rw [← hw1]; exact (Below.refl _ _).alloc (Nat.le_refl _) _
 rw [hw1] at hS1
 have bx : Blk w1 w.heap.size 78 #[.int .i64 at_, .int .i64 1, .string id, .string who, .string by1, .string ct, .int .i64 tm, .int .i64 dt] := hS1.nth 0 rfl
 have bg : Blk w1 gd 183 #[.map (some m1), .map (some m2)] := hS1.nth 1 rfl
 have HSP : Hid (∀ W, Below w1.heap.size w1 W → W.cell? ⟨gd, 0, none⟩ = some (.map (some m1)) ∧ W.cell? ⟨gd, 1, none⟩ = some (.map (some m2)) ∧ W.cell? ⟨gx, 1, none⟩ = some (.int .i64 1) ∧ W.cell? ⟨gx, 2, none⟩ = some (.string id) ∧ W.cell? ⟨gx, 3, none⟩ = some (.string who) ∧ W.cell? ⟨gx, 4, none⟩ = some (.string by1) ∧ (Instr.lookup 181 (.map (some m1)) (.string id) false).run Tryz.prog W = .ok (.pointer pv) W ∧ (Instr.lookup 137 (.map (some m2)) (.string by1) false).run Tryz.prog W = .ok (.bool B1) W ∧ (Instr.lookup 137 (.map (some m2)) (.string who) false).run Tryz.prog W = .ok (.bool B2) W) := fun W hW => by
  have hWw := below_call hbw1 hW (by have := hbw1.size; omega)
  have h1 := (hM1.below hWw).look (t := 181) (e := 166) Tryz.underlying9 Tryz.underlying181 (zero_run W) (s := id) (by unfold maxLen; omega)
  have h2 := (hM2.below hWw).look (t := 137) (e := 4) Tryz.underlying9 Tryz.underlying137 (zero_bol W) (s := by1) (by unfold maxLen; omega)
  have h3 := (hM2.below hWw).look (t := 137) (e := 4) Tryz.underlying9 Tryz.underlying137 (zero_bol W) (s := who) (by unfold maxLen; omega)
  rw [hptf] at h1
  rw [bnF_get hK, hB1] at h2
  rw [bnF_get hK, hB2] at h3
  rw [hgx]
  exact ⟨(bg.below hW).cell 0, (bg.below hW).cell 1, (bx.below hW).cell 1, (bx.below hW).cell 2, (bx.below hW).cell 3, (bx.below hW).cell 4, h1, h2, h3⟩
 have hge : ¬ gd = gx := by omega
 have hge2 : ¬ gx = gd := by omega
 rw [← hgx] at hS1
 obtain rfl : B1 = false := by rw [← hB1]; exact hb
 have hb2 : ¬ D.bn by1 = true := by rw [hb]; decide
 obtain rfl : B2 = false := by rw [← hB2]; exact hw
 have hrn : rnOf D id = none := by rw [ptOf_rn hL, hp]; rfl
 have HO : Hid (o = some (addR D ⟨at_, 1, id, who, by1, ct, tm, dt⟩)) := Lib.hid (ho.trans (by
  unfold stpE
  rw [if_neg hb2, if_pos rfl, if_neg (by
   rintro (h | h)
   · have h : (rnOf D id).isSome = true := h
     rw [hrn] at h
     cases h
   · have h : D.bn who = true := h
     rw [hw] at h
     cases h)]))
 have HL := Lib.hid hL
 have HP := Lib.hid hp
 have HIZ := Lib.hid hiz
 obtain rfl : pv = none := by rw [hpv, hp]; rfl
 clear ho hB1 hB2 hpv hp hrn
 clear hS hM1 hM2 hptf bx bg hbw1 hiz hwz hbz
 go_enter Tryz.func136, Tryz.ntmps136
 go_upto_region 1 with (fail)
 rw [← hgx]
 clear hw1 hgx
 have hdr : Below w1.heap.size w1 w1.drew := below_drewN (Below.refl _ _) 1
 go_wp2_with fail
 go_region_held3 (fun W => W.cell? ⟨gd, 0, none⟩ = some (.map (some m1)) ∧ W.cell? ⟨gd, 1, none⟩ = some (.map (some m2)) ∧ W.cell? ⟨gx, 1, none⟩ = some (.int .i64 1) ∧ W.cell? ⟨gx, 2, none⟩ = some (.string id) ∧ W.cell? ⟨gx, 3, none⟩ = some (.string who) ∧ W.cell? ⟨gx, 4, none⟩ = some (.string by1) ∧ (Instr.lookup 181 (.map (some m1)) (.string id) false).run Tryz.prog W = .ok (.pointer none) W ∧ (Instr.lookup 137 (.map (some m2)) (.string by1) false).run Tryz.prog W = .ok (.bool false) W ∧ (Instr.lookup 137 (.map (some m2)) (.string who) false).run Tryz.prog W = .ok (.bool false) W)
  (first | exact HSP.out _ hdr) (fail)
 have hdr2 : Below w1.heap.size w1 w1.drew.drew := below_call hdr (below_drewN (Below.refl _ _) 1) (Nat.le_refl _)
 go_wp2_with fail
 go_region_held3 (fun W => W.cell? ⟨gd, 0, none⟩ = some (.map (some m1)) ∧ W.cell? ⟨gd, 1, none⟩ = some (.map (some m2)) ∧ W.cell? ⟨gx, 1, none⟩ = some (.int .i64 1) ∧ W.cell? ⟨gx, 2, none⟩ = some (.string id) ∧ W.cell? ⟨gx, 3, none⟩ = some (.string who) ∧ W.cell? ⟨gx, 4, none⟩ = some (.string by1) ∧ (Instr.lookup 181 (.map (some m1)) (.string id) false).run Tryz.prog W = .ok (.pointer none) W ∧ (Instr.lookup 137 (.map (some m2)) (.string by1) false).run Tryz.prog W = .ok (.bool false) W ∧ (Instr.lookup 137 (.map (some m2)) (.string who) false).run Tryz.prog W = .ok (.bool false) W)
  (first | exact HSP.out _ hdr2) (fail)
 have hS2 := hS1.drew.drew
 obtain ⟨w2, hw2⟩ : ∃ W, W = w1.drew.drew := ⟨_, rfl⟩
 rw [← hw2] at hS2 hdr2 ⊢
 obtain ⟨y0, y1, y2, y3, y4, y5, y6, y7, y8⟩ := HSP.out w2 hdr2
 clear hw2 hS1 hdr
 have HS2 := Lib.hid hS2
 have hdr3 : Below w1.heap.size w1 w2.drew := below_call hdr2 (below_drewN (Below.refl _ _) 1) (Nat.le_refl _)
 have HSP2 := Lib.hid (HSP.out w2.drew hdr3)
 have bx2 : Blk w2.drew gx 78 #[.int .i64 at_, .int .i64 1, .string id, .string who, .string by1, .string ct, .int .i64 tm, .int .i64 dt] := hS2.drew.nth 0 rfl
 clear hS2 hdr2
 go_wp2_with fail
 go_region_held3 (fun W => W.cell? ⟨gd, 0, none⟩ = some (.map (some m1)) ∧ W.cell? ⟨gd, 1, none⟩ = some (.map (some m2)) ∧ W.cell? ⟨gx, 1, none⟩ = some (.int .i64 1) ∧ W.cell? ⟨gx, 2, none⟩ = some (.string id) ∧ W.cell? ⟨gx, 3, none⟩ = some (.string who) ∧ W.cell? ⟨gx, 4, none⟩ = some (.string by1) ∧ (Instr.lookup 181 (.map (some m1)) (.string id) false).run Tryz.prog W = .ok (.pointer none) W ∧ (Instr.lookup 137 (.map (some m2)) (.string by1) false).run Tryz.prog W = .ok (.bool false) W ∧ (Instr.lookup 137 (.map (some m2)) (.string who) false).run Tryz.prog W = .ok (.bool false) W)
  (first | exact HSP2.out) (fail)
 have hS3 := HS2.out.drew
 obtain ⟨w3, hw3⟩ : ∃ W, W = w2.drew := ⟨_, rfl⟩
 rw [← hw3] at hS3 ⊢
 clear hw3 HSP2 bx2 HSP hdr3 y0 y1 y2 y3 y4 y5 y6 y7 y8
 have hgL : ∀ y ∈ L, y.1 ≠ w3.heap.size := fun y hy => by
  have := (hS3.hp.new (rAll rRun L) (List.mem_of_getElem? (i := 4) rfl) y.1 ⟨y, hy, rfl⟩).2
  omega
 have HGL := Lib.hid hgL
 have hS4 := (hS3.add #[.int .i64 at_, .int .i64 1, .string id, .string who, .string by1, .string ct, .int .i64 tm, .int .i64 dt, .string ⟨#[119, 97, 105, 116, 115]⟩] 168).drew
 obtain ⟨w6, hput, hS6⟩ := map_put Tryz.underlying181 (hS4.front 3 rfl rfl) (by unfold maxLen; omega) (s := id) (by have := HIZ.out; unfold maxLen; omega) (.pointer (some ⟨w3.heap.size, 0, none⟩))
 have HK : Hid (∀ W i r, Sq w0 W r → r[i]? = some (rBlk gx 78 #[.int .i64 at_, .int .i64 1, .string id, .string who, .string by1, .string ct, .int .i64 tm, .int .i64 dt]) → r[i + 1]? = some (rBlk gd 183 #[.map (some m1), .map (some m2)]) → W.cell? ⟨gd, 0, none⟩ = some (.map (some m1)) ∧ W.cell? ⟨gx, 0, none⟩ = some (.int .i64 at_) ∧ W.cell? ⟨gx, 1, none⟩ = some (.int .i64 1) ∧ W.cell? ⟨gx, 2, none⟩ = some (.string id) ∧ W.cell? ⟨gx, 3, none⟩ = some (.string who) ∧ W.cell? ⟨gx, 4, none⟩ = some (.string by1) ∧ W.cell? ⟨gx, 5, none⟩ = some (.string ct) ∧ W.cell? ⟨gx, 6, none⟩ = some (.int .i64 tm) ∧ W.cell? ⟨gx, 7, none⟩ = some (.int .i64 dt)) := Lib.hid (fun W i r h h1 h2 => by
  have b1 : Blk W gx 78 #[.int .i64 at_, .int .i64 1, .string id, .string who, .string by1, .string ct, .int .i64 tm, .int .i64 dt] := h.nth i h1
  have b2 : Blk W gd 183 #[.map (some m1), .map (some m2)] := h.nth (i + 1) h2
  exact ⟨b2.cell 0, b1.cell 0, b1.cell 1, b1.cell 2, b1.cell 3, b1.cell 4, b1.cell 5, b1.cell 6, b1.cell 7⟩)
 have K3 := Lib.hid (HK.out _ 0 _ hS3.drew rfl rfl)
 have K4 := Lib.hid (HK.out _ 1 _ hS4 rfl rfl)
 have K6 := Lib.hid (HK.out _ 2 _ hS6 rfl rfl)
 have HFI : Hid (FolD w0 gd m1 m2 n D l o (.returned (.bool true)) w6) := Lib.hid (by
  refine fol_yes HO.out (HL.out.add w3.heap.size _ HGL.out) (n1 := n + 1) (n2 := n) (by omega) (by omega) ?_
  unfold dskL
  rw [← ptF_add L w3.heap.size _ HP.out]
  have h7 := (hS6.drop 2 rfl rfl).front 1 rfl rfl
  have h8 := ((h7.front 4 rfl rfl).front 1 rfl rfl).snocR (f := rRun) (a := (w3.heap.size, (⟨at_, 1, id, who, by1, ct, tm, dt⟩, 0))) rRun_ok
  exact ((h8.front 3 rfl rfl).front 2 rfl rfl).front 3 rfl rfl)
 clear hS6 hS4 hS3 HK HS2 hgL
 go_wp2_with fail
 go_region_held3 (fun W => W.cell? ⟨gd, 0, none⟩ = some (.map (some m1)) ∧ W.cell? ⟨gx, 0, none⟩ = some (.int .i64 at_) ∧ W.cell? ⟨gx, 1, none⟩ = some (.int .i64 1) ∧ W.cell? ⟨gx, 2, none⟩ = some (.string id) ∧ W.cell? ⟨gx, 3, none⟩ = some (.string who) ∧ W.cell? ⟨gx, 4, none⟩ = some (.string by1) ∧ W.cell? ⟨gx, 5, none⟩ = some (.string ct) ∧ W.cell? ⟨gx, 6, none⟩ = some (.int .i64 tm) ∧ W.cell? ⟨gx, 7, none⟩ = some (.int .i64 dt))
  (first | exact K3.out | exact K4.out | exact K6.out) (fail)
 all_goals (go_wp2_with fail; go_ret; exact HFI.out)
end Go.Proofs.YtapgnaimbgjcnaaGreatDoor
