/-
  splitref2.(*site).follow, by kinds (Printed by gen_sk3.py.)
-/
import Derived.Test.YtapgnaimbgjcnaaGreatDoorZTk
import Derived.Test.YtapgnaimbgjcnaaGreatDoorZSk1R
import Derived.Test.YtapgnaimbgjcnaaGreatDoorZRatMake4
import Derived.Deep.RegionHeld3
import Derived.RegionTactic
import Derived.Deep.DeepCutAuto
import Derived.Deep.CutBlock
namespace Go.Proofs.YtapgnaimbgjcnaaGreatDoor
open Go Go.RowKit
attribute [local go_sem ↓] Go.wp_at_zero Go.wp_at_succ
set_option maxRecDepth 100000 in
set_option maxHeartbeats 16000000 in
theorem fosK5_calls (w0 : World) (gs m1 m2 m3 n : Nat) (V : Value) (D : Dsk) (l : List Rsc) (at_ tm dt : Int) (id who by1 ct : ByteArray) (w : World) (hS : Sq w0 w (sitL gs m1 n m2 n m3 n V D l)) (hK : KD D) (hn : n ≤ 100000) (hx : EvK ⟨at_, 5, id, who, by1, ct, tm, dt⟩) :
 Calls Tryz.prog 142 #[.pointer (some ⟨gs, 0, none⟩), .agg #[.int .i64 at_, .int .i64 5, .string id, .string who, .string by1, .string ct, .int .i64 tm, .int .i64 dt]] w (FolS w0 gs m1 m2 m3 n V D l (stpE D ⟨at_, 5, id, who, by1, ct, tm, dt⟩)) := by
 obtain ⟨o, ho⟩ : ∃ o, o = stpE D ⟨at_, 5, id, who, by1, ct, tm, dt⟩ := ⟨_, rfl⟩
 rw [← ho]
 have hiz := hx.iz
 have hwz := hx.wz
 have hbz := hx.bz
 simp only at hiz hwz hbz
 obtain ⟨B1, hB1⟩ : ∃ b, D.bn by1 = b := ⟨_, rfl⟩
 obtain ⟨B2, hB2⟩ : ∃ b, D.bn who = b := ⟨_, rfl⟩
 unfold sitL at hS
 have hM1 : MapS w 9 m1 n (evF D) := hS.nth 1 rfl
 have hM2 : MapS w 9 m2 n (stF D) := hS.nth 2 rfl
 have hM3 : MapS w 9 m3 n (bnF D) := hS.nth 3 rfl
 have hgl : gs < w.heap.size := Blk.lt (show Blk w gs _ _ from hS.nth 0 rfl)
 obtain ⟨hs, ea, ek, ei, ew, eb, ec, et, ed, IS, he2, he1, hrel⟩ := fos_rel hK id
 obtain ⟨gx, hgx⟩ : ∃ gx, gx = w.heap.size := ⟨_, rfl⟩
 have hS1 := hS.add #[.int .i64 at_, .int .i64 5, .string id, .string who, .string by1, .string ct, .int .i64 tm, .int .i64 dt] 78
 obtain ⟨w1, hw1⟩ : ∃ W, w.alloc (.cells #[.int .i64 at_, .int .i64 5, .string id, .string who, .string by1, .string ct, .int .i64 tm, .int .i64 dt] 78) = W := ⟨_, rfl⟩
 have hbw1 : Below w.heap.size w w1 := by rw [← hw1]; exact (Below.refl _ _).alloc (Nat.le_refl _) _
 have hz1 : w1.heap.size = w.heap.size + 1 := by rw [← hw1]; simp
 rw [hw1] at hS1
 have hS2 := (hS1.add #[.int .i64 ea, .int .i64 ek, .string ei, .string ew, .string eb, .string ec, .int .i64 et, .int .i64 ed] 78).drew
 have bx : Blk w1 w.heap.size 78 #[.int .i64 at_, .int .i64 5, .string id, .string who, .string by1, .string ct, .int .i64 tm, .int .i64 dt] := hS1.nth 0 rfl
 have bg : Blk w1 gs 140 #[.map (some m1), .map (some m2), .map (some m3), V] := hS1.nth 1 rfl
 have HSP : Hid (∀ W, Below w1.heap.size w1 W → W.cell? ⟨gs, 0, none⟩ = some (.map (some m1)) ∧ W.cell? ⟨gs, 1, none⟩ = some (.map (some m2)) ∧ W.cell? ⟨gs, 2, none⟩ = some (.map (some m3)) ∧ W.cell? ⟨gx, 1, none⟩ = some (.int .i64 5) ∧ W.cell? ⟨gx, 2, none⟩ = some (.string id) ∧ W.cell? ⟨gx, 3, none⟩ = some (.string who) ∧ W.cell? ⟨gx, 4, none⟩ = some (.string by1) ∧ (Instr.lookup 135 (.map (some m1)) (.string id) true).run Tryz.prog W = .ok (.tuple #[.agg #[.int .i64 ea, .int .i64 ek, .string ei, .string ew, .string eb, .string ec, .int .i64 et, .int .i64 ed], .bool IS]) W ∧ (Instr.lookup 136 (.map (some m2)) (.string id) false).run Tryz.prog W = .ok (.string hs) W ∧ (Instr.lookup 137 (.map (some m3)) (.string by1) false).run Tryz.prog W = .ok (.bool B1) W ∧ (Instr.lookup 137 (.map (some m3)) (.string who) false).run Tryz.prog W = .ok (.bool B2) W) := fun W hW => by
  have hWw := below_call hbw1 hW (by have := hbw1.size; omega)
  have h1 := (hM1.below hWw).lookOk (t := 135) (e := 78) Tryz.underlying9 Tryz.underlying135 (zero_evt W) (s := id) (by unfold maxLen; omega)
  have h2 := (hM2.below hWw).look (t := 136) (e := 9) Tryz.underlying9 Tryz.underlying136 (zero_str W) (s := id) (by unfold maxLen; omega)
  have h3 := (hM3.below hWw).look (t := 137) (e := 4) Tryz.underlying9 Tryz.underlying137 (zero_bol W) (s := by1) (by unfold maxLen; omega)
  have h4 := (hM3.below hWw).look (t := 137) (e := 4) Tryz.underlying9 Tryz.underlying137 (zero_bol W) (s := who) (by unfold maxLen; omega)
  rw [he1.1, he1.2] at h1
  rw [he2] at h2
  rw [bnF_get hK, hB1] at h3
  rw [bnF_get hK, hB2] at h4
  rw [hgx]
  exact ⟨(bg.below hW).cell 0, (bg.below hW).cell 1, (bg.below hW).cell 2, (bx.below hW).cell 1, (bx.below hW).cell 2, (bx.below hW).cell 3, (bx.below hW).cell 4, h1, h2, h3, h4⟩
 have hge : ¬ gs = gx := by omega
 have hge2 : ¬ gx = gs := by omega
 have hge3 : ¬ gs = gx + 1 := by omega
 rw [hz1, ← hgx] at hS2
 rw [← hgx] at hz1
 have HREL := Lib.hid hrel
 have HHO := Lib.hid ho
 have HB1 := Lib.hid hB1
 have HB2 := Lib.hid hB2
 have HIZ := Lib.hid hiz
 have HWZ := Lib.hid hwz
 clear ho hB1 hB2 hrel hS hS1 hM1 hM2 hM3 he1 he2 bx bg hbw1 hiz hwz hbz
 go_enter Tryz.func142, Tryz.ntmps142
 go_upto_region 1 with (fail)
 rw [← hgx]
 clear hw1 hgx
 have hdr : Below w1.heap.size w1 w1.drew := below_drewN (Below.refl _ _) 1
 have hdr1 : Below w1.heap.size w1 (w1.alloc (.cells #[.int .i64 ea, .int .i64 ek, .string ei, .string ew, .string eb, .string ec, .int .i64 et, .int .i64 ed] 78)).drew := below_drewN ((Below.refl _ _).alloc (Nat.le_refl _) _) 1
 go_wp2_with fail
 go_region_held3 (fun W => W.cell? ⟨gs, 0, none⟩ = some (.map (some m1)) ∧ W.cell? ⟨gs, 1, none⟩ = some (.map (some m2)) ∧ W.cell? ⟨gs, 2, none⟩ = some (.map (some m3)) ∧ W.cell? ⟨gx, 1, none⟩ = some (.int .i64 5) ∧ W.cell? ⟨gx, 2, none⟩ = some (.string id) ∧ W.cell? ⟨gx, 3, none⟩ = some (.string who) ∧ W.cell? ⟨gx, 4, none⟩ = some (.string by1) ∧ (Instr.lookup 135 (.map (some m1)) (.string id) true).run Tryz.prog W = .ok (.tuple #[.agg #[.int .i64 ea, .int .i64 ek, .string ei, .string ew, .string eb, .string ec, .int .i64 et, .int .i64 ed], .bool IS]) W ∧ (Instr.lookup 136 (.map (some m2)) (.string id) false).run Tryz.prog W = .ok (.string hs) W ∧ (Instr.lookup 137 (.map (some m3)) (.string by1) false).run Tryz.prog W = .ok (.bool B1) W ∧ (Instr.lookup 137 (.map (some m3)) (.string who) false).run Tryz.prog W = .ok (.bool B2) W)
  (first | exact HSP.out _ hdr | exact HSP.out _ (below_drewN ((Below.refl _ _).alloc (Nat.le_refl _) _) 1) | exact HSP.out _ (hdr.alloc (Nat.le_refl _) _)) (fail)
 all_goals
  obtain ⟨w1a, hw1a, hS2a, hdr1a⟩ : ∃ W, W = _ ∧ Sq w0 W (rBlk (gx + 1) 78 #[.int .i64 ea, .int .i64 ek, .string ei, .string ew, .string eb, .string ec, .int .i64 et, .int .i64 ed] :: rBlk gx 78 #[.int .i64 at_, .int .i64 5, .string id, .string who, .string by1, .string ct, .int .i64 tm, .int .i64 dt] :: rBlk gs 140 #[.map (some m1), .map (some m2), .map (some m3), V] :: rMap 9 m1 n (evF D) :: rMap 9 m2 n (stF D) :: rMap 9 m3 n (bnF D) :: l) ∧ Below w1.heap.size w1 W := ⟨_, rfl, hS2, hdr1⟩
  rw [← hw1a]
  clear hw1a hS2 hdr1
  have hS2 := hS2a
  have hdr1 := hdr1a
  clear hS2a hdr1a
  have hdr2 : Below w1.heap.size w1 w1a.drew := below_call hdr1 (below_drewN (Below.refl _ _) 1) (by have := hdr1.size; omega)
  go_wp2_with fail
  go_region_held3 (fun W => W.cell? ⟨gs, 0, none⟩ = some (.map (some m1)) ∧ W.cell? ⟨gs, 1, none⟩ = some (.map (some m2)) ∧ W.cell? ⟨gs, 2, none⟩ = some (.map (some m3)) ∧ W.cell? ⟨gx, 1, none⟩ = some (.int .i64 5) ∧ W.cell? ⟨gx, 2, none⟩ = some (.string id) ∧ W.cell? ⟨gx, 3, none⟩ = some (.string who) ∧ W.cell? ⟨gx, 4, none⟩ = some (.string by1) ∧ (Instr.lookup 135 (.map (some m1)) (.string id) true).run Tryz.prog W = .ok (.tuple #[.agg #[.int .i64 ea, .int .i64 ek, .string ei, .string ew, .string eb, .string ec, .int .i64 et, .int .i64 ed], .bool IS]) W ∧ (Instr.lookup 136 (.map (some m2)) (.string id) false).run Tryz.prog W = .ok (.string hs) W ∧ (Instr.lookup 137 (.map (some m3)) (.string by1) false).run Tryz.prog W = .ok (.bool B1) W ∧ (Instr.lookup 137 (.map (some m3)) (.string who) false).run Tryz.prog W = .ok (.bool B2) W)
   (first | exact HSP.out _ hdr2) (fail)
  replace hS2 := hS2.drew
  obtain ⟨w2, hw2⟩ : ∃ W, W = w1a.drew := ⟨_, rfl⟩
  rw [← hw2] at hS2 hdr2 ⊢
  obtain ⟨y0, y1, y2, y3, y4, y5, y6, y7, y8, y9, y10⟩ := HSP.out w2 hdr2
  have hE3 : Blk w2 (gx + 1) 78 #[.int .i64 ea, .int .i64 ek, .string ei, .string ew, .string eb, .string ec, .int .i64 et, .int .i64 ed] := hS2.nth 0 rfl
  have r3 := hE3.cell 3
  clear hw2 hdr hdr1 hE3
  have HS2 := Lib.hid hS2
  cases B1
  · cases B2
    · have hb := HB1.out
      have hw := HB2.out
      have HO : Hid (o = some (setB D who true)) := Lib.hid (HHO.out.trans ((stpE_ban hb (.inl rfl)).trans (if_neg (by show ¬ D.bn who = decide ((5 : Int) = 5); rw [hw]; decide))))
      clear hb hw HREL
      have hdr3 : Below w1.heap.size w1 w2.drew := below_call hdr2 (below_drewN (Below.refl _ _) 1) (by have := hdr2.size; omega)
      have HSP2 : Hid (w2.drew.cell? ⟨gx, 3, none⟩ = some (.string who) ∧ w2.drew.cell? ⟨gx, 4, none⟩ = some (.string by1) ∧ w2.drew.cell? ⟨gs, 2, none⟩ = some (.map (some m3)) ∧ (Instr.lookup 137 (.map (some m3)) (.string by1) false).run Tryz.prog w2.drew = .ok (.bool false) w2.drew ∧ (Instr.lookup 137 (.map (some m3)) (.string who) false).run Tryz.prog w2.drew = .ok (.bool false) w2.drew) := by
       obtain ⟨z0, z1, z2, z3, z4, z5, z6, z7, z8, z9, z10⟩ := HSP.out w2.drew hdr3
       exact Lib.hid ⟨z5, z6, z2, z9, z10⟩
      clear hS2
      go_upto_region 6 with (fail)
      clear y0 y1 y2 y3 y4 y5 y6 y7 y8 y9 y10 r3 hdr2 hdr3 HSP
      refine wp_region_held_drew (S := (fun W => W.cell? ⟨gx, 3, none⟩ = some (.string who) ∧ W.cell? ⟨gx, 4, none⟩ = some (.string by1) ∧ W.cell? ⟨gs, 2, none⟩ = some (.map (some m3)) ∧ (Instr.lookup 137 (.map (some m3)) (.string by1) false).run Tryz.prog W = .ok (.bool false) W ∧ (Instr.lookup 137 (.map (some m3)) (.string who) false).run Tryz.prog W = .ok (.bool false) W)) (by kernel_rfl) HSP2.out (fun hHeld => ?_)
      refine tkY 0 (.pointer (some ⟨gs, 0, none⟩)) rfl hHeld ?_
      refine tkY 1 (.pointer (some ⟨gs, 0, none⟩)) rfl hHeld ?_
      refine tkY 2 (.pointer (some ⟨gs, 2, none⟩)) rfl hHeld ?_
      refine tkY 3 (.map (some m3)) rfl hHeld ?_
      refine tkY 4 (.pointer (some ⟨gx, 3, none⟩)) rfl hHeld ?_
      refine tkY 5 (.string who) rfl hHeld ?_
      refine tkY 6 (.bool false) rfl hHeld ?_
      refine tkY 7 (.bool true) rfl hHeld ?_
      refine tkY 8 (.bool true) rfl hHeld ?_
      refine tkY 9 (.bool true) rfl hHeld ?_
      refine tkY 10 (.pointer (some ⟨gs, 0, none⟩)) rfl hHeld ?_
      refine tkY 11 (.pointer (some ⟨gs, 0, none⟩)) rfl hHeld ?_
      refine tkY 12 (.pointer (some ⟨gs, 2, none⟩)) rfl hHeld ?_
      refine tkY 13 (.map (some m3)) rfl hHeld ?_
      refine tkY 14 (.pointer (some ⟨gx, 4, none⟩)) rfl hHeld ?_
      refine tkY 15 (.string by1) rfl hHeld ?_
      refine tkY 16 (.bool false) rfl hHeld ?_
      refine tkY 17 (.bool true) rfl hHeld ?_
      refine tkY 18 (.bool true) rfl hHeld ?_
      refine tkY 19 (.bool true) rfl hHeld ?_
      refine wpAnyH_done (by kernel_rfl) ?_ _
      clear HSP2
      obtain ⟨w3, hw3, hS3⟩ : ∃ W, W = _ ∧ Sq w0 W (rBlk (gx + 1) 78 #[.int .i64 ea, .int .i64 ek, .string ei, .string ew, .string eb, .string ec, .int .i64 et, .int .i64 ed] :: rBlk gx 78 #[.int .i64 at_, .int .i64 5, .string id, .string who, .string by1, .string ct, .int .i64 tm, .int .i64 dt] :: rBlk gs 140 #[.map (some m1), .map (some m2), .map (some m3), V] :: rMap 9 m1 n (evF D) :: rMap 9 m2 n (stF D) :: rMap 9 m3 n (bnF D) :: l) := ⟨_, rfl, HS2.out.drew⟩
      rw [← hw3]
      clear hw3
      obtain ⟨w6, hput, hS6⟩ := map_put Tryz.underlying137 (hS3.drew.front 5 rfl rfl) (by unfold maxLen; omega) (s := who) (by have := HWZ.out; unfold maxLen; omega) (.bool true)
      have K3 : Hid (w3.drew.cell? ⟨gs, 2, none⟩ = some (.map (some m3)) ∧ w3.drew.cell? ⟨gx, 3, none⟩ = some (.string who)) := Lib.hid ⟨(hS3.drew.nth 2 rfl : Blk _ gs 140 #[.map (some m1), .map (some m2), .map (some m3), V]).cell 2, (hS3.drew.nth 1 rfl : Blk _ gx 78 #[.int .i64 at_, .int .i64 5, .string id, .string who, .string by1, .string ct, .int .i64 tm, .int .i64 dt]).cell 3⟩
      have K6 : Hid (w6.cell? ⟨gs, 2, none⟩ = some (.map (some m3)) ∧ w6.cell? ⟨gx, 3, none⟩ = some (.string who)) := Lib.hid ⟨(hS6.nth 3 rfl : Blk _ gs 140 #[.map (some m1), .map (some m2), .map (some m3), V]).cell 2, (hS6.nth 2 rfl : Blk _ gx 78 #[.int .i64 at_, .int .i64 5, .string id, .string who, .string by1, .string ct, .int .i64 tm, .int .i64 dt]).cell 3⟩
      have HFI : Hid (FolS w0 gs m1 m2 m3 n V D l o (.returned (.bool true)) w6) := Lib.hid (by
       refine fos_yes HO.out (n1 := n) (n2 := n) (n3 := n + 1) (by omega) (by omega) (by omega) ?_
       unfold sitL
       rw [← bnF_set, show evF (setB D who true) = evF D from rfl, show stF (setB D who true) = stF D from rfl]
       exact ((((hS6.drop 1 rfl rfl).drop 1 rfl rfl).front 3 rfl rfl).front 3 rfl rfl).front 3 rfl rfl)
      clear hS6 hS3 HS2
      go_wp2_with fail
      go_region_held3 (fun W => W.cell? ⟨gs, 2, none⟩ = some (.map (some m3)) ∧ W.cell? ⟨gx, 3, none⟩ = some (.string who))
       (first | exact K3.out | exact K6.out) (fail)
      all_goals (go_wp2_with fail; go_ret; exact HFI.out)
    · have hb := HB1.out
      have hw := HB2.out
      have HO : Hid (o = none) := Lib.hid (HHO.out.trans ((stpE_ban hb (.inl rfl)).trans (if_pos (hw.trans (show (decide ((5 : Int) = 5)) = true from rfl).symm))))
      clear hb hw HREL
      have hdr3 : Below w1.heap.size w1 w2.drew := below_call hdr2 (below_drewN (Below.refl _ _) 1) (by have := hdr2.size; omega)
      have HSP2 : Hid (w2.drew.cell? ⟨gx, 3, none⟩ = some (.string who) ∧ w2.drew.cell? ⟨gx, 4, none⟩ = some (.string by1) ∧ w2.drew.cell? ⟨gs, 2, none⟩ = some (.map (some m3)) ∧ (Instr.lookup 137 (.map (some m3)) (.string by1) false).run Tryz.prog w2.drew = .ok (.bool false) w2.drew ∧ (Instr.lookup 137 (.map (some m3)) (.string who) false).run Tryz.prog w2.drew = .ok (.bool true) w2.drew) := by
       obtain ⟨z0, z1, z2, z3, z4, z5, z6, z7, z8, z9, z10⟩ := HSP.out w2.drew hdr3
       exact Lib.hid ⟨z5, z6, z2, z9, z10⟩
      clear hS2
      go_upto_region 6 with (fail)
      clear y0 y1 y2 y3 y4 y5 y6 y7 y8 y9 y10 r3 hdr2 hdr3 HSP
      refine wp_region_held_drew (S := (fun W => W.cell? ⟨gx, 3, none⟩ = some (.string who) ∧ W.cell? ⟨gx, 4, none⟩ = some (.string by1) ∧ W.cell? ⟨gs, 2, none⟩ = some (.map (some m3)) ∧ (Instr.lookup 137 (.map (some m3)) (.string by1) false).run Tryz.prog W = .ok (.bool false) W ∧ (Instr.lookup 137 (.map (some m3)) (.string who) false).run Tryz.prog W = .ok (.bool true) W)) (by kernel_rfl) HSP2.out (fun hHeld => ?_)
      refine tkY 0 (.pointer (some ⟨gs, 0, none⟩)) rfl hHeld ?_
      refine tkY 1 (.pointer (some ⟨gs, 0, none⟩)) rfl hHeld ?_
      refine tkY 2 (.pointer (some ⟨gs, 2, none⟩)) rfl hHeld ?_
      refine tkY 3 (.map (some m3)) rfl hHeld ?_
      refine tkY 4 (.pointer (some ⟨gx, 3, none⟩)) rfl hHeld ?_
      refine tkY 5 (.string who) rfl hHeld ?_
      refine tkY 6 (.bool true) rfl hHeld ?_
      refine tkY 7 (.bool true) rfl hHeld ?_
      refine tkY 8 (.bool false) rfl hHeld ?_
      refine tkY 9 (.bool false) rfl hHeld ?_
      refine tkN 10 rfl hHeld ?_
      refine tkN 11 rfl hHeld ?_
      refine tkN 12 rfl hHeld ?_
      refine tkN 13 rfl hHeld ?_
      refine tkN 14 rfl hHeld ?_
      refine tkN 15 rfl hHeld ?_
      refine tkN 16 rfl hHeld ?_
      refine tkN 17 rfl hHeld ?_
      refine tkY 18 (.bool false) rfl hHeld ?_
      refine tkY 19 (.bool false) rfl hHeld ?_
      refine wpAnyH_done (by kernel_rfl) ?_ _
      go_wp2_with fail
      go_ret
      exact fos_no HO.out (by unfold sitL; exact ((HS2.out.drew).tail).tail)
  · cases B2
    · have hb := HB1.out
      have hw := HB2.out
      have HO : Hid (o = none) := Lib.hid (HHO.out.trans (by unfold stpE; rw [if_pos hb]))
      clear hb hw HREL
      have hdr3 : Below w1.heap.size w1 w2.drew := below_call hdr2 (below_drewN (Below.refl _ _) 1) (by have := hdr2.size; omega)
      have HSP2 : Hid (w2.drew.cell? ⟨gx, 3, none⟩ = some (.string who) ∧ w2.drew.cell? ⟨gx, 4, none⟩ = some (.string by1) ∧ w2.drew.cell? ⟨gs, 2, none⟩ = some (.map (some m3)) ∧ (Instr.lookup 137 (.map (some m3)) (.string by1) false).run Tryz.prog w2.drew = .ok (.bool true) w2.drew ∧ (Instr.lookup 137 (.map (some m3)) (.string who) false).run Tryz.prog w2.drew = .ok (.bool false) w2.drew) := by
       obtain ⟨z0, z1, z2, z3, z4, z5, z6, z7, z8, z9, z10⟩ := HSP.out w2.drew hdr3
       exact Lib.hid ⟨z5, z6, z2, z9, z10⟩
      clear hS2
      go_upto_region 6 with (fail)
      clear y0 y1 y2 y3 y4 y5 y6 y7 y8 y9 y10 r3 hdr2 hdr3 HSP
      refine wp_region_held_drew (S := (fun W => W.cell? ⟨gx, 3, none⟩ = some (.string who) ∧ W.cell? ⟨gx, 4, none⟩ = some (.string by1) ∧ W.cell? ⟨gs, 2, none⟩ = some (.map (some m3)) ∧ (Instr.lookup 137 (.map (some m3)) (.string by1) false).run Tryz.prog W = .ok (.bool true) W ∧ (Instr.lookup 137 (.map (some m3)) (.string who) false).run Tryz.prog W = .ok (.bool false) W)) (by kernel_rfl) HSP2.out (fun hHeld => ?_)
      refine tkY 0 (.pointer (some ⟨gs, 0, none⟩)) rfl hHeld ?_
      refine tkY 1 (.pointer (some ⟨gs, 0, none⟩)) rfl hHeld ?_
      refine tkY 2 (.pointer (some ⟨gs, 2, none⟩)) rfl hHeld ?_
      refine tkY 3 (.map (some m3)) rfl hHeld ?_
      refine tkY 4 (.pointer (some ⟨gx, 3, none⟩)) rfl hHeld ?_
      refine tkY 5 (.string who) rfl hHeld ?_
      refine tkY 6 (.bool false) rfl hHeld ?_
      refine tkY 7 (.bool true) rfl hHeld ?_
      refine tkY 8 (.bool true) rfl hHeld ?_
      refine tkY 9 (.bool true) rfl hHeld ?_
      refine tkY 10 (.pointer (some ⟨gs, 0, none⟩)) rfl hHeld ?_
      refine tkY 11 (.pointer (some ⟨gs, 0, none⟩)) rfl hHeld ?_
      refine tkY 12 (.pointer (some ⟨gs, 2, none⟩)) rfl hHeld ?_
      refine tkY 13 (.map (some m3)) rfl hHeld ?_
      refine tkY 14 (.pointer (some ⟨gx, 4, none⟩)) rfl hHeld ?_
      refine tkY 15 (.string by1) rfl hHeld ?_
      refine tkY 16 (.bool true) rfl hHeld ?_
      refine tkY 17 (.bool false) rfl hHeld ?_
      refine tkY 18 (.bool false) rfl hHeld ?_
      refine tkY 19 (.bool false) rfl hHeld ?_
      refine wpAnyH_done (by kernel_rfl) ?_ _
      go_wp2_with fail
      go_ret
      exact fos_no HO.out (by unfold sitL; exact ((HS2.out.drew).tail).tail)
    · have hb := HB1.out
      have hw := HB2.out
      have HO : Hid (o = none) := Lib.hid (HHO.out.trans (by unfold stpE; rw [if_pos hb]))
      clear hb hw HREL
      have hdr3 : Below w1.heap.size w1 w2.drew := below_call hdr2 (below_drewN (Below.refl _ _) 1) (by have := hdr2.size; omega)
      have HSP2 : Hid (w2.drew.cell? ⟨gx, 3, none⟩ = some (.string who) ∧ w2.drew.cell? ⟨gx, 4, none⟩ = some (.string by1) ∧ w2.drew.cell? ⟨gs, 2, none⟩ = some (.map (some m3)) ∧ (Instr.lookup 137 (.map (some m3)) (.string by1) false).run Tryz.prog w2.drew = .ok (.bool true) w2.drew ∧ (Instr.lookup 137 (.map (some m3)) (.string who) false).run Tryz.prog w2.drew = .ok (.bool true) w2.drew) := by
       obtain ⟨z0, z1, z2, z3, z4, z5, z6, z7, z8, z9, z10⟩ := HSP.out w2.drew hdr3
       exact Lib.hid ⟨z5, z6, z2, z9, z10⟩
      clear hS2
      go_upto_region 6 with (fail)
      clear y0 y1 y2 y3 y4 y5 y6 y7 y8 y9 y10 r3 hdr2 hdr3 HSP
      refine wp_region_held_drew (S := (fun W => W.cell? ⟨gx, 3, none⟩ = some (.string who) ∧ W.cell? ⟨gx, 4, none⟩ = some (.string by1) ∧ W.cell? ⟨gs, 2, none⟩ = some (.map (some m3)) ∧ (Instr.lookup 137 (.map (some m3)) (.string by1) false).run Tryz.prog W = .ok (.bool true) W ∧ (Instr.lookup 137 (.map (some m3)) (.string who) false).run Tryz.prog W = .ok (.bool true) W)) (by kernel_rfl) HSP2.out (fun hHeld => ?_)
      refine tkY 0 (.pointer (some ⟨gs, 0, none⟩)) rfl hHeld ?_
      refine tkY 1 (.pointer (some ⟨gs, 0, none⟩)) rfl hHeld ?_
      refine tkY 2 (.pointer (some ⟨gs, 2, none⟩)) rfl hHeld ?_
      refine tkY 3 (.map (some m3)) rfl hHeld ?_
      refine tkY 4 (.pointer (some ⟨gx, 3, none⟩)) rfl hHeld ?_
      refine tkY 5 (.string who) rfl hHeld ?_
      refine tkY 6 (.bool true) rfl hHeld ?_
      refine tkY 7 (.bool true) rfl hHeld ?_
      refine tkY 8 (.bool false) rfl hHeld ?_
      refine tkY 9 (.bool false) rfl hHeld ?_
      refine tkN 10 rfl hHeld ?_
      refine tkN 11 rfl hHeld ?_
      refine tkN 12 rfl hHeld ?_
      refine tkN 13 rfl hHeld ?_
      refine tkN 14 rfl hHeld ?_
      refine tkN 15 rfl hHeld ?_
      refine tkN 16 rfl hHeld ?_
      refine tkN 17 rfl hHeld ?_
      refine tkY 18 (.bool false) rfl hHeld ?_
      refine tkY 19 (.bool false) rfl hHeld ?_
      refine wpAnyH_done (by kernel_rfl) ?_ _
      go_wp2_with fail
      go_ret
      exact fos_no HO.out (by unfold sitL; exact ((HS2.out.drew).tail).tail)
set_option maxRecDepth 100000 in
set_option maxHeartbeats 16000000 in
theorem fosK6_calls (w0 : World) (gs m1 m2 m3 n : Nat) (V : Value) (D : Dsk) (l : List Rsc) (at_ tm dt : Int) (id who by1 ct : ByteArray) (w : World) (hS : Sq w0 w (sitL gs m1 n m2 n m3 n V D l)) (hK : KD D) (hn : n ≤ 100000) (hx : EvK ⟨at_, 6, id, who, by1, ct, tm, dt⟩) :
 Calls Tryz.prog 142 #[.pointer (some ⟨gs, 0, none⟩), .agg #[.int .i64 at_, .int .i64 6, .string id, .string who, .string by1, .string ct, .int .i64 tm, .int .i64 dt]] w (FolS w0 gs m1 m2 m3 n V D l (stpE D ⟨at_, 6, id, who, by1, ct, tm, dt⟩)) := by
 obtain ⟨o, ho⟩ : ∃ o, o = stpE D ⟨at_, 6, id, who, by1, ct, tm, dt⟩ := ⟨_, rfl⟩
 rw [← ho]
 have hiz := hx.iz
 have hwz := hx.wz
 have hbz := hx.bz
 simp only at hiz hwz hbz
 obtain ⟨B1, hB1⟩ : ∃ b, D.bn by1 = b := ⟨_, rfl⟩
 obtain ⟨B2, hB2⟩ : ∃ b, D.bn who = b := ⟨_, rfl⟩
 unfold sitL at hS
 have hM1 : MapS w 9 m1 n (evF D) := hS.nth 1 rfl
 have hM2 : MapS w 9 m2 n (stF D) := hS.nth 2 rfl
 have hM3 : MapS w 9 m3 n (bnF D) := hS.nth 3 rfl
 have hgl : gs < w.heap.size := Blk.lt (show Blk w gs _ _ from hS.nth 0 rfl)
 obtain ⟨hs, ea, ek, ei, ew, eb, ec, et, ed, IS, he2, he1, hrel⟩ := fos_rel hK id
 obtain ⟨gx, hgx⟩ : ∃ gx, gx = w.heap.size := ⟨_, rfl⟩
 have hS1 := hS.add #[.int .i64 at_, .int .i64 6, .string id, .string who, .string by1, .string ct, .int .i64 tm, .int .i64 dt] 78
 obtain ⟨w1, hw1⟩ : ∃ W, w.alloc (.cells #[.int .i64 at_, .int .i64 6, .string id, .string who, .string by1, .string ct, .int .i64 tm, .int .i64 dt] 78) = W := ⟨_, rfl⟩
 have hbw1 : Below w.heap.size w w1 := by rw [← hw1]; exact (Below.refl _ _).alloc (Nat.le_refl _) _
 have hz1 : w1.heap.size = w.heap.size + 1 := by rw [← hw1]; simp
 rw [hw1] at hS1
 have hS2 := (hS1.add #[.int .i64 ea, .int .i64 ek, .string ei, .string ew, .string eb, .string ec, .int .i64 et, .int .i64 ed] 78).drew
 have bx : Blk w1 w.heap.size 78 #[.int .i64 at_, .int .i64 6, .string id, .string who, .string by1, .string ct, .int .i64 tm, .int .i64 dt] := hS1.nth 0 rfl
 have bg : Blk w1 gs 140 #[.map (some m1), .map (some m2), .map (some m3), V] := hS1.nth 1 rfl
 have HSP : Hid (∀ W, Below w1.heap.size w1 W → W.cell? ⟨gs, 0, none⟩ = some (.map (some m1)) ∧ W.cell? ⟨gs, 1, none⟩ = some (.map (some m2)) ∧ W.cell? ⟨gs, 2, none⟩ = some (.map (some m3)) ∧ W.cell? ⟨gx, 1, none⟩ = some (.int .i64 6) ∧ W.cell? ⟨gx, 2, none⟩ = some (.string id) ∧ W.cell? ⟨gx, 3, none⟩ = some (.string who) ∧ W.cell? ⟨gx, 4, none⟩ = some (.string by1) ∧ (Instr.lookup 135 (.map (some m1)) (.string id) true).run Tryz.prog W = .ok (.tuple #[.agg #[.int .i64 ea, .int .i64 ek, .string ei, .string ew, .string eb, .string ec, .int .i64 et, .int .i64 ed], .bool IS]) W ∧ (Instr.lookup 136 (.map (some m2)) (.string id) false).run Tryz.prog W = .ok (.string hs) W ∧ (Instr.lookup 137 (.map (some m3)) (.string by1) false).run Tryz.prog W = .ok (.bool B1) W ∧ (Instr.lookup 137 (.map (some m3)) (.string who) false).run Tryz.prog W = .ok (.bool B2) W) := fun W hW => by
  have hWw := below_call hbw1 hW (by have := hbw1.size; omega)
  have h1 := (hM1.below hWw).lookOk (t := 135) (e := 78) Tryz.underlying9 Tryz.underlying135 (zero_evt W) (s := id) (by unfold maxLen; omega)
  have h2 := (hM2.below hWw).look (t := 136) (e := 9) Tryz.underlying9 Tryz.underlying136 (zero_str W) (s := id) (by unfold maxLen; omega)
  have h3 := (hM3.below hWw).look (t := 137) (e := 4) Tryz.underlying9 Tryz.underlying137 (zero_bol W) (s := by1) (by unfold maxLen; omega)
  have h4 := (hM3.below hWw).look (t := 137) (e := 4) Tryz.underlying9 Tryz.underlying137 (zero_bol W) (s := who) (by unfold maxLen; omega)
  rw [he1.1, he1.2] at h1
  rw [he2] at h2
  rw [bnF_get hK, hB1] at h3
  rw [bnF_get hK, hB2] at h4
  rw [hgx]
  exact ⟨(bg.below hW).cell 0, (bg.below hW).cell 1, (bg.below hW).cell 2, (bx.below hW).cell 1, (bx.below hW).cell 2, (bx.below hW).cell 3, (bx.below hW).cell 4, h1, h2, h3, h4⟩
 have hge : ¬ gs = gx := by omega
 have hge2 : ¬ gx = gs := by omega
 have hge3 : ¬ gs = gx + 1 := by omega
 rw [hz1, ← hgx] at hS2
 rw [← hgx] at hz1
 have HREL := Lib.hid hrel
 have HHO := Lib.hid ho
 have HB1 := Lib.hid hB1
 have HB2 := Lib.hid hB2
 have HIZ := Lib.hid hiz
 have HWZ := Lib.hid hwz
 clear ho hB1 hB2 hrel hS hS1 hM1 hM2 hM3 he1 he2 bx bg hbw1 hiz hwz hbz
 go_enter Tryz.func142, Tryz.ntmps142
 go_upto_region 1 with (fail)
 rw [← hgx]
 clear hw1 hgx
 have hdr : Below w1.heap.size w1 w1.drew := below_drewN (Below.refl _ _) 1
 have hdr1 : Below w1.heap.size w1 (w1.alloc (.cells #[.int .i64 ea, .int .i64 ek, .string ei, .string ew, .string eb, .string ec, .int .i64 et, .int .i64 ed] 78)).drew := below_drewN ((Below.refl _ _).alloc (Nat.le_refl _) _) 1
 go_wp2_with fail
 go_region_held3 (fun W => W.cell? ⟨gs, 0, none⟩ = some (.map (some m1)) ∧ W.cell? ⟨gs, 1, none⟩ = some (.map (some m2)) ∧ W.cell? ⟨gs, 2, none⟩ = some (.map (some m3)) ∧ W.cell? ⟨gx, 1, none⟩ = some (.int .i64 6) ∧ W.cell? ⟨gx, 2, none⟩ = some (.string id) ∧ W.cell? ⟨gx, 3, none⟩ = some (.string who) ∧ W.cell? ⟨gx, 4, none⟩ = some (.string by1) ∧ (Instr.lookup 135 (.map (some m1)) (.string id) true).run Tryz.prog W = .ok (.tuple #[.agg #[.int .i64 ea, .int .i64 ek, .string ei, .string ew, .string eb, .string ec, .int .i64 et, .int .i64 ed], .bool IS]) W ∧ (Instr.lookup 136 (.map (some m2)) (.string id) false).run Tryz.prog W = .ok (.string hs) W ∧ (Instr.lookup 137 (.map (some m3)) (.string by1) false).run Tryz.prog W = .ok (.bool B1) W ∧ (Instr.lookup 137 (.map (some m3)) (.string who) false).run Tryz.prog W = .ok (.bool B2) W)
  (first | exact HSP.out _ hdr | exact HSP.out _ (below_drewN ((Below.refl _ _).alloc (Nat.le_refl _) _) 1) | exact HSP.out _ (hdr.alloc (Nat.le_refl _) _)) (fail)
 all_goals
  obtain ⟨w1a, hw1a, hS2a, hdr1a⟩ : ∃ W, W = _ ∧ Sq w0 W (rBlk (gx + 1) 78 #[.int .i64 ea, .int .i64 ek, .string ei, .string ew, .string eb, .string ec, .int .i64 et, .int .i64 ed] :: rBlk gx 78 #[.int .i64 at_, .int .i64 6, .string id, .string who, .string by1, .string ct, .int .i64 tm, .int .i64 dt] :: rBlk gs 140 #[.map (some m1), .map (some m2), .map (some m3), V] :: rMap 9 m1 n (evF D) :: rMap 9 m2 n (stF D) :: rMap 9 m3 n (bnF D) :: l) ∧ Below w1.heap.size w1 W := ⟨_, rfl, hS2, hdr1⟩
  rw [← hw1a]
  clear hw1a hS2 hdr1
  have hS2 := hS2a
  have hdr1 := hdr1a
  clear hS2a hdr1a
  have hdr2 : Below w1.heap.size w1 w1a.drew := below_call hdr1 (below_drewN (Below.refl _ _) 1) (by have := hdr1.size; omega)
  go_wp2_with fail
  go_region_held3 (fun W => W.cell? ⟨gs, 0, none⟩ = some (.map (some m1)) ∧ W.cell? ⟨gs, 1, none⟩ = some (.map (some m2)) ∧ W.cell? ⟨gs, 2, none⟩ = some (.map (some m3)) ∧ W.cell? ⟨gx, 1, none⟩ = some (.int .i64 6) ∧ W.cell? ⟨gx, 2, none⟩ = some (.string id) ∧ W.cell? ⟨gx, 3, none⟩ = some (.string who) ∧ W.cell? ⟨gx, 4, none⟩ = some (.string by1) ∧ (Instr.lookup 135 (.map (some m1)) (.string id) true).run Tryz.prog W = .ok (.tuple #[.agg #[.int .i64 ea, .int .i64 ek, .string ei, .string ew, .string eb, .string ec, .int .i64 et, .int .i64 ed], .bool IS]) W ∧ (Instr.lookup 136 (.map (some m2)) (.string id) false).run Tryz.prog W = .ok (.string hs) W ∧ (Instr.lookup 137 (.map (some m3)) (.string by1) false).run Tryz.prog W = .ok (.bool B1) W ∧ (Instr.lookup 137 (.map (some m3)) (.string who) false).run Tryz.prog W = .ok (.bool B2) W)
   (first | exact HSP.out _ hdr2) (fail)
  replace hS2 := hS2.drew
  obtain ⟨w2, hw2⟩ : ∃ W, W = w1a.drew := ⟨_, rfl⟩
  rw [← hw2] at hS2 hdr2 ⊢
  obtain ⟨y0, y1, y2, y3, y4, y5, y6, y7, y8, y9, y10⟩ := HSP.out w2 hdr2
  have hE3 : Blk w2 (gx + 1) 78 #[.int .i64 ea, .int .i64 ek, .string ei, .string ew, .string eb, .string ec, .int .i64 et, .int .i64 ed] := hS2.nth 0 rfl
  have r3 := hE3.cell 3
  clear hw2 hdr hdr1 hE3
  have HS2 := Lib.hid hS2
  cases B1
  · cases B2
    · have hb := HB1.out
      have hw := HB2.out
      have HO : Hid (o = none) := Lib.hid (HHO.out.trans ((stpE_ban hb (.inr rfl)).trans (if_pos (hw.trans (show (decide ((6 : Int) = 5)) = false from rfl).symm))))
      clear hb hw HREL
      have hdr3 : Below w1.heap.size w1 w2.drew := below_call hdr2 (below_drewN (Below.refl _ _) 1) (by have := hdr2.size; omega)
      have HSP2 : Hid (w2.drew.cell? ⟨gx, 3, none⟩ = some (.string who) ∧ w2.drew.cell? ⟨gx, 4, none⟩ = some (.string by1) ∧ w2.drew.cell? ⟨gs, 2, none⟩ = some (.map (some m3)) ∧ (Instr.lookup 137 (.map (some m3)) (.string by1) false).run Tryz.prog w2.drew = .ok (.bool false) w2.drew ∧ (Instr.lookup 137 (.map (some m3)) (.string who) false).run Tryz.prog w2.drew = .ok (.bool false) w2.drew) := by
       obtain ⟨z0, z1, z2, z3, z4, z5, z6, z7, z8, z9, z10⟩ := HSP.out w2.drew hdr3
       exact Lib.hid ⟨z5, z6, z2, z9, z10⟩
      clear hS2
      go_upto_region 6 with (fail)
      clear y0 y1 y2 y3 y4 y5 y6 y7 y8 y9 y10 r3 hdr2 hdr3 HSP
      refine wp_region_held_drew (S := (fun W => W.cell? ⟨gx, 3, none⟩ = some (.string who) ∧ W.cell? ⟨gx, 4, none⟩ = some (.string by1) ∧ W.cell? ⟨gs, 2, none⟩ = some (.map (some m3)) ∧ (Instr.lookup 137 (.map (some m3)) (.string by1) false).run Tryz.prog W = .ok (.bool false) W ∧ (Instr.lookup 137 (.map (some m3)) (.string who) false).run Tryz.prog W = .ok (.bool false) W)) (by kernel_rfl) HSP2.out (fun hHeld => ?_)
      refine tkY 0 (.pointer (some ⟨gs, 0, none⟩)) rfl hHeld ?_
      refine tkY 1 (.pointer (some ⟨gs, 0, none⟩)) rfl hHeld ?_
      refine tkY 2 (.pointer (some ⟨gs, 2, none⟩)) rfl hHeld ?_
      refine tkY 3 (.map (some m3)) rfl hHeld ?_
      refine tkY 4 (.pointer (some ⟨gx, 3, none⟩)) rfl hHeld ?_
      refine tkY 5 (.string who) rfl hHeld ?_
      refine tkY 6 (.bool false) rfl hHeld ?_
      refine tkY 7 (.bool false) rfl hHeld ?_
      refine tkY 8 (.bool false) rfl hHeld ?_
      refine tkY 9 (.bool false) rfl hHeld ?_
      refine tkN 10 rfl hHeld ?_
      refine tkN 11 rfl hHeld ?_
      refine tkN 12 rfl hHeld ?_
      refine tkN 13 rfl hHeld ?_
      refine tkN 14 rfl hHeld ?_
      refine tkN 15 rfl hHeld ?_
      refine tkN 16 rfl hHeld ?_
      refine tkN 17 rfl hHeld ?_
      refine tkY 18 (.bool false) rfl hHeld ?_
      refine tkY 19 (.bool false) rfl hHeld ?_
      refine wpAnyH_done (by kernel_rfl) ?_ _
      go_wp2_with fail
      go_ret
      exact fos_no HO.out (by unfold sitL; exact ((HS2.out.drew).tail).tail)
    · have hb := HB1.out
      have hw := HB2.out
      have HO : Hid (o = some (setB D who false)) := Lib.hid (HHO.out.trans ((stpE_ban hb (.inr rfl)).trans (if_neg (by show ¬ D.bn who = decide ((6 : Int) = 5); rw [hw]; decide))))
      clear hb hw HREL
      have hdr3 : Below w1.heap.size w1 w2.drew := below_call hdr2 (below_drewN (Below.refl _ _) 1) (by have := hdr2.size; omega)
      have HSP2 : Hid (w2.drew.cell? ⟨gx, 3, none⟩ = some (.string who) ∧ w2.drew.cell? ⟨gx, 4, none⟩ = some (.string by1) ∧ w2.drew.cell? ⟨gs, 2, none⟩ = some (.map (some m3)) ∧ (Instr.lookup 137 (.map (some m3)) (.string by1) false).run Tryz.prog w2.drew = .ok (.bool false) w2.drew ∧ (Instr.lookup 137 (.map (some m3)) (.string who) false).run Tryz.prog w2.drew = .ok (.bool true) w2.drew) := by
       obtain ⟨z0, z1, z2, z3, z4, z5, z6, z7, z8, z9, z10⟩ := HSP.out w2.drew hdr3
       exact Lib.hid ⟨z5, z6, z2, z9, z10⟩
      clear hS2
      go_upto_region 6 with (fail)
      clear y0 y1 y2 y3 y4 y5 y6 y7 y8 y9 y10 r3 hdr2 hdr3 HSP
      refine wp_region_held_drew (S := (fun W => W.cell? ⟨gx, 3, none⟩ = some (.string who) ∧ W.cell? ⟨gx, 4, none⟩ = some (.string by1) ∧ W.cell? ⟨gs, 2, none⟩ = some (.map (some m3)) ∧ (Instr.lookup 137 (.map (some m3)) (.string by1) false).run Tryz.prog W = .ok (.bool false) W ∧ (Instr.lookup 137 (.map (some m3)) (.string who) false).run Tryz.prog W = .ok (.bool true) W)) (by kernel_rfl) HSP2.out (fun hHeld => ?_)
      refine tkY 0 (.pointer (some ⟨gs, 0, none⟩)) rfl hHeld ?_
      refine tkY 1 (.pointer (some ⟨gs, 0, none⟩)) rfl hHeld ?_
      refine tkY 2 (.pointer (some ⟨gs, 2, none⟩)) rfl hHeld ?_
      refine tkY 3 (.map (some m3)) rfl hHeld ?_
      refine tkY 4 (.pointer (some ⟨gx, 3, none⟩)) rfl hHeld ?_
      refine tkY 5 (.string who) rfl hHeld ?_
      refine tkY 6 (.bool true) rfl hHeld ?_
      refine tkY 7 (.bool false) rfl hHeld ?_
      refine tkY 8 (.bool true) rfl hHeld ?_
      refine tkY 9 (.bool true) rfl hHeld ?_
      refine tkY 10 (.pointer (some ⟨gs, 0, none⟩)) rfl hHeld ?_
      refine tkY 11 (.pointer (some ⟨gs, 0, none⟩)) rfl hHeld ?_
      refine tkY 12 (.pointer (some ⟨gs, 2, none⟩)) rfl hHeld ?_
      refine tkY 13 (.map (some m3)) rfl hHeld ?_
      refine tkY 14 (.pointer (some ⟨gx, 4, none⟩)) rfl hHeld ?_
      refine tkY 15 (.string by1) rfl hHeld ?_
      refine tkY 16 (.bool false) rfl hHeld ?_
      refine tkY 17 (.bool true) rfl hHeld ?_
      refine tkY 18 (.bool true) rfl hHeld ?_
      refine tkY 19 (.bool true) rfl hHeld ?_
      refine wpAnyH_done (by kernel_rfl) ?_ _
      clear HSP2
      obtain ⟨w3, hw3, hS3⟩ : ∃ W, W = _ ∧ Sq w0 W (rBlk (gx + 1) 78 #[.int .i64 ea, .int .i64 ek, .string ei, .string ew, .string eb, .string ec, .int .i64 et, .int .i64 ed] :: rBlk gx 78 #[.int .i64 at_, .int .i64 6, .string id, .string who, .string by1, .string ct, .int .i64 tm, .int .i64 dt] :: rBlk gs 140 #[.map (some m1), .map (some m2), .map (some m3), V] :: rMap 9 m1 n (evF D) :: rMap 9 m2 n (stF D) :: rMap 9 m3 n (bnF D) :: l) := ⟨_, rfl, HS2.out.drew⟩
      rw [← hw3]
      clear hw3
      obtain ⟨w6, hput, hS6⟩ := map_put Tryz.underlying137 (hS3.drew.front 5 rfl rfl) (by unfold maxLen; omega) (s := who) (by have := HWZ.out; unfold maxLen; omega) (.bool false)
      have K3 : Hid (w3.drew.cell? ⟨gs, 2, none⟩ = some (.map (some m3)) ∧ w3.drew.cell? ⟨gx, 3, none⟩ = some (.string who)) := Lib.hid ⟨(hS3.drew.nth 2 rfl : Blk _ gs 140 #[.map (some m1), .map (some m2), .map (some m3), V]).cell 2, (hS3.drew.nth 1 rfl : Blk _ gx 78 #[.int .i64 at_, .int .i64 6, .string id, .string who, .string by1, .string ct, .int .i64 tm, .int .i64 dt]).cell 3⟩
      have K6 : Hid (w6.cell? ⟨gs, 2, none⟩ = some (.map (some m3)) ∧ w6.cell? ⟨gx, 3, none⟩ = some (.string who)) := Lib.hid ⟨(hS6.nth 3 rfl : Blk _ gs 140 #[.map (some m1), .map (some m2), .map (some m3), V]).cell 2, (hS6.nth 2 rfl : Blk _ gx 78 #[.int .i64 at_, .int .i64 6, .string id, .string who, .string by1, .string ct, .int .i64 tm, .int .i64 dt]).cell 3⟩
      have HFI : Hid (FolS w0 gs m1 m2 m3 n V D l o (.returned (.bool true)) w6) := Lib.hid (by
       refine fos_yes HO.out (n1 := n) (n2 := n) (n3 := n + 1) (by omega) (by omega) (by omega) ?_
       unfold sitL
       rw [← bnF_set, show evF (setB D who false) = evF D from rfl, show stF (setB D who false) = stF D from rfl]
       exact ((((hS6.drop 1 rfl rfl).drop 1 rfl rfl).front 3 rfl rfl).front 3 rfl rfl).front 3 rfl rfl)
      clear hS6 hS3 HS2
      go_wp2_with fail
      go_region_held3 (fun W => W.cell? ⟨gs, 2, none⟩ = some (.map (some m3)) ∧ W.cell? ⟨gx, 3, none⟩ = some (.string who))
       (first | exact K3.out | exact K6.out) (fail)
      all_goals (go_wp2_with fail; go_ret; exact HFI.out)
  · cases B2
    · have hb := HB1.out
      have hw := HB2.out
      have HO : Hid (o = none) := Lib.hid (HHO.out.trans (by unfold stpE; rw [if_pos hb]))
      clear hb hw HREL
      have hdr3 : Below w1.heap.size w1 w2.drew := below_call hdr2 (below_drewN (Below.refl _ _) 1) (by have := hdr2.size; omega)
      have HSP2 : Hid (w2.drew.cell? ⟨gx, 3, none⟩ = some (.string who) ∧ w2.drew.cell? ⟨gx, 4, none⟩ = some (.string by1) ∧ w2.drew.cell? ⟨gs, 2, none⟩ = some (.map (some m3)) ∧ (Instr.lookup 137 (.map (some m3)) (.string by1) false).run Tryz.prog w2.drew = .ok (.bool true) w2.drew ∧ (Instr.lookup 137 (.map (some m3)) (.string who) false).run Tryz.prog w2.drew = .ok (.bool false) w2.drew) := by
       obtain ⟨z0, z1, z2, z3, z4, z5, z6, z7, z8, z9, z10⟩ := HSP.out w2.drew hdr3
       exact Lib.hid ⟨z5, z6, z2, z9, z10⟩
      clear hS2
      go_upto_region 6 with (fail)
      clear y0 y1 y2 y3 y4 y5 y6 y7 y8 y9 y10 r3 hdr2 hdr3 HSP
      refine wp_region_held_drew (S := (fun W => W.cell? ⟨gx, 3, none⟩ = some (.string who) ∧ W.cell? ⟨gx, 4, none⟩ = some (.string by1) ∧ W.cell? ⟨gs, 2, none⟩ = some (.map (some m3)) ∧ (Instr.lookup 137 (.map (some m3)) (.string by1) false).run Tryz.prog W = .ok (.bool true) W ∧ (Instr.lookup 137 (.map (some m3)) (.string who) false).run Tryz.prog W = .ok (.bool false) W)) (by kernel_rfl) HSP2.out (fun hHeld => ?_)
      refine tkY 0 (.pointer (some ⟨gs, 0, none⟩)) rfl hHeld ?_
      refine tkY 1 (.pointer (some ⟨gs, 0, none⟩)) rfl hHeld ?_
      refine tkY 2 (.pointer (some ⟨gs, 2, none⟩)) rfl hHeld ?_
      refine tkY 3 (.map (some m3)) rfl hHeld ?_
      refine tkY 4 (.pointer (some ⟨gx, 3, none⟩)) rfl hHeld ?_
      refine tkY 5 (.string who) rfl hHeld ?_
      refine tkY 6 (.bool false) rfl hHeld ?_
      refine tkY 7 (.bool false) rfl hHeld ?_
      refine tkY 8 (.bool false) rfl hHeld ?_
      refine tkY 9 (.bool false) rfl hHeld ?_
      refine tkN 10 rfl hHeld ?_
      refine tkN 11 rfl hHeld ?_
      refine tkN 12 rfl hHeld ?_
      refine tkN 13 rfl hHeld ?_
      refine tkN 14 rfl hHeld ?_
      refine tkN 15 rfl hHeld ?_
      refine tkN 16 rfl hHeld ?_
      refine tkN 17 rfl hHeld ?_
      refine tkY 18 (.bool false) rfl hHeld ?_
      refine tkY 19 (.bool false) rfl hHeld ?_
      refine wpAnyH_done (by kernel_rfl) ?_ _
      go_wp2_with fail
      go_ret
      exact fos_no HO.out (by unfold sitL; exact ((HS2.out.drew).tail).tail)
    · have hb := HB1.out
      have hw := HB2.out
      have HO : Hid (o = none) := Lib.hid (HHO.out.trans (by unfold stpE; rw [if_pos hb]))
      clear hb hw HREL
      have hdr3 : Below w1.heap.size w1 w2.drew := below_call hdr2 (below_drewN (Below.refl _ _) 1) (by have := hdr2.size; omega)
      have HSP2 : Hid (w2.drew.cell? ⟨gx, 3, none⟩ = some (.string who) ∧ w2.drew.cell? ⟨gx, 4, none⟩ = some (.string by1) ∧ w2.drew.cell? ⟨gs, 2, none⟩ = some (.map (some m3)) ∧ (Instr.lookup 137 (.map (some m3)) (.string by1) false).run Tryz.prog w2.drew = .ok (.bool true) w2.drew ∧ (Instr.lookup 137 (.map (some m3)) (.string who) false).run Tryz.prog w2.drew = .ok (.bool true) w2.drew) := by
       obtain ⟨z0, z1, z2, z3, z4, z5, z6, z7, z8, z9, z10⟩ := HSP.out w2.drew hdr3
       exact Lib.hid ⟨z5, z6, z2, z9, z10⟩
      clear hS2
      go_upto_region 6 with (fail)
      clear y0 y1 y2 y3 y4 y5 y6 y7 y8 y9 y10 r3 hdr2 hdr3 HSP
      refine wp_region_held_drew (S := (fun W => W.cell? ⟨gx, 3, none⟩ = some (.string who) ∧ W.cell? ⟨gx, 4, none⟩ = some (.string by1) ∧ W.cell? ⟨gs, 2, none⟩ = some (.map (some m3)) ∧ (Instr.lookup 137 (.map (some m3)) (.string by1) false).run Tryz.prog W = .ok (.bool true) W ∧ (Instr.lookup 137 (.map (some m3)) (.string who) false).run Tryz.prog W = .ok (.bool true) W)) (by kernel_rfl) HSP2.out (fun hHeld => ?_)
      refine tkY 0 (.pointer (some ⟨gs, 0, none⟩)) rfl hHeld ?_
      refine tkY 1 (.pointer (some ⟨gs, 0, none⟩)) rfl hHeld ?_
      refine tkY 2 (.pointer (some ⟨gs, 2, none⟩)) rfl hHeld ?_
      refine tkY 3 (.map (some m3)) rfl hHeld ?_
      refine tkY 4 (.pointer (some ⟨gx, 3, none⟩)) rfl hHeld ?_
      refine tkY 5 (.string who) rfl hHeld ?_
      refine tkY 6 (.bool true) rfl hHeld ?_
      refine tkY 7 (.bool false) rfl hHeld ?_
      refine tkY 8 (.bool true) rfl hHeld ?_
      refine tkY 9 (.bool true) rfl hHeld ?_
      refine tkY 10 (.pointer (some ⟨gs, 0, none⟩)) rfl hHeld ?_
      refine tkY 11 (.pointer (some ⟨gs, 0, none⟩)) rfl hHeld ?_
      refine tkY 12 (.pointer (some ⟨gs, 2, none⟩)) rfl hHeld ?_
      refine tkY 13 (.map (some m3)) rfl hHeld ?_
      refine tkY 14 (.pointer (some ⟨gx, 4, none⟩)) rfl hHeld ?_
      refine tkY 15 (.string by1) rfl hHeld ?_
      refine tkY 16 (.bool true) rfl hHeld ?_
      refine tkY 17 (.bool false) rfl hHeld ?_
      refine tkY 18 (.bool false) rfl hHeld ?_
      refine tkY 19 (.bool false) rfl hHeld ?_
      refine wpAnyH_done (by kernel_rfl) ?_ _
      go_wp2_with fail
      go_ret
      exact fos_no HO.out (by unfold sitL; exact ((HS2.out.drew).tail).tail)
end Go.Proofs.YtapgnaimbgjcnaaGreatDoor
