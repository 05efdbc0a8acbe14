/-
  The closure of splitref2.onBoard: is a run on the board? (Printed by gen_bt3.py.)
-/
import Derived.Test.YtapgnaimbgjcnaaGreatDoorZTk
import Derived.Test.YtapgnaimbgjcnaaGreatDoorZMapR
import Derived.Deep.RegionHeld3
import Derived.RegionTactic
import Derived.Deep.DeepCutAuto
namespace Go.Proofs.YtapgnaimbgjcnaaGreatDoor
open Go Go.RowKit
attribute [local go_sem ↓] Go.wp_at_zero Go.wp_at_succ
set_option maxRecDepth 100000 in
set_option maxHeartbeats 8000000 in
theorem inBoard_calls (gc gp gs m2 m3 : Nat) (cat hs : ByteArray) (B : Bool) (at_ kd tm dt : Int) (id who by1 ct : ByteArray) (w : World) (hf : ∀ W, Below w.heap.size w W → W.cell? ⟨gc, 0, none⟩ = some (.string cat) ∧ W.cell? ⟨gp, 0, none⟩ = some (.pointer (some ⟨gs, 0, none⟩)) ∧ W.cell? ⟨gs, 1, none⟩ = some (.map (some m2)) ∧ W.cell? ⟨gs, 2, none⟩ = some (.map (some m3)) ∧ (Instr.lookup 136 (.map (some m2)) (.string id) false).run Tryz.prog W = .ok (.string hs) W ∧ (Instr.lookup 137 (.map (some m3)) (.string who) false).run Tryz.prog W = .ok (.bool B) W) :
 Calls Tryz.prog 125 #[.agg #[.int .i64 at_, .int .i64 kd, .string id, .string who, .string by1, .string ct, .int .i64 tm, .int .i64 dt], .pointer (some ⟨gc, 0, none⟩), .pointer (some ⟨gp, 0, none⟩)] w (BRet (.bool ((ct.toList == cat.toList) && (hs.toList == [118, 101, 114, 105, 102, 105, 101, 100]) && !B)) w) := by
 obtain ⟨E, hE⟩ : ∃ E, E = w.heap.size := ⟨_, rfl⟩
 have hS := (Sq.start w).add #[.int .i64 at_, .int .i64 kd, .string id, .string who, .string by1, .string ct, .int .i64 tm, .int .i64 dt] 78
 rw [← hE] at hS
 obtain ⟨W0, hW0⟩ : ∃ W, W = w.alloc (.cells #[.int .i64 at_, .int .i64 kd, .string id, .string who, .string by1, .string ct, .int .i64 tm, .int .i64 dt] 78) := ⟨_, rfl⟩
 rw [← hW0] at hS
 have hS1 := hS.drew
 have HSP : Hid (W0.drew.cell? ⟨gc, 0, none⟩ = some (.string cat) ∧ W0.drew.cell? ⟨gp, 0, none⟩ = some (.pointer (some ⟨gs, 0, none⟩)) ∧ W0.drew.cell? ⟨gs, 1, none⟩ = some (.map (some m2)) ∧ W0.drew.cell? ⟨gs, 2, none⟩ = some (.map (some m3)) ∧ (Instr.lookup 136 (.map (some m2)) (.string id) false).run Tryz.prog W0.drew = .ok (.string hs) W0.drew ∧ (Instr.lookup 137 (.map (some m3)) (.string who) false).run Tryz.prog W0.drew = .ok (.bool B) W0.drew ∧ W0.drew.cell? ⟨E, 2, none⟩ = some (.string id) ∧ W0.drew.cell? ⟨E, 3, none⟩ = some (.string who) ∧ W0.drew.cell? ⟨E, 5, none⟩ = some (.string ct)) := Lib.hid (by
  obtain ⟨f0, f1, f2, f3, f4, f5⟩ := hf _ hS1.below
  have b : Blk _ E 78 #[.int .i64 at_, .int .i64 kd, .string id, .string who, .string by1, .string ct, .int .i64 tm, .int .i64 dt] := hS1.head
  exact ⟨f0, f1, f2, f3, f4, f5, b.cell 2, b.cell 3, b.cell 5⟩)
 have HB := Lib.hid hS1.below
 clear hS hS1 hf
 obtain ⟨C, hC⟩ : ∃ b, (ct.toList == cat.toList) = b := ⟨_, rfl⟩
 obtain ⟨V, hV⟩ : ∃ b, (hs.toList == [118, 101, 114, 105, 102, 105, 101, 100]) = b := ⟨_, rfl⟩
 rw [hC, hV]
 cases C
 · show Calls _ _ _ _ (BRet (.bool false) w)
   go_enter Tryz.func125, Tryz.ntmps125
   go_upto_region 1 with (fail)
   rw [← hW0]
   (try rw [← hE])
   clear hW0 hE
   refine wp_region_held_drew (S := (fun W => W.cell? ⟨gc, 0, none⟩ = some (.string cat) ∧ W.cell? ⟨gp, 0, none⟩ = some (.pointer (some ⟨gs, 0, none⟩)) ∧ W.cell? ⟨gs, 1, none⟩ = some (.map (some m2)) ∧ W.cell? ⟨gs, 2, none⟩ = some (.map (some m3)) ∧ (Instr.lookup 136 (.map (some m2)) (.string id) false).run Tryz.prog W = .ok (.string hs) W ∧ (Instr.lookup 137 (.map (some m3)) (.string who) false).run Tryz.prog W = .ok (.bool B) W ∧ W.cell? ⟨E, 2, none⟩ = some (.string id) ∧ W.cell? ⟨E, 3, none⟩ = some (.string who) ∧ W.cell? ⟨E, 5, none⟩ = some (.string ct))) (by kernel_rfl) HSP.out (fun hHeld => ?_)
   refine tkY 0 (.pointer (some ⟨E, 5, none⟩)) rfl hHeld ?_
   refine tkY 1 (.string ct) rfl hHeld ?_
   refine tkY 2 (.string cat) rfl hHeld ?_
   refine tkY 3 (.bool false) rfl hHeld ?_
   refine tkY 4 (.bool false) rfl hHeld ?_
   refine tkN 5 rfl hHeld ?_
   refine tkN 6 rfl hHeld ?_
   refine tkN 7 rfl hHeld ?_
   refine tkN 8 rfl hHeld ?_
   refine tkN 9 rfl hHeld ?_
   refine tkN 10 rfl hHeld ?_
   refine tkN 11 rfl hHeld ?_
   refine tkN 12 rfl hHeld ?_
   refine tkY 13 (.bool false) rfl hHeld ?_
   refine tkY 14 (.bool false) rfl hHeld ?_
   refine tkN 15 rfl hHeld ?_
   refine tkN 16 rfl hHeld ?_
   refine tkN 17 rfl hHeld ?_
   refine tkN 18 rfl hHeld ?_
   refine tkN 19 rfl hHeld ?_
   refine tkN 20 rfl hHeld ?_
   refine tkN 21 rfl hHeld ?_
   refine tkN 22 rfl hHeld ?_
   refine tkY 23 (.bool false) rfl hHeld ?_
   refine tkY 24 (.bool false) rfl hHeld ?_
   refine wpAnyH_done (by kernel_rfl) ?_ _
   go_wp2_with fail
   go_ret
   exact ⟨rfl, HB.out⟩
 · cases V
   · show Calls _ _ _ _ (BRet (.bool false) w)
     go_enter Tryz.func125, Tryz.ntmps125
     go_upto_region 1 with (fail)
     rw [← hW0]
     (try rw [← hE])
     clear hW0 hE
     refine wp_region_held_drew (S := (fun W => W.cell? ⟨gc, 0, none⟩ = some (.string cat) ∧ W.cell? ⟨gp, 0, none⟩ = some (.pointer (some ⟨gs, 0, none⟩)) ∧ W.cell? ⟨gs, 1, none⟩ = some (.map (some m2)) ∧ W.cell? ⟨gs, 2, none⟩ = some (.map (some m3)) ∧ (Instr.lookup 136 (.map (some m2)) (.string id) false).run Tryz.prog W = .ok (.string hs) W ∧ (Instr.lookup 137 (.map (some m3)) (.string who) false).run Tryz.prog W = .ok (.bool B) W ∧ W.cell? ⟨E, 2, none⟩ = some (.string id) ∧ W.cell? ⟨E, 3, none⟩ = some (.string who) ∧ W.cell? ⟨E, 5, none⟩ = some (.string ct))) (by kernel_rfl) HSP.out (fun hHeld => ?_)
     refine tkY 0 (.pointer (some ⟨E, 5, none⟩)) rfl hHeld ?_
     refine tkY 1 (.string ct) rfl hHeld ?_
     refine tkY 2 (.string cat) rfl hHeld ?_
     refine tkY 3 (.bool true) rfl hHeld ?_
     refine tkY 4 (.bool true) rfl hHeld ?_
     refine tkY 5 (.pointer (some ⟨gs, 0, none⟩)) rfl hHeld ?_
     refine tkY 6 (.pointer (some ⟨gs, 0, none⟩)) rfl hHeld ?_
     refine tkY 7 (.pointer (some ⟨gs, 1, none⟩)) rfl hHeld ?_
     refine tkY 8 (.map (some m2)) rfl hHeld ?_
     refine tkY 9 (.pointer (some ⟨E, 2, none⟩)) rfl hHeld ?_
     refine tkY 10 (.string id) rfl hHeld ?_
     refine tkY 11 (.string hs) rfl hHeld ?_
     refine tkY 12 (.bool false) rfl hHeld ?_
     refine tkY 13 (.bool false) rfl hHeld ?_
     refine tkY 14 (.bool false) rfl hHeld ?_
     refine tkN 15 rfl hHeld ?_
     refine tkN 16 rfl hHeld ?_
     refine tkN 17 rfl hHeld ?_
     refine tkN 18 rfl hHeld ?_
     refine tkN 19 rfl hHeld ?_
     refine tkN 20 rfl hHeld ?_
     refine tkN 21 rfl hHeld ?_
     refine tkN 22 rfl hHeld ?_
     refine tkY 23 (.bool false) rfl hHeld ?_
     refine tkY 24 (.bool false) rfl hHeld ?_
     refine wpAnyH_done (by kernel_rfl) ?_ _
     go_wp2_with fail
     go_ret
     exact ⟨rfl, HB.out⟩
   · cases B
     · show Calls _ _ _ _ (BRet (.bool true) w)
       go_enter Tryz.func125, Tryz.ntmps125
       go_upto_region 1 with (fail)
       rw [← hW0]
       (try rw [← hE])
       clear hW0 hE
       refine wp_region_held_drew (S := (fun W => W.cell? ⟨gc, 0, none⟩ = some (.string cat) ∧ W.cell? ⟨gp, 0, none⟩ = some (.pointer (some ⟨gs, 0, none⟩)) ∧ W.cell? ⟨gs, 1, none⟩ = some (.map (some m2)) ∧ W.cell? ⟨gs, 2, none⟩ = some (.map (some m3)) ∧ (Instr.lookup 136 (.map (some m2)) (.string id) false).run Tryz.prog W = .ok (.string hs) W ∧ (Instr.lookup 137 (.map (some m3)) (.string who) false).run Tryz.prog W = .ok (.bool false) W ∧ W.cell? ⟨E, 2, none⟩ = some (.string id) ∧ W.cell? ⟨E, 3, none⟩ = some (.string who) ∧ W.cell? ⟨E, 5, none⟩ = some (.string ct))) (by kernel_rfl) HSP.out (fun hHeld => ?_)
       refine tkY 0 (.pointer (some ⟨E, 5, none⟩)) rfl hHeld ?_
       refine tkY 1 (.string ct) rfl hHeld ?_
       refine tkY 2 (.string cat) rfl hHeld ?_
       refine tkY 3 (.bool true) rfl hHeld ?_
       refine tkY 4 (.bool true) rfl hHeld ?_
       refine tkY 5 (.pointer (some ⟨gs, 0, none⟩)) rfl hHeld ?_
       refine tkY 6 (.pointer (some ⟨gs, 0, none⟩)) rfl hHeld ?_
       refine tkY 7 (.pointer (some ⟨gs, 1, none⟩)) rfl hHeld ?_
       refine tkY 8 (.map (some m2)) rfl hHeld ?_
       refine tkY 9 (.pointer (some ⟨E, 2, none⟩)) rfl hHeld ?_
       refine tkY 10 (.string id) rfl hHeld ?_
       refine tkY 11 (.string hs) rfl hHeld ?_
       refine tkY 12 (.bool true) rfl hHeld ?_
       refine tkY 13 (.bool true) rfl hHeld ?_
       refine tkY 14 (.bool true) rfl hHeld ?_
       refine tkY 15 (.pointer (some ⟨gs, 0, none⟩)) rfl hHeld ?_
       refine tkY 16 (.pointer (some ⟨gs, 0, none⟩)) rfl hHeld ?_
       refine tkY 17 (.pointer (some ⟨gs, 2, none⟩)) rfl hHeld ?_
       refine tkY 18 (.map (some m3)) rfl hHeld ?_
       refine tkY 19 (.pointer (some ⟨E, 3, none⟩)) rfl hHeld ?_
       refine tkY 20 (.string who) rfl hHeld ?_
       refine tkY 21 (.bool false) rfl hHeld ?_
       refine tkY 22 (.bool true) rfl hHeld ?_
       refine tkY 23 (.bool true) rfl hHeld ?_
       refine tkY 24 (.bool true) rfl hHeld ?_
       refine wpAnyH_done (by kernel_rfl) ?_ _
       go_wp2_with fail
       go_ret
       exact ⟨rfl, HB.out⟩
     · show Calls _ _ _ _ (BRet (.bool false) w)
       go_enter Tryz.func125, Tryz.ntmps125
       go_upto_region 1 with (fail)
       rw [← hW0]
       (try rw [← hE])
       clear hW0 hE
       refine wp_region_held_drew (S := (fun W => W.cell? ⟨gc, 0, none⟩ = some (.string cat) ∧ W.cell? ⟨gp, 0, none⟩ = some (.pointer (some ⟨gs, 0, none⟩)) ∧ W.cell? ⟨gs, 1, none⟩ = some (.map (some m2)) ∧ W.cell? ⟨gs, 2, none⟩ = some (.map (some m3)) ∧ (Instr.lookup 136 (.map (some m2)) (.string id) false).run Tryz.prog W = .ok (.string hs) W ∧ (Instr.lookup 137 (.map (some m3)) (.string who) false).run Tryz.prog W = .ok (.bool true) W ∧ W.cell? ⟨E, 2, none⟩ = some (.string id) ∧ W.cell? ⟨E, 3, none⟩ = some (.string who) ∧ W.cell? ⟨E, 5, none⟩ = some (.string ct))) (by kernel_rfl) HSP.out (fun hHeld => ?_)
       refine tkY 0 (.pointer (some ⟨E, 5, none⟩)) rfl hHeld ?_
       refine tkY 1 (.string ct) rfl hHeld ?_
       refine tkY 2 (.string cat) rfl hHeld ?_
       refine tkY 3 (.bool true) rfl hHeld ?_
       refine tkY 4 (.bool true) rfl hHeld ?_
       refine tkY 5 (.pointer (some ⟨gs, 0, none⟩)) rfl hHeld ?_
       refine tkY 6 (.pointer (some ⟨gs, 0, none⟩)) rfl hHeld ?_
       refine tkY 7 (.pointer (some ⟨gs, 1, none⟩)) rfl hHeld ?_
       refine tkY 8 (.map (some m2)) rfl hHeld ?_
       refine tkY 9 (.pointer (some ⟨E, 2, none⟩)) rfl hHeld ?_
       refine tkY 10 (.string id) rfl hHeld ?_
       refine tkY 11 (.string hs) rfl hHeld ?_
       refine tkY 12 (.bool true) rfl hHeld ?_
       refine tkY 13 (.bool true) rfl hHeld ?_
       refine tkY 14 (.bool true) rfl hHeld ?_
       refine tkY 15 (.pointer (some ⟨gs, 0, none⟩)) rfl hHeld ?_
       refine tkY 16 (.pointer (some ⟨gs, 0, none⟩)) rfl hHeld ?_
       refine tkY 17 (.pointer (some ⟨gs, 2, none⟩)) rfl hHeld ?_
       refine tkY 18 (.map (some m3)) rfl hHeld ?_
       refine tkY 19 (.pointer (some ⟨E, 3, none⟩)) rfl hHeld ?_
       refine tkY 20 (.string who) rfl hHeld ?_
       refine tkY 21 (.bool true) rfl hHeld ?_
       refine tkY 22 (.bool false) rfl hHeld ?_
       refine tkY 23 (.bool false) rfl hHeld ?_
       refine tkY 24 (.bool false) rfl hHeld ?_
       refine wpAnyH_done (by kernel_rfl) ?_ _
       go_wp2_with fail
       go_ret
       exact ⟨rfl, HB.out⟩
end Go.Proofs.YtapgnaimbgjcnaaGreatDoor
