/-
  The clock's cut by a contract. (Printed by gen_prs4.py.)
-/
import Derived.Test.YtohjapfjkilmoaaGreatDoorZPrs3
import Derived.Test.YtohjapfjkilmoaaGreatDoorZCutMake
import Derived.Test.YtohjapfjkilmoaaGreatDoorZRatMake
import Derived.Deep.RegionLaw
import Derived.Test.YtohjapfjkilmoaaGreatDoorZPrsPure
import Derived.Test.YtohjapfjkilmoaaGreatDoorZSep
import Derived.Test.YtohjapfjkilmoaaGreatDoorZOwnSet
namespace Go.Proofs.YtohjapfjkilmoaaGreatDoor
open Go Go.RowKit
attribute [local go_sem ↓] Go.wp_at_zero Go.wp_at_succ

theorem Sq.turnB {w0 w w' : World} {b : Nat} {t : TypeId} {cs cs' : Array Value} {l : List Rsc} (h : Sq w0 w (rBlk b t cs :: l)) (k : Bx w.heap.size b w w') (hb : Blk w' b t cs') : Sq w0 w' (rBlk b t cs' :: l) :=
  h.turn (r' := rBlk b t cs') k.grownBy (fun q hq => by injection hq with hq; exact hq.symm) hb (rBlk_ok _ _ _) (fun q hq => ⟨.inl hq, by have hq : q = b := hq; subst hq; exact hb.lt⟩)
theorem one3c {x y z : Value} (hx : x.oneCell' = true) (hy : y.oneCell' = true) (hz : z.oneCell' = true) : ∀ u ∈ [x, y, z], u.oneCell' = true := by
  intro u hu
  simp at hu
  rcases hu with rfl | rfl | rfl <;> assumption
def CutS (w0 : World) (b n : Nat) (c : Clk) (l : List Rsc) (r : Value) (e : Ending) (w' : World) : Prop :=
  e = .returned r ∧ ∃ (A : Option Addr) (cap : Nat), Sq w0 w' (rBlk b 66 (clkC n c (.slice A c.cuts.length cap)) :: rOwn w0.heap.size 40 3 (.slice A c.cuts.length cap) c.cuts.length (c.cuts.flatMap cutC) :: l)
set_option maxRecDepth 100000 in
set_option maxHeartbeats 1000000 in
theorem cut_calls (w0 : World) (b n : Nat) (c : Clk) (x : Cut) (A : Option Addr) (cap : Nat) (l : List Rsc) (w : World)
    (hS : Sq w0 w (rBlk b 66 (clkC n c (.slice A c.cuts.length cap)) :: rOwn w0.heap.size 40 3 (.slice A c.cuts.length cap) c.cuts.length (c.cuts.flatMap cutC) :: l)) (hm2 : c.cuts.length ≤ 100000) (_hn : n ≤ 100000) :
    Calls Tryz.prog 56 #[.pointer (some ⟨b, 0, none⟩), .agg #[.int .i64 x.1, .int .i64 x.2.1, .bool x.2.2]] w (CutS w0 b n (cutP n c x) l (.tuple #[])) := by
  obtain ⟨i0, hi, hz0, hz1, hz2⟩ := info_parts info_cut
  obtain ⟨m, hm⟩ : ∃ m, c.cuts.length = m := ⟨_, rfl⟩
  rw [hm] at hS hm2
  have hS1 := hS.add #[.int .i64 x.1, .int .i64 x.2.1, .bool x.2.2] 40
  have hlt : b < w.heap.size := Blk.lt (hS.nth 0 rfl)
  have hw0 := hS.size
  have hC : ClkAt (w.alloc (.cells #[.int .i64 x.1, .int .i64 x.2.1, .bool x.2.2] 40)) b n c (.slice A m cap) := hS1.nth 1 rfl
  have k0 := hC.cells.1
  have k6 := hC.cells.2.2.2.2.2.2.1
  have g6 := hC.frz.2.2.2.2.2.1
  have hZ := Blk.three (hS1.nth 0 rfl)
  obtain ⟨z0, z1, z2, _⟩ := hZ
  have hS2 := (hS1.front 2 rfl rfl).drew
  have hsz1 : (w.alloc (.cells #[.int .i64 x.1, .int .i64 x.2.1, .bool x.2.2] 40)).heap.size = w.heap.size + 1 := by simp
  have h63 : m + 1 ≤ maxLen := by unfold maxLen; omega
  have hby : (m + 1) * 24 ≤ 140737488355328 := by omega
  have HCL : Hid (∀ W L, Sq w0 W (rOwn w0.heap.size 40 3 L (m + 1) (c.cuts.flatMap cutC ++ [.int .i64 x.1, .int .i64 x.2.1, .bool x.2.2]) :: rBlk w.heap.size 40 #[.int .i64 x.1, .int .i64 x.2.1, .bool x.2.2] :: rBlk b 66 (clkC n c (.slice A m cap)) :: l) → W.cell? ⟨b, 6, none⟩ = some (.slice A m cap) ∧ W.frozen? ⟨b, 6, none⟩ = false) := fun W L h => ⟨Blk.cell (h.nth 2 rfl) 6, Blk.frozen (h.nth 2 rfl) 6⟩
  have HM := Lib.hid hm
  clear hS hC hS1 hm
  go_enter Tryz.func56, Tryz.ntmps56
  go_wp2_with fail
  go_region_law (first
    | (refine step_append_lies _ (by rfl) _ _ _ (by rfl) w0.heap.size 40 i0 (.agg #[.int .i64 0, .int .i64 0, .bool false]) 3 24 Tryz.underlying28 hi hz0 hz1 hz2 rfl (by omega) (.slice A m cap) m (c.cuts.flatMap cutC) (by rfl) ((hS2.alloc _).head) ⟨w.heap.size + 1, 0, none⟩ 1 1 [.int .i64 x.1, .int .i64 x.2.1, .bool x.2.2] (by rfl) (by rfl) (news_new _ _ _ _ hsz1) (one3c rfl rfl rfl) (by omega) h63 hby (by simp; omega) _ rfl ?_; intro g2 cap2 w5 hown' hgrow hblk hlt5; have hV := (hS2.alloc _).append hown' hgrow (own_lies hblk); obtain ⟨k6, g6⟩ := HCL.out _ _ hV; clear hown' hgrow hblk))
  all_goals
    have hV2 := (hV.front 2 rfl rfl).set_ 6 (.slice (some ⟨g2, 0, none⟩) (m + 1) cap2)
    have hC6 : ClkAt (w5.setCell ⟨b, 6, none⟩ (.slice (some ⟨g2, 0, none⟩) (m + 1) cap2)) b n c (.slice (some ⟨g2, 0, none⟩) (m + 1) cap2) := hV2.nth 0 rfl
    obtain ⟨j0, j1, _, _, _, _, j6, j7, j8, j9, _, _⟩ := hC6.cells
    obtain ⟨q1, _, _, _, _, _, q7, q8, q9, _, _⟩ := hC6.frz
    obtain ⟨y0, y1, y2, _⟩ := Blk.three (hV2.nth 2 rfl)
    clear k0 k6 g6 z0 z1 z2 hV
    by_cases hmn : m + 1 = n
    · have t1 : (((m : Int) + 1) == (n : Int)) = true := by simp; omega
      have HCP : Hid (cutP n c x = { c with cuts := c.cuts ++ [x], phase := 3, end_ := x }) := by unfold cutP; rw [HM.out, if_pos hmn]; exact Lib.hid rfl
      have hln : (c.cuts ++ [x]).length = m + 1 := by rw [List.length_append, HM.out]; rfl
      have HV := Lib.hid hV2
      have HLN := Lib.hid hln
      clear hV2 hC6 hln
      clear hmn
      go_wp2_with fail
      go_quiet (fail)
      go_wp2_with fail
      go_region
      go_wp2_with fail
      go_end0
      refine ⟨rfl, some ⟨g2, 0, none⟩, cap2, ?_⟩
      rw [HCP.out]
      dsimp only
      rw [HLN.out, flat_cut]
      exact (((((HV.out.drewN _).set_ 1 (.int .i64 3)).set_ 7 (.int .i64 x.1)).set_ 8 (.int .i64 x.2.1)).set_ 9 (.bool x.2.2)).drop 2 rfl rfl
    · have t1 : (((m : Int) + 1) == (n : Int)) = false := by simp; omega
      have HCP : Hid (cutP n c x = { c with cuts := c.cuts ++ [x] }) := by unfold cutP; rw [HM.out, if_neg hmn]; exact Lib.hid rfl
      have hln : (c.cuts ++ [x]).length = m + 1 := by rw [List.length_append, HM.out]; rfl
      have hV3 := hV2.drop 2 rfl rfl
      have HLN := Lib.hid hln
      clear hV2 hC6 hln
      clear hmn
      go_wp2_with fail
      go_quiet (fail)
      go_wp2_with fail
      go_end0
      refine ⟨rfl, some ⟨g2, 0, none⟩, cap2, ?_⟩
      rw [HCP.out]
      dsimp only
      rw [HLN.out, flat_cut]
      exact hV3.drewN _
end Go.Proofs.YtohjapfjkilmoaaGreatDoor
/-
  The stream's Segments by a contract; an own list that is cut short.
-/
namespace Go.Proofs.YtohjapfjkilmoaaGreatDoor
open Go Go.RowKit

end Go.Proofs.YtohjapfjkilmoaaGreatDoor
