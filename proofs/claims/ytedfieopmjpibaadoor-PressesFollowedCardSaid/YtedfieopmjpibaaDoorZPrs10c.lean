/-
  The reference's press: an attempt is on; pause, resume. (Printed by gen_prs10.py.)
-/
import Derived.Test.YtedfieopmjpibaaDoorZPrs10
namespace Go.Proofs.YtedfieopmjpibaaDoor
open Go Go.RowKit
attribute [local go_sem ↓] Go.wp_at_zero Go.wp_at_succ


set_option maxRecDepth 100000 in
set_option maxHeartbeats 2000000 in
theorem qpress1_5 (w0 : World) (ga g n : Nat) (x : Att) (A1 : Option Addr) (c1 : Nat) (A2 : Option Addr) (c2 : Nat) (t : Int) (l : List Rsc) (w : World)
    (hS : Sq w0 w (rBlk ga 69 #[.pointer (some ⟨g, 0, none⟩)] :: rBlk g 82 (attC x A1 c1 A2 c2) :: rOwn w0.heap.size 61 2 (.slice A1 x.ended.length c1) x.ended.length (x.ended.flatMap pzC) :: rOwn w0.heap.size 61 2 (.slice A2 x.breaks.length c2) x.breaks.length (x.breaks.flatMap pzC) :: l)) (_he : x.ended.length ≤ 100000) (_hbk : x.breaks.length ≤ 100000) (_hn : n ≤ 100000) :
    Calls Tryd.prog 51 #[.pointer (some ⟨ga, 0, none⟩), .int .i64 n, .agg #[.int .i64 t, .int .i64 5]] w (QrG w0 ga n (some x) (t, 5) l) := by
  have hS1 := hS.add #[.int .i64 t, .int .i64 5] 61
  have hltg : g < w.heap.size := Blk.lt (show Blk w g 82 (attC x A1 c1 A2 c2) from hS.nth 1 rfl)
  have hlta : ga < w.heap.size := Blk.lt (hS.nth 0 rfl)
  obtain ⟨q0, q1, _, _⟩ := Blk.two (hS1.nth 0 rfl)
  obtain ⟨z0, zf⟩ := Blk.one (show Blk _ ga 69 #[.pointer (some ⟨g, 0, none⟩)] from hS1.nth 1 rfl)
  have hE1 : (w.alloc (.cells #[.int .i64 t, .int .i64 5] 61)).ownsRow w0.heap.size 61 2 (.slice A1 x.ended.length c1) x.ended.length (x.ended.flatMap pzC) := hS1.nth 3 rfl
  have hE2 : (w.alloc (.cells #[.int .i64 t, .int .i64 5] 61)).ownsRow w0.heap.size 61 2 (.slice A2 x.breaks.length c2) x.breaks.length (x.breaks.flatMap pzC) := hS1.nth 4 rfl
  have HAT : Hid (∀ W, Below (w.alloc (.cells #[.int .i64 t, .int .i64 5] 61)).heap.size (w.alloc (.cells #[.int .i64 t, .int .i64 5] 61)) W → AttAt W (w.alloc (.cells #[.int .i64 t, .int .i64 5] 61)).heap.size g x A1 c1 A2 c2) := fun W hW =>
    AttAt.below ⟨hS1.nth 2 rfl, Rd.of_own hE1 (fun k hk => by have := (hE1.lt k hk).2; omega), Rd.of_own hE2 (fun k hk => by have := (hE2.lt k hk).2; omega)⟩ hW
  have HPH := Lib.hid (phase1_calls _ g n x A1 c1 A2 c2 _ (HAT.out _ (Below.refl _ _)))
  obtain ⟨ph, hph⟩ : ∃ ph, phaseQ n (some x) = ph := ⟨_, rfl⟩
  have hp3 : ph = 1 ∨ ph = 2 ∨ ph = 3 := by rcases phase_cases n x with ⟨h, _⟩ | ⟨h, _⟩ | ⟨h, _⟩ <;> omega
  rw [hph] at HPH
  have HP := Lib.hid hph
  have hc1 := own_cap hE1
  have hc2 := own_cap hE2
  clear hS hph hE1 hE2
  go_enter Tryd.func51, Tryd.ntmps51
  go_wp2_with fail
  refine HPH.out.mono ?_
  rintro e w1 ⟨rfl, hb1⟩
  have hS2 := hS1.callB hb1
  have hz1 : w.heap.size + 1 ≤ w1.heap.size := by have := hb1.size; simpa using this
  clear q0 q1 z0 zf
  obtain ⟨q0, q1, _, _⟩ := Blk.two (hS2.nth 0 rfl)
  obtain ⟨z0, zf⟩ := Blk.one (show Blk _ ga 69 #[.pointer (some ⟨g, 0, none⟩)] from hS2.nth 1 rfl)
  have kG : Blk w1 g 82 (attC x A1 c1 A2 c2) := hS2.nth 2 rfl
  obtain ⟨g0, g1, g2, _, j1, j2⟩ := kG.three
  clear hS1 HPH kG
  obtain ⟨wm2, wm3, r5, r6, hbm, l5, l6⟩ := map56 w1
  have hmm := @run_makeMap Tryd.prog
  have hS2' := hS2.callB hbm
  have hzm := hbm.size
  clear hS2
  have hS2 := hS2'
  have q2 := below_cell hbm q0
  have q3 := below_cell hbm q1
  have gg0 := below_cell hbm g0
  have gg1 := below_cell hbm g1
  have gg2 := below_cell hbm g2
  have jj2 : wm3.frozen? ⟨g, 2, none⟩ = false := Blk.frozen (show Blk wm3 g 82 (attC x A1 c1 A2 c2) from hS2.nth 2 rfl) 2
  clear g0 g1 g2 hS2' j1 j2
  by_cases h0 : ph = 1
  · subst h0
    obtain ⟨i0, hi, hi0, hi1, hi2⟩ := info_parts info_press
    have hS3 := (hS2.front 4 rfl rfl).drew
    have hw0 := hS2.size
    have hgl1 : g < wm3.heap.size := by omega
    have hpl1 : w.heap.size < wm3.heap.size := by omega
    have hgn1 : ¬ g = wm3.heap.size := by omega
    have hpn1 : ¬ w.heap.size = wm3.heap.size := by omega
    obtain ⟨m, hm⟩ : ∃ m, x.breaks.length = m := ⟨_, rfl⟩
    have HM := Lib.hid hm
    have hm2 : m ≤ 100000 := by omega
    have h63 : m + 1 ≤ maxLen := by unfold maxLen; omega
    have hby : (m + 1) * 16 ≤ 140737488355328 := by omega
    rw [hm] at hS3 gg2
    have HCL : Hid (∀ W L, Sq w0 W (rOwn w0.heap.size 61 2 L (m + 1) (x.breaks.flatMap pzC ++ [.int .i64 t, .int .i64 5]) :: rBlk w.heap.size 61 #[.int .i64 t, .int .i64 5] :: rBlk ga 69 #[.pointer (some ⟨g, 0, none⟩)] :: rBlk g 82 (attC x A1 c1 A2 c2) :: rOwn w0.heap.size 61 2 (.slice A1 x.ended.length c1) x.ended.length (x.ended.flatMap pzC) :: l) → W.cell? ⟨g, 2, none⟩ = some (.slice A2 m c2) ∧ W.frozen? ⟨g, 2, none⟩ = false) := fun W L h => ⟨by rw [← HM.out]; exact Blk.cell (h.nth 3 rfl) 2, Blk.frozen (h.nth 3 rfl) 2⟩
    clear hm
    go_upto_region 25 with (fail)
    go_region_law (first
      | (refine step_append_lies _ (by rfl) _ _ _ (by rfl) w0.heap.size 61 i0 (.agg #[.int .i64 0, .int .i64 0]) 2 16 Tryd.underlying27 hi hi0 hi1 hi2 rfl (by omega) (.slice A2 m c2) m (x.breaks.flatMap pzC) (by rfl) ((hS3.alloc _).head) ⟨wm3.heap.size, 0, none⟩ 1 1 [.int .i64 t, .int .i64 5] (by rfl) (by rfl) (news_new _ _ _ _ rfl) (one2p rfl rfl) (by omega) h63 hby (by simp; omega) _ rfl ?_; intro g9 cap9 w5 hown' hgrow hblk hlt5; have hV := (hS3.alloc _).append hown' hgrow (own_lies hblk); obtain ⟨k9, f9⟩ := HCL.out _ _ hV; clear hown' hgrow hblk))
    all_goals
      have hV2 := (hV.front 3 rfl rfl).set_ 2 (.slice (some ⟨g9, 0, none⟩) (m + 1) cap9)
      have hV3 := ((((hV2.drop 2 rfl rfl).front 1 rfl rfl).front 3 rfl rfl).front 2 rfl rfl).front 3 rfl rfl
      have hln : (x.breaks ++ [(t, (5 : Int))]).length = m + 1 := by rw [List.length_append, HM.out]; rfl
      have HLN := Lib.hid hln
      clear hV hV2 hln
      go_wp2_with fail
      go_ret
      refine qr_yes (g := g) (a' := some ⟨x.start, x.ended, x.breaks ++ [(t, 5)]⟩) (A1 := A1) (c1 := c1) (A2 := some ⟨g9, 0, none⟩) (c2 := cap9) (by unfold refQ; rw [HP.out]; rfl) rfl ?_
      unfold attL attC
      simp only
      rw [HLN.out, flat_pz]
      exact hV3
  · have e0 : (ph != 1) = true := by simpa using h0
    go_wp2_with fail
    go_ret
    exact qr_no (by unfold refQ; rw [HP.out]; simpa using h0) (hS2.drop 0 rfl rfl)

set_option maxRecDepth 100000 in
set_option maxHeartbeats 2000000 in
theorem qpress1_6 (w0 : World) (ga g n : Nat) (x : Att) (A1 : Option Addr) (c1 : Nat) (A2 : Option Addr) (c2 : Nat) (t : Int) (l : List Rsc) (w : World)
    (hS : Sq w0 w (rBlk ga 69 #[.pointer (some ⟨g, 0, none⟩)] :: rBlk g 82 (attC x A1 c1 A2 c2) :: rOwn w0.heap.size 61 2 (.slice A1 x.ended.length c1) x.ended.length (x.ended.flatMap pzC) :: rOwn w0.heap.size 61 2 (.slice A2 x.breaks.length c2) x.breaks.length (x.breaks.flatMap pzC) :: l)) (_he : x.ended.length ≤ 100000) (_hbk : x.breaks.length ≤ 100000) (_hn : n ≤ 100000) :
    Calls Tryd.prog 51 #[.pointer (some ⟨ga, 0, none⟩), .int .i64 n, .agg #[.int .i64 t, .int .i64 6]] w (QrG w0 ga n (some x) (t, 6) l) := by
  have hS1 := hS.add #[.int .i64 t, .int .i64 6] 61
  have hltg : g < w.heap.size := Blk.lt (show Blk w g 82 (attC x A1 c1 A2 c2) from hS.nth 1 rfl)
  have hlta : ga < w.heap.size := Blk.lt (hS.nth 0 rfl)
  obtain ⟨q0, q1, _, _⟩ := Blk.two (hS1.nth 0 rfl)
  obtain ⟨z0, zf⟩ := Blk.one (show Blk _ ga 69 #[.pointer (some ⟨g, 0, none⟩)] from hS1.nth 1 rfl)
  have hE1 : (w.alloc (.cells #[.int .i64 t, .int .i64 6] 61)).ownsRow w0.heap.size 61 2 (.slice A1 x.ended.length c1) x.ended.length (x.ended.flatMap pzC) := hS1.nth 3 rfl
  have hE2 : (w.alloc (.cells #[.int .i64 t, .int .i64 6] 61)).ownsRow w0.heap.size 61 2 (.slice A2 x.breaks.length c2) x.breaks.length (x.breaks.flatMap pzC) := hS1.nth 4 rfl
  have HAT : Hid (∀ W, Below (w.alloc (.cells #[.int .i64 t, .int .i64 6] 61)).heap.size (w.alloc (.cells #[.int .i64 t, .int .i64 6] 61)) W → AttAt W (w.alloc (.cells #[.int .i64 t, .int .i64 6] 61)).heap.size g x A1 c1 A2 c2) := fun W hW =>
    AttAt.below ⟨hS1.nth 2 rfl, Rd.of_own hE1 (fun k hk => by have := (hE1.lt k hk).2; omega), Rd.of_own hE2 (fun k hk => by have := (hE2.lt k hk).2; omega)⟩ hW
  have HPH := Lib.hid (phase1_calls _ g n x A1 c1 A2 c2 _ (HAT.out _ (Below.refl _ _)))
  obtain ⟨ph, hph⟩ : ∃ ph, phaseQ n (some x) = ph := ⟨_, rfl⟩
  have hp3 : ph = 1 ∨ ph = 2 ∨ ph = 3 := by rcases phase_cases n x with ⟨h, _⟩ | ⟨h, _⟩ | ⟨h, _⟩ <;> omega
  rw [hph] at HPH
  have HP := Lib.hid hph
  have hc1 := own_cap hE1
  have hc2 := own_cap hE2
  clear hS hph hE1 hE2
  go_enter Tryd.func51, Tryd.ntmps51
  go_wp2_with fail
  refine HPH.out.mono ?_
  rintro e w1 ⟨rfl, hb1⟩
  have hS2 := hS1.callB hb1
  have hz1 : w.heap.size + 1 ≤ w1.heap.size := by have := hb1.size; simpa using this
  clear q0 q1 z0 zf
  obtain ⟨q0, q1, _, _⟩ := Blk.two (hS2.nth 0 rfl)
  obtain ⟨z0, zf⟩ := Blk.one (show Blk _ ga 69 #[.pointer (some ⟨g, 0, none⟩)] from hS2.nth 1 rfl)
  have kG : Blk w1 g 82 (attC x A1 c1 A2 c2) := hS2.nth 2 rfl
  obtain ⟨g0, g1, g2, _, j1, j2⟩ := kG.three
  clear hS1 HPH kG
  obtain ⟨wm2, wm3, r5, r6, hbm, l5, l6⟩ := map56 w1
  have hmm := @run_makeMap Tryd.prog
  have hS2' := hS2.callB hbm
  have hzm := hbm.size
  clear hS2
  have hS2 := hS2'
  have q2 := below_cell hbm q0
  have q3 := below_cell hbm q1
  have gg0 := below_cell hbm g0
  have gg1 := below_cell hbm g1
  have gg2 := below_cell hbm g2
  have jj2 : wm3.frozen? ⟨g, 2, none⟩ = false := Blk.frozen (show Blk wm3 g 82 (attC x A1 c1 A2 c2) from hS2.nth 2 rfl) 2
  clear g0 g1 g2 hS2' j1 j2
  by_cases h0 : ph = 2
  · subst h0
    obtain ⟨i0, hi, hi0, hi1, hi2⟩ := info_parts info_press
    have hS3 := (hS2.front 4 rfl rfl).drew
    have hw0 := hS2.size
    have hgl1 : g < wm3.heap.size := by omega
    have hpl1 : w.heap.size < wm3.heap.size := by omega
    have hgn1 : ¬ g = wm3.heap.size := by omega
    have hpn1 : ¬ w.heap.size = wm3.heap.size := by omega
    obtain ⟨m, hm⟩ : ∃ m, x.breaks.length = m := ⟨_, rfl⟩
    have HM := Lib.hid hm
    have hm2 : m ≤ 100000 := by omega
    have h63 : m + 1 ≤ maxLen := by unfold maxLen; omega
    have hby : (m + 1) * 16 ≤ 140737488355328 := by omega
    rw [hm] at hS3 gg2
    have HCL : Hid (∀ W L, Sq w0 W (rOwn w0.heap.size 61 2 L (m + 1) (x.breaks.flatMap pzC ++ [.int .i64 t, .int .i64 6]) :: rBlk w.heap.size 61 #[.int .i64 t, .int .i64 6] :: rBlk ga 69 #[.pointer (some ⟨g, 0, none⟩)] :: rBlk g 82 (attC x A1 c1 A2 c2) :: rOwn w0.heap.size 61 2 (.slice A1 x.ended.length c1) x.ended.length (x.ended.flatMap pzC) :: l) → W.cell? ⟨g, 2, none⟩ = some (.slice A2 m c2) ∧ W.frozen? ⟨g, 2, none⟩ = false) := fun W L h => ⟨by rw [← HM.out]; exact Blk.cell (h.nth 3 rfl) 2, Blk.frozen (h.nth 3 rfl) 2⟩
    clear hm
    go_upto_region 25 with (fail)
    go_region_law (first
      | (refine step_append_lies _ (by rfl) _ _ _ (by rfl) w0.heap.size 61 i0 (.agg #[.int .i64 0, .int .i64 0]) 2 16 Tryd.underlying27 hi hi0 hi1 hi2 rfl (by omega) (.slice A2 m c2) m (x.breaks.flatMap pzC) (by rfl) ((hS3.alloc _).head) ⟨wm3.heap.size, 0, none⟩ 1 1 [.int .i64 t, .int .i64 6] (by rfl) (by rfl) (news_new _ _ _ _ rfl) (one2p rfl rfl) (by omega) h63 hby (by simp; omega) _ rfl ?_; intro g9 cap9 w5 hown' hgrow hblk hlt5; have hV := (hS3.alloc _).append hown' hgrow (own_lies hblk); obtain ⟨k9, f9⟩ := HCL.out _ _ hV; clear hown' hgrow hblk))
    all_goals
      have hV2 := (hV.front 3 rfl rfl).set_ 2 (.slice (some ⟨g9, 0, none⟩) (m + 1) cap9)
      have hV3 := ((((hV2.drop 2 rfl rfl).front 1 rfl rfl).front 3 rfl rfl).front 2 rfl rfl).front 3 rfl rfl
      have hln : (x.breaks ++ [(t, (6 : Int))]).length = m + 1 := by rw [List.length_append, HM.out]; rfl
      have HLN := Lib.hid hln
      clear hV hV2 hln
      go_wp2_with fail
      go_ret
      refine qr_yes (g := g) (a' := some ⟨x.start, x.ended, x.breaks ++ [(t, 6)]⟩) (A1 := A1) (c1 := c1) (A2 := some ⟨g9, 0, none⟩) (c2 := cap9) (by unfold refQ; rw [HP.out]; rfl) rfl ?_
      unfold attL attC
      simp only
      rw [HLN.out, flat_pz]
      exact hV3
  · have e0 : (ph != 2) = true := by simpa using h0
    go_wp2_with fail
    go_ret
    exact qr_no (by unfold refQ; rw [HP.out]; simpa using h0) (hS2.drop 0 rfl rfl)
end Go.Proofs.YtedfieopmjpibaaDoor
