/-
  The reference's press: an attempt is on; load, loaded. (Printed by gen_prs10.py.)
-/
import Derived.Test.YtedfieopmjpibaaDoorZPrs10
namespace Go.Proofs.YtedfieopmjpibaaDoor
open Go Go.RowKit
attribute [local go_sem ↓] Go.wp_at_zero Go.wp_at_succ


set_option maxRecDepth 100000 in
set_option maxHeartbeats 2000000 in
theorem qpress1_7 (w0 : World) (ga g n : Nat) (x : Att) (A1 : Option Addr) (c1 : Nat) (A2 : Option Addr) (c2 : Nat) (t : Int) (l : List Rsc) (w : World)
    (hS : Sq w0 w (rBlk ga 69 #[.pointer (some ⟨g, 0, none⟩)] :: rBlk g 82 (attC x A1 c1 A2 c2) :: rOwn w0.heap.size 61 2 (.slice A1 x.ended.length c1) x.ended.length (x.ended.flatMap pzC) :: rOwn w0.heap.size 61 2 (.slice A2 x.breaks.length c2) x.breaks.length (x.breaks.flatMap pzC) :: l)) (_he : x.ended.length ≤ 100000) (_hbk : x.breaks.length ≤ 100000) (_hn : n ≤ 100000) :
    Calls Tryd.prog 51 #[.pointer (some ⟨ga, 0, none⟩), .int .i64 n, .agg #[.int .i64 t, .int .i64 7]] w (QrG w0 ga n (some x) (t, 7) l) := by
  have hS1 := hS.add #[.int .i64 t, .int .i64 7] 61
  have hltg : g < w.heap.size := Blk.lt (show Blk w g 82 (attC x A1 c1 A2 c2) from hS.nth 1 rfl)
  have hlta : ga < w.heap.size := Blk.lt (hS.nth 0 rfl)
  obtain ⟨q0, q1, _, _⟩ := Blk.two (hS1.nth 0 rfl)
  obtain ⟨z0, zf⟩ := Blk.one (show Blk _ ga 69 #[.pointer (some ⟨g, 0, none⟩)] from hS1.nth 1 rfl)
  have hE1 : (w.alloc (.cells #[.int .i64 t, .int .i64 7] 61)).ownsRow w0.heap.size 61 2 (.slice A1 x.ended.length c1) x.ended.length (x.ended.flatMap pzC) := hS1.nth 3 rfl
  have hE2 : (w.alloc (.cells #[.int .i64 t, .int .i64 7] 61)).ownsRow w0.heap.size 61 2 (.slice A2 x.breaks.length c2) x.breaks.length (x.breaks.flatMap pzC) := hS1.nth 4 rfl
  have HAT : Hid (∀ W, Below (w.alloc (.cells #[.int .i64 t, .int .i64 7] 61)).heap.size (w.alloc (.cells #[.int .i64 t, .int .i64 7] 61)) W → AttAt W (w.alloc (.cells #[.int .i64 t, .int .i64 7] 61)).heap.size g x A1 c1 A2 c2) := fun W hW =>
    AttAt.below ⟨hS1.nth 2 rfl, Rd.of_own hE1 (fun k hk => by have := (hE1.lt k hk).2; omega), Rd.of_own hE2 (fun k hk => by have := (hE2.lt k hk).2; omega)⟩ hW
  have HPH := Lib.hid (phase1_calls _ g n x A1 c1 A2 c2 _ (HAT.out _ (Below.refl _ _)))
  obtain ⟨ph, hph⟩ : ∃ ph, phaseQ n (some x) = ph := ⟨_, rfl⟩
  have hp3 : ph = 1 ∨ ph = 2 ∨ ph = 3 := by rcases phase_cases n x with ⟨h, _⟩ | ⟨h, _⟩ | ⟨h, _⟩ <;> omega
  rw [hph] at HPH
  have HP := Lib.hid hph
  have hc1 := own_cap hE1
  have hc2 := own_cap hE2
  clear hS hph hE1 hE2
  go_enter Tryd.func51, Tryd.ntmps51
  go_wp2_with fail
  refine HPH.out.mono ?_
  rintro e w1 ⟨rfl, hb1⟩
  have hS2 := hS1.callB hb1
  have hz1 : w.heap.size + 1 ≤ w1.heap.size := by have := hb1.size; simpa using this
  clear q0 q1 z0 zf
  obtain ⟨q0, q1, _, _⟩ := Blk.two (hS2.nth 0 rfl)
  obtain ⟨z0, zf⟩ := Blk.one (show Blk _ ga 69 #[.pointer (some ⟨g, 0, none⟩)] from hS2.nth 1 rfl)
  have kG : Blk w1 g 82 (attC x A1 c1 A2 c2) := hS2.nth 2 rfl
  obtain ⟨g0, g1, g2, _, j1, j2⟩ := kG.three
  clear hS1 HPH kG
  obtain ⟨B, hB⟩ : ∃ B, loadsQ x.breaks = B := ⟨_, rfl⟩
  have hbw : Below (w.alloc (.cells #[.int .i64 t, .int .i64 7] 61)).heap.size (w.alloc (.cells #[.int .i64 t, .int .i64 7] 61)) w1.drew := below_drewN hb1 1
  have HLD := Lib.hid (loads_calls _ g x A1 c1 A2 c2 _ (HAT.out _ hbw))
  rw [hB] at HLD
  have HBB := Lib.hid hB
  clear hB
  by_cases h0 : ph = 1
  · subst h0
    have HCL : Hid (∀ W, Below w1.heap.size w1 W → W.cell? ⟨w.heap.size, 1, none⟩ = some (.int .i64 7)) := fun W h => below_cell h q1
    have hdr : Below w1.heap.size w1 w1.drew := below_drewN (Below.refl _ _) 1
    go_upto_region 28 with (fail)
    go_region_held3 (fun W => W.cell? ⟨w.heap.size, 1, none⟩ = some (.int .i64 7))
      (first | exact HCL.out _ hdr | exact HCL.out _ hB2)
      (first | (go_at_call 45; ((with_reducible refine HLD.out.mono ?_); rintro e w2 ⟨rfl, hb2⟩; have hB2 := below_call hdr hb2 (Nat.le_refl _))))
    have hS2' := hS2.callB hB2
    have q2 := below_cell hB2 q0
    have q3 := below_cell hB2 q1
    have gg0 := below_cell hB2 g0
    have gg1 := below_cell hB2 g1
    have gg2 := below_cell hB2 g2
    have jj2 : w2.frozen? ⟨g, 2, none⟩ = false := Blk.frozen (show Blk w2 g 82 (attC x A1 c1 A2 c2) from hS2'.nth 2 rfl) 2
    have hz2 := hB2.size
    clear g0 g1 g2 j1 j2 hS2 q0 q1 z0 zf hb1 hbw hb2 hdr
    have hS2 := hS2'
    clear hS2' hB2
    cases B
    · have HR : Hid (refQ n (some x) 7 = false) := by
        unfold refQ
        rw [if_neg (by decide), if_neg (by decide), if_neg (by decide), if_neg (by decide), if_neg (by decide), if_neg (by decide), if_pos rfl, HP.out]
        show (decide ((1 : Int) ≠ 1) || loadsQ x.breaks) = false
        rw [HBB.out]
        exact Lib.hid rfl
      obtain ⟨i0, hi, hi0, hi1, hi2⟩ := info_parts info_press
      have hS3 := (hS2.front 4 rfl rfl).drew
      have hw0 := hS2.size
      have hgl1 : g < w2.heap.size := by omega
      have hpl1 : w.heap.size < w2.heap.size := by omega
      have hgn1 : ¬ g = w2.heap.size := by omega
      have hpn1 : ¬ w.heap.size = w2.heap.size := by omega
      obtain ⟨m, hm⟩ : ∃ m, x.breaks.length = m := ⟨_, rfl⟩
      have HM := Lib.hid hm
      have hm2 : m ≤ 100000 := by omega
      have h63 : m + 1 ≤ maxLen := by unfold maxLen; omega
      have hby : (m + 1) * 16 ≤ 140737488355328 := by omega
      rw [hm] at hS3 gg2
      have HCL : Hid (∀ W L, Sq w0 W (rOwn w0.heap.size 61 2 L (m + 1) (x.breaks.flatMap pzC ++ [.int .i64 t, .int .i64 7]) :: rBlk w.heap.size 61 #[.int .i64 t, .int .i64 7] :: rBlk ga 69 #[.pointer (some ⟨g, 0, none⟩)] :: rBlk g 82 (attC x A1 c1 A2 c2) :: rOwn w0.heap.size 61 2 (.slice A1 x.ended.length c1) x.ended.length (x.ended.flatMap pzC) :: l) → W.cell? ⟨g, 2, none⟩ = some (.slice A2 m c2) ∧ W.frozen? ⟨g, 2, none⟩ = false) := fun W L h => ⟨by rw [← HM.out]; exact Blk.cell (h.nth 3 rfl) 2, Blk.frozen (h.nth 3 rfl) 2⟩
      clear hm
      go_upto_region 30 with (fail)
      go_region_law (first
        | (refine step_append_lies _ (by rfl) _ _ _ (by rfl) w0.heap.size 61 i0 (.agg #[.int .i64 0, .int .i64 0]) 2 16 Tryd.underlying27 hi hi0 hi1 hi2 rfl (by omega) (.slice A2 m c2) m (x.breaks.flatMap pzC) (by rfl) ((hS3.alloc _).head) ⟨w2.heap.size, 0, none⟩ 1 1 [.int .i64 t, .int .i64 7] (by rfl) (by rfl) (news_new _ _ _ _ rfl) (one2p rfl rfl) (by omega) h63 hby (by simp; omega) _ rfl ?_; intro g9 cap9 w5 hown' hgrow hblk hlt5; have hV := (hS3.alloc _).append hown' hgrow (own_lies hblk); obtain ⟨k9, f9⟩ := HCL.out _ _ hV; clear hown' hgrow hblk))
      all_goals
        have hV2 := (hV.front 3 rfl rfl).set_ 2 (.slice (some ⟨g9, 0, none⟩) (m + 1) cap9)
        have hV3 := ((((hV2.drop 2 rfl rfl).front 1 rfl rfl).front 3 rfl rfl).front 2 rfl rfl).front 3 rfl rfl
        have hln : (x.breaks ++ [(t, (7 : Int))]).length = m + 1 := by rw [List.length_append, HM.out]; rfl
        have HLN := Lib.hid hln
        clear hV hV2 hln
        go_wp2_with fail
        go_ret
        refine qr_yes (g := g) (a' := some ⟨x.start, x.ended, x.breaks ++ [(t, 7)]⟩) (A1 := A1) (c1 := c1) (A2 := some ⟨g9, 0, none⟩) (c2 := cap9) HR.out rfl ?_
        unfold attL attC
        simp only
        rw [HLN.out, flat_pz]
        exact hV3
    · have HR : Hid (refQ n (some x) 7 = true) := by
        unfold refQ
        rw [if_neg (by decide), if_neg (by decide), if_neg (by decide), if_neg (by decide), if_neg (by decide), if_neg (by decide), if_pos rfl, HP.out]
        show (decide ((1 : Int) ≠ 1) || loadsQ x.breaks) = true
        rw [HBB.out]
        exact Lib.hid rfl
      go_wp2_with fail
      go_ret
      exact qr_no HR.out (hS2.drop 0 rfl rfl)
  · have e0 : (ph == 1) = false := by simpa using h0
    go_wp2_with fail
    go_quiet (fail)
    go_wp2_with fail
    go_ret
    exact qr_no (by unfold refQ; rw [HP.out]; simp [h0]) ((hS2.drop 0 rfl rfl).drewN _)

set_option maxRecDepth 100000 in
set_option maxHeartbeats 2000000 in
theorem qpress1_8 (w0 : World) (ga g n : Nat) (x : Att) (A1 : Option Addr) (c1 : Nat) (A2 : Option Addr) (c2 : Nat) (t : Int) (l : List Rsc) (w : World)
    (hS : Sq w0 w (rBlk ga 69 #[.pointer (some ⟨g, 0, none⟩)] :: rBlk g 82 (attC x A1 c1 A2 c2) :: rOwn w0.heap.size 61 2 (.slice A1 x.ended.length c1) x.ended.length (x.ended.flatMap pzC) :: rOwn w0.heap.size 61 2 (.slice A2 x.breaks.length c2) x.breaks.length (x.breaks.flatMap pzC) :: l)) (_he : x.ended.length ≤ 100000) (_hbk : x.breaks.length ≤ 100000) (_hn : n ≤ 100000) :
    Calls Tryd.prog 51 #[.pointer (some ⟨ga, 0, none⟩), .int .i64 n, .agg #[.int .i64 t, .int .i64 8]] w (QrG w0 ga n (some x) (t, 8) l) := by
  have hS1 := hS.add #[.int .i64 t, .int .i64 8] 61
  have hltg : g < w.heap.size := Blk.lt (show Blk w g 82 (attC x A1 c1 A2 c2) from hS.nth 1 rfl)
  have hlta : ga < w.heap.size := Blk.lt (hS.nth 0 rfl)
  obtain ⟨q0, q1, _, _⟩ := Blk.two (hS1.nth 0 rfl)
  obtain ⟨z0, zf⟩ := Blk.one (show Blk _ ga 69 #[.pointer (some ⟨g, 0, none⟩)] from hS1.nth 1 rfl)
  have hE1 : (w.alloc (.cells #[.int .i64 t, .int .i64 8] 61)).ownsRow w0.heap.size 61 2 (.slice A1 x.ended.length c1) x.ended.length (x.ended.flatMap pzC) := hS1.nth 3 rfl
  have hE2 : (w.alloc (.cells #[.int .i64 t, .int .i64 8] 61)).ownsRow w0.heap.size 61 2 (.slice A2 x.breaks.length c2) x.breaks.length (x.breaks.flatMap pzC) := hS1.nth 4 rfl
  have HAT : Hid (∀ W, Below (w.alloc (.cells #[.int .i64 t, .int .i64 8] 61)).heap.size (w.alloc (.cells #[.int .i64 t, .int .i64 8] 61)) W → AttAt W (w.alloc (.cells #[.int .i64 t, .int .i64 8] 61)).heap.size g x A1 c1 A2 c2) := fun W hW =>
    AttAt.below ⟨hS1.nth 2 rfl, Rd.of_own hE1 (fun k hk => by have := (hE1.lt k hk).2; omega), Rd.of_own hE2 (fun k hk => by have := (hE2.lt k hk).2; omega)⟩ hW
  have HPH := Lib.hid (phase1_calls _ g n x A1 c1 A2 c2 _ (HAT.out _ (Below.refl _ _)))
  obtain ⟨ph, hph⟩ : ∃ ph, phaseQ n (some x) = ph := ⟨_, rfl⟩
  have hp3 : ph = 1 ∨ ph = 2 ∨ ph = 3 := by rcases phase_cases n x with ⟨h, _⟩ | ⟨h, _⟩ | ⟨h, _⟩ <;> omega
  rw [hph] at HPH
  have HP := Lib.hid hph
  have hc1 := own_cap hE1
  have hc2 := own_cap hE2
  clear hS hph hE1 hE2
  go_enter Tryd.func51, Tryd.ntmps51
  go_wp2_with fail
  refine HPH.out.mono ?_
  rintro e w1 ⟨rfl, hb1⟩
  have hS2 := hS1.callB hb1
  have hz1 : w.heap.size + 1 ≤ w1.heap.size := by have := hb1.size; simpa using this
  clear q0 q1 z0 zf
  obtain ⟨q0, q1, _, _⟩ := Blk.two (hS2.nth 0 rfl)
  obtain ⟨z0, zf⟩ := Blk.one (show Blk _ ga 69 #[.pointer (some ⟨g, 0, none⟩)] from hS2.nth 1 rfl)
  have kG : Blk w1 g 82 (attC x A1 c1 A2 c2) := hS2.nth 2 rfl
  obtain ⟨g0, g1, g2, _, j1, j2⟩ := kG.three
  clear hS1 HPH kG
  obtain ⟨B, hB⟩ : ∃ B, loadsQ x.breaks = B := ⟨_, rfl⟩
  have hbw : Below (w.alloc (.cells #[.int .i64 t, .int .i64 8] 61)).heap.size (w.alloc (.cells #[.int .i64 t, .int .i64 8] 61)) w1.drew := below_drewN hb1 1
  have HLD := Lib.hid (loads_calls _ g x A1 c1 A2 c2 _ (HAT.out _ hbw))
  rw [hB] at HLD
  have HBB := Lib.hid hB
  clear hB
  by_cases h0 : ph = 1
  · subst h0
    have HCL : Hid (∀ W, Below w1.heap.size w1 W → W.cell? ⟨w.heap.size, 1, none⟩ = some (.int .i64 8)) := fun W h => below_cell h q1
    have hdr : Below w1.heap.size w1 w1.drew := below_drewN (Below.refl _ _) 1
    go_upto_region 28 with (fail)
    go_region_held3 (fun W => W.cell? ⟨w.heap.size, 1, none⟩ = some (.int .i64 8))
      (first | exact HCL.out _ hdr | exact HCL.out _ hB2)
      (first | (go_at_call 45; ((with_reducible refine HLD.out.mono ?_); rintro e w2 ⟨rfl, hb2⟩; have hB2 := below_call hdr hb2 (Nat.le_refl _))))
    have hS2' := hS2.callB hB2
    have q2 := below_cell hB2 q0
    have q3 := below_cell hB2 q1
    have gg0 := below_cell hB2 g0
    have gg1 := below_cell hB2 g1
    have gg2 := below_cell hB2 g2
    have jj2 : w2.frozen? ⟨g, 2, none⟩ = false := Blk.frozen (show Blk w2 g 82 (attC x A1 c1 A2 c2) from hS2'.nth 2 rfl) 2
    have hz2 := hB2.size
    clear g0 g1 g2 j1 j2 hS2 q0 q1 z0 zf hb1 hbw hb2 hdr
    have hS2 := hS2'
    clear hS2' hB2
    cases B
    · have HR : Hid (refQ n (some x) 8 = true) := by
        unfold refQ
        rw [if_neg (by decide), if_neg (by decide), if_neg (by decide), if_neg (by decide), if_neg (by decide), if_neg (by decide), if_neg (by decide), if_pos rfl, HP.out]
        show (decide ((1 : Int) ≠ 1) || !loadsQ x.breaks) = true
        rw [HBB.out]
        exact Lib.hid rfl
      go_wp2_with fail
      go_ret
      exact qr_no HR.out (hS2.drop 0 rfl rfl)
    · have HR : Hid (refQ n (some x) 8 = false) := by
        unfold refQ
        rw [if_neg (by decide), if_neg (by decide), if_neg (by decide), if_neg (by decide), if_neg (by decide), if_neg (by decide), if_neg (by decide), if_pos rfl, HP.out]
        show (decide ((1 : Int) ≠ 1) || !loadsQ x.breaks) = false
        rw [HBB.out]
        exact Lib.hid rfl
      obtain ⟨i0, hi, hi0, hi1, hi2⟩ := info_parts info_press
      have hS3 := (hS2.front 4 rfl rfl).drew
      have hw0 := hS2.size
      have hgl1 : g < w2.heap.size := by omega
      have hpl1 : w.heap.size < w2.heap.size := by omega
      have hgn1 : ¬ g = w2.heap.size := by omega
      have hpn1 : ¬ w.heap.size = w2.heap.size := by omega
      obtain ⟨m, hm⟩ : ∃ m, x.breaks.length = m := ⟨_, rfl⟩
      have HM := Lib.hid hm
      have hm2 : m ≤ 100000 := by omega
      have h63 : m + 1 ≤ maxLen := by unfold maxLen; omega
      have hby : (m + 1) * 16 ≤ 140737488355328 := by omega
      rw [hm] at hS3 gg2
      have HCL : Hid (∀ W L, Sq w0 W (rOwn w0.heap.size 61 2 L (m + 1) (x.breaks.flatMap pzC ++ [.int .i64 t, .int .i64 8]) :: rBlk w.heap.size 61 #[.int .i64 t, .int .i64 8] :: rBlk ga 69 #[.pointer (some ⟨g, 0, none⟩)] :: rBlk g 82 (attC x A1 c1 A2 c2) :: rOwn w0.heap.size 61 2 (.slice A1 x.ended.length c1) x.ended.length (x.ended.flatMap pzC) :: l) → W.cell? ⟨g, 2, none⟩ = some (.slice A2 m c2) ∧ W.frozen? ⟨g, 2, none⟩ = false) := fun W L h => ⟨by rw [← HM.out]; exact Blk.cell (h.nth 3 rfl) 2, Blk.frozen (h.nth 3 rfl) 2⟩
      clear hm
      go_upto_region 30 with (fail)
      go_region_law (first
        | (refine step_append_lies _ (by rfl) _ _ _ (by rfl) w0.heap.size 61 i0 (.agg #[.int .i64 0, .int .i64 0]) 2 16 Tryd.underlying27 hi hi0 hi1 hi2 rfl (by omega) (.slice A2 m c2) m (x.breaks.flatMap pzC) (by rfl) ((hS3.alloc _).head) ⟨w2.heap.size, 0, none⟩ 1 1 [.int .i64 t, .int .i64 8] (by rfl) (by rfl) (news_new _ _ _ _ rfl) (one2p rfl rfl) (by omega) h63 hby (by simp; omega) _ rfl ?_; intro g9 cap9 w5 hown' hgrow hblk hlt5; have hV := (hS3.alloc _).append hown' hgrow (own_lies hblk); obtain ⟨k9, f9⟩ := HCL.out _ _ hV; clear hown' hgrow hblk))
      all_goals
        have hV2 := (hV.front 3 rfl rfl).set_ 2 (.slice (some ⟨g9, 0, none⟩) (m + 1) cap9)
        have hV3 := ((((hV2.drop 2 rfl rfl).front 1 rfl rfl).front 3 rfl rfl).front 2 rfl rfl).front 3 rfl rfl
        have hln : (x.breaks ++ [(t, (8 : Int))]).length = m + 1 := by rw [List.length_append, HM.out]; rfl
        have HLN := Lib.hid hln
        clear hV hV2 hln
        go_wp2_with fail
        go_ret
        refine qr_yes (g := g) (a' := some ⟨x.start, x.ended, x.breaks ++ [(t, 8)]⟩) (A1 := A1) (c1 := c1) (A2 := some ⟨g9, 0, none⟩) (c2 := cap9) HR.out rfl ?_
        unfold attL attC
        simp only
        rw [HLN.out, flat_pz]
        exact hV3
  · have e0 : (ph == 1) = false := by simpa using h0
    go_wp2_with fail
    go_quiet (fail)
    go_wp2_with fail
    go_ret
    exact qr_no (by unfold refQ; rw [HP.out]; simp [h0]) ((hS2.drop 0 rfl rfl).drewN _)
end Go.Proofs.YtedfieopmjpibaaDoor
