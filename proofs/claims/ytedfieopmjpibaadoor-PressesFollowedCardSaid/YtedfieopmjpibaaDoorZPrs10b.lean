/-
  The reference's press: an attempt is on; start, split, skip, undo, reset. (Printed by gen_prs10.py.)
-/
import Derived.Test.YtedfieopmjpibaaDoorZPrs10
namespace Go.Proofs.YtedfieopmjpibaaDoor
open Go Go.RowKit
attribute [local go_sem ↓] Go.wp_at_zero Go.wp_at_succ


set_option maxRecDepth 100000 in
set_option maxHeartbeats 2000000 in
theorem qpress1_1 (w0 : World) (ga g n : Nat) (x : Att) (A1 : Option Addr) (c1 : Nat) (A2 : Option Addr) (c2 : Nat) (t : Int) (l : List Rsc) (w : World)
    (hS : Sq w0 w (rBlk ga 69 #[.pointer (some ⟨g, 0, none⟩)] :: rBlk g 82 (attC x A1 c1 A2 c2) :: rOwn w0.heap.size 61 2 (.slice A1 x.ended.length c1) x.ended.length (x.ended.flatMap pzC) :: rOwn w0.heap.size 61 2 (.slice A2 x.breaks.length c2) x.breaks.length (x.breaks.flatMap pzC) :: l)) (_he : x.ended.length ≤ 100000) (_hbk : x.breaks.length ≤ 100000) (_hn : n ≤ 100000) :
    Calls Tryd.prog 51 #[.pointer (some ⟨ga, 0, none⟩), .int .i64 n, .agg #[.int .i64 t, .int .i64 1]] w (QrG w0 ga n (some x) (t, 1) l) := by
  have hS1 := hS.add #[.int .i64 t, .int .i64 1] 61
  have hltg : g < w.heap.size := Blk.lt (show Blk w g 82 (attC x A1 c1 A2 c2) from hS.nth 1 rfl)
  have hlta : ga < w.heap.size := Blk.lt (hS.nth 0 rfl)
  obtain ⟨q0, q1, _, _⟩ := Blk.two (hS1.nth 0 rfl)
  obtain ⟨z0, zf⟩ := Blk.one (show Blk _ ga 69 #[.pointer (some ⟨g, 0, none⟩)] from hS1.nth 1 rfl)
  have hE1 : (w.alloc (.cells #[.int .i64 t, .int .i64 1] 61)).ownsRow w0.heap.size 61 2 (.slice A1 x.ended.length c1) x.ended.length (x.ended.flatMap pzC) := hS1.nth 3 rfl
  have hE2 : (w.alloc (.cells #[.int .i64 t, .int .i64 1] 61)).ownsRow w0.heap.size 61 2 (.slice A2 x.breaks.length c2) x.breaks.length (x.breaks.flatMap pzC) := hS1.nth 4 rfl
  have HAT : Hid (∀ W, Below (w.alloc (.cells #[.int .i64 t, .int .i64 1] 61)).heap.size (w.alloc (.cells #[.int .i64 t, .int .i64 1] 61)) W → AttAt W (w.alloc (.cells #[.int .i64 t, .int .i64 1] 61)).heap.size g x A1 c1 A2 c2) := fun W hW =>
    AttAt.below ⟨hS1.nth 2 rfl, Rd.of_own hE1 (fun k hk => by have := (hE1.lt k hk).2; omega), Rd.of_own hE2 (fun k hk => by have := (hE2.lt k hk).2; omega)⟩ hW
  have HPH := Lib.hid (phase1_calls _ g n x A1 c1 A2 c2 _ (HAT.out _ (Below.refl _ _)))
  obtain ⟨ph, hph⟩ : ∃ ph, phaseQ n (some x) = ph := ⟨_, rfl⟩
  have hp3 : ph = 1 ∨ ph = 2 ∨ ph = 3 := by rcases phase_cases n x with ⟨h, _⟩ | ⟨h, _⟩ | ⟨h, _⟩ <;> omega
  rw [hph] at HPH
  have HP := Lib.hid hph
  have hc1 := own_cap hE1
  have hc2 := own_cap hE2
  clear hS hph hE1 hE2
  go_enter Tryd.func51, Tryd.ntmps51
  go_wp2_with fail
  refine HPH.out.mono ?_
  rintro e w1 ⟨rfl, hb1⟩
  have hS2 := hS1.callB hb1
  have hz1 : w.heap.size + 1 ≤ w1.heap.size := by have := hb1.size; simpa using this
  clear q0 q1 z0 zf
  obtain ⟨q0, q1, _, _⟩ := Blk.two (hS2.nth 0 rfl)
  obtain ⟨z0, zf⟩ := Blk.one (show Blk _ ga 69 #[.pointer (some ⟨g, 0, none⟩)] from hS2.nth 1 rfl)
  have kG : Blk w1 g 82 (attC x A1 c1 A2 c2) := hS2.nth 2 rfl
  obtain ⟨g0, g1, g2, _, j1, j2⟩ := kG.three
  clear hS1 HPH kG
  have e0 : (ph != 0) = true := by simp; omega
  go_wp2_with fail
  go_ret
  exact qr_no (by unfold refQ; rw [HP.out]; simp; omega) (hS2.drop 0 rfl rfl)

set_option maxRecDepth 100000 in
set_option maxHeartbeats 2000000 in
theorem qpress1_2 (w0 : World) (ga g n : Nat) (x : Att) (A1 : Option Addr) (c1 : Nat) (A2 : Option Addr) (c2 : Nat) (t : Int) (l : List Rsc) (w : World)
    (hS : Sq w0 w (rBlk ga 69 #[.pointer (some ⟨g, 0, none⟩)] :: rBlk g 82 (attC x A1 c1 A2 c2) :: rOwn w0.heap.size 61 2 (.slice A1 x.ended.length c1) x.ended.length (x.ended.flatMap pzC) :: rOwn w0.heap.size 61 2 (.slice A2 x.breaks.length c2) x.breaks.length (x.breaks.flatMap pzC) :: l)) (_he : x.ended.length ≤ 100000) (_hbk : x.breaks.length ≤ 100000) (_hn : n ≤ 100000) :
    Calls Tryd.prog 51 #[.pointer (some ⟨ga, 0, none⟩), .int .i64 n, .agg #[.int .i64 t, .int .i64 2]] w (QrG w0 ga n (some x) (t, 2) l) := by
  have hS1 := hS.add #[.int .i64 t, .int .i64 2] 61
  have hltg : g < w.heap.size := Blk.lt (show Blk w g 82 (attC x A1 c1 A2 c2) from hS.nth 1 rfl)
  have hlta : ga < w.heap.size := Blk.lt (hS.nth 0 rfl)
  obtain ⟨q0, q1, _, _⟩ := Blk.two (hS1.nth 0 rfl)
  obtain ⟨z0, zf⟩ := Blk.one (show Blk _ ga 69 #[.pointer (some ⟨g, 0, none⟩)] from hS1.nth 1 rfl)
  have hE1 : (w.alloc (.cells #[.int .i64 t, .int .i64 2] 61)).ownsRow w0.heap.size 61 2 (.slice A1 x.ended.length c1) x.ended.length (x.ended.flatMap pzC) := hS1.nth 3 rfl
  have hE2 : (w.alloc (.cells #[.int .i64 t, .int .i64 2] 61)).ownsRow w0.heap.size 61 2 (.slice A2 x.breaks.length c2) x.breaks.length (x.breaks.flatMap pzC) := hS1.nth 4 rfl
  have HAT : Hid (∀ W, Below (w.alloc (.cells #[.int .i64 t, .int .i64 2] 61)).heap.size (w.alloc (.cells #[.int .i64 t, .int .i64 2] 61)) W → AttAt W (w.alloc (.cells #[.int .i64 t, .int .i64 2] 61)).heap.size g x A1 c1 A2 c2) := fun W hW =>
    AttAt.below ⟨hS1.nth 2 rfl, Rd.of_own hE1 (fun k hk => by have := (hE1.lt k hk).2; omega), Rd.of_own hE2 (fun k hk => by have := (hE2.lt k hk).2; omega)⟩ hW
  have HPH := Lib.hid (phase1_calls _ g n x A1 c1 A2 c2 _ (HAT.out _ (Below.refl _ _)))
  obtain ⟨ph, hph⟩ : ∃ ph, phaseQ n (some x) = ph := ⟨_, rfl⟩
  have hp3 : ph = 1 ∨ ph = 2 ∨ ph = 3 := by rcases phase_cases n x with ⟨h, _⟩ | ⟨h, _⟩ | ⟨h, _⟩ <;> omega
  rw [hph] at HPH
  have HP := Lib.hid hph
  have hc1 := own_cap hE1
  have hc2 := own_cap hE2
  clear hS hph hE1 hE2
  go_enter Tryd.func51, Tryd.ntmps51
  go_wp2_with fail
  refine HPH.out.mono ?_
  rintro e w1 ⟨rfl, hb1⟩
  have hS2 := hS1.callB hb1
  have hz1 : w.heap.size + 1 ≤ w1.heap.size := by have := hb1.size; simpa using this
  clear q0 q1 z0 zf
  obtain ⟨q0, q1, _, _⟩ := Blk.two (hS2.nth 0 rfl)
  obtain ⟨z0, zf⟩ := Blk.one (show Blk _ ga 69 #[.pointer (some ⟨g, 0, none⟩)] from hS2.nth 1 rfl)
  have kG : Blk w1 g 82 (attC x A1 c1 A2 c2) := hS2.nth 2 rfl
  obtain ⟨g0, g1, g2, _, j1, j2⟩ := kG.three
  clear hS1 HPH kG
  by_cases h0 : ph = 1
  · subst h0
    obtain ⟨i0, hi, hi0, hi1, hi2⟩ := info_parts info_press
    have hS3 := (hS2.front 3 rfl rfl).drew
    have hw0 := hS2.size
    have hgl1 : g < w1.heap.size := by omega
    have hpl1 : w.heap.size < w1.heap.size := by omega
    have hgn1 : ¬ g = w1.heap.size := by omega
    have hpn1 : ¬ w.heap.size = w1.heap.size := by omega
    obtain ⟨m, hm⟩ : ∃ m, x.ended.length = m := ⟨_, rfl⟩
    have HM := Lib.hid hm
    have hm2 : m ≤ 100000 := by omega
    have h63 : m + 1 ≤ maxLen := by unfold maxLen; omega
    have hby : (m + 1) * 16 ≤ 140737488355328 := by omega
    rw [hm] at hS3 g1
    have HCL : Hid (∀ W L, Sq w0 W (rOwn w0.heap.size 61 2 L (m + 1) (x.ended.flatMap pzC ++ [.int .i64 t, .int .i64 2]) :: rBlk w.heap.size 61 #[.int .i64 t, .int .i64 2] :: rBlk ga 69 #[.pointer (some ⟨g, 0, none⟩)] :: rBlk g 82 (attC x A1 c1 A2 c2) :: rOwn w0.heap.size 61 2 (.slice A2 x.breaks.length c2) x.breaks.length (x.breaks.flatMap pzC) :: l) → W.cell? ⟨g, 1, none⟩ = some (.slice A1 m c1) ∧ W.frozen? ⟨g, 1, none⟩ = false) := fun W L h => ⟨by rw [← HM.out]; exact Blk.cell (h.nth 3 rfl) 1, Blk.frozen (h.nth 3 rfl) 1⟩
    clear hm
    go_upto_region 16 with (fail)
    go_region_law (first
      | (refine step_append_lies _ (by rfl) _ _ _ (by rfl) w0.heap.size 61 i0 (.agg #[.int .i64 0, .int .i64 0]) 2 16 Tryd.underlying27 hi hi0 hi1 hi2 rfl (by omega) (.slice A1 m c1) m (x.ended.flatMap pzC) (by rfl) ((hS3.alloc _).head) ⟨w1.heap.size, 0, none⟩ 1 1 [.int .i64 t, .int .i64 2] (by rfl) (by rfl) (news_new _ _ _ _ rfl) (one2p rfl rfl) (by omega) h63 hby (by simp; omega) _ rfl ?_; intro g9 cap9 w5 hown' hgrow hblk hlt5; have hV := (hS3.alloc _).append hown' hgrow (own_lies hblk); obtain ⟨k9, f9⟩ := HCL.out _ _ hV; clear hown' hgrow hblk))
    all_goals
      have hV2 := (hV.front 3 rfl rfl).set_ 1 (.slice (some ⟨g9, 0, none⟩) (m + 1) cap9)
      have hV3 := ((((hV2.drop 2 rfl rfl).front 3 rfl rfl).front 2 rfl rfl).front 2 rfl rfl).front 3 rfl rfl
      have hln : (x.ended ++ [(t, (2 : Int))]).length = m + 1 := by rw [List.length_append, HM.out]; rfl
      have HLN := Lib.hid hln
      clear hV hV2 hln
      go_wp2_with fail
      go_ret
      refine qr_yes (g := g) (a' := some ⟨x.start, x.ended ++ [(t, 2)], x.breaks⟩) (A1 := some ⟨g9, 0, none⟩) (c1 := cap9) (A2 := A2) (c2 := c2) (by unfold refQ; rw [HP.out]; rfl) rfl ?_
      unfold attL attC
      simp only
      rw [HLN.out, flat_pz]
      exact hV3
  · have e0 : (ph == 1) = false := by simpa using h0
    go_wp2_with fail
    go_ret
    exact qr_no (by unfold refQ; rw [HP.out]; simpa using h0) (hS2.drop 0 rfl rfl)

set_option maxRecDepth 100000 in
set_option maxHeartbeats 2000000 in
theorem qpress1_3 (w0 : World) (ga g n : Nat) (x : Att) (A1 : Option Addr) (c1 : Nat) (A2 : Option Addr) (c2 : Nat) (t : Int) (l : List Rsc) (w : World)
    (hS : Sq w0 w (rBlk ga 69 #[.pointer (some ⟨g, 0, none⟩)] :: rBlk g 82 (attC x A1 c1 A2 c2) :: rOwn w0.heap.size 61 2 (.slice A1 x.ended.length c1) x.ended.length (x.ended.flatMap pzC) :: rOwn w0.heap.size 61 2 (.slice A2 x.breaks.length c2) x.breaks.length (x.breaks.flatMap pzC) :: l)) (_he : x.ended.length ≤ 100000) (_hbk : x.breaks.length ≤ 100000) (_hn : n ≤ 100000) :
    Calls Tryd.prog 51 #[.pointer (some ⟨ga, 0, none⟩), .int .i64 n, .agg #[.int .i64 t, .int .i64 3]] w (QrG w0 ga n (some x) (t, 3) l) := by
  have hS1 := hS.add #[.int .i64 t, .int .i64 3] 61
  have hltg : g < w.heap.size := Blk.lt (show Blk w g 82 (attC x A1 c1 A2 c2) from hS.nth 1 rfl)
  have hlta : ga < w.heap.size := Blk.lt (hS.nth 0 rfl)
  obtain ⟨q0, q1, _, _⟩ := Blk.two (hS1.nth 0 rfl)
  obtain ⟨z0, zf⟩ := Blk.one (show Blk _ ga 69 #[.pointer (some ⟨g, 0, none⟩)] from hS1.nth 1 rfl)
  have hE1 : (w.alloc (.cells #[.int .i64 t, .int .i64 3] 61)).ownsRow w0.heap.size 61 2 (.slice A1 x.ended.length c1) x.ended.length (x.ended.flatMap pzC) := hS1.nth 3 rfl
  have hE2 : (w.alloc (.cells #[.int .i64 t, .int .i64 3] 61)).ownsRow w0.heap.size 61 2 (.slice A2 x.breaks.length c2) x.breaks.length (x.breaks.flatMap pzC) := hS1.nth 4 rfl
  have HAT : Hid (∀ W, Below (w.alloc (.cells #[.int .i64 t, .int .i64 3] 61)).heap.size (w.alloc (.cells #[.int .i64 t, .int .i64 3] 61)) W → AttAt W (w.alloc (.cells #[.int .i64 t, .int .i64 3] 61)).heap.size g x A1 c1 A2 c2) := fun W hW =>
    AttAt.below ⟨hS1.nth 2 rfl, Rd.of_own hE1 (fun k hk => by have := (hE1.lt k hk).2; omega), Rd.of_own hE2 (fun k hk => by have := (hE2.lt k hk).2; omega)⟩ hW
  have HPH := Lib.hid (phase1_calls _ g n x A1 c1 A2 c2 _ (HAT.out _ (Below.refl _ _)))
  obtain ⟨ph, hph⟩ : ∃ ph, phaseQ n (some x) = ph := ⟨_, rfl⟩
  have hp3 : ph = 1 ∨ ph = 2 ∨ ph = 3 := by rcases phase_cases n x with ⟨h, _⟩ | ⟨h, _⟩ | ⟨h, _⟩ <;> omega
  rw [hph] at HPH
  have HP := Lib.hid hph
  have hc1 := own_cap hE1
  have hc2 := own_cap hE2
  clear hS hph hE1 hE2
  go_enter Tryd.func51, Tryd.ntmps51
  go_wp2_with fail
  refine HPH.out.mono ?_
  rintro e w1 ⟨rfl, hb1⟩
  have hS2 := hS1.callB hb1
  have hz1 : w.heap.size + 1 ≤ w1.heap.size := by have := hb1.size; simpa using this
  clear q0 q1 z0 zf
  obtain ⟨q0, q1, _, _⟩ := Blk.two (hS2.nth 0 rfl)
  obtain ⟨z0, zf⟩ := Blk.one (show Blk _ ga 69 #[.pointer (some ⟨g, 0, none⟩)] from hS2.nth 1 rfl)
  have kG : Blk w1 g 82 (attC x A1 c1 A2 c2) := hS2.nth 2 rfl
  obtain ⟨g0, g1, g2, _, j1, j2⟩ := kG.three
  clear hS1 HPH kG
  by_cases h0 : ph = 1
  · subst h0
    by_cases hmn : x.ended.length + 1 = n
    · have t1 : ((x.ended.length : Int) == (n : Int) - 1) = true := by simp; omega
      have HR : Hid (refQ n (some x) 3 = true) := by
        unfold refQ
        rw [HP.out, if_neg (by decide), if_neg (by decide), if_pos rfl]
        show (_ || decide (x.ended.length + 1 = n)) = true
        rw [decide_eq_true hmn]
        exact Lib.hid rfl
      clear hmn
      go_wp2_with fail
      go_ret
      exact qr_no HR.out (hS2.drop 0 rfl rfl)
    · have t1 : ((x.ended.length : Int) == (n : Int) - 1) = false := by simp; omega
      have HR : Hid (refQ n (some x) 3 = false) := by
        unfold refQ
        rw [HP.out, if_neg (by decide), if_neg (by decide), if_pos rfl]
        show (_ || decide (x.ended.length + 1 = n)) = false
        rw [decide_eq_false hmn]
        exact Lib.hid rfl
      clear hmn
      obtain ⟨i0, hi, hi0, hi1, hi2⟩ := info_parts info_press
      have hS3 := (hS2.front 3 rfl rfl).drew
      have hw0 := hS2.size
      have hgl1 : g < w1.heap.size := by omega
      have hpl1 : w.heap.size < w1.heap.size := by omega
      have hgn1 : ¬ g = w1.heap.size := by omega
      have hpn1 : ¬ w.heap.size = w1.heap.size := by omega
      obtain ⟨m, hm⟩ : ∃ m, x.ended.length = m := ⟨_, rfl⟩
      have HM := Lib.hid hm
      have hm2 : m ≤ 100000 := by omega
      have h63 : m + 1 ≤ maxLen := by unfold maxLen; omega
      have hby : (m + 1) * 16 ≤ 140737488355328 := by omega
      rw [hm] at hS3 g1 t1
      have HCL : Hid (∀ W L, Sq w0 W (rOwn w0.heap.size 61 2 L (m + 1) (x.ended.flatMap pzC ++ [.int .i64 t, .int .i64 3]) :: rBlk w.heap.size 61 #[.int .i64 t, .int .i64 3] :: rBlk ga 69 #[.pointer (some ⟨g, 0, none⟩)] :: rBlk g 82 (attC x A1 c1 A2 c2) :: rOwn w0.heap.size 61 2 (.slice A2 x.breaks.length c2) x.breaks.length (x.breaks.flatMap pzC) :: l) → W.cell? ⟨g, 1, none⟩ = some (.slice A1 m c1) ∧ W.frozen? ⟨g, 1, none⟩ = false) := fun W L h => ⟨by rw [← HM.out]; exact Blk.cell (h.nth 3 rfl) 1, Blk.frozen (h.nth 3 rfl) 1⟩
      clear hm
      go_upto_region 16 with (fail)
      go_region_law (first
        | (refine step_append_lies _ (by rfl) _ _ _ (by rfl) w0.heap.size 61 i0 (.agg #[.int .i64 0, .int .i64 0]) 2 16 Tryd.underlying27 hi hi0 hi1 hi2 rfl (by omega) (.slice A1 m c1) m (x.ended.flatMap pzC) (by rfl) ((hS3.alloc _).head) ⟨w1.heap.size, 0, none⟩ 1 1 [.int .i64 t, .int .i64 3] (by rfl) (by rfl) (news_new _ _ _ _ rfl) (one2p rfl rfl) (by omega) h63 hby (by simp; omega) _ rfl ?_; intro g9 cap9 w5 hown' hgrow hblk hlt5; have hV := (hS3.alloc _).append hown' hgrow (own_lies hblk); obtain ⟨k9, f9⟩ := HCL.out _ _ hV; clear hown' hgrow hblk))
      all_goals
        have hV2 := (hV.front 3 rfl rfl).set_ 1 (.slice (some ⟨g9, 0, none⟩) (m + 1) cap9)
        have hV3 := ((((hV2.drop 2 rfl rfl).front 3 rfl rfl).front 2 rfl rfl).front 2 rfl rfl).front 3 rfl rfl
        have hln : (x.ended ++ [(t, (3 : Int))]).length = m + 1 := by rw [List.length_append, HM.out]; rfl
        have HLN := Lib.hid hln
        clear hV hV2 hln
        go_wp2_with fail
        go_ret
        refine qr_yes (g := g) (a' := some ⟨x.start, x.ended ++ [(t, 3)], x.breaks⟩) (A1 := some ⟨g9, 0, none⟩) (c1 := cap9) (A2 := A2) (c2 := c2) HR.out rfl ?_
        unfold attL attC
        simp only
        rw [HLN.out, flat_pz]
        exact hV3
  · have e0 : (ph == 1) = false := by simpa using h0
    go_wp2_with fail
    go_ret
    exact qr_no (by unfold refQ; rw [HP.out]; simp [h0]) (hS2.drop 0 rfl rfl)

set_option maxRecDepth 100000 in
set_option maxHeartbeats 2000000 in
theorem qpress1_4 (w0 : World) (ga g n : Nat) (x : Att) (A1 : Option Addr) (c1 : Nat) (A2 : Option Addr) (c2 : Nat) (t : Int) (l : List Rsc) (w : World)
    (hS : Sq w0 w (rBlk ga 69 #[.pointer (some ⟨g, 0, none⟩)] :: rBlk g 82 (attC x A1 c1 A2 c2) :: rOwn w0.heap.size 61 2 (.slice A1 x.ended.length c1) x.ended.length (x.ended.flatMap pzC) :: rOwn w0.heap.size 61 2 (.slice A2 x.breaks.length c2) x.breaks.length (x.breaks.flatMap pzC) :: l)) (_he : x.ended.length ≤ 100000) (_hbk : x.breaks.length ≤ 100000) (_hn : n ≤ 100000) :
    Calls Tryd.prog 51 #[.pointer (some ⟨ga, 0, none⟩), .int .i64 n, .agg #[.int .i64 t, .int .i64 4]] w (QrG w0 ga n (some x) (t, 4) l) := by
  have hS1 := hS.add #[.int .i64 t, .int .i64 4] 61
  have hltg : g < w.heap.size := Blk.lt (show Blk w g 82 (attC x A1 c1 A2 c2) from hS.nth 1 rfl)
  have hlta : ga < w.heap.size := Blk.lt (hS.nth 0 rfl)
  obtain ⟨q0, q1, _, _⟩ := Blk.two (hS1.nth 0 rfl)
  obtain ⟨z0, zf⟩ := Blk.one (show Blk _ ga 69 #[.pointer (some ⟨g, 0, none⟩)] from hS1.nth 1 rfl)
  have hE1 : (w.alloc (.cells #[.int .i64 t, .int .i64 4] 61)).ownsRow w0.heap.size 61 2 (.slice A1 x.ended.length c1) x.ended.length (x.ended.flatMap pzC) := hS1.nth 3 rfl
  have hE2 : (w.alloc (.cells #[.int .i64 t, .int .i64 4] 61)).ownsRow w0.heap.size 61 2 (.slice A2 x.breaks.length c2) x.breaks.length (x.breaks.flatMap pzC) := hS1.nth 4 rfl
  have HAT : Hid (∀ W, Below (w.alloc (.cells #[.int .i64 t, .int .i64 4] 61)).heap.size (w.alloc (.cells #[.int .i64 t, .int .i64 4] 61)) W → AttAt W (w.alloc (.cells #[.int .i64 t, .int .i64 4] 61)).heap.size g x A1 c1 A2 c2) := fun W hW =>
    AttAt.below ⟨hS1.nth 2 rfl, Rd.of_own hE1 (fun k hk => by have := (hE1.lt k hk).2; omega), Rd.of_own hE2 (fun k hk => by have := (hE2.lt k hk).2; omega)⟩ hW
  have HPH := Lib.hid (phase1_calls _ g n x A1 c1 A2 c2 _ (HAT.out _ (Below.refl _ _)))
  obtain ⟨ph, hph⟩ : ∃ ph, phaseQ n (some x) = ph := ⟨_, rfl⟩
  have hp3 : ph = 1 ∨ ph = 2 ∨ ph = 3 := by rcases phase_cases n x with ⟨h, _⟩ | ⟨h, _⟩ | ⟨h, _⟩ <;> omega
  rw [hph] at HPH
  have HP := Lib.hid hph
  have hc1 := own_cap hE1
  have hc2 := own_cap hE2
  clear hS hph hE1 hE2
  go_enter Tryd.func51, Tryd.ntmps51
  go_wp2_with fail
  refine HPH.out.mono ?_
  rintro e w1 ⟨rfl, hb1⟩
  have hS2 := hS1.callB hb1
  have hz1 : w.heap.size + 1 ≤ w1.heap.size := by have := hb1.size; simpa using this
  clear q0 q1 z0 zf
  obtain ⟨q0, q1, _, _⟩ := Blk.two (hS2.nth 0 rfl)
  obtain ⟨z0, zf⟩ := Blk.one (show Blk _ ga 69 #[.pointer (some ⟨g, 0, none⟩)] from hS2.nth 1 rfl)
  have kG : Blk w1 g 82 (attC x A1 c1 A2 c2) := hS2.nth 2 rfl
  obtain ⟨g0, g1, g2, _, j1, j2⟩ := kG.three
  clear hS1 HPH kG
  have e0 : (ph == 0) = false := by simp; omega
  rcases Nat.eq_zero_or_pos x.ended.length with hm0 | hm0
  · have HR : Hid (refQ n (some x) 4 = true) := by
      unfold refQ
      rw [if_neg (by decide), if_neg (by decide), if_neg (by decide), if_pos rfl]
      show (_ || decide (x.ended.length = 0)) = true
      rw [decide_eq_true hm0, Bool.or_true]
    have t0 : ((x.ended.length : Int) == 0) = true := by simp [hm0]
    clear hm0
    go_wp2_with fail
    go_ret
    exact qr_no HR.out (hS2.drop 0 rfl rfl)
  · have HR : Hid (refQ n (some x) 4 = false) := by
      unfold refQ
      rw [HP.out, if_neg (by decide), if_neg (by decide), if_neg (by decide), if_pos rfl]
      show (decide (ph = 0) || decide (x.ended.length = 0)) = false
      rw [decide_eq_false (by omega), decide_eq_false (by omega)]
      exact Lib.hid rfl
    obtain ⟨q, hq⟩ : ∃ q, x.ended.length = q + 1 := ⟨x.ended.length - 1, by omega⟩
    have HO : w1.ownsRow w0.heap.size 61 2 (.slice A1 x.ended.length c1) x.ended.length (x.ended.flatMap pzC) := hS2.nth 3 rfl
    obtain ⟨g8, cp, hv, _, _⟩ := HO.form (by omega)
    injection hv with hA1 _ hA2
    subst hA1 hA2
    rw [hq] at g1 hc1
    have hS3 := hS2.front 3 rfl rfl
    rw [hq] at hS3
    have hS4 := (hS3.weak (r' := rOwn w0.heap.size 61 2 (.slice (some ⟨g8, 0, none⟩) q c1) q ((x.ended.take q).flatMap pzC)) (fun h => by rw [flat_take pzC 2 pzC_len]; exact own_short h (by omega) (by simp)) (rOwn_ok _ _ _ _ _ _) (fun _ hk => hk))
    have hS5 := (hS4.front 3 rfl rfl).set_ 1 (.slice (some ⟨g8, 0, none⟩) q c1)
    have hS6 := ((((hS5.drop 2 rfl rfl).front 3 rfl rfl).front 2 rfl rfl).front 2 rfl rfl).front 3 rfl rfl
    have HL : Hid ((x.ended.take q).length = q) := by show _ = _; rw [List.length_take, hq]; omega
    have t0 : (((q : Int) + 1) == 0) = false := by simp; omega
    have hq9 : q ≤ 100000 := by omega
    have HQ := Lib.hid hq
    clear hS4 HO hS3 hS5 hq hm0
    go_upto_region 20 with (fail)
    go_region
    go_wp2_with fail
    go_ret
    refine qr_yes (g := g) (a' := some ⟨x.start, x.ended.take q, x.breaks⟩) (A1 := some ⟨g8, 0, none⟩) (c1 := c1) (A2 := A2) (c2 := c2) HR.out (by unfold doneQ; rw [if_neg (by simp), if_neg (by simp), if_pos rfl, Option.map_some, HQ.out]; rfl) ?_
    unfold attL attC
    simp only
    rw [HL.out]
    exact hS6.drew

set_option maxRecDepth 100000 in
set_option maxHeartbeats 2000000 in
theorem qpress1_9 (w0 : World) (ga g n : Nat) (x : Att) (A1 : Option Addr) (c1 : Nat) (A2 : Option Addr) (c2 : Nat) (t : Int) (l : List Rsc) (w : World)
    (hS : Sq w0 w (rBlk ga 69 #[.pointer (some ⟨g, 0, none⟩)] :: rBlk g 82 (attC x A1 c1 A2 c2) :: rOwn w0.heap.size 61 2 (.slice A1 x.ended.length c1) x.ended.length (x.ended.flatMap pzC) :: rOwn w0.heap.size 61 2 (.slice A2 x.breaks.length c2) x.breaks.length (x.breaks.flatMap pzC) :: l)) (_he : x.ended.length ≤ 100000) (_hbk : x.breaks.length ≤ 100000) (_hn : n ≤ 100000) :
    Calls Tryd.prog 51 #[.pointer (some ⟨ga, 0, none⟩), .int .i64 n, .agg #[.int .i64 t, .int .i64 9]] w (QrG w0 ga n (some x) (t, 9) l) := by
  have hS1 := hS.add #[.int .i64 t, .int .i64 9] 61
  have hltg : g < w.heap.size := Blk.lt (show Blk w g 82 (attC x A1 c1 A2 c2) from hS.nth 1 rfl)
  have hlta : ga < w.heap.size := Blk.lt (hS.nth 0 rfl)
  obtain ⟨q0, q1, _, _⟩ := Blk.two (hS1.nth 0 rfl)
  obtain ⟨z0, zf⟩ := Blk.one (show Blk _ ga 69 #[.pointer (some ⟨g, 0, none⟩)] from hS1.nth 1 rfl)
  have hE1 : (w.alloc (.cells #[.int .i64 t, .int .i64 9] 61)).ownsRow w0.heap.size 61 2 (.slice A1 x.ended.length c1) x.ended.length (x.ended.flatMap pzC) := hS1.nth 3 rfl
  have hE2 : (w.alloc (.cells #[.int .i64 t, .int .i64 9] 61)).ownsRow w0.heap.size 61 2 (.slice A2 x.breaks.length c2) x.breaks.length (x.breaks.flatMap pzC) := hS1.nth 4 rfl
  have HAT : Hid (∀ W, Below (w.alloc (.cells #[.int .i64 t, .int .i64 9] 61)).heap.size (w.alloc (.cells #[.int .i64 t, .int .i64 9] 61)) W → AttAt W (w.alloc (.cells #[.int .i64 t, .int .i64 9] 61)).heap.size g x A1 c1 A2 c2) := fun W hW =>
    AttAt.below ⟨hS1.nth 2 rfl, Rd.of_own hE1 (fun k hk => by have := (hE1.lt k hk).2; omega), Rd.of_own hE2 (fun k hk => by have := (hE2.lt k hk).2; omega)⟩ hW
  have HPH := Lib.hid (phase1_calls _ g n x A1 c1 A2 c2 _ (HAT.out _ (Below.refl _ _)))
  obtain ⟨ph, hph⟩ : ∃ ph, phaseQ n (some x) = ph := ⟨_, rfl⟩
  have hp3 : ph = 1 ∨ ph = 2 ∨ ph = 3 := by rcases phase_cases n x with ⟨h, _⟩ | ⟨h, _⟩ | ⟨h, _⟩ <;> omega
  rw [hph] at HPH
  have HP := Lib.hid hph
  have hc1 := own_cap hE1
  have hc2 := own_cap hE2
  clear hS hph hE1 hE2
  go_enter Tryd.func51, Tryd.ntmps51
  go_wp2_with fail
  refine HPH.out.mono ?_
  rintro e w1 ⟨rfl, hb1⟩
  have hS2 := hS1.callB hb1
  have hz1 : w.heap.size + 1 ≤ w1.heap.size := by have := hb1.size; simpa using this
  clear q0 q1 z0 zf
  obtain ⟨q0, q1, _, _⟩ := Blk.two (hS2.nth 0 rfl)
  obtain ⟨z0, zf⟩ := Blk.one (show Blk _ ga 69 #[.pointer (some ⟨g, 0, none⟩)] from hS2.nth 1 rfl)
  have kG : Blk w1 g 82 (attC x A1 c1 A2 c2) := hS2.nth 2 rfl
  obtain ⟨g0, g1, g2, _, j1, j2⟩ := kG.three
  clear hS1 HPH kG
  have e0 : (ph == 0) = false := by simp; omega
  have hS3 := (((hS2.drop 0 rfl rfl).set_ 0 (.pointer none)).drop 1 rfl rfl).drop 1 rfl rfl |>.drop 1 rfl rfl
  go_wp2_with fail
  go_ret
  exact qr_yes (a' := none) (g := 0) (A1 := none) (c1 := 0) (A2 := none) (c2 := 0) (by unfold refQ; rw [HP.out]; simp; omega) rfl hS3
end Go.Proofs.YtedfieopmjpibaaDoor
