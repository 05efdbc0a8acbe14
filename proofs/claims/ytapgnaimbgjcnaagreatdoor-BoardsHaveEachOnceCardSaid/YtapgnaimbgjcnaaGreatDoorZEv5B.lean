/-
  What is wrong with an event, as the reference says it, kind by kind: splitref2.EventFault. (Printed by gen_ev5.py.)
-/
import Derived.Test.YtapgnaimbgjcnaaGreatDoorZSlot3
namespace Go.Proofs.YtapgnaimbgjcnaaGreatDoor
open Go Go.RowKit
attribute [local go_sem ↓] Go.wp_at_zero Go.wp_at_succ
attribute [local go_sem ↓ high] neq_bev
set_option maxRecDepth 100000 in
set_option maxHeartbeats 4000000 in
theorem qevF2_calls (at_ : Int) (id who by_ cat : ByteArray) (ti da : Int) (w : World) (hx : BevW ⟨at_, 2, id, who, by_, cat, ti, da⟩) (ha : momB at_ = true) :
 Calls Tryz.prog 64 #[.agg #[.int .i64 at_, .int .i64 2, .string id, .string who, .string by_, .string cat, .int .i64 ti, .int .i64 da]] w (BRet (.int .i64 (bevF ⟨at_, 2, id, who, by_, cat, ti, da⟩)) w) := by
 have hE := bevF_of ⟨at_, 2, id, who, by_, cat, ti, da⟩ ha (by show outB 2 1 6 = false; decide)
 have hU : bevU ⟨at_, 2, id, who, by_, cat, ti, da⟩ = ⟨at_, 2, id, ⟨#[]⟩, by_, ⟨#[]⟩, 0, 0⟩ := by simp [bevU, usI, usW, usB, usS, noBev]
 have hKK : bevK ⟨at_, 2, id, who, by_, cat, ti, da⟩ = (!keyBv id || !keyBv by_) := by simp [bevK, usI, usW, usB, usS]
 have hSS : usS 2 = false := by decide
 rw [hU, hKK] at hE
 simp only [hSS] at hE
 obtain ⟨E, hEE⟩ : ∃ z, bevF ⟨at_, 2, id, who, by_, cat, ti, da⟩ = z := ⟨_, rfl⟩
 rw [hEE] at hE ⊢
 obtain ⟨SM, hSM⟩ : ∃ z, sameBev ⟨at_, 2, id, who, by_, cat, ti, da⟩ ⟨at_, 2, id, ⟨#[]⟩, by_, ⟨#[]⟩, 0, 0⟩ = z := ⟨_, rfl⟩
 rw [hSM] at hE
 have HSM := Lib.hid hSM
 have HMO := Lib.hid (fun W => momentQ_calls at_ W)
 rw [ha] at HMO
 have HIN := Lib.hid (fun W => in_calls 2 1 6 W)
 simp only [Bool.false_and] at hE
 have HKI := Lib.hid (fun W => keyQ_calls id W (by have := hx.hi; unfold maxLen; simp only at this; omega))
 obtain ⟨KI, hKI⟩ : ∃ z, keyBv id = z := ⟨_, rfl⟩
 unfold keyBv at hKI
 rw [hKI] at HKI
 rw [show keyBv id = KI from hKI] at hE
 have HKB := Lib.hid (fun W => keyQ_calls by_ W (by have := hx.hb; unfold maxLen; simp only at this; omega))
 obtain ⟨KB, hKB⟩ : ∃ z, keyBv by_ = z := ⟨_, rfl⟩
 unfold keyBv at hKB
 rw [hKB] at HKB
 rw [show keyBv by_ = KB from hKB] at hE
 have hmm := @run_makeMap Tryz.prog
 have hS := (Sq.start w).add #[.int .i64 at_, .int .i64 2, .string id, .string who, .string by_, .string cat, .int .i64 ti, .int .i64 da] 78
 obtain ⟨W0, hW0⟩ : ∃ W, w.alloc (.cells #[.int .i64 at_, .int .i64 2, .string id, .string who, .string by_, .string cat, .int .i64 ti, .int .i64 da] 78) = W := ⟨_, rfl⟩
 have HW0 := Lib.hid hW0
 rw [hW0] at hS
 have hk0 : Blk W0 w.heap.size _ _ := hS.head
 have c0 := hk0.cell 0
 have c1 := hk0.cell 1
 clear ha hU hKK hSS hEE hW0 hSM hx hKI hKB
 go_enter Tryz.func64, Tryz.ntmps64
 go_upto_region 1 with (fail)
 rw [HW0.out]
 go_upto_region 6 with (first | (go_at_call 67; refine (HMO.out _).mono ?_; rintro e w1 ⟨rfl, rfl⟩) | (go_at_call 86; refine (HIN.out _).mono ?_; rintro e w2 ⟨rfl, rfl⟩))
 have hA0 := ((hS.add #[.int .i64 at_, .int .i64 2, .string ⟨#[]⟩, .string ⟨#[]⟩, .string ⟨#[]⟩, .string ⟨#[]⟩, .int .i64 0, .int .i64 0] 78).addMap 9)
 have hA1 := ((hS.add #[.int .i64 at_, .int .i64 2, .string id, .string ⟨#[]⟩, .string ⟨#[]⟩, .string ⟨#[]⟩, .int .i64 0, .int .i64 0] 78).addMap 9)
 simp only [World.size_alloc] at hA0 hA1
 have e0 := (show Blk _ w.heap.size _ _ from hA0.nth 2 rfl).cell 2
 have e1 := (show Blk _ W0.heap.size _ _ from hA0.nth 1 rfl).cell 2
 have e2 := (show Blk _ W0.heap.size _ _ from hA0.nth 1 rfl).frozen 2
 have hmA : MapS _ _ _ _ _ := hA1.head
 obtain ⟨V0, hrun0, hm0, hg0⟩ := hmA.update Tryz.underlying9 Tryz.underlying172 (by unfold maxLen; omega) (s := ⟨#[105, 100]⟩) (by decide) (.pointer (some ⟨w.heap.size, 2, none⟩))
 have hB0 := hA1.mapSet hm0 hg0
 have kk0 := (show Blk _ w.heap.size _ _ from hB0.nth 2 rfl).cell 1
 clear hA0 hA1 hmA hm0 hg0
 go_upto_region 13 with (fail)
 clear e0 e1 e2 hrun0
 have e0 := (show Blk _ w.heap.size _ _ from hB0.nth 2 rfl).cell 4
 have e1 := (show Blk _ W0.heap.size _ _ from hB0.nth 1 rfl).cell 4
 have e2 := (show Blk _ W0.heap.size _ _ from hB0.nth 1 rfl).frozen 4
 have hC1 := (((hB0.front 1 rfl rfl).set_ 4 (.string by_)).front 1 rfl rfl)
 have hmA : MapS _ _ _ _ _ := hC1.head
 obtain ⟨V1, hrun1, hm1, hg1⟩ := hmA.update Tryz.underlying9 Tryz.underlying172 (by unfold maxLen; omega) (s := ⟨#[98, 121]⟩) (by decide) (.pointer (some ⟨w.heap.size, 4, none⟩))
 have hB1 := hC1.mapSet hm1 hg1
 have kk1 := (show Blk _ w.heap.size _ _ from hB1.nth 2 rfl).cell 1
 have mm1 := (show Blk _ w.heap.size _ _ from hC1.nth 2 rfl).cell 1
 clear hC1 hmA hm1 hg1 hB0
 go_upto_region 17 with (fail)
 have hB : Sq w V1 [rMap 9 (W0.heap.size + 1) 2 (upd (upd (fun _ => none) ⟨#[105, 100]⟩ (.pointer (some ⟨w.heap.size, 2, none⟩))) ⟨#[98, 121]⟩ (.pointer (some ⟨w.heap.size, 4, none⟩))), rBlk W0.heap.size 78 #[.int .i64 at_, .int .i64 2, .string id, .string ⟨#[]⟩, .string by_, .string ⟨#[]⟩, .int .i64 0, .int .i64 0], rBlk w.heap.size 78 #[.int .i64 at_, .int .i64 2, .string id, .string who, .string by_, .string cat, .int .i64 ti, .int .i64 da]] := hB1
 have HINV : Hid (∀ s v, (upd (upd (fun _ => none) ⟨#[105, 100]⟩ (.pointer (some ⟨w.heap.size, 2, none⟩))) ⟨#[98, 121]⟩ (.pointer (some ⟨w.heap.size, 4, none⟩))) s = some v → (s = (⟨#[105, 100]⟩ : ByteArray) ∧ v = .pointer (some ⟨w.heap.size, 2, none⟩)) ∨ (s = (⟨#[98, 121]⟩ : ByteArray) ∧ v = .pointer (some ⟨w.heap.size, 4, none⟩))) := Lib.hid (fun s v h => by
  simp only [upd] at h
  repeat' split at h
  all_goals first
   | (cases h; done)
   | (rename_i h1; injection h with h; subst h h1; simp))
 have HSOME : Hid (((upd (upd (fun _ => none) ⟨#[105, 100]⟩ (.pointer (some ⟨w.heap.size, 2, none⟩))) ⟨#[98, 121]⟩ (.pointer (some ⟨w.heap.size, 4, none⟩))) ⟨#[105, 100]⟩).isSome = true ∧ ((upd (upd (fun _ => none) ⟨#[105, 100]⟩ (.pointer (some ⟨w.heap.size, 2, none⟩))) ⟨#[98, 121]⟩ (.pointer (some ⟨w.heap.size, 4, none⟩))) ⟨#[98, 121]⟩).isSome = true) := Lib.hid (by simp [upd])
 obtain ⟨f, hf⟩ : ∃ z, (upd (upd (fun _ => none) ⟨#[105, 100]⟩ (.pointer (some ⟨w.heap.size, 2, none⟩))) ⟨#[98, 121]⟩ (.pointer (some ⟨w.heap.size, 4, none⟩))) = z := ⟨_, rfl⟩
 rw [hf] at hB HINV HSOME
 obtain ⟨mb, hmb⟩ : ∃ z, W0.heap.size + 1 = z := ⟨_, rfl⟩
 rw [hmb] at hB ⊢
 obtain ⟨H1, hH1⟩ : ∃ z, W0.heap.size = z := ⟨_, rfl⟩
 rw [hH1] at hB ⊢
 clear hB1 hrun1 kk0 kk1 mm1 e0 e1 e2 c0 c1 hmb hH1 hf hk0 hmm HW0 HMO HIN
 have HMP : MapS V1 9 mb 2 f := hB.head
 go_wp2_with (first | (at_range; refine wpList_range_map _ rfl _ 172 rfl 9 173 Tryz.underlying9 Tryz.underlying172 mb 2 f rfl HMP ?_; intro w0 cnt0 hr0 hg0 hs0))
 go_frame
 have hS0 := hB.rngStart hr0 hg0
 obtain ⟨r, hr⟩ : ∃ r, r = V1.heap.size := ⟨_, rfl⟩
 rw [← hr] at hS0 ⊢
 clear hB hr0 hg0 hs0 HMP hr
 go_loopw [] (fun wq => ∃ (seen : List ByteArray) (cnt : Nat), Hid (∀ s ∈ seen, OkN s ⟨#[105, 100]⟩ KI ∧ OkN s ⟨#[98, 121]⟩ KB) ∧ Sq w wq [rRng 9 mb r 2 f seen cnt, rBlk H1 78 #[.int .i64 at_, .int .i64 2, .string id, .string ⟨#[]⟩, .string by_, .string ⟨#[]⟩, .int .i64 0, .int .i64 0], rBlk w.heap.size 78 #[.int .i64 at_, .int .i64 2, .string id, .string who, .string by_, .string cat, .int .i64 ti, .int .i64 da]]) (fun wq => wq.rangeLeft mb r)
 case atStart => exact ⟨[], cnt0, Lib.hid (fun s hs => by cases hs), hS0⟩
 case round =>
  clear hS0
  obtain ⟨seen, cnt, HM, hR⟩ := hrel
  have hrg : RngS wr 9 mb r 2 f seen cnt := hR.head
  go_wp2_with (first | (at_next; refine wpList_next_map _ rfl _ rfl 9 Tryz.underlying9 mb r 2 f seen cnt rfl hrg ?_ ?_))
  · intro hdone
    have hKI : KI = true := (HM.out _ ((hdone ⟨#[105, 100]⟩ (by decide)).1 HSOME.out.1)).1 rfl
    have hKB : KB = true := (HM.out _ ((hdone ⟨#[98, 121]⟩ (by decide)).1 HSOME.out.2)).2 rfl
    subst hKI hKB
    have hSM : sameBev ⟨at_, 2, id, who, by_, cat, ti, da⟩ ⟨at_, 2, id, ⟨#[]⟩, by_, ⟨#[]⟩, 0, 0⟩ = SM := HSM.out
    have x0 := (show Blk wr w.heap.size _ _ from hR.nth 2 rfl).cell 0
    have x1 := (show Blk wr w.heap.size _ _ from hR.nth 2 rfl).cell 1
    have x2 := (show Blk wr w.heap.size _ _ from hR.nth 2 rfl).cell 2
    have x3 := (show Blk wr w.heap.size _ _ from hR.nth 2 rfl).cell 3
    have x4 := (show Blk wr w.heap.size _ _ from hR.nth 2 rfl).cell 4
    have x5 := (show Blk wr w.heap.size _ _ from hR.nth 2 rfl).cell 5
    have x6 := (show Blk wr w.heap.size _ _ from hR.nth 2 rfl).cell 6
    have x7 := (show Blk wr w.heap.size _ _ from hR.nth 2 rfl).cell 7
    have y0 := (show Blk wr H1 _ _ from hR.nth 1 rfl).cell 0
    have y1 := (show Blk wr H1 _ _ from hR.nth 1 rfl).cell 1
    have y2 := (show Blk wr H1 _ _ from hR.nth 1 rfl).cell 2
    have y3 := (show Blk wr H1 _ _ from hR.nth 1 rfl).cell 3
    have y4 := (show Blk wr H1 _ _ from hR.nth 1 rfl).cell 4
    have y5 := (show Blk wr H1 _ _ from hR.nth 1 rfl).cell 5
    have y6 := (show Blk wr H1 _ _ from hR.nth 1 rfl).cell 6
    have y7 := (show Blk wr H1 _ _ from hR.nth 1 rfl).cell 7
    have HBE := Lib.hid hR.below
    clear hR hrg hdone HM HSOME HINV
    cases SM
    · replace hE : E = 3 := by rw [hE]; rfl
      subst hE
      go_wp2_with fail
      go_ret
      exact ⟨rfl, HBE.out⟩
    · replace hE : E = 0 := by rw [hE]; rfl
      subst hE
      go_wp2_with fail
      go_ret
      exact ⟨rfl, HBE.out⟩
  · intro s v w2 cnt2 hnew hsl hf hrg2 hlt2 hg2 hs2 hen
    have hl2 : wr.rangeLeft mb r = cnt := hrg.left
    have hR2 := hR.rngStep hrg2 hg2
    have hev : Blk w2 w.heap.size _ _ := hR2.nth 2 rfl
    rcases HINV.out s v hf with ⟨rfl, rfl⟩ | ⟨rfl, rfl⟩
    · have c0 := hev.cell 2
      have HM2 : Hid (KI = true → ∀ s ∈ seen ++ [(⟨#[105, 100]⟩ : ByteArray)], OkN s ⟨#[105, 100]⟩ KI ∧ OkN s ⟨#[98, 121]⟩ KB) := Lib.hid (fun hk s hs => by
       rcases List.mem_append.1 hs with hs | hs
       · exact HM.out s hs
       · obtain rfl := List.mem_singleton.1 hs
         simp [OkN, hk])
      clear hR hrg hrg2 hg2 hs2 hf hnew hev HM
      cases KI
      · have hEE : E = 5 := by rw [hE]; simp
        clear hE
        subst hEE
        go_wp2_with (first | (go_at_call 66; (with_reducible refine (HKI.out _).mono ?_); rintro e w5 ⟨rfl, rfl⟩))
        go_ret
        exact ⟨rfl, hR2.below⟩
      · have HM3 := Lib.hid (HM2.out rfl)
        go_wp2_with (first | (go_at_call 66; (with_reducible refine (HKI.out _).mono ?_); rintro e w5 ⟨rfl, rfl⟩))
        go_roundw
        case rel => exact ⟨_, _, _, _, _, _, _, _, _, _, _, ⟨_, cnt2, HM3, hR2⟩, rfl⟩
        case measure => rw [hl2]; exact Nat.lt_of_le_of_lt (Nat.le_of_eq (RngS.left hR2.head)) hlt2
    · have c0 := hev.cell 4
      have HM2 : Hid (KB = true → ∀ s ∈ seen ++ [(⟨#[98, 121]⟩ : ByteArray)], OkN s ⟨#[105, 100]⟩ KI ∧ OkN s ⟨#[98, 121]⟩ KB) := Lib.hid (fun hk s hs => by
       rcases List.mem_append.1 hs with hs | hs
       · exact HM.out s hs
       · obtain rfl := List.mem_singleton.1 hs
         simp [OkN, hk])
      clear hR hrg hrg2 hg2 hs2 hf hnew hev HM
      cases KB
      · have hEE : E = 5 := by rw [hE]; simp
        clear hE
        subst hEE
        go_wp2_with (first | (go_at_call 66; (with_reducible refine (HKB.out _).mono ?_); rintro e w5 ⟨rfl, rfl⟩))
        go_ret
        exact ⟨rfl, hR2.below⟩
      · have HM3 := Lib.hid (HM2.out rfl)
        go_wp2_with (first | (go_at_call 66; (with_reducible refine (HKB.out _).mono ?_); rintro e w5 ⟨rfl, rfl⟩))
        go_roundw
        case rel => exact ⟨_, _, _, _, _, _, _, _, _, _, _, ⟨_, cnt2, HM3, hR2⟩, rfl⟩
        case measure => rw [hl2]; exact Nat.lt_of_le_of_lt (Nat.le_of_eq (RngS.left hR2.head)) hlt2
set_option maxRecDepth 100000 in
set_option maxHeartbeats 4000000 in
theorem qevF3_calls (at_ : Int) (id who by_ cat : ByteArray) (ti da : Int) (w : World) (hx : BevW ⟨at_, 3, id, who, by_, cat, ti, da⟩) (ha : momB at_ = true) :
 Calls Tryz.prog 64 #[.agg #[.int .i64 at_, .int .i64 3, .string id, .string who, .string by_, .string cat, .int .i64 ti, .int .i64 da]] w (BRet (.int .i64 (bevF ⟨at_, 3, id, who, by_, cat, ti, da⟩)) w) := by
 have hE := bevF_of ⟨at_, 3, id, who, by_, cat, ti, da⟩ ha (by show outB 3 1 6 = false; decide)
 have hU : bevU ⟨at_, 3, id, who, by_, cat, ti, da⟩ = ⟨at_, 3, id, ⟨#[]⟩, by_, ⟨#[]⟩, 0, 0⟩ := by simp [bevU, usI, usW, usB, usS, noBev]
 have hKK : bevK ⟨at_, 3, id, who, by_, cat, ti, da⟩ = (!keyBv id || !keyBv by_) := by simp [bevK, usI, usW, usB, usS]
 have hSS : usS 3 = false := by decide
 rw [hU, hKK] at hE
 simp only [hSS] at hE
 obtain ⟨E, hEE⟩ : ∃ z, bevF ⟨at_, 3, id, who, by_, cat, ti, da⟩ = z := ⟨_, rfl⟩
 rw [hEE] at hE ⊢
 obtain ⟨SM, hSM⟩ : ∃ z, sameBev ⟨at_, 3, id, who, by_, cat, ti, da⟩ ⟨at_, 3, id, ⟨#[]⟩, by_, ⟨#[]⟩, 0, 0⟩ = z := ⟨_, rfl⟩
 rw [hSM] at hE
 have HSM := Lib.hid hSM
 have HMO := Lib.hid (fun W => momentQ_calls at_ W)
 rw [ha] at HMO
 have HIN := Lib.hid (fun W => in_calls 3 1 6 W)
 simp only [Bool.false_and] at hE
 have HKI := Lib.hid (fun W => keyQ_calls id W (by have := hx.hi; unfold maxLen; simp only at this; omega))
 obtain ⟨KI, hKI⟩ : ∃ z, keyBv id = z := ⟨_, rfl⟩
 unfold keyBv at hKI
 rw [hKI] at HKI
 rw [show keyBv id = KI from hKI] at hE
 have HKB := Lib.hid (fun W => keyQ_calls by_ W (by have := hx.hb; unfold maxLen; simp only at this; omega))
 obtain ⟨KB, hKB⟩ : ∃ z, keyBv by_ = z := ⟨_, rfl⟩
 unfold keyBv at hKB
 rw [hKB] at HKB
 rw [show keyBv by_ = KB from hKB] at hE
 have hmm := @run_makeMap Tryz.prog
 have hS := (Sq.start w).add #[.int .i64 at_, .int .i64 3, .string id, .string who, .string by_, .string cat, .int .i64 ti, .int .i64 da] 78
 obtain ⟨W0, hW0⟩ : ∃ W, w.alloc (.cells #[.int .i64 at_, .int .i64 3, .string id, .string who, .string by_, .string cat, .int .i64 ti, .int .i64 da] 78) = W := ⟨_, rfl⟩
 have HW0 := Lib.hid hW0
 rw [hW0] at hS
 have hk0 : Blk W0 w.heap.size _ _ := hS.head
 have c0 := hk0.cell 0
 have c1 := hk0.cell 1
 clear ha hU hKK hSS hEE hW0 hSM hx hKI hKB
 go_enter Tryz.func64, Tryz.ntmps64
 go_upto_region 1 with (fail)
 rw [HW0.out]
 go_upto_region 6 with (first | (go_at_call 67; refine (HMO.out _).mono ?_; rintro e w1 ⟨rfl, rfl⟩) | (go_at_call 86; refine (HIN.out _).mono ?_; rintro e w2 ⟨rfl, rfl⟩))
 have hA0 := ((hS.add #[.int .i64 at_, .int .i64 3, .string ⟨#[]⟩, .string ⟨#[]⟩, .string ⟨#[]⟩, .string ⟨#[]⟩, .int .i64 0, .int .i64 0] 78).addMap 9)
 have hA1 := ((hS.add #[.int .i64 at_, .int .i64 3, .string id, .string ⟨#[]⟩, .string ⟨#[]⟩, .string ⟨#[]⟩, .int .i64 0, .int .i64 0] 78).addMap 9)
 simp only [World.size_alloc] at hA0 hA1
 have e0 := (show Blk _ w.heap.size _ _ from hA0.nth 2 rfl).cell 2
 have e1 := (show Blk _ W0.heap.size _ _ from hA0.nth 1 rfl).cell 2
 have e2 := (show Blk _ W0.heap.size _ _ from hA0.nth 1 rfl).frozen 2
 have hmA : MapS _ _ _ _ _ := hA1.head
 obtain ⟨V0, hrun0, hm0, hg0⟩ := hmA.update Tryz.underlying9 Tryz.underlying172 (by unfold maxLen; omega) (s := ⟨#[105, 100]⟩) (by decide) (.pointer (some ⟨w.heap.size, 2, none⟩))
 have hB0 := hA1.mapSet hm0 hg0
 have kk0 := (show Blk _ w.heap.size _ _ from hB0.nth 2 rfl).cell 1
 clear hA0 hA1 hmA hm0 hg0
 go_upto_region 13 with (fail)
 clear e0 e1 e2 hrun0
 have e0 := (show Blk _ w.heap.size _ _ from hB0.nth 2 rfl).cell 4
 have e1 := (show Blk _ W0.heap.size _ _ from hB0.nth 1 rfl).cell 4
 have e2 := (show Blk _ W0.heap.size _ _ from hB0.nth 1 rfl).frozen 4
 have hC1 := (((hB0.front 1 rfl rfl).set_ 4 (.string by_)).front 1 rfl rfl)
 have hmA : MapS _ _ _ _ _ := hC1.head
 obtain ⟨V1, hrun1, hm1, hg1⟩ := hmA.update Tryz.underlying9 Tryz.underlying172 (by unfold maxLen; omega) (s := ⟨#[98, 121]⟩) (by decide) (.pointer (some ⟨w.heap.size, 4, none⟩))
 have hB1 := hC1.mapSet hm1 hg1
 have kk1 := (show Blk _ w.heap.size _ _ from hB1.nth 2 rfl).cell 1
 have mm1 := (show Blk _ w.heap.size _ _ from hC1.nth 2 rfl).cell 1
 clear hC1 hmA hm1 hg1 hB0
 go_upto_region 17 with (fail)
 have hB : Sq w V1 [rMap 9 (W0.heap.size + 1) 2 (upd (upd (fun _ => none) ⟨#[105, 100]⟩ (.pointer (some ⟨w.heap.size, 2, none⟩))) ⟨#[98, 121]⟩ (.pointer (some ⟨w.heap.size, 4, none⟩))), rBlk W0.heap.size 78 #[.int .i64 at_, .int .i64 3, .string id, .string ⟨#[]⟩, .string by_, .string ⟨#[]⟩, .int .i64 0, .int .i64 0], rBlk w.heap.size 78 #[.int .i64 at_, .int .i64 3, .string id, .string who, .string by_, .string cat, .int .i64 ti, .int .i64 da]] := hB1
 have HINV : Hid (∀ s v, (upd (upd (fun _ => none) ⟨#[105, 100]⟩ (.pointer (some ⟨w.heap.size, 2, none⟩))) ⟨#[98, 121]⟩ (.pointer (some ⟨w.heap.size, 4, none⟩))) s = some v → (s = (⟨#[105, 100]⟩ : ByteArray) ∧ v = .pointer (some ⟨w.heap.size, 2, none⟩)) ∨ (s = (⟨#[98, 121]⟩ : ByteArray) ∧ v = .pointer (some ⟨w.heap.size, 4, none⟩))) := Lib.hid (fun s v h => by
  simp only [upd] at h
  repeat' split at h
  all_goals first
   | (cases h; done)
   | (rename_i h1; injection h with h; subst h h1; simp))
 have HSOME : Hid (((upd (upd (fun _ => none) ⟨#[105, 100]⟩ (.pointer (some ⟨w.heap.size, 2, none⟩))) ⟨#[98, 121]⟩ (.pointer (some ⟨w.heap.size, 4, none⟩))) ⟨#[105, 100]⟩).isSome = true ∧ ((upd (upd (fun _ => none) ⟨#[105, 100]⟩ (.pointer (some ⟨w.heap.size, 2, none⟩))) ⟨#[98, 121]⟩ (.pointer (some ⟨w.heap.size, 4, none⟩))) ⟨#[98, 121]⟩).isSome = true) := Lib.hid (by simp [upd])
 obtain ⟨f, hf⟩ : ∃ z, (upd (upd (fun _ => none) ⟨#[105, 100]⟩ (.pointer (some ⟨w.heap.size, 2, none⟩))) ⟨#[98, 121]⟩ (.pointer (some ⟨w.heap.size, 4, none⟩))) = z := ⟨_, rfl⟩
 rw [hf] at hB HINV HSOME
 obtain ⟨mb, hmb⟩ : ∃ z, W0.heap.size + 1 = z := ⟨_, rfl⟩
 rw [hmb] at hB ⊢
 obtain ⟨H1, hH1⟩ : ∃ z, W0.heap.size = z := ⟨_, rfl⟩
 rw [hH1] at hB ⊢
 clear hB1 hrun1 kk0 kk1 mm1 e0 e1 e2 c0 c1 hmb hH1 hf hk0 hmm HW0 HMO HIN
 have HMP : MapS V1 9 mb 2 f := hB.head
 go_wp2_with (first | (at_range; refine wpList_range_map _ rfl _ 172 rfl 9 173 Tryz.underlying9 Tryz.underlying172 mb 2 f rfl HMP ?_; intro w0 cnt0 hr0 hg0 hs0))
 go_frame
 have hS0 := hB.rngStart hr0 hg0
 obtain ⟨r, hr⟩ : ∃ r, r = V1.heap.size := ⟨_, rfl⟩
 rw [← hr] at hS0 ⊢
 clear hB hr0 hg0 hs0 HMP hr
 go_loopw [] (fun wq => ∃ (seen : List ByteArray) (cnt : Nat), Hid (∀ s ∈ seen, OkN s ⟨#[105, 100]⟩ KI ∧ OkN s ⟨#[98, 121]⟩ KB) ∧ Sq w wq [rRng 9 mb r 2 f seen cnt, rBlk H1 78 #[.int .i64 at_, .int .i64 3, .string id, .string ⟨#[]⟩, .string by_, .string ⟨#[]⟩, .int .i64 0, .int .i64 0], rBlk w.heap.size 78 #[.int .i64 at_, .int .i64 3, .string id, .string who, .string by_, .string cat, .int .i64 ti, .int .i64 da]]) (fun wq => wq.rangeLeft mb r)
 case atStart => exact ⟨[], cnt0, Lib.hid (fun s hs => by cases hs), hS0⟩
 case round =>
  clear hS0
  obtain ⟨seen, cnt, HM, hR⟩ := hrel
  have hrg : RngS wr 9 mb r 2 f seen cnt := hR.head
  go_wp2_with (first | (at_next; refine wpList_next_map _ rfl _ rfl 9 Tryz.underlying9 mb r 2 f seen cnt rfl hrg ?_ ?_))
  · intro hdone
    have hKI : KI = true := (HM.out _ ((hdone ⟨#[105, 100]⟩ (by decide)).1 HSOME.out.1)).1 rfl
    have hKB : KB = true := (HM.out _ ((hdone ⟨#[98, 121]⟩ (by decide)).1 HSOME.out.2)).2 rfl
    subst hKI hKB
    have hSM : sameBev ⟨at_, 3, id, who, by_, cat, ti, da⟩ ⟨at_, 3, id, ⟨#[]⟩, by_, ⟨#[]⟩, 0, 0⟩ = SM := HSM.out
    have x0 := (show Blk wr w.heap.size _ _ from hR.nth 2 rfl).cell 0
    have x1 := (show Blk wr w.heap.size _ _ from hR.nth 2 rfl).cell 1
    have x2 := (show Blk wr w.heap.size _ _ from hR.nth 2 rfl).cell 2
    have x3 := (show Blk wr w.heap.size _ _ from hR.nth 2 rfl).cell 3
    have x4 := (show Blk wr w.heap.size _ _ from hR.nth 2 rfl).cell 4
    have x5 := (show Blk wr w.heap.size _ _ from hR.nth 2 rfl).cell 5
    have x6 := (show Blk wr w.heap.size _ _ from hR.nth 2 rfl).cell 6
    have x7 := (show Blk wr w.heap.size _ _ from hR.nth 2 rfl).cell 7
    have y0 := (show Blk wr H1 _ _ from hR.nth 1 rfl).cell 0
    have y1 := (show Blk wr H1 _ _ from hR.nth 1 rfl).cell 1
    have y2 := (show Blk wr H1 _ _ from hR.nth 1 rfl).cell 2
    have y3 := (show Blk wr H1 _ _ from hR.nth 1 rfl).cell 3
    have y4 := (show Blk wr H1 _ _ from hR.nth 1 rfl).cell 4
    have y5 := (show Blk wr H1 _ _ from hR.nth 1 rfl).cell 5
    have y6 := (show Blk wr H1 _ _ from hR.nth 1 rfl).cell 6
    have y7 := (show Blk wr H1 _ _ from hR.nth 1 rfl).cell 7
    have HBE := Lib.hid hR.below
    clear hR hrg hdone HM HSOME HINV
    cases SM
    · replace hE : E = 3 := by rw [hE]; rfl
      subst hE
      go_wp2_with fail
      go_ret
      exact ⟨rfl, HBE.out⟩
    · replace hE : E = 0 := by rw [hE]; rfl
      subst hE
      go_wp2_with fail
      go_ret
      exact ⟨rfl, HBE.out⟩
  · intro s v w2 cnt2 hnew hsl hf hrg2 hlt2 hg2 hs2 hen
    have hl2 : wr.rangeLeft mb r = cnt := hrg.left
    have hR2 := hR.rngStep hrg2 hg2
    have hev : Blk w2 w.heap.size _ _ := hR2.nth 2 rfl
    rcases HINV.out s v hf with ⟨rfl, rfl⟩ | ⟨rfl, rfl⟩
    · have c0 := hev.cell 2
      have HM2 : Hid (KI = true → ∀ s ∈ seen ++ [(⟨#[105, 100]⟩ : ByteArray)], OkN s ⟨#[105, 100]⟩ KI ∧ OkN s ⟨#[98, 121]⟩ KB) := Lib.hid (fun hk s hs => by
       rcases List.mem_append.1 hs with hs | hs
       · exact HM.out s hs
       · obtain rfl := List.mem_singleton.1 hs
         simp [OkN, hk])
      clear hR hrg hrg2 hg2 hs2 hf hnew hev HM
      cases KI
      · have hEE : E = 5 := by rw [hE]; simp
        clear hE
        subst hEE
        go_wp2_with (first | (go_at_call 66; (with_reducible refine (HKI.out _).mono ?_); rintro e w5 ⟨rfl, rfl⟩))
        go_ret
        exact ⟨rfl, hR2.below⟩
      · have HM3 := Lib.hid (HM2.out rfl)
        go_wp2_with (first | (go_at_call 66; (with_reducible refine (HKI.out _).mono ?_); rintro e w5 ⟨rfl, rfl⟩))
        go_roundw
        case rel => exact ⟨_, _, _, _, _, _, _, _, _, _, _, ⟨_, cnt2, HM3, hR2⟩, rfl⟩
        case measure => rw [hl2]; exact Nat.lt_of_le_of_lt (Nat.le_of_eq (RngS.left hR2.head)) hlt2
    · have c0 := hev.cell 4
      have HM2 : Hid (KB = true → ∀ s ∈ seen ++ [(⟨#[98, 121]⟩ : ByteArray)], OkN s ⟨#[105, 100]⟩ KI ∧ OkN s ⟨#[98, 121]⟩ KB) := Lib.hid (fun hk s hs => by
       rcases List.mem_append.1 hs with hs | hs
       · exact HM.out s hs
       · obtain rfl := List.mem_singleton.1 hs
         simp [OkN, hk])
      clear hR hrg hrg2 hg2 hs2 hf hnew hev HM
      cases KB
      · have hEE : E = 5 := by rw [hE]; simp
        clear hE
        subst hEE
        go_wp2_with (first | (go_at_call 66; (with_reducible refine (HKB.out _).mono ?_); rintro e w5 ⟨rfl, rfl⟩))
        go_ret
        exact ⟨rfl, hR2.below⟩
      · have HM3 := Lib.hid (HM2.out rfl)
        go_wp2_with (first | (go_at_call 66; (with_reducible refine (HKB.out _).mono ?_); rintro e w5 ⟨rfl, rfl⟩))
        go_roundw
        case rel => exact ⟨_, _, _, _, _, _, _, _, _, _, _, ⟨_, cnt2, HM3, hR2⟩, rfl⟩
        case measure => rw [hl2]; exact Nat.lt_of_le_of_lt (Nat.le_of_eq (RngS.left hR2.head)) hlt2
end Go.Proofs.YtapgnaimbgjcnaaGreatDoor
