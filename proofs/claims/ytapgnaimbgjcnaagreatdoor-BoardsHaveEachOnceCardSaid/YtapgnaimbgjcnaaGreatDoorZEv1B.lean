/-
  What is wrong with an event, kind by kind: board.eventFault. (Printed by gen_ev1.py.)
-/
import Derived.Test.YtapgnaimbgjcnaaGreatDoorZTk
import Derived.Test.YtapgnaimbgjcnaaGreatDoorZSlot3
namespace Go.Proofs.YtapgnaimbgjcnaaGreatDoor
open Go Go.RowKit
attribute [local go_sem ↓] Go.wp_at_zero Go.wp_at_succ
attribute [local go_sem ↓ high] neq_bev
set_option maxRecDepth 100000 in
set_option maxHeartbeats 4000000 in
theorem bbevF2_calls (at_ : Int) (id who by_ cat : ByteArray) (ti da : Int) (w : World) (hx : BevW ⟨at_, 2, id, who, by_, cat, ti, da⟩) (ha : momB at_ = true) :
 Calls Tryz.prog 134 #[.agg #[.int .i64 at_, .int .i64 2, .string id, .string who, .string by_, .string cat, .int .i64 ti, .int .i64 da]] w (BRet (.int .i64 (bevF ⟨at_, 2, id, who, by_, cat, ti, da⟩)) w) := by
 have hE := bevF_of ⟨at_, 2, id, who, by_, cat, ti, da⟩ ha (by show outB 2 1 6 = false; decide)
 have hU : bevU ⟨at_, 2, id, who, by_, cat, ti, da⟩ = ⟨at_, 2, id, noBev, by_, noBev, 0, 0⟩ := by simp [bevU, usI, usW, usB, usS]
 have hKK : bevK ⟨at_, 2, id, who, by_, cat, ti, da⟩ = (!keyBv id || !keyBv by_) := by simp [bevK, usI, usW, usB, usS]
 have hSS : usS 2 = false := by decide
 rw [hU, hKK] at hE
 simp only [hSS] at hE
 obtain ⟨E, hEE⟩ : ∃ z, bevF ⟨at_, 2, id, who, by_, cat, ti, da⟩ = z := ⟨_, rfl⟩
 rw [hEE] at hE ⊢
 obtain ⟨SM, hSM⟩ : ∃ z, sameBev ⟨at_, 2, id, who, by_, cat, ti, da⟩ ⟨at_, 2, id, noBev, by_, noBev, 0, 0⟩ = z := ⟨_, rfl⟩
 rw [hSM] at hE
 replace hSM : sameBev ⟨at_, 2, id, who, by_, cat, ti, da⟩ ⟨at_, 2, id, ⟨#[]⟩, by_, ⟨#[]⟩, 0, 0⟩ = SM := hSM
 have HSM := Lib.hid hSM
 have HKI := Lib.hid (fun W => key_calls id W (by have := hx.hi; unfold maxLen; simp only at this; omega))
 obtain ⟨KI, hKI⟩ : ∃ z, keyBv id = z := ⟨_, rfl⟩
 unfold keyBv at hKI
 rw [hKI] at HKI
 rw [show keyBv id = KI from hKI] at hE
 have HKB := Lib.hid (fun W => key_calls by_ W (by have := hx.hb; unfold maxLen; simp only at this; omega))
 obtain ⟨KB, hKB⟩ : ∃ z, keyBv by_ = z := ⟨_, rfl⟩
 unfold keyBv at hKB
 rw [hKB] at HKB
 rw [show keyBv by_ = KB from hKB] at hE
 have HOU : Hid (∀ W, Calls Tryz.prog 104 #[.int .i64 2, .int .i64 1, .int .i64 6] W fun e w' => e = .returned (.bool false) ∧ W = w') := Lib.hid (fun W => out_calls 2 1 6 W)
 have HMO := Lib.hid (fun W => moment_calls at_ W)
 rw [ha] at HMO
 obtain ⟨NK, hNK⟩ : ∃ z : Bool, (!KI || !KB) = z := ⟨_, rfl⟩
 rw [hNK] at hE
 have hS := (Sq.start w).add #[.int .i64 at_, .int .i64 2, .string id, .string who, .string by_, .string cat, .int .i64 ti, .int .i64 da] 78
 obtain ⟨W0, hW0⟩ : ∃ W, w.alloc (.cells #[.int .i64 at_, .int .i64 2, .string id, .string who, .string by_, .string cat, .int .i64 ti, .int .i64 da] 78) = W := ⟨_, rfl⟩
 have HW0 := Lib.hid hW0
 rw [hW0] at hS
 have hk0 : Blk W0 w.heap.size _ _ := hS.head
 have c0 := hk0.cell 0
 have c1 := hk0.cell 1
 clear hx ha hU hKK hSS hEE hW0 hSM hKI hKB
 go_enter Tryz.func134, Tryz.ntmps134
 go_upto_region 1 with (fail)
 rw [HW0.out]
 go_upto_region 5 with (first | (go_at_call 105; refine (HMO.out _).mono ?_; rintro e w1 ⟨rfl, rfl⟩) | (go_at_call 104; refine (HOU.out _).mono ?_; rintro e w2 ⟨rfl, rfl⟩))
 clear HMO HOU HW0
 go_cut [3] (fun s3 V => ∃ g3, s3 = .pointer (some ⟨g3, 0, none⟩) ∧ Sq w V [rBlk g3 221 #[.string ⟨#[118, 101, 114, 105, 102, 105, 101, 100]⟩, .bool true, .bool false, .bool true, .bool false], rBlk w.heap.size 78 #[.int .i64 at_, .int .i64 2, .string id, .string who, .string by_, .string cat, .int .i64 ti, .int .i64 da]])
 case first =>
  have HS := Lib.hid hS
  have S0 : Below W0.heap.size W0 W0 := Below.refl _ _
  have S1 : Below W0.heap.size W0 W0.drew := below_drewN S0 1
  have HCK : Hid (∀ V, Below W0.heap.size W0 V → V.cell? ⟨w.heap.size, 1, none⟩ = some (.int .i64 2)) := Lib.hid (fun V h => below_cell h c1)
  have HAL : Hid (∀ W o, Below W0.heap.size W0 W → Below W0.heap.size W0 (W.alloc o)) := Lib.hid (fun W o h => h.alloc h.size o)
  have HU : Hid (∀ W, Calls Tryz.prog 178 #[] W fun e w' => e = .returned (.slice (some ⟨W.heap.size, 0, none⟩) 6 6) ∧ Below W.heap.size W w' ∧ (∀ V, Below w'.heap.size w' V → V.cell? ⟨W.heap.size, 5, none⟩ = some (.string ⟨#[118, 101, 114, 105, 102, 105, 101, 100]⟩) ∧ V.cell? ⟨W.heap.size, 6, none⟩ = some (.bool true) ∧ V.cell? ⟨W.heap.size, 7, none⟩ = some (.bool false) ∧ V.cell? ⟨W.heap.size, 8, none⟩ = some (.bool true) ∧ V.cell? ⟨W.heap.size, 9, none⟩ = some (.bool false))) := Lib.hid (fun W => (uses_calls W).mono (fun e w' h => by
   have hb := Blk.new W 221 #[.string ⟨#[115, 101, 110, 116]⟩, .bool true, .bool true, .bool false, .bool true, .string ⟨#[118, 101, 114, 105, 102, 105, 101, 100]⟩, .bool true, .bool false, .bool true, .bool false, .string ⟨#[114, 101, 102, 117, 115, 101, 100]⟩, .bool true, .bool false, .bool true, .bool false, .string ⟨#[98, 97, 99, 107]⟩, .bool true, .bool true, .bool false, .bool false, .string ⟨#[98, 97, 110, 110, 101, 100]⟩, .bool false, .bool true, .bool true, .bool false, .string ⟨#[102, 114, 101, 101, 100]⟩, .bool false, .bool true, .bool true, .bool false]
   rw [← h.2] at hb
   exact ⟨h.1, by rw [h.2]; exact (Below.refl _ _).alloc (Nat.le_refl _) _, fun V hV => ⟨(hb.below hV).cell 5, (hb.below hV).cell 6, (hb.below hV).cell 7, (hb.below hV).cell 8, (hb.below hV).cell 9⟩⟩))
  have HU2 : Hid (Calls Tryz.prog 178 #[] ((W0.alloc (.cells #[.string ⟨#[]⟩, .bool false, .bool false, .bool false, .bool false] 221)).drew) fun e w' => e = .returned (.slice (some ⟨W0.heap.size + 1, 0, none⟩) 6 6) ∧ Below ((W0.alloc (.cells #[.string ⟨#[]⟩, .bool false, .bool false, .bool false, .bool false] 221)).drew).heap.size ((W0.alloc (.cells #[.string ⟨#[]⟩, .bool false, .bool false, .bool false, .bool false] 221)).drew) w' ∧ (∀ V, Below w'.heap.size w' V → V.cell? ⟨W0.heap.size + 1, 5, none⟩ = some (.string ⟨#[118, 101, 114, 105, 102, 105, 101, 100]⟩) ∧ V.cell? ⟨W0.heap.size + 1, 6, none⟩ = some (.bool true) ∧ V.cell? ⟨W0.heap.size + 1, 7, none⟩ = some (.bool false) ∧ V.cell? ⟨W0.heap.size + 1, 8, none⟩ = some (.bool true) ∧ V.cell? ⟨W0.heap.size + 1, 9, none⟩ = some (.bool false))) := Lib.hid (by
   have h := HU.out ((W0.alloc (.cells #[.string ⟨#[]⟩, .bool false, .bool false, .bool false, .bool false] 221)).drew)
   have hz : ((W0.alloc (.cells #[.string ⟨#[]⟩, .bool false, .bool false, .bool false, .bool false] 221)).drew).heap.size = W0.heap.size + 1 := by show (W0.alloc _).heap.size = _; exact World.size_alloc _ _
   refine h.mono (fun e w' h => ?_)
   obtain ⟨h1, h2, h3⟩ := h
   rw [hz] at h1
   simp only [hz] at h3
   exact ⟨h1, h2, h3⟩)
  clear hS hE c0 hk0
  refine wp_region_held_drew (S := fun V => V.cell? ⟨w.heap.size, 1, none⟩ = some (.int .i64 2)) (by kernel_rfl) (HCK.out _ S1) (fun hHeld => ?_)
  refine wpAnyH_take (i := 1) (v := .pointer (some ⟨w.heap.size, 1, none⟩)) rfl (by kernel_rfl) (by kernel_rfl) (by kernel_rfl) (fun _ _ _ h => h) (Or.inl ⟨by rfl, fun V hV => ?_⟩) hHeld ?_
  · (try dsimp only at hV); first | (go_simp; done) | (go_simp; rfl) | rfl
  try simp only [Act.put, List.getElem_toArray, List.getElem_cons_zero, List.getElem_cons_succ, List.setIfInBounds_toArray, List.set_cons_zero, List.set_cons_succ]
  refine wpAnyH_take (i := 2) (v := .int .i64 2) rfl (by kernel_rfl) (by kernel_rfl) (by kernel_rfl) (fun _ _ _ h => h) (Or.inl ⟨by rfl, fun V hV => ?_⟩) hHeld ?_
  · (try dsimp only at hV); first | (go_simp; done) | (go_simp; rfl) | rfl
  try simp only [Act.put, List.getElem_toArray, List.getElem_cons_zero, List.getElem_cons_succ, List.setIfInBounds_toArray, List.set_cons_zero, List.set_cons_succ]
  refine wpAnyH_take (i := 3) (v := .int .i64 1) rfl (by kernel_rfl) (by kernel_rfl) (by kernel_rfl) (fun _ _ _ h => h) (Or.inl ⟨by rfl, fun V hV => ?_⟩) hHeld ?_
  · (try dsimp only at hV); first | (go_simp; done) | (go_simp; rfl) | rfl
  try simp only [Act.put, List.getElem_toArray, List.getElem_cons_zero, List.getElem_cons_succ, List.setIfInBounds_toArray, List.set_cons_zero, List.set_cons_succ]
  refine wpAnyH_ready (rs := [0, 6]) (by kernel_rfl) (by simp) ?_
  refine AllReadyH.cons rfl (fun K hK => ?_) ?_
  · go_simp
    go_at_call 178
    refine (HU.out _).mono ?_
    rintro e w2 ⟨rfl, hb2, hu⟩
    have S2 := below_call S1 hb2 (Nat.le_refl _)
    have hu : ∀ V, Below w2.heap.size w2 V → V.cell? ⟨W0.heap.size, 5, none⟩ = some (.string ⟨#[118, 101, 114, 105, 102, 105, 101, 100]⟩) ∧ V.cell? ⟨W0.heap.size, 6, none⟩ = some (.bool true) ∧ V.cell? ⟨W0.heap.size, 7, none⟩ = some (.bool false) ∧ V.cell? ⟨W0.heap.size, 8, none⟩ = some (.bool true) ∧ V.cell? ⟨W0.heap.size, 9, none⟩ = some (.bool false) := hu
    obtain ⟨u0, u1, u2, u3, u4⟩ := hu w2 (Below.refl _ _)
    refine hK.out _ _ (HCK.out _ S2) (fun hHeld => ?_)
    clear hK K
    try simp only [Act.put, List.getElem_toArray, List.getElem_cons_zero, List.getElem_cons_succ, List.setIfInBounds_toArray, List.set_cons_zero, List.set_cons_succ]
    refine wpAnyH_take (i := 4) (v := .pointer (some ⟨W0.heap.size, 5, none⟩)) rfl (by kernel_rfl) (by kernel_rfl) (by kernel_rfl) (fun _ _ _ h => h) (Or.inl ⟨by rfl, fun V hV => ?_⟩) hHeld ?_
    · (try dsimp only at hV); first | (go_simp; done) | (go_simp; rfl) | rfl
    try simp only [Act.put, List.getElem_toArray, List.getElem_cons_zero, List.getElem_cons_succ, List.setIfInBounds_toArray, List.set_cons_zero, List.set_cons_succ]
    refine wpAnyH_ready (rs := [5, 6]) (by kernel_rfl) (by simp) ?_
    refine AllReadyH.cons rfl (fun K hK => ?_) ?_
    · go_simp
      refine hK.out _ _ hHeld (fun hHeld => ?_)
      clear hK K
      try simp only [Act.put, List.getElem_toArray, List.getElem_cons_zero, List.getElem_cons_succ, List.setIfInBounds_toArray, List.set_cons_zero, List.set_cons_succ]
      refine tkC 6 rfl (fun K hK => ?_)
      go_simp
      refine hK.out _ _ (HCK.out _ (HAL.out _ _ S2)) (fun hHeld => ?_)
      clear hK K
      try simp only [Act.put, List.getElem_toArray, List.getElem_cons_zero, List.getElem_cons_succ, List.setIfInBounds_toArray, List.set_cons_zero, List.set_cons_succ]
      refine tkC 7 rfl (fun K hK => ?_)
      go_simp
      refine hK.out _ _ (HCK.out _ (HAL.out _ _ S2)) (fun hHeld => ?_)
      clear hK K
      try simp only [Act.put, List.getElem_toArray, List.getElem_cons_zero, List.getElem_cons_succ, List.setIfInBounds_toArray, List.set_cons_zero, List.set_cons_succ]
      refine wpAnyH_done (by kernel_rfl) ?_ _
      go_wp2_with fail
      go_meet
      exact ⟨_, rfl, (HS.out.callB S2).add #[.string ⟨#[118, 101, 114, 105, 102, 105, 101, 100]⟩, .bool true, .bool false, .bool true, .bool false] 221⟩
    · have BZ : Below w2.heap.size w2 (w2.alloc (.cells #[.string ⟨#[]⟩, .bool false, .bool false, .bool false, .bool false] 221)) := (Below.refl _ _).alloc (Nat.le_refl _) _
      obtain ⟨v0, v1, v2, v3, v4⟩ := hu _ BZ
      refine AllReadyH.cons rfl (fun K hK => ?_) AllReadyH.nil
      go_simp
      refine hK.out _ _ (HCK.out _ (HAL.out _ _ S2)) (fun hHeld => ?_)
      clear hK K
      try simp only [Act.put, List.getElem_toArray, List.getElem_cons_zero, List.getElem_cons_succ, List.setIfInBounds_toArray, List.set_cons_zero, List.set_cons_succ]
      refine tkC 5 rfl (fun K hK => ?_)
      go_simp
      refine hK.out _ _ hHeld (fun hHeld => ?_)
      clear hK K
      try simp only [Act.put, List.getElem_toArray, List.getElem_cons_zero, List.getElem_cons_succ, List.setIfInBounds_toArray, List.set_cons_zero, List.set_cons_succ]
      refine tkC 7 rfl (fun K hK => ?_)
      go_simp
      refine hK.out _ _ (HCK.out _ (HAL.out _ _ S2)) (fun hHeld => ?_)
      clear hK K
      try simp only [Act.put, List.getElem_toArray, List.getElem_cons_zero, List.getElem_cons_succ, List.setIfInBounds_toArray, List.set_cons_zero, List.set_cons_succ]
      refine wpAnyH_done (by kernel_rfl) ?_ _
      go_wp2_with fail
      go_meet
      exact ⟨_, rfl, (HS.out.callB S2).add #[.string ⟨#[118, 101, 114, 105, 102, 105, 101, 100]⟩, .bool true, .bool false, .bool true, .bool false] 221⟩
  · refine AllReadyH.cons rfl (fun K hK => ?_) AllReadyH.nil
    go_simp
    refine hK.out _ _ (HCK.out _ (HAL.out _ _ S1)) (fun hHeld => ?_)
    clear hK K
    try simp only [Act.put, List.getElem_toArray, List.getElem_cons_zero, List.getElem_cons_succ, List.setIfInBounds_toArray, List.set_cons_zero, List.set_cons_succ]
    refine tkC 0 rfl (fun K hK => ?_)
    go_simp
    go_at_call 178
    refine HU2.out.mono ?_
    rintro e w2 ⟨rfl, hb2, hu⟩
    have hTz := (HS.out.add #[.string ⟨#[]⟩, .bool false, .bool false, .bool false, .bool false] 221).drew.callB hb2
    have S2 : Below W0.heap.size W0 w2 := below_call (below_drewN ((Below.refl _ _).alloc (Nat.le_refl _) _) 1) hb2 (Nat.le_refl _)
    obtain ⟨u0, u1, u2, u3, u4⟩ := hu w2 (Below.refl _ _)
    have hzb : Blk w2 W0.heap.size _ _ := hTz.head
    have z0 := hzb.cell 0
    have z1 := hzb.cell 1
    have z2 := hzb.cell 2
    have z3 := hzb.cell 3
    have z4 := hzb.cell 4
    have f0 := hzb.frozen 0
    have f1 := hzb.frozen 1
    have f2 := hzb.frozen 2
    have f3 := hzb.frozen 3
    have f4 := hzb.frozen 4
    refine hK.out _ _ (HCK.out _ S2) (fun hHeld => ?_)
    clear hK K
    try simp only [Act.put, List.getElem_toArray, List.getElem_cons_zero, List.getElem_cons_succ, List.setIfInBounds_toArray, List.set_cons_zero, List.set_cons_succ]
    refine wpAnyH_take (i := 4) (v := .pointer (some ⟨W0.heap.size + 1, 5, none⟩)) rfl (by kernel_rfl) (by kernel_rfl) (by kernel_rfl) (fun _ _ _ h => h) (Or.inl ⟨by rfl, fun V hV => ?_⟩) hHeld ?_
    · (try dsimp only at hV); first | (go_simp; done) | (go_simp; rfl) | rfl
    try simp only [Act.put, List.getElem_toArray, List.getElem_cons_zero, List.getElem_cons_succ, List.setIfInBounds_toArray, List.set_cons_zero, List.set_cons_succ]
    refine tkC 5 rfl (fun K hK => ?_)
    go_simp
    refine hK.out _ _ hHeld (fun hHeld => ?_)
    clear hK K
    try simp only [Act.put, List.getElem_toArray, List.getElem_cons_zero, List.getElem_cons_succ, List.setIfInBounds_toArray, List.set_cons_zero, List.set_cons_succ]
    refine tkC 7 rfl (fun K hK => ?_)
    go_simp
    have hTs := ((((hTz.set_ 0 (.string ⟨#[118, 101, 114, 105, 102, 105, 101, 100]⟩)).set_ 1 (.bool true)).set_ 2 (.bool false)).set_ 3 (.bool true)).set_ 4 (.bool false)
    have hek : Blk _ w.heap.size _ _ := hTs.nth 1 rfl
    refine hK.out _ _ (hek.cell 1) (fun hHeld => ?_)
    clear hK K
    try simp only [Act.put, List.getElem_toArray, List.getElem_cons_zero, List.getElem_cons_succ, List.setIfInBounds_toArray, List.set_cons_zero, List.set_cons_succ]
    refine wpAnyH_done (by kernel_rfl) ?_ _
    go_wp2_with fail
    go_meet
    exact ⟨_, rfl, hTs⟩
 obtain ⟨g3, rfl, hT⟩ := hcut
 obtain ⟨w3, hw3⟩ : ∃ z, z = wc := ⟨_, rfl⟩
 subst hw3
 have hTB := Lib.hid hT.below
 clear hS hk0 c0 c1
 have HF : Hid (∀ V, Below w3.heap.size w3 V → V.cell? ⟨g3, 0, none⟩ = some (.string ⟨#[118, 101, 114, 105, 102, 105, 101, 100]⟩) ∧ V.cell? ⟨g3, 1, none⟩ = some (.bool true) ∧ V.cell? ⟨g3, 2, none⟩ = some (.bool false) ∧ V.cell? ⟨g3, 3, none⟩ = some (.bool true) ∧ V.cell? ⟨g3, 4, none⟩ = some (.bool false) ∧ V.cell? ⟨w.heap.size, 0, none⟩ = some (.int .i64 at_) ∧ V.cell? ⟨w.heap.size, 1, none⟩ = some (.int .i64 2) ∧ V.cell? ⟨w.heap.size, 2, none⟩ = some (.string id) ∧ V.cell? ⟨w.heap.size, 3, none⟩ = some (.string who) ∧ V.cell? ⟨w.heap.size, 4, none⟩ = some (.string by_) ∧ V.cell? ⟨w.heap.size, 5, none⟩ = some (.string cat) ∧ V.cell? ⟨w.heap.size, 6, none⟩ = some (.int .i64 ti) ∧ V.cell? ⟨w.heap.size, 7, none⟩ = some (.int .i64 da)) := Lib.hid (fun V h => by
  have q1 := (show Blk w3 g3 _ _ from hT.head).below h
  have q2 := (show Blk w3 w.heap.size _ _ from hT.nth 1 rfl).below h
  exact ⟨q1.cell 0, q1.cell 1, q1.cell 2, q1.cell 3, q1.cell 4, q2.cell 0, q2.cell 1, q2.cell 2, q2.cell 3, q2.cell 4, q2.cell 5, q2.cell 6, q2.cell 7⟩)
 have B0 : Below w3.heap.size w3 w3 := Below.refl _ _
 obtain ⟨x0, x1, x2, x3, x4, x5, x6, x7, x8, x9, x10, x11, x12⟩ := HF.out _ B0
 have D0 : Below w3.heap.size w3 (w3.alloc (.cells #[.int .i64 at_, .int .i64 2, .string ⟨#[]⟩, .string ⟨#[]⟩, .string ⟨#[]⟩, .string ⟨#[]⟩, .int .i64 0, .int .i64 0] 78)) := (Below.refl _ _).alloc (Nat.le_refl _) _
 obtain ⟨y0_0, y0_1, y0_2, y0_3, y0_4, y0_5, y0_6, y0_7, y0_8, y0_9, y0_10, y0_11, y0_12⟩ := HF.out _ D0
 have D1 : Below w3.heap.size w3 (w3.alloc (.cells #[.int .i64 at_, .int .i64 2, .string id, .string ⟨#[]⟩, .string ⟨#[]⟩, .string ⟨#[]⟩, .int .i64 0, .int .i64 0] 78)) := (Below.refl _ _).alloc (Nat.le_refl _) _
 obtain ⟨y1_0, y1_1, y1_2, y1_3, y1_4, y1_5, y1_6, y1_7, y1_8, y1_9, y1_10, y1_11, y1_12⟩ := HF.out _ D1
 have D2 : Below w3.heap.size w3 (w3.alloc (.cells #[.int .i64 at_, .int .i64 2, .string id, .string ⟨#[]⟩, .string by_, .string ⟨#[]⟩, .int .i64 0, .int .i64 0] 78)) := (Below.refl _ _).alloc (Nat.le_refl _) _
 obtain ⟨y2_0, y2_1, y2_2, y2_3, y2_4, y2_5, y2_6, y2_7, y2_8, y2_9, y2_10, y2_11, y2_12⟩ := HF.out _ D2
 have hn : Blk (w3.alloc (.cells #[.int .i64 at_, .int .i64 2, .string id, .string ⟨#[]⟩, .string by_, .string ⟨#[]⟩, .int .i64 0, .int .i64 0] 78)) w3.heap.size 78 #[.int .i64 at_, .int .i64 2, .string id, .string ⟨#[]⟩, .string by_, .string ⟨#[]⟩, .int .i64 0, .int .i64 0] := Blk.new w3 _ _
 have n0 := hn.cell 0
 have n1 := hn.cell 1
 have n2 := hn.cell 2
 have n3 := hn.cell 3
 have n4 := hn.cell 4
 have n5 := hn.cell 5
 have n6 := hn.cell 6
 have n7 := hn.cell 7
 clear hT
 go_upto_region 15 with (fail)
 go_cut [51] (fun s V => s = .bool NK ∧ Below w.heap.size w V ∧ V = w3.alloc (.cells #[.int .i64 at_, .int .i64 2, .string id, .string ⟨#[]⟩, .string by_, .string ⟨#[]⟩, .int .i64 0, .int .i64 0] 78))
 case first =>
  have HEND := Lib.hid (below_call hTB.out D2 (Nat.le_refl _))
  subst hNK
  clear hE
  cases KI <;> cases KB
  all_goals
   go_wp2_with (first | (go_at_call 103; (with_reducible refine (HKI.out _).mono ?_); rintro e w5 ⟨rfl, rfl⟩) | (go_at_call 103; (with_reducible refine (HKB.out _).mono ?_); rintro e w5 ⟨rfl, rfl⟩))
   go_meet
   exact ⟨rfl, HEND.out, rfl⟩
 obtain ⟨rfl, hbE, hwE⟩ := hcut
 subst hwE
 clear hNK HKI HKB
 have hSM := HSM.out
 cases NK
 · rw [if_neg (by decide)] at hE
   rw [if_neg (by simp)] at hE
   cases SM
   · rw [if_neg (by decide)] at hE
     subst hE
     go_wp2_with fail
     go_ret
     exact ⟨rfl, hbE⟩
   · rw [if_pos rfl] at hE
     subst hE
     go_wp2_with fail
     go_ret
     exact ⟨rfl, hbE⟩
 · rw [if_pos rfl] at hE
   subst hE
   clear hSM
   go_wp2_with fail
   go_ret
   exact ⟨rfl, hbE⟩
set_option maxRecDepth 100000 in
set_option maxHeartbeats 4000000 in
theorem bbevF3_calls (at_ : Int) (id who by_ cat : ByteArray) (ti da : Int) (w : World) (hx : BevW ⟨at_, 3, id, who, by_, cat, ti, da⟩) (ha : momB at_ = true) :
 Calls Tryz.prog 134 #[.agg #[.int .i64 at_, .int .i64 3, .string id, .string who, .string by_, .string cat, .int .i64 ti, .int .i64 da]] w (BRet (.int .i64 (bevF ⟨at_, 3, id, who, by_, cat, ti, da⟩)) w) := by
 have hE := bevF_of ⟨at_, 3, id, who, by_, cat, ti, da⟩ ha (by show outB 3 1 6 = false; decide)
 have hU : bevU ⟨at_, 3, id, who, by_, cat, ti, da⟩ = ⟨at_, 3, id, noBev, by_, noBev, 0, 0⟩ := by simp [bevU, usI, usW, usB, usS]
 have hKK : bevK ⟨at_, 3, id, who, by_, cat, ti, da⟩ = (!keyBv id || !keyBv by_) := by simp [bevK, usI, usW, usB, usS]
 have hSS : usS 3 = false := by decide
 rw [hU, hKK] at hE
 simp only [hSS] at hE
 obtain ⟨E, hEE⟩ : ∃ z, bevF ⟨at_, 3, id, who, by_, cat, ti, da⟩ = z := ⟨_, rfl⟩
 rw [hEE] at hE ⊢
 obtain ⟨SM, hSM⟩ : ∃ z, sameBev ⟨at_, 3, id, who, by_, cat, ti, da⟩ ⟨at_, 3, id, noBev, by_, noBev, 0, 0⟩ = z := ⟨_, rfl⟩
 rw [hSM] at hE
 replace hSM : sameBev ⟨at_, 3, id, who, by_, cat, ti, da⟩ ⟨at_, 3, id, ⟨#[]⟩, by_, ⟨#[]⟩, 0, 0⟩ = SM := hSM
 have HSM := Lib.hid hSM
 have HKI := Lib.hid (fun W => key_calls id W (by have := hx.hi; unfold maxLen; simp only at this; omega))
 obtain ⟨KI, hKI⟩ : ∃ z, keyBv id = z := ⟨_, rfl⟩
 unfold keyBv at hKI
 rw [hKI] at HKI
 rw [show keyBv id = KI from hKI] at hE
 have HKB := Lib.hid (fun W => key_calls by_ W (by have := hx.hb; unfold maxLen; simp only at this; omega))
 obtain ⟨KB, hKB⟩ : ∃ z, keyBv by_ = z := ⟨_, rfl⟩
 unfold keyBv at hKB
 rw [hKB] at HKB
 rw [show keyBv by_ = KB from hKB] at hE
 have HOU : Hid (∀ W, Calls Tryz.prog 104 #[.int .i64 3, .int .i64 1, .int .i64 6] W fun e w' => e = .returned (.bool false) ∧ W = w') := Lib.hid (fun W => out_calls 3 1 6 W)
 have HMO := Lib.hid (fun W => moment_calls at_ W)
 rw [ha] at HMO
 obtain ⟨NK, hNK⟩ : ∃ z : Bool, (!KI || !KB) = z := ⟨_, rfl⟩
 rw [hNK] at hE
 have hS := (Sq.start w).add #[.int .i64 at_, .int .i64 3, .string id, .string who, .string by_, .string cat, .int .i64 ti, .int .i64 da] 78
 obtain ⟨W0, hW0⟩ : ∃ W, w.alloc (.cells #[.int .i64 at_, .int .i64 3, .string id, .string who, .string by_, .string cat, .int .i64 ti, .int .i64 da] 78) = W := ⟨_, rfl⟩
 have HW0 := Lib.hid hW0
 rw [hW0] at hS
 have hk0 : Blk W0 w.heap.size _ _ := hS.head
 have c0 := hk0.cell 0
 have c1 := hk0.cell 1
 clear hx ha hU hKK hSS hEE hW0 hSM hKI hKB
 go_enter Tryz.func134, Tryz.ntmps134
 go_upto_region 1 with (fail)
 rw [HW0.out]
 go_upto_region 5 with (first | (go_at_call 105; refine (HMO.out _).mono ?_; rintro e w1 ⟨rfl, rfl⟩) | (go_at_call 104; refine (HOU.out _).mono ?_; rintro e w2 ⟨rfl, rfl⟩))
 clear HMO HOU HW0
 go_cut [3] (fun s3 V => ∃ g3, s3 = .pointer (some ⟨g3, 0, none⟩) ∧ Sq w V [rBlk g3 221 #[.string ⟨#[114, 101, 102, 117, 115, 101, 100]⟩, .bool true, .bool false, .bool true, .bool false], rBlk w.heap.size 78 #[.int .i64 at_, .int .i64 3, .string id, .string who, .string by_, .string cat, .int .i64 ti, .int .i64 da]])
 case first =>
  have HS := Lib.hid hS
  have S0 : Below W0.heap.size W0 W0 := Below.refl _ _
  have S1 : Below W0.heap.size W0 W0.drew := below_drewN S0 1
  have HCK : Hid (∀ V, Below W0.heap.size W0 V → V.cell? ⟨w.heap.size, 1, none⟩ = some (.int .i64 3)) := Lib.hid (fun V h => below_cell h c1)
  have HAL : Hid (∀ W o, Below W0.heap.size W0 W → Below W0.heap.size W0 (W.alloc o)) := Lib.hid (fun W o h => h.alloc h.size o)
  have HU : Hid (∀ W, Calls Tryz.prog 178 #[] W fun e w' => e = .returned (.slice (some ⟨W.heap.size, 0, none⟩) 6 6) ∧ Below W.heap.size W w' ∧ (∀ V, Below w'.heap.size w' V → V.cell? ⟨W.heap.size, 10, none⟩ = some (.string ⟨#[114, 101, 102, 117, 115, 101, 100]⟩) ∧ V.cell? ⟨W.heap.size, 11, none⟩ = some (.bool true) ∧ V.cell? ⟨W.heap.size, 12, none⟩ = some (.bool false) ∧ V.cell? ⟨W.heap.size, 13, none⟩ = some (.bool true) ∧ V.cell? ⟨W.heap.size, 14, none⟩ = some (.bool false))) := Lib.hid (fun W => (uses_calls W).mono (fun e w' h => by
   have hb := Blk.new W 221 #[.string ⟨#[115, 101, 110, 116]⟩, .bool true, .bool true, .bool false, .bool true, .string ⟨#[118, 101, 114, 105, 102, 105, 101, 100]⟩, .bool true, .bool false, .bool true, .bool false, .string ⟨#[114, 101, 102, 117, 115, 101, 100]⟩, .bool true, .bool false, .bool true, .bool false, .string ⟨#[98, 97, 99, 107]⟩, .bool true, .bool true, .bool false, .bool false, .string ⟨#[98, 97, 110, 110, 101, 100]⟩, .bool false, .bool true, .bool true, .bool false, .string ⟨#[102, 114, 101, 101, 100]⟩, .bool false, .bool true, .bool true, .bool false]
   rw [← h.2] at hb
   exact ⟨h.1, by rw [h.2]; exact (Below.refl _ _).alloc (Nat.le_refl _) _, fun V hV => ⟨(hb.below hV).cell 10, (hb.below hV).cell 11, (hb.below hV).cell 12, (hb.below hV).cell 13, (hb.below hV).cell 14⟩⟩))
  have HU2 : Hid (Calls Tryz.prog 178 #[] ((W0.alloc (.cells #[.string ⟨#[]⟩, .bool false, .bool false, .bool false, .bool false] 221)).drew) fun e w' => e = .returned (.slice (some ⟨W0.heap.size + 1, 0, none⟩) 6 6) ∧ Below ((W0.alloc (.cells #[.string ⟨#[]⟩, .bool false, .bool false, .bool false, .bool false] 221)).drew).heap.size ((W0.alloc (.cells #[.string ⟨#[]⟩, .bool false, .bool false, .bool false, .bool false] 221)).drew) w' ∧ (∀ V, Below w'.heap.size w' V → V.cell? ⟨W0.heap.size + 1, 10, none⟩ = some (.string ⟨#[114, 101, 102, 117, 115, 101, 100]⟩) ∧ V.cell? ⟨W0.heap.size + 1, 11, none⟩ = some (.bool true) ∧ V.cell? ⟨W0.heap.size + 1, 12, none⟩ = some (.bool false) ∧ V.cell? ⟨W0.heap.size + 1, 13, none⟩ = some (.bool true) ∧ V.cell? ⟨W0.heap.size + 1, 14, none⟩ = some (.bool false))) := Lib.hid (by
   have h := HU.out ((W0.alloc (.cells #[.string ⟨#[]⟩, .bool false, .bool false, .bool false, .bool false] 221)).drew)
   have hz : ((W0.alloc (.cells #[.string ⟨#[]⟩, .bool false, .bool false, .bool false, .bool false] 221)).drew).heap.size = W0.heap.size + 1 := by show (W0.alloc _).heap.size = _; exact World.size_alloc _ _
   refine h.mono (fun e w' h => ?_)
   obtain ⟨h1, h2, h3⟩ := h
   rw [hz] at h1
   simp only [hz] at h3
   exact ⟨h1, h2, h3⟩)
  clear hS hE c0 hk0
  refine wp_region_held_drew (S := fun V => V.cell? ⟨w.heap.size, 1, none⟩ = some (.int .i64 3)) (by kernel_rfl) (HCK.out _ S1) (fun hHeld => ?_)
  refine wpAnyH_take (i := 1) (v := .pointer (some ⟨w.heap.size, 1, none⟩)) rfl (by kernel_rfl) (by kernel_rfl) (by kernel_rfl) (fun _ _ _ h => h) (Or.inl ⟨by rfl, fun V hV => ?_⟩) hHeld ?_
  · (try dsimp only at hV); first | (go_simp; done) | (go_simp; rfl) | rfl
  try simp only [Act.put, List.getElem_toArray, List.getElem_cons_zero, List.getElem_cons_succ, List.setIfInBounds_toArray, List.set_cons_zero, List.set_cons_succ]
  refine wpAnyH_take (i := 2) (v := .int .i64 3) rfl (by kernel_rfl) (by kernel_rfl) (by kernel_rfl) (fun _ _ _ h => h) (Or.inl ⟨by rfl, fun V hV => ?_⟩) hHeld ?_
  · (try dsimp only at hV); first | (go_simp; done) | (go_simp; rfl) | rfl
  try simp only [Act.put, List.getElem_toArray, List.getElem_cons_zero, List.getElem_cons_succ, List.setIfInBounds_toArray, List.set_cons_zero, List.set_cons_succ]
  refine wpAnyH_take (i := 3) (v := .int .i64 2) rfl (by kernel_rfl) (by kernel_rfl) (by kernel_rfl) (fun _ _ _ h => h) (Or.inl ⟨by rfl, fun V hV => ?_⟩) hHeld ?_
  · (try dsimp only at hV); first | (go_simp; done) | (go_simp; rfl) | rfl
  try simp only [Act.put, List.getElem_toArray, List.getElem_cons_zero, List.getElem_cons_succ, List.setIfInBounds_toArray, List.set_cons_zero, List.set_cons_succ]
  refine wpAnyH_ready (rs := [0, 6]) (by kernel_rfl) (by simp) ?_
  refine AllReadyH.cons rfl (fun K hK => ?_) ?_
  · go_simp
    go_at_call 178
    refine (HU.out _).mono ?_
    rintro e w2 ⟨rfl, hb2, hu⟩
    have S2 := below_call S1 hb2 (Nat.le_refl _)
    have hu : ∀ V, Below w2.heap.size w2 V → V.cell? ⟨W0.heap.size, 10, none⟩ = some (.string ⟨#[114, 101, 102, 117, 115, 101, 100]⟩) ∧ V.cell? ⟨W0.heap.size, 11, none⟩ = some (.bool true) ∧ V.cell? ⟨W0.heap.size, 12, none⟩ = some (.bool false) ∧ V.cell? ⟨W0.heap.size, 13, none⟩ = some (.bool true) ∧ V.cell? ⟨W0.heap.size, 14, none⟩ = some (.bool false) := hu
    obtain ⟨u0, u1, u2, u3, u4⟩ := hu w2 (Below.refl _ _)
    refine hK.out _ _ (HCK.out _ S2) (fun hHeld => ?_)
    clear hK K
    try simp only [Act.put, List.getElem_toArray, List.getElem_cons_zero, List.getElem_cons_succ, List.setIfInBounds_toArray, List.set_cons_zero, List.set_cons_succ]
    refine wpAnyH_take (i := 4) (v := .pointer (some ⟨W0.heap.size, 10, none⟩)) rfl (by kernel_rfl) (by kernel_rfl) (by kernel_rfl) (fun _ _ _ h => h) (Or.inl ⟨by rfl, fun V hV => ?_⟩) hHeld ?_
    · (try dsimp only at hV); first | (go_simp; done) | (go_simp; rfl) | rfl
    try simp only [Act.put, List.getElem_toArray, List.getElem_cons_zero, List.getElem_cons_succ, List.setIfInBounds_toArray, List.set_cons_zero, List.set_cons_succ]
    refine wpAnyH_ready (rs := [5, 6]) (by kernel_rfl) (by simp) ?_
    refine AllReadyH.cons rfl (fun K hK => ?_) ?_
    · go_simp
      refine hK.out _ _ hHeld (fun hHeld => ?_)
      clear hK K
      try simp only [Act.put, List.getElem_toArray, List.getElem_cons_zero, List.getElem_cons_succ, List.setIfInBounds_toArray, List.set_cons_zero, List.set_cons_succ]
      refine tkC 6 rfl (fun K hK => ?_)
      go_simp
      refine hK.out _ _ (HCK.out _ (HAL.out _ _ S2)) (fun hHeld => ?_)
      clear hK K
      try simp only [Act.put, List.getElem_toArray, List.getElem_cons_zero, List.getElem_cons_succ, List.setIfInBounds_toArray, List.set_cons_zero, List.set_cons_succ]
      refine tkC 7 rfl (fun K hK => ?_)
      go_simp
      refine hK.out _ _ (HCK.out _ (HAL.out _ _ S2)) (fun hHeld => ?_)
      clear hK K
      try simp only [Act.put, List.getElem_toArray, List.getElem_cons_zero, List.getElem_cons_succ, List.setIfInBounds_toArray, List.set_cons_zero, List.set_cons_succ]
      refine wpAnyH_done (by kernel_rfl) ?_ _
      go_wp2_with fail
      go_meet
      exact ⟨_, rfl, (HS.out.callB S2).add #[.string ⟨#[114, 101, 102, 117, 115, 101, 100]⟩, .bool true, .bool false, .bool true, .bool false] 221⟩
    · have BZ : Below w2.heap.size w2 (w2.alloc (.cells #[.string ⟨#[]⟩, .bool false, .bool false, .bool false, .bool false] 221)) := (Below.refl _ _).alloc (Nat.le_refl _) _
      obtain ⟨v0, v1, v2, v3, v4⟩ := hu _ BZ
      refine AllReadyH.cons rfl (fun K hK => ?_) AllReadyH.nil
      go_simp
      refine hK.out _ _ (HCK.out _ (HAL.out _ _ S2)) (fun hHeld => ?_)
      clear hK K
      try simp only [Act.put, List.getElem_toArray, List.getElem_cons_zero, List.getElem_cons_succ, List.setIfInBounds_toArray, List.set_cons_zero, List.set_cons_succ]
      refine tkC 5 rfl (fun K hK => ?_)
      go_simp
      refine hK.out _ _ hHeld (fun hHeld => ?_)
      clear hK K
      try simp only [Act.put, List.getElem_toArray, List.getElem_cons_zero, List.getElem_cons_succ, List.setIfInBounds_toArray, List.set_cons_zero, List.set_cons_succ]
      refine tkC 7 rfl (fun K hK => ?_)
      go_simp
      refine hK.out _ _ (HCK.out _ (HAL.out _ _ S2)) (fun hHeld => ?_)
      clear hK K
      try simp only [Act.put, List.getElem_toArray, List.getElem_cons_zero, List.getElem_cons_succ, List.setIfInBounds_toArray, List.set_cons_zero, List.set_cons_succ]
      refine wpAnyH_done (by kernel_rfl) ?_ _
      go_wp2_with fail
      go_meet
      exact ⟨_, rfl, (HS.out.callB S2).add #[.string ⟨#[114, 101, 102, 117, 115, 101, 100]⟩, .bool true, .bool false, .bool true, .bool false] 221⟩
  · refine AllReadyH.cons rfl (fun K hK => ?_) AllReadyH.nil
    go_simp
    refine hK.out _ _ (HCK.out _ (HAL.out _ _ S1)) (fun hHeld => ?_)
    clear hK K
    try simp only [Act.put, List.getElem_toArray, List.getElem_cons_zero, List.getElem_cons_succ, List.setIfInBounds_toArray, List.set_cons_zero, List.set_cons_succ]
    refine tkC 0 rfl (fun K hK => ?_)
    go_simp
    go_at_call 178
    refine HU2.out.mono ?_
    rintro e w2 ⟨rfl, hb2, hu⟩
    have hTz := (HS.out.add #[.string ⟨#[]⟩, .bool false, .bool false, .bool false, .bool false] 221).drew.callB hb2
    have S2 : Below W0.heap.size W0 w2 := below_call (below_drewN ((Below.refl _ _).alloc (Nat.le_refl _) _) 1) hb2 (Nat.le_refl _)
    obtain ⟨u0, u1, u2, u3, u4⟩ := hu w2 (Below.refl _ _)
    have hzb : Blk w2 W0.heap.size _ _ := hTz.head
    have z0 := hzb.cell 0
    have z1 := hzb.cell 1
    have z2 := hzb.cell 2
    have z3 := hzb.cell 3
    have z4 := hzb.cell 4
    have f0 := hzb.frozen 0
    have f1 := hzb.frozen 1
    have f2 := hzb.frozen 2
    have f3 := hzb.frozen 3
    have f4 := hzb.frozen 4
    refine hK.out _ _ (HCK.out _ S2) (fun hHeld => ?_)
    clear hK K
    try simp only [Act.put, List.getElem_toArray, List.getElem_cons_zero, List.getElem_cons_succ, List.setIfInBounds_toArray, List.set_cons_zero, List.set_cons_succ]
    refine wpAnyH_take (i := 4) (v := .pointer (some ⟨W0.heap.size + 1, 10, none⟩)) rfl (by kernel_rfl) (by kernel_rfl) (by kernel_rfl) (fun _ _ _ h => h) (Or.inl ⟨by rfl, fun V hV => ?_⟩) hHeld ?_
    · (try dsimp only at hV); first | (go_simp; done) | (go_simp; rfl) | rfl
    try simp only [Act.put, List.getElem_toArray, List.getElem_cons_zero, List.getElem_cons_succ, List.setIfInBounds_toArray, List.set_cons_zero, List.set_cons_succ]
    refine tkC 5 rfl (fun K hK => ?_)
    go_simp
    refine hK.out _ _ hHeld (fun hHeld => ?_)
    clear hK K
    try simp only [Act.put, List.getElem_toArray, List.getElem_cons_zero, List.getElem_cons_succ, List.setIfInBounds_toArray, List.set_cons_zero, List.set_cons_succ]
    refine tkC 7 rfl (fun K hK => ?_)
    go_simp
    have hTs := ((((hTz.set_ 0 (.string ⟨#[114, 101, 102, 117, 115, 101, 100]⟩)).set_ 1 (.bool true)).set_ 2 (.bool false)).set_ 3 (.bool true)).set_ 4 (.bool false)
    have hek : Blk _ w.heap.size _ _ := hTs.nth 1 rfl
    refine hK.out _ _ (hek.cell 1) (fun hHeld => ?_)
    clear hK K
    try simp only [Act.put, List.getElem_toArray, List.getElem_cons_zero, List.getElem_cons_succ, List.setIfInBounds_toArray, List.set_cons_zero, List.set_cons_succ]
    refine wpAnyH_done (by kernel_rfl) ?_ _
    go_wp2_with fail
    go_meet
    exact ⟨_, rfl, hTs⟩
 obtain ⟨g3, rfl, hT⟩ := hcut
 obtain ⟨w3, hw3⟩ : ∃ z, z = wc := ⟨_, rfl⟩
 subst hw3
 have hTB := Lib.hid hT.below
 clear hS hk0 c0 c1
 have HF : Hid (∀ V, Below w3.heap.size w3 V → V.cell? ⟨g3, 0, none⟩ = some (.string ⟨#[114, 101, 102, 117, 115, 101, 100]⟩) ∧ V.cell? ⟨g3, 1, none⟩ = some (.bool true) ∧ V.cell? ⟨g3, 2, none⟩ = some (.bool false) ∧ V.cell? ⟨g3, 3, none⟩ = some (.bool true) ∧ V.cell? ⟨g3, 4, none⟩ = some (.bool false) ∧ V.cell? ⟨w.heap.size, 0, none⟩ = some (.int .i64 at_) ∧ V.cell? ⟨w.heap.size, 1, none⟩ = some (.int .i64 3) ∧ V.cell? ⟨w.heap.size, 2, none⟩ = some (.string id) ∧ V.cell? ⟨w.heap.size, 3, none⟩ = some (.string who) ∧ V.cell? ⟨w.heap.size, 4, none⟩ = some (.string by_) ∧ V.cell? ⟨w.heap.size, 5, none⟩ = some (.string cat) ∧ V.cell? ⟨w.heap.size, 6, none⟩ = some (.int .i64 ti) ∧ V.cell? ⟨w.heap.size, 7, none⟩ = some (.int .i64 da)) := Lib.hid (fun V h => by
  have q1 := (show Blk w3 g3 _ _ from hT.head).below h
  have q2 := (show Blk w3 w.heap.size _ _ from hT.nth 1 rfl).below h
  exact ⟨q1.cell 0, q1.cell 1, q1.cell 2, q1.cell 3, q1.cell 4, q2.cell 0, q2.cell 1, q2.cell 2, q2.cell 3, q2.cell 4, q2.cell 5, q2.cell 6, q2.cell 7⟩)
 have B0 : Below w3.heap.size w3 w3 := Below.refl _ _
 obtain ⟨x0, x1, x2, x3, x4, x5, x6, x7, x8, x9, x10, x11, x12⟩ := HF.out _ B0
 have D0 : Below w3.heap.size w3 (w3.alloc (.cells #[.int .i64 at_, .int .i64 3, .string ⟨#[]⟩, .string ⟨#[]⟩, .string ⟨#[]⟩, .string ⟨#[]⟩, .int .i64 0, .int .i64 0] 78)) := (Below.refl _ _).alloc (Nat.le_refl _) _
 obtain ⟨y0_0, y0_1, y0_2, y0_3, y0_4, y0_5, y0_6, y0_7, y0_8, y0_9, y0_10, y0_11, y0_12⟩ := HF.out _ D0
 have D1 : Below w3.heap.size w3 (w3.alloc (.cells #[.int .i64 at_, .int .i64 3, .string id, .string ⟨#[]⟩, .string ⟨#[]⟩, .string ⟨#[]⟩, .int .i64 0, .int .i64 0] 78)) := (Below.refl _ _).alloc (Nat.le_refl _) _
 obtain ⟨y1_0, y1_1, y1_2, y1_3, y1_4, y1_5, y1_6, y1_7, y1_8, y1_9, y1_10, y1_11, y1_12⟩ := HF.out _ D1
 have D2 : Below w3.heap.size w3 (w3.alloc (.cells #[.int .i64 at_, .int .i64 3, .string id, .string ⟨#[]⟩, .string by_, .string ⟨#[]⟩, .int .i64 0, .int .i64 0] 78)) := (Below.refl _ _).alloc (Nat.le_refl _) _
 obtain ⟨y2_0, y2_1, y2_2, y2_3, y2_4, y2_5, y2_6, y2_7, y2_8, y2_9, y2_10, y2_11, y2_12⟩ := HF.out _ D2
 have hn : Blk (w3.alloc (.cells #[.int .i64 at_, .int .i64 3, .string id, .string ⟨#[]⟩, .string by_, .string ⟨#[]⟩, .int .i64 0, .int .i64 0] 78)) w3.heap.size 78 #[.int .i64 at_, .int .i64 3, .string id, .string ⟨#[]⟩, .string by_, .string ⟨#[]⟩, .int .i64 0, .int .i64 0] := Blk.new w3 _ _
 have n0 := hn.cell 0
 have n1 := hn.cell 1
 have n2 := hn.cell 2
 have n3 := hn.cell 3
 have n4 := hn.cell 4
 have n5 := hn.cell 5
 have n6 := hn.cell 6
 have n7 := hn.cell 7
 clear hT
 go_upto_region 15 with (fail)
 go_cut [51] (fun s V => s = .bool NK ∧ Below w.heap.size w V ∧ V = w3.alloc (.cells #[.int .i64 at_, .int .i64 3, .string id, .string ⟨#[]⟩, .string by_, .string ⟨#[]⟩, .int .i64 0, .int .i64 0] 78))
 case first =>
  have HEND := Lib.hid (below_call hTB.out D2 (Nat.le_refl _))
  subst hNK
  clear hE
  cases KI <;> cases KB
  all_goals
   go_wp2_with (first | (go_at_call 103; (with_reducible refine (HKI.out _).mono ?_); rintro e w5 ⟨rfl, rfl⟩) | (go_at_call 103; (with_reducible refine (HKB.out _).mono ?_); rintro e w5 ⟨rfl, rfl⟩))
   go_meet
   exact ⟨rfl, HEND.out, rfl⟩
 obtain ⟨rfl, hbE, hwE⟩ := hcut
 subst hwE
 clear hNK HKI HKB
 have hSM := HSM.out
 cases NK
 · rw [if_neg (by decide)] at hE
   rw [if_neg (by simp)] at hE
   cases SM
   · rw [if_neg (by decide)] at hE
     subst hE
     go_wp2_with fail
     go_ret
     exact ⟨rfl, hbE⟩
   · rw [if_pos rfl] at hE
     subst hE
     go_wp2_with fail
     go_ret
     exact ⟨rfl, hbE⟩
 · rw [if_pos rfl] at hE
   subst hE
   clear hSM
   go_wp2_with fail
   go_ret
   exact ⟨rfl, hbE⟩
end Go.Proofs.YtapgnaimbgjcnaaGreatDoor
