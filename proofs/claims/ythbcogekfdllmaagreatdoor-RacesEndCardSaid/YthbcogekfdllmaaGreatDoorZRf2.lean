/-
  race.(*field).before and after by contracts: they answer as befP and aftP. (Printed by gen_rf2.py.)
-/
import Derived.Test.YthbcogekfdllmaaGreatDoorZRf1
namespace Go.Proofs.YthbcogekfdllmaaGreatDoor
open Go Go.RowKit
attribute [local go_sem ↓] Go.wp_at_zero Go.wp_at_succ

/-- what a look-up of somebody answers -/
theorem ent_look (F : PF) (hK : KF F) (who : ByteArray) : ∃ (hs : ByteArray) (ha : Int), (rfF F who).getD (.agg #[.string ⟨#[]⟩, .int .i64 0]) = .agg #[.string hs, .int .i64 ha] ∧ hs.size ≤ 5 ∧
    ∀ c, c ≤ 4 → decide (hs = hwB c) = decide (hwP F who = some c) := by
  cases he : F.en who with
  | none =>
    refine ⟨⟨#[]⟩, 0, by unfold rfF; rw [he]; rfl, by decide, fun c hc => ?_⟩
    rw [decide_eq_false (fun h => hwB_ne c h.symm), decide_eq_false (by unfold hwP; rw [he]; intro h; cases h)]
  | some v =>
    obtain ⟨d, b⟩ := v
    have hP : hwP F who = some d := by unfold hwP; rw [he]; rfl
    refine ⟨hwB d, b, by unfold rfF; rw [he]; rfl, hwB_size d, fun c hc => ?_⟩
    have hd := hK.c4 who d hP
    rw [hP]
    by_cases e : d = c
    · subst e; rw [decide_eq_true rfl, decide_eq_true rfl]
    · rw [decide_eq_false (fun h => e (hwB_inj hd hc h)), decide_eq_false (fun h => e (Option.some.inj h))]
theorem MapS.deleteA {w : World} {kt t e : TypeId} {b n : Nat} {f : ByteArray → Option Value} (h : MapS w kt b n f) (hk : Tryz.prog.underlying kt = some .string) (ht : Tryz.prog.underlying t = some (.map kt e)) {s : ByteArray} (hs : s.size ≤ maxLen) :
    ∃ w', (∀ ty, (Builtin.delete_ #[t, kt] ty #[.map (some b), .string s]).run Tryz.prog w = .ok (.tuple #[]) w') ∧ MapS w' kt b n (delM f s) ∧ w.grownBy w' (some b) := by
  obtain ⟨w', h1, h2⟩ := h.delete hk ht hs 0
  exact ⟨w', fun ty => h1, h2⟩

set_option maxRecDepth 100000 in
set_option maxHeartbeats 4000000 in
theorem before_calls (w0 : World) (g m n : Nat) (F : PF) (l : List Rsc) (at_ kd : Int) (who : ByteArray) (w : World) (hS : Sq w0 w (fldL g m n F l)) (hK : KF F) (hn : n ≤ 100000) (hz : who.size ≤ 40) (hkd : 1 ≤ kd ∧ kd ≤ 8) :
    Calls Tryz.prog 112 #[.pointer (some ⟨g, 0, none⟩), .agg #[.int .i64 at_, .int .i64 kd, .string who]] w (FldR w0 g n F (befP F ⟨at_, kd, who⟩) l) := by
  obtain ⟨o, ho⟩ : ∃ o, o = befP F ⟨at_, kd, who⟩ := ⟨_, rfl⟩
  rw [← ho]
  obtain ⟨st, hst⟩ : ∃ st, F.st = st := ⟨_, rfl⟩
  obtain ⟨a0, ha0⟩ : ∃ a0, F.at0 = a0 := ⟨_, rfl⟩
  obtain ⟨hs, ha, hgd, hsz, HW⟩ := ent_look F hK who
  have HW := Lib.hid HW
  have hB0 := (litB hs [101, 110, 116, 101, 114] (hwB 0) rfl).trans (HW.out 0 (by decide))
  have hB1 := (litB hs [114, 101, 97, 100, 121] (hwB 1) rfl).trans (HW.out 1 (by decide))
  have hB2 := (litB hs [114, 97, 99, 101] (hwB 2) rfl).trans (HW.out 2 (by decide))
  obtain ⟨ib, hib⟩ : ∃ ib, (hwP F who).isSome = ib := ⟨_, rfl⟩
  obtain ⟨b0, hb0⟩ : ∃ b, decide (hwP F who = some 0) = b := ⟨_, rfl⟩
  obtain ⟨b1, hb1⟩ : ∃ b, decide (hwP F who = some 1) = b := ⟨_, rfl⟩
  obtain ⟨b2, hb2⟩ : ∃ b, decide (hwP F who = some 2) = b := ⟨_, rfl⟩
  rw [hb0] at hB0
  rw [hb1] at hB1
  rw [hb2] at hB2
  have HO := Lib.hid ho
  have HST : Hid (F.st = st) := hst
  have HIB := Lib.hid hib
  have HB0 : Hid ((hwP F who = some 0) ↔ b0 = true) := Lib.hid (by rw [← hb0]; simp)
  have HB1 : Hid ((hwP F who = some 1) ↔ b1 = true) := Lib.hid (by rw [← hb1]; simp)
  have HB2 : Hid ((hwP F who = some 2) ↔ b2 = true) := Lib.hid (by rw [← hb2]; simp)
  have HKF := Lib.hid hK
  unfold fldL at hS
  rw [hst, ha0] at hS
  have hM0 : MapS w 9 m n (rfF F) := hS.nth 1 rfl
  have hgl : g < w.heap.size := Blk.lt (show Blk w g _ _ from hS.nth 0 rfl)
  have hml := hM0.lt
  have hL : ∀ W, Below w.heap.size w W → (Instr.lookup 116 (.map (some m)) (.string who) true).run Tryz.prog W = .ok (.tuple #[.agg #[.string hs, .int .i64 ha], .bool ib]) W := fun W h => by
    have h1 := (hM0.below h).lookOk (t := 116) (e := 124) Tryz.underlying9 Tryz.underlying116 (zero_ent W) (s := who) (by unfold maxLen; omega)
    rw [hgd, rfF_isSome, ← hwP_isSome, hib] at h1
    exact h1
  obtain ⟨gx, hgx⟩ : ∃ gx, gx = w.heap.size := ⟨_, rfl⟩
  have hS1 := hS.add #[.int .i64 at_, .int .i64 kd, .string who] 34
  have hS2 := (hS1.add #[.string hs, .int .i64 ha] 124).drew
  simp only [size1] at hS2
  obtain ⟨w1, hw1⟩ : ∃ W, w.alloc (.cells #[.int .i64 at_, .int .i64 kd, .string who] 34) = W := ⟨_, rfl⟩
  have hz1 : w1.heap.size = w.heap.size + 1 := by rw [← hw1]; simp
  have hbw1 : Below w.heap.size w w1 := by rw [← hw1]; exact (Below.refl _ _).alloc (Nat.le_refl _) _
  rw [hw1] at hS1 hS2
  have bx : Blk w1 w.heap.size 34 #[.int .i64 at_, .int .i64 kd, .string who] := hS1.nth 0 rfl
  have bg : Blk w1 g 118 #[.map (some m), .bool st, .int .i64 a0] := hS1.nth 1 rfl
  have HSP : Hid (∀ W, Below w1.heap.size w1 W → W.cell? ⟨g, 0, none⟩ = some (.map (some m)) ∧ W.cell? ⟨gx, 2, none⟩ = some (.string who) ∧ (Instr.lookup 116 (.map (some m)) (.string who) true).run Tryz.prog W = .ok (.tuple #[.agg #[.string hs, .int .i64 ha], .bool ib]) W) := fun W hW => by
    refine ⟨(bg.below hW).cell 0, ?_, hL W (below_call hbw1 hW (by omega))⟩
    rw [hgx]
    exact (bx.below hW).cell 2
  have hdr : Below w1.heap.size w1 w1.drew := below_drewN (Below.refl _ _) 1
  have hge : ¬ g = gx := by omega
  have hge2 : ¬ gx = g := by omega
  have hge3 : ¬ g = gx + 1 := by omega
  rw [← hgx] at hS2 hz1
  clear hS hL hM0 hgd ho hib hb0 hb1 hb2 hK bx bg hS1 hbw1
  go_enter Tryz.func112, Tryz.ntmps112
  go_upto_region 1 with (fail)
  rw [← hgx]
  clear hw1 hgx
  go_wp2_with fail
  go_region_held3 (fun W => W.cell? ⟨g, 0, none⟩ = some (.map (some m)) ∧ W.cell? ⟨gx, 2, none⟩ = some (.string who) ∧ (Instr.lookup 116 (.map (some m)) (.string who) true).run Tryz.prog W = .ok (.tuple #[.agg #[.string hs, .int .i64 ha], .bool ib]) W)
    (first | exact HSP.out _ hdr | exact HSP.out _ (below_drewN ((Below.refl _ _).alloc (Nat.le_refl _) _) 1) | exact HSP.out _ (hdr.alloc (Nat.le_refl _) _)) (fail)
  all_goals
    obtain ⟨w2, hw2, hS3⟩ : ∃ W, W = _ ∧ Sq w0 W (rBlk (gx + 1) 124 #[.string hs, .int .i64 ha] :: rBlk gx 34 #[.int .i64 at_, .int .i64 kd, .string who] :: rBlk g 118 #[.map (some m), .bool st, .int .i64 a0] :: rMap 9 m n (rfF F) :: l) := ⟨_, rfl, hS2⟩
    rw [← hw2]
    clear hw2 hS2 HSP hdr
    have hS2 := hS3
    clear hS3
    have hbe : Blk w2 (gx + 1) 124 #[.string hs, .int .i64 ha] := hS2.nth 0 rfl
    have hbx : Blk w2 gx 34 #[.int .i64 at_, .int .i64 kd, .string who] := hS2.nth 1 rfl
    have hbg : Blk w2 g 118 #[.map (some m), .bool st, .int .i64 a0] := hS2.nth 2 rfl
    have e0 := hbe.cell 0
    have x0 := hbx.cell 0
    have x1 := hbx.cell 1
    have x2 := hbx.cell 2
    have s0 := hbg.cell 0
    have s2 := hbg.cell 2
    have HKP : Hid (∀ W r, Sq w0 W (r :: rBlk (gx + 1) 124 #[.string hs, .int .i64 ha] :: rBlk gx 34 #[.int .i64 at_, .int .i64 kd, .string who] :: rBlk g 118 #[.map (some m), .bool st, .int .i64 a0] :: l) → W.cell? ⟨g, 0, none⟩ = some (.map (some m)) ∧ W.cell? ⟨gx, 2, none⟩ = some (.string who) ∧ W.cell? ⟨gx, 0, none⟩ = some (.int .i64 at_)) := Lib.hid (fun W r h => by
      have h1 : Blk W gx 34 #[.int .i64 at_, .int .i64 kd, .string who] := h.nth 2 rfl
      have h2 : Blk W g 118 #[.map (some m), .bool st, .int .i64 a0] := h.nth 3 rfl
      exact ⟨h2.cell 0, h1.cell 2, h1.cell 0⟩)
    clear hbe hbx hbg
    rcases (show kd = 1 ∨ kd = 2 ∨ kd = 3 ∨ kd = 4 ∨ kd = 5 ∨ (kd = 6 ∨ kd = 7 ∨ kd = 8) by omega) with rfl | rfl | rfl | rfl | rfl | hk678
    · have HE : Hid (o = if (hwP F who).isSome = true ∨ 128 ≤ F.ks.length then none else some (addP F who)) := Lib.hid (HO.out.trans (by unfold befP; simp only [↓reduceIte]))
      cases ib
      · have hM2 : MapS w2 9 m n (rfF F) := hS2.nth 3 rfl
        have L1 := (MapS.size_eq Tryz.underlying9 hM2 HKF.out.keys).2 116 124 3 Tryz.underlying116
        obtain ⟨d, hd⟩ : ∃ d, F.ks.length = d := ⟨_, rfl⟩
        rw [hd] at L1
        have HD := Lib.hid hd
        clear hM2 hd
        by_cases h128 : 128 ≤ d
        · have h128i : (128 : Int) ≤ (d : Int) := by omega
          have HFI : Hid (FldR w0 g n F o l (.returned (.bool false)) w2) := Lib.hid (fld_no (m := m) (HE.out.trans (if_pos (.inr (by rw [HD.out]; exact h128)))) (by unfold fldL; rw [hst, ha0]; exact (hS2.drop 0 rfl rfl).drop 0 rfl rfl))
          clear hS2 hst ha0
          go_wp2_with fail
          go_ret
          exact HFI.out
        · have h128i : ¬ (128 : Int) ≤ (d : Int) := by omega
          obtain ⟨w6, hput, hS6⟩ := fld_put ((hS2.drew).front 3 rfl rfl) (by omega) (s := who) (by omega) (.agg #[.string ⟨#[101, 110, 116, 101, 114]⟩, .int .i64 0])
          have HFI : Hid (FldR w0 g n F o l (.returned (.bool true)) w6) := Lib.hid (fld_yes (m := m) (F' := addP F who) (HE.out.trans (if_neg (by rw [HIB.out, HD.out]; simp only [Bool.false_eq_true, false_or]; exact h128))) (by
            unfold fldL
            rw [← rfF_add]
            show Sq w0 w6 (rBlk g 118 #[.map (some m), .bool F.st, .int .i64 F.at0] :: _)
            rw [hst, ha0]
            exact ((hS6.drop 1 rfl rfl).drop 1 rfl rfl).front 1 rfl rfl))
          have HK6 := HKP.out _ _ hS6
          clear hS6 hS2 hst ha0
          go_wp2_with fail
          go_region_held3 (fun W => W.cell? ⟨g, 0, none⟩ = some (.map (some m)) ∧ W.cell? ⟨gx, 2, none⟩ = some (.string who) ∧ W.cell? ⟨gx, 0, none⟩ = some (.int .i64 at_))
            (first | go_keep | exact HK6) (fail)
          all_goals (go_wp2_with fail; go_ret; exact HFI.out)
      · have HFI : Hid (FldR w0 g n F o l (.returned (.bool false)) w2) := Lib.hid (fld_no (m := m) (HE.out.trans (if_pos (.inl HIB.out))) (by unfold fldL; rw [hst, ha0]; exact (hS2.drop 0 rfl rfl).drop 0 rfl rfl))
        clear hS2 hst ha0
        go_wp2_with fail
        go_ret
        exact HFI.out
    · have HE : Hid (o = if hwP F who = some 0 then some (setP F who (1, 0)) else none) := Lib.hid (HO.out.trans (by unfold befP; simp only [Int.reduceEq, ↓reduceIte]))
      cases b0
      · cases ib
        · have HFI : Hid (FldR w0 g n F o l (.returned (.bool false)) w2) := Lib.hid (fld_no (m := m) (HE.out.trans (if_neg (fun h => by have := HB0.out.1 h; cases this))) (by unfold fldL; rw [hst, ha0]; exact (hS2.drop 0 rfl rfl).drop 0 rfl rfl))
          clear hS2 hst ha0
          go_wp2_with fail
          go_ret
          exact HFI.out
        · have HFI : Hid (FldR w0 g n F o l (.returned (.bool false)) w2) := Lib.hid (fld_no (m := m) (HE.out.trans (if_neg (fun h => by have := HB0.out.1 h; cases this))) (by unfold fldL; rw [hst, ha0]; exact (hS2.drop 0 rfl rfl).drop 0 rfl rfl))
          clear hS2 hst ha0
          go_wp2_with fail
          go_ret
          exact HFI.out
      · have hP := HB0.out.2 rfl
        obtain rfl : ib = true := by rw [← HIB.out, hP]; rfl
        have HP := Lib.hid hP
        clear hP
        obtain ⟨w6, hput, hS6⟩ := fld_put ((hS2.drew).front 3 rfl rfl) (by omega) (s := who) (by omega) (.agg #[.string ⟨#[114, 101, 97, 100, 121]⟩, .int .i64 0])
        have HFI : Hid (FldR w0 g n F o l (.returned (.bool true)) w6) := Lib.hid (fld_yes (m := m) (F' := setP F who (1, 0)) (HE.out.trans (if_pos HP.out)) (by
          unfold fldL
          rw [← rfF_set]
          show Sq w0 w6 (rBlk g 118 #[.map (some m), .bool F.st, .int .i64 F.at0] :: _)
          rw [hst, ha0]
          exact ((hS6.drop 1 rfl rfl).drop 1 rfl rfl).front 1 rfl rfl))
        have HK6 := HKP.out _ _ hS6
        clear hS6 hS2 hst ha0
        go_wp2_with fail
        go_region_held3 (fun W => W.cell? ⟨g, 0, none⟩ = some (.map (some m)) ∧ W.cell? ⟨gx, 2, none⟩ = some (.string who) ∧ W.cell? ⟨gx, 0, none⟩ = some (.int .i64 at_))
          (first | go_keep | exact HK6) (fail)
        all_goals (go_wp2_with fail; go_ret; exact HFI.out)
    · have HE : Hid (o = if hwP F who = some 1 then some (setP F who (0, 0)) else none) := Lib.hid (HO.out.trans (by unfold befP; simp only [Int.reduceEq, ↓reduceIte]))
      cases b1
      · cases ib
        · have HFI : Hid (FldR w0 g n F o l (.returned (.bool false)) w2) := Lib.hid (fld_no (m := m) (HE.out.trans (if_neg (fun h => by have := HB1.out.1 h; cases this))) (by unfold fldL; rw [hst, ha0]; exact (hS2.drop 0 rfl rfl).drop 0 rfl rfl))
          clear hS2 hst ha0
          go_wp2_with fail
          go_ret
          exact HFI.out
        · have HFI : Hid (FldR w0 g n F o l (.returned (.bool false)) w2) := Lib.hid (fld_no (m := m) (HE.out.trans (if_neg (fun h => by have := HB1.out.1 h; cases this))) (by unfold fldL; rw [hst, ha0]; exact (hS2.drop 0 rfl rfl).drop 0 rfl rfl))
          clear hS2 hst ha0
          go_wp2_with fail
          go_ret
          exact HFI.out
      · have hP := HB1.out.2 rfl
        obtain rfl : ib = true := by rw [← HIB.out, hP]; rfl
        have HP := Lib.hid hP
        clear hP
        obtain ⟨w6, hput, hS6⟩ := fld_put ((hS2.drew).front 3 rfl rfl) (by omega) (s := who) (by omega) (.agg #[.string ⟨#[101, 110, 116, 101, 114]⟩, .int .i64 0])
        have HFI : Hid (FldR w0 g n F o l (.returned (.bool true)) w6) := Lib.hid (fld_yes (m := m) (F' := setP F who (0, 0)) (HE.out.trans (if_pos HP.out)) (by
          unfold fldL
          rw [← rfF_set]
          show Sq w0 w6 (rBlk g 118 #[.map (some m), .bool F.st, .int .i64 F.at0] :: _)
          rw [hst, ha0]
          exact ((hS6.drop 1 rfl rfl).drop 1 rfl rfl).front 1 rfl rfl))
        have HK6 := HKP.out _ _ hS6
        clear hS6 hS2 hst ha0
        go_wp2_with fail
        go_region_held3 (fun W => W.cell? ⟨g, 0, none⟩ = some (.map (some m)) ∧ W.cell? ⟨gx, 2, none⟩ = some (.string who) ∧ W.cell? ⟨gx, 0, none⟩ = some (.int .i64 at_))
          (first | go_keep | exact HK6) (fail)
        all_goals (go_wp2_with fail; go_ret; exact HFI.out)
    · have HE : Hid (o = if (hwP F who).isSome = true then some (rDel F who) else none) := Lib.hid (HO.out.trans (by unfold befP; simp only [Int.reduceEq, ↓reduceIte]))
      cases ib
      · have HFI : Hid (FldR w0 g n F o l (.returned (.bool false)) w2) := Lib.hid (fld_no (m := m) (HE.out.trans (if_neg (by rw [HIB.out]; decide))) (by unfold fldL; rw [hst, ha0]; exact (hS2.drop 0 rfl rfl).drop 0 rfl rfl))
        clear hS2 hst ha0
        go_wp2_with fail
        go_ret
        exact HFI.out
      · have hM2 : MapS w2.drew 9 m n (rfF F) := (hS2.drew).nth 3 rfl
        obtain ⟨w6, hdel, hm6, hg6⟩ := hM2.deleteA (t := 116) (e := 124) Tryz.underlying9 Tryz.underlying116 (s := who) (by unfold maxLen; omega)
        have hS6 := ((hS2.drew).front 3 rfl rfl).mapDel hm6 hg6
        have HFI : Hid (FldR w0 g n F o l (.returned (.bool true)) w6) := Lib.hid (fld_yes (m := m) (F' := rDel F who) (HE.out.trans (if_pos HIB.out)) (by
          unfold fldL
          rw [← rfF_del]
          show Sq w0 w6 (rBlk g 118 #[.map (some m), .bool F.st, .int .i64 F.at0] :: _)
          rw [hst, ha0]
          exact (rMap_more ((hS6.drop 1 rfl rfl).drop 1 rfl rfl) (Nat.le_succ n)).front 1 rfl rfl))
        have HK6 := HKP.out _ _ hS6
        clear hS6 hS2 hst ha0 hM2 hm6 hg6
        go_wp2_with fail
        go_region_held3 (fun W => W.cell? ⟨g, 0, none⟩ = some (.map (some m)) ∧ W.cell? ⟨gx, 2, none⟩ = some (.string who) ∧ W.cell? ⟨gx, 0, none⟩ = some (.int .i64 at_))
          (first | go_keep | exact HK6) (fail)
        all_goals (go_wp2_with fail; go_ret; exact HFI.out)
    · have HE : Hid (o = if (rdyP F).length < 2 then none else some (goP F at_)) := Lib.hid (HO.out.trans (by unfold befP; simp only [Int.reduceEq, ↓reduceIte]))
      have HBG := Lib.hid (begin_calls w0 g m n F l at_ w2 (by unfold fldL; rw [hst, ha0]; exact (hS2.drop 0 rfl rfl).drop 0 rfl rfl) HKF.out hn)
      rw [← HE.out] at HBG
      clear hS2 hst ha0
      go_wp2_with fail
      refine HBG.out.mono ?_
      rintro e w3 ⟨m3, rfl, hS3⟩
      go_wp2_with fail
      go_ret
      exact ⟨m3, rfl, hS3⟩
    · have HE : Hid (o = none) := Lib.hid (HO.out.trans (by unfold befP; rcases hk678 with rfl | rfl | rfl <;> simp only [Int.reduceEq, ↓reduceIte]))
      rcases hk678 with rfl | rfl | rfl
      · have HFI : Hid (FldR w0 g n F o l (.returned (.bool false)) w2) := Lib.hid (fld_no (m := m) (HE.out) (by unfold fldL; rw [hst, ha0]; exact (hS2.drop 0 rfl rfl).drop 0 rfl rfl))
        clear hS2 hst ha0
        go_wp2_with fail
        go_ret
        exact HFI.out
      · have HFI : Hid (FldR w0 g n F o l (.returned (.bool false)) w2) := Lib.hid (fld_no (m := m) (HE.out) (by unfold fldL; rw [hst, ha0]; exact (hS2.drop 0 rfl rfl).drop 0 rfl rfl))
        clear hS2 hst ha0
        go_wp2_with fail
        go_ret
        exact HFI.out
      · have HFI : Hid (FldR w0 g n F o l (.returned (.bool false)) w2) := Lib.hid (fld_no (m := m) (HE.out) (by unfold fldL; rw [hst, ha0]; exact (hS2.drop 0 rfl rfl).drop 0 rfl rfl))
        clear hS2 hst ha0
        go_wp2_with fail
        go_ret
        exact HFI.out
set_option maxRecDepth 100000 in
set_option maxHeartbeats 4000000 in
theorem after_calls (w0 : World) (g m n : Nat) (F : PF) (l : List Rsc) (at_ kd : Int) (who : ByteArray) (w : World) (hS : Sq w0 w (fldL g m n F l)) (hK : KF F) (hn : n ≤ 100000) (hz : who.size ≤ 40) (hkd : 1 ≤ kd ∧ kd ≤ 8) :
    Calls Tryz.prog 111 #[.pointer (some ⟨g, 0, none⟩), .agg #[.int .i64 at_, .int .i64 kd, .string who]] w (FldR w0 g n F (aftP F ⟨at_, kd, who⟩) l) := by
  obtain ⟨o, ho⟩ : ∃ o, o = aftP F ⟨at_, kd, who⟩ := ⟨_, rfl⟩
  rw [← ho]
  obtain ⟨st, hst⟩ : ∃ st, F.st = st := ⟨_, rfl⟩
  obtain ⟨a0, ha0⟩ : ∃ a0, F.at0 = a0 := ⟨_, rfl⟩
  obtain ⟨hs, ha, hgd, hsz, HW⟩ := ent_look F hK who
  have HW := Lib.hid HW
  have hB0 := (litB hs [101, 110, 116, 101, 114] (hwB 0) rfl).trans (HW.out 0 (by decide))
  have hB1 := (litB hs [114, 101, 97, 100, 121] (hwB 1) rfl).trans (HW.out 1 (by decide))
  have hB2 := (litB hs [114, 97, 99, 101] (hwB 2) rfl).trans (HW.out 2 (by decide))
  obtain ⟨ib, hib⟩ : ∃ ib, (hwP F who).isSome = ib := ⟨_, rfl⟩
  obtain ⟨b0, hb0⟩ : ∃ b, decide (hwP F who = some 0) = b := ⟨_, rfl⟩
  obtain ⟨b1, hb1⟩ : ∃ b, decide (hwP F who = some 1) = b := ⟨_, rfl⟩
  obtain ⟨b2, hb2⟩ : ∃ b, decide (hwP F who = some 2) = b := ⟨_, rfl⟩
  rw [hb0] at hB0
  rw [hb1] at hB1
  rw [hb2] at hB2
  have HO := Lib.hid ho
  have HST : Hid (F.st = st) := hst
  have HIB := Lib.hid hib
  have HB0 : Hid ((hwP F who = some 0) ↔ b0 = true) := Lib.hid (by rw [← hb0]; simp)
  have HB1 : Hid ((hwP F who = some 1) ↔ b1 = true) := Lib.hid (by rw [← hb1]; simp)
  have HB2 : Hid ((hwP F who = some 2) ↔ b2 = true) := Lib.hid (by rw [← hb2]; simp)
  have HKF := Lib.hid hK
  unfold fldL at hS
  rw [hst, ha0] at hS
  have hM0 : MapS w 9 m n (rfF F) := hS.nth 1 rfl
  have hgl : g < w.heap.size := Blk.lt (show Blk w g _ _ from hS.nth 0 rfl)
  have hml := hM0.lt
  have hL : ∀ W, Below w.heap.size w W → (Instr.lookup 116 (.map (some m)) (.string who) true).run Tryz.prog W = .ok (.tuple #[.agg #[.string hs, .int .i64 ha], .bool ib]) W := fun W h => by
    have h1 := (hM0.below h).lookOk (t := 116) (e := 124) Tryz.underlying9 Tryz.underlying116 (zero_ent W) (s := who) (by unfold maxLen; omega)
    rw [hgd, rfF_isSome, ← hwP_isSome, hib] at h1
    exact h1
  obtain ⟨gx, hgx⟩ : ∃ gx, gx = w.heap.size := ⟨_, rfl⟩
  have hS1 := hS.add #[.int .i64 at_, .int .i64 kd, .string who] 34
  have hS2 := (hS1.add #[.string hs, .int .i64 ha] 124).drew
  simp only [size1] at hS2
  obtain ⟨w1, hw1⟩ : ∃ W, w.alloc (.cells #[.int .i64 at_, .int .i64 kd, .string who] 34) = W := ⟨_, rfl⟩
  have hz1 : w1.heap.size = w.heap.size + 1 := by rw [← hw1]; simp
  have hbw1 : Below w.heap.size w w1 := by rw [← hw1]; exact (Below.refl _ _).alloc (Nat.le_refl _) _
  rw [hw1] at hS1 hS2
  have bx : Blk w1 w.heap.size 34 #[.int .i64 at_, .int .i64 kd, .string who] := hS1.nth 0 rfl
  have bg : Blk w1 g 118 #[.map (some m), .bool st, .int .i64 a0] := hS1.nth 1 rfl
  have HSP : Hid (∀ W, Below w1.heap.size w1 W → W.cell? ⟨g, 0, none⟩ = some (.map (some m)) ∧ W.cell? ⟨gx, 2, none⟩ = some (.string who) ∧ (Instr.lookup 116 (.map (some m)) (.string who) true).run Tryz.prog W = .ok (.tuple #[.agg #[.string hs, .int .i64 ha], .bool ib]) W) := fun W hW => by
    refine ⟨(bg.below hW).cell 0, ?_, hL W (below_call hbw1 hW (by omega))⟩
    rw [hgx]
    exact (bx.below hW).cell 2
  have hdr : Below w1.heap.size w1 w1.drew := below_drewN (Below.refl _ _) 1
  have hge : ¬ g = gx := by omega
  have hge2 : ¬ gx = g := by omega
  have hge3 : ¬ g = gx + 1 := by omega
  rw [← hgx] at hS2 hz1
  clear hS hL hM0 hgd ho hib hb0 hb1 hb2 hK bx bg hS1 hbw1
  go_enter Tryz.func111, Tryz.ntmps111
  go_upto_region 1 with (fail)
  rw [← hgx]
  clear hw1 hgx
  go_wp2_with fail
  go_region_held3 (fun W => W.cell? ⟨g, 0, none⟩ = some (.map (some m)) ∧ W.cell? ⟨gx, 2, none⟩ = some (.string who) ∧ (Instr.lookup 116 (.map (some m)) (.string who) true).run Tryz.prog W = .ok (.tuple #[.agg #[.string hs, .int .i64 ha], .bool ib]) W)
    (first | exact HSP.out _ hdr | exact HSP.out _ (below_drewN ((Below.refl _ _).alloc (Nat.le_refl _) _) 1) | exact HSP.out _ (hdr.alloc (Nat.le_refl _) _)) (fail)
  all_goals
    obtain ⟨w2, hw2, hS3⟩ : ∃ W, W = _ ∧ Sq w0 W (rBlk (gx + 1) 124 #[.string hs, .int .i64 ha] :: rBlk gx 34 #[.int .i64 at_, .int .i64 kd, .string who] :: rBlk g 118 #[.map (some m), .bool st, .int .i64 a0] :: rMap 9 m n (rfF F) :: l) := ⟨_, rfl, hS2⟩
    rw [← hw2]
    clear hw2 hS2 HSP hdr
    have hS2 := hS3
    clear hS3
    have hbe : Blk w2 (gx + 1) 124 #[.string hs, .int .i64 ha] := hS2.nth 0 rfl
    have hbx : Blk w2 gx 34 #[.int .i64 at_, .int .i64 kd, .string who] := hS2.nth 1 rfl
    have hbg : Blk w2 g 118 #[.map (some m), .bool st, .int .i64 a0] := hS2.nth 2 rfl
    have e0 := hbe.cell 0
    have x0 := hbx.cell 0
    have x1 := hbx.cell 1
    have x2 := hbx.cell 2
    have s0 := hbg.cell 0
    have s2 := hbg.cell 2
    have HKP : Hid (∀ W r, Sq w0 W (r :: rBlk (gx + 1) 124 #[.string hs, .int .i64 ha] :: rBlk gx 34 #[.int .i64 at_, .int .i64 kd, .string who] :: rBlk g 118 #[.map (some m), .bool st, .int .i64 a0] :: l) → W.cell? ⟨g, 0, none⟩ = some (.map (some m)) ∧ W.cell? ⟨gx, 2, none⟩ = some (.string who) ∧ W.cell? ⟨gx, 0, none⟩ = some (.int .i64 at_)) := Lib.hid (fun W r h => by
      have h1 : Blk W gx 34 #[.int .i64 at_, .int .i64 kd, .string who] := h.nth 2 rfl
      have h2 : Blk W g 118 #[.map (some m), .bool st, .int .i64 a0] := h.nth 3 rfl
      exact ⟨h2.cell 0, h1.cell 2, h1.cell 0⟩)
    clear hbe hbx hbg
    cases ib
    · have HE : Hid (o = none) := Lib.hid (HO.out.trans (by unfold aftP; rw [if_pos (by have := HIB.out; cases h : hwP F who with | none => rfl | some c => rw [h] at this; cases this)]))
      have HFI : Hid (FldR w0 g n F o l (.returned (.bool false)) w2) := Lib.hid (fld_no (m := m) (HE.out) (by unfold fldL; rw [hst, ha0]; exact (hS2.drop 0 rfl rfl).drop 0 rfl rfl))
      clear hS2 hst ha0
      go_wp2_with fail
      go_ret
      exact HFI.out
    · have HN : Hid (¬ hwP F who = none) := Lib.hid (fun h => by have := HIB.out; rw [h] at this; cases this)
      go_upto_region 5 with (fail)
      go_cut [20] (fun s W => ∃ B : Bool, s = .bool B ∧ Hid (B = true ↔ kd = 6 ∧ b2 = true ∧ a0 < at_) ∧ Sq w0 W (rBlk (gx + 1) 124 #[.string hs, .int .i64 ha] :: rBlk gx 34 #[.int .i64 at_, .int .i64 kd, .string who] :: rBlk g 118 #[.map (some m), .bool st, .int .i64 a0] :: rMap 9 m n (rfF F) :: l))
      case first =>
        have HDR := Lib.hid (fun q => hS2.drewN q)
        clear hS2
        by_cases h6 : kd = 6
        · subst h6
          cases b2
          · go_wp2_with fail
            go_quiet (fail)
            go_wp2_with fail
            go_meet
            exact ⟨false, rfl, Lib.hid ⟨fun h => (by cases h), fun h => (by cases h.2.1)⟩, HDR.out _⟩
          · go_wp2_with fail
            go_quiet (fail)
            go_wp2_with fail
            go_meet
            exact ⟨decide (a0 < at_), rfl, Lib.hid (by simp), HDR.out _⟩
        · have h6b : (kd == 6) = false := by simpa using h6
          go_wp2_with fail
          go_quiet (fail)
          go_wp2_with fail
          go_meet
          exact ⟨false, rfl, Lib.hid ⟨fun h => (by cases h), fun h => absurd h.1 h6⟩, HDR.out _⟩
      case rest =>
        obtain ⟨B, rfl, HB, hS3⟩ := hcut
        clear hS2 e0 x0 x1 x2 s0 s2
        obtain ⟨w2, hw2⟩ : ∃ z, z = wc := ⟨_, rfl⟩
        subst hw2
        have hS2 := hS3
        clear hS3
        have hbe : Blk w2 (gx + 1) 124 #[.string hs, .int .i64 ha] := hS2.nth 0 rfl
        have hbx : Blk w2 gx 34 #[.int .i64 at_, .int .i64 kd, .string who] := hS2.nth 1 rfl
        have hbg : Blk w2 g 118 #[.map (some m), .bool st, .int .i64 a0] := hS2.nth 2 rfl
        have e0 := hbe.cell 0
        have x0 := hbx.cell 0
        have x1 := hbx.cell 1
        have x2 := hbx.cell 2
        have s0 := hbg.cell 0
        clear hbe hbx hbg
        cases B
        · have HNB : Hid (¬ (kd = 6 ∧ hwP F who = some 2 ∧ F.at0 < at_)) := Lib.hid (fun h => by have := HB.out.2 ⟨h.1, HB2.out.1 h.2.1, by rw [← ha0]; exact h.2.2⟩; cases this)
          rcases (show (kd = 1 ∨ kd = 2 ∨ kd = 3 ∨ kd = 4 ∨ kd = 5 ∨ kd = 6) ∨ kd = 7 ∨ kd = 8 by omega) with hk15 | rfl | rfl
          · have HE : Hid (o = none) := Lib.hid (HO.out.trans (by unfold aftP; rw [if_neg HN.out, if_neg HNB.out, if_neg (fun h => by have h1 : kd = 7 := h.1; omega), if_neg (fun h => by have h1 : kd = 8 := h.1; omega)]))
            rcases hk15 with rfl | rfl | rfl | rfl | rfl | rfl
            · have HFI : Hid (FldR w0 g n F o l (.returned (.bool false)) w2) := Lib.hid (fld_no (m := m) (HE.out) (by unfold fldL; rw [hst, ha0]; exact (hS2.drop 0 rfl rfl).drop 0 rfl rfl))
              clear hS2 hst ha0
              go_wp2_with fail
              go_ret
              exact HFI.out
            · have HFI : Hid (FldR w0 g n F o l (.returned (.bool false)) w2) := Lib.hid (fld_no (m := m) (HE.out) (by unfold fldL; rw [hst, ha0]; exact (hS2.drop 0 rfl rfl).drop 0 rfl rfl))
              clear hS2 hst ha0
              go_wp2_with fail
              go_ret
              exact HFI.out
            · have HFI : Hid (FldR w0 g n F o l (.returned (.bool false)) w2) := Lib.hid (fld_no (m := m) (HE.out) (by unfold fldL; rw [hst, ha0]; exact (hS2.drop 0 rfl rfl).drop 0 rfl rfl))
              clear hS2 hst ha0
              go_wp2_with fail
              go_ret
              exact HFI.out
            · have HFI : Hid (FldR w0 g n F o l (.returned (.bool false)) w2) := Lib.hid (fld_no (m := m) (HE.out) (by unfold fldL; rw [hst, ha0]; exact (hS2.drop 0 rfl rfl).drop 0 rfl rfl))
              clear hS2 hst ha0
              go_wp2_with fail
              go_ret
              exact HFI.out
            · have HFI : Hid (FldR w0 g n F o l (.returned (.bool false)) w2) := Lib.hid (fld_no (m := m) (HE.out) (by unfold fldL; rw [hst, ha0]; exact (hS2.drop 0 rfl rfl).drop 0 rfl rfl))
              clear hS2 hst ha0
              go_wp2_with fail
              go_ret
              exact HFI.out
            · have HFI : Hid (FldR w0 g n F o l (.returned (.bool false)) w2) := Lib.hid (fld_no (m := m) (HE.out) (by unfold fldL; rw [hst, ha0]; exact (hS2.drop 0 rfl rfl).drop 0 rfl rfl))
              clear hS2 hst ha0
              go_wp2_with fail
              go_ret
              exact HFI.out
          · cases b2
            · have HE : Hid (o = none) := Lib.hid (HO.out.trans (by unfold aftP; rw [if_neg HN.out, if_neg HNB.out, if_neg (fun h => by have := HB2.out.1 h.2; cases this), if_neg (fun h => by have h1 : (7 : Int) = 8 := h.1; omega)]))
              have HFI : Hid (FldR w0 g n F o l (.returned (.bool false)) w2) := Lib.hid (fld_no (m := m) (HE.out) (by unfold fldL; rw [hst, ha0]; exact (hS2.drop 0 rfl rfl).drop 0 rfl rfl))
              clear hS2 hst ha0
              go_wp2_with fail
              go_ret
              exact HFI.out
            · have HE : Hid (o = some (setP F who (4, 0))) := Lib.hid (HO.out.trans (by unfold aftP; rw [if_neg HN.out, if_neg HNB.out, if_pos ⟨rfl, HB2.out.2 rfl⟩]))
              obtain ⟨w6, hput, hS6⟩ := fld_put ((hS2.drew).front 3 rfl rfl) (by omega) (s := who) (by omega) (.agg #[.string ⟨#[115, 116, 111, 112]⟩, .int .i64 0])
              have HFI : Hid (FldR w0 g n F o l (.returned (.bool true)) w6) := Lib.hid (fld_yes (m := m) (F' := setP F who (4, 0)) (HE.out) (by
                unfold fldL
                rw [← rfF_set]
                show Sq w0 w6 (rBlk g 118 #[.map (some m), .bool F.st, .int .i64 F.at0] :: _)
                rw [hst, ha0]
                exact ((hS6.drop 1 rfl rfl).drop 1 rfl rfl).front 1 rfl rfl))
              have HK6 := HKP.out _ _ hS6
              clear hS6 hS2 hst ha0
              go_wp2_with fail
              go_region_held3 (fun W => W.cell? ⟨g, 0, none⟩ = some (.map (some m)) ∧ W.cell? ⟨gx, 2, none⟩ = some (.string who) ∧ W.cell? ⟨gx, 0, none⟩ = some (.int .i64 at_))
                (first | go_keep | exact HK6) (fail)
              all_goals (go_wp2_with fail; go_ret; exact HFI.out)
          · cases b2
            · have HE : Hid (o = some (setP F who (2, 0))) := Lib.hid (HO.out.trans (by unfold aftP; rw [if_neg HN.out, if_neg HNB.out, if_neg (fun h => by have h1 : (8 : Int) = 7 := h.1; omega), if_pos ⟨rfl, fun h => by have := HB2.out.1 h; cases this⟩]))
              obtain ⟨w6, hput, hS6⟩ := fld_put ((hS2.drew).front 3 rfl rfl) (by omega) (s := who) (by omega) (.agg #[.string ⟨#[114, 97, 99, 101]⟩, .int .i64 0])
              have HFI : Hid (FldR w0 g n F o l (.returned (.bool true)) w6) := Lib.hid (fld_yes (m := m) (F' := setP F who (2, 0)) (HE.out) (by
                unfold fldL
                rw [← rfF_set]
                show Sq w0 w6 (rBlk g 118 #[.map (some m), .bool F.st, .int .i64 F.at0] :: _)
                rw [hst, ha0]
                exact ((hS6.drop 1 rfl rfl).drop 1 rfl rfl).front 1 rfl rfl))
              have HK6 := HKP.out _ _ hS6
              clear hS6 hS2 hst ha0
              go_wp2_with fail
              go_region_held3 (fun W => W.cell? ⟨g, 0, none⟩ = some (.map (some m)) ∧ W.cell? ⟨gx, 2, none⟩ = some (.string who) ∧ W.cell? ⟨gx, 0, none⟩ = some (.int .i64 at_))
                (first | go_keep | exact HK6) (fail)
              all_goals (go_wp2_with fail; go_ret; exact HFI.out)
            · have HE : Hid (o = none) := Lib.hid (HO.out.trans (by unfold aftP; rw [if_neg HN.out, if_neg HNB.out, if_neg (fun h => by have h1 : (8 : Int) = 7 := h.1; omega), if_neg (fun h => h.2 (HB2.out.2 rfl))]))
              have HFI : Hid (FldR w0 g n F o l (.returned (.bool false)) w2) := Lib.hid (fld_no (m := m) (HE.out) (by unfold fldL; rw [hst, ha0]; exact (hS2.drop 0 rfl rfl).drop 0 rfl rfl))
              clear hS2 hst ha0
              go_wp2_with fail
              go_ret
              exact HFI.out
        · obtain ⟨h6, h2, h3⟩ := HB.out.1 rfl
          have HP := HB2.out.2 h2
          have HE : Hid (o = some (setP F who (3, at_))) := Lib.hid (HO.out.trans (by unfold aftP; rw [if_neg HN.out, if_pos ⟨h6, HP, by rw [ha0]; exact h3⟩]))
          clear h6 h2 h3 HP
          obtain ⟨w6, hput, hS6⟩ := fld_put ((hS2.drew).front 3 rfl rfl) (by omega) (s := who) (by omega) (.agg #[.string ⟨#[100, 111, 110, 101]⟩, .int .i64 at_])
          have HFI : Hid (FldR w0 g n F o l (.returned (.bool true)) w6) := Lib.hid (fld_yes (m := m) (F' := setP F who (3, at_)) (HE.out) (by
            unfold fldL
            rw [← rfF_set]
            show Sq w0 w6 (rBlk g 118 #[.map (some m), .bool F.st, .int .i64 F.at0] :: _)
            rw [hst, ha0]
            exact ((hS6.drop 1 rfl rfl).drop 1 rfl rfl).front 1 rfl rfl))
          have HK6 := HKP.out _ _ hS6
          clear hS6 hS2 hst ha0
          go_wp2_with fail
          go_region_held3 (fun W => W.cell? ⟨g, 0, none⟩ = some (.map (some m)) ∧ W.cell? ⟨gx, 2, none⟩ = some (.string who) ∧ W.cell? ⟨gx, 0, none⟩ = some (.int .i64 at_))
            (first | go_keep | exact HK6) (fail)
          all_goals (go_wp2_with fail; go_ret; exact HFI.out)
end Go.Proofs.YthbcogekfdllmaaGreatDoor
