/-
  VersionsCount: the law's own walk.
-/
import Derived.Test.YtlkapcjofgpiiaaGreatDoorZLawStart
import Derived.Test.YtlkapcjofgpiiaaGreatDoorZVst
import Derived.Test.YtlkapcjofgpiiaaGreatDoorZVer4
import Derived.Test.YtlkapcjofgpiiaaGreatDoorZLow
import Derived.Test.YtlkapcjofgpiiaaGreatDoorZVer7
import Derived.Test.YtlkapcjofgpiiaaGreatDoorZVer8
import Derived.Test.YtlkapcjofgpiiaaGreatDoorZSrn2
import Derived.Test.YtlkapcjofgpiiaaGreatDoorZEqS
import Derived.Deep.DeepCutAuto
import Derived.Deep.RegionHeld3
namespace Go.Proofs.YtlkapcjofgpiiaaGreatDoor
open Go Go.RowKit TxtP

theorem nameFaultR_calls (s : ByteArray) (w : World) (hs : s.size ≤ maxLen) : Calls Tryz.prog 21 #[.string s] w fun e w' => e = .returned (.int .i64 (if (!keyB s.data.toList) = true then 5 else 0)) ∧ Below w.heap.size w w' := by
  have HK := Lib.hid (keyQ_calls s w hs)
  have HW := Lib.hid (fun W => when_calls (!keyB s.data.toList) 5 W)
  obtain ⟨kb, hkb⟩ : ∃ z, keyB s.data.toList = z := ⟨_, rfl⟩
  rw [hkb] at HK HW ⊢
  clear hkb
  obtain ⟨qv, hqv⟩ : ∃ qv : Int, (if (!kb) = true then 5 else 0) = qv := ⟨_, rfl⟩
  rw [hqv] at HW ⊢
  clear hqv
  go_enter Tryz.func21, Tryz.ntmps21
  go_wp2_with (first | (go_at_call 37; refine HK.out.mono ?_; rintro e w1 ⟨rfl, rfl⟩) | (go_at_call 24; refine (HW.out _).mono ?_; rintro e w2 ⟨rfl, rfl⟩))
  go_ret
  exact ⟨rfl, Below.refl _ _⟩
theorem rl_err (vs : List Vr) (c : ByteArray) (t : Int) : firstE [versF vs, if (!keyB c.data.toList) = true then 5 else 0, if momB t = true then 0 else 1] = rlE vs c t := by
  unfold rlE
  by_cases h : versF vs = 0
  · rw [if_pos h, h]
    cases keyB c.data.toList <;> cases momB t <;> rfl
  · rw [if_neg h]
    simp [firstE, h]
theorem lost_err (vs : List Vr) (xs : List Rn) (c : ByteArray) : firstE [versF vs, if (!keyB c.data.toList) = true then 5 else 0, runsF xs, if (!hasC vs c) = true then 8 else 0] = lostE vs xs c := by
  unfold lostE
  by_cases h : versF vs = 0
  · rw [if_pos h, h]
    cases keyB c.data.toList
    · rfl
    · by_cases h2 : runsF xs = 0
      · rw [if_pos h2, h2]
        cases hasC vs c <;> rfl
      · rw [if_pos rfl, if_neg h2]
        simp [firstE, h2]
  · rw [if_neg h]
    simp [firstE, h]
theorem errsR_calls (l : List Int) (E : Int) (n : Nat) (hl : l.length = n) (hE : firstE l = E) (hn : n ≤ 10) (W : World) : Calls Tryz.prog 20 #[.slice (some ⟨W.heap.size, 0, none⟩) n n] (W.alloc (.cells (l.map (Value.int .i64)).toArray 30)) (fun e w' => e = .returned (.int .i64 E) ∧ Below W.heap.size W w') := by
  subst hl hE
  have h := errs_calls (W.heap.size + 5) _ l.length l.length l _ (Rd.lit W (W.heap.size + 5) 1 l.length (l.map (Value.int .i64)).toArray 30 (by omega) (by unfold maxLen; omega) (by simp))
  refine h.mono ?_
  rintro e w' ⟨he, nq, rfl⟩
  exact ⟨he, below_drewN ((Below.refl _ _).alloc (Nat.le_refl _) _) nq⟩
set_option maxRecDepth 100000 in
set_option maxHeartbeats 8000000 in
theorem vrc_walk (a0 : Option Addr) (len0 cap0 : Nat) (z0 : List Int) (w : World) (w0 : InRow w a0 len0 cap0 z0) (ht : Tab w) (hm : MxL w) :
    Calls Tryz.prog 4 #[.slice a0 len0 cap0] w fun e w' => e = .returned (.bool true) ∧ Below w.heap.size w w' := by
  have hs0 := strm_start w0 25
  have hb0 : Bx w.heap.size w.heap.size w (w.alloc (.cells #[.slice a0 len0 cap0, .int .i64 0] 25)) := (Bx.refl _ _ _).alloc (Nat.le_refl _) _
  clear w0
  go_enter Tryz.func4, Tryz.ntmps4
  go_wp2_with fail
  refine (versions_calls w.heap.size 0 _ hs0 (by omega)).mono ?_
  rintro e w3 ⟨v, vs, rfl, hvl, hvz, hS3⟩
  obtain ⟨n, hn⟩ : ∃ n, vs.length = n := ⟨_, rfl⟩
  rw [hn] at hvl hS3
  have hO : w3.ownsRow _ _ _ v n (vs.flatMap vrC) := hS3.head
  obtain ⟨A, c, hv⟩ := own_form hO
  subst hv
  have hr3 := vrs_ofS hS3 hvz
  have hb3 := hb0.call hS3.bx (Nat.le_refl _)
  have hs3 := hS3.strm
  clear hs0 hb0 hS3 hO hvz
  go_wp2_with fail
  refine (sp_someL (Sp.start hs3) #[.string ⟨#[97, 110, 121]⟩, .string ⟨#[102, 97, 115, 116]⟩, .string ⟨#[102, 117, 108, 108]⟩, .string ⟨#[122, 122]⟩, .string ⟨#[]⟩] 9 5 (by decide) (by decide) rfl (strLit_ok rfl) (by omega)).mono ?_
  rintro e w4 ⟨_, rfl, ⟨cc, rfl, hcz⟩, hS4⟩
  have hr4 := hr3.bx hS4.bx
  have hb4 := hb3.call hS4.bx (Nat.le_refl _)
  clear hs3 hr3 hb3
  go_wp2_with fail
  refine (sp_pickL (Sp.start hS4.strm) #[.int .i64 0, .int .i64 10, .int .i64 50, .int .i64 100, .int .i64 500, .int .i64 (-1)] 3 6 (-1) 500 (by decide) (by decide) rfl rfl (by omega)).mono ?_
  rintro e w5 ⟨_, rfl, ⟨tt, rfl, ht0, ht1⟩, hS5⟩
  have hr5 := hr4.bx hS5.bx
  have hb5 := hb4.call hS5.bx (Nat.le_refl _)
  clear hS4 hr4 hb4
  go_wp2_with fail
  refine (someRun_calls w.heap.size _ _ _ hS5.strm (by omega) (by decide)).mono ?_
  rintro e w6 ⟨x, rfl, hxz, hS6⟩
  have hr6 := hr5.bx hS6.bx
  have hb6 := hb5.call hS6.bx (Nat.le_refl _)
  have hs6 := hS6.strm
  have hx6 : RnW w6 w.heap.size x := ⟨Rd.own hS6.head hS6.hb, Nat.le_trans hxz.hi (by omega), Nat.le_trans hxz.hw (by omega), fun p hp => ⟨Nat.le_trans (hxz.hf p hp).1 (by omega), Nat.le_trans (hxz.hf p hp).2 (by omega)⟩, Nat.le_trans hxz.hn (by omega)⟩
  clear hS5 hr5 hb5 hS6 hxz
  go_wp2_with fail
  refine (someRuns_calls w.heap.size _ _ hs6 (by omega)).mono ?_
  rintro e w7 ⟨v, xs, rfl, hxm, hz, hS7⟩
  obtain ⟨m, hm'⟩ : ∃ m, xs.length = m := ⟨_, rfl⟩
  rw [hm'] at hxm hS7
  have hO : w7.ownsRow _ _ _ v m (xs.flatMap rnC) := hS7.head
  obtain ⟨A2, c2, hv⟩ := own_form hO
  subst hv
  have hx7 := rns_ofS hS7 hz
  have hr7 := hr6.bx hS7.bx
  have hy7 := hx6.bx hS7.bx
  have hb7 := (hb6.call hS7.bx (Nat.le_refl _)).below (Nat.le_refl _)
  have hlt7 := hS7.lt
  have hSA := ((Sq.start w7).add #[.string cc] 9).add #[.string x.id, .string x.who, .int .i64 x.time, .int .i64 x.date, .slice x.fa x.fs.length x.fc] 36
  simp only [size1] at hSA
  clear hs6 hr6 hb6 hx6 hS7 hO
  go_upto_region 3 with (fail)
  obtain ⟨w8, hw8⟩ : ∃ z, (w7.alloc (.cells #[.string cc] 9)).alloc (.cells #[.string x.id, .string x.who, .int .i64 x.time, .int .i64 x.date, .slice x.fa x.fs.length x.fc] 36) = z := ⟨_, rfl⟩
  rw [hw8] at hSA
  rw [hw8]
  clear hw8
  have hB8 := hSA.below
  have hB := below_call hb7 hB8 (Nat.le_refl _)
  have hk1 : Blk w8 (w7.heap.size + 1) 36 #[.string x.id, .string x.who, .int .i64 x.time, .int .i64 x.date, .slice x.fa x.fs.length x.fc] := hSA.head
  have hk0 : Blk w8 w7.heap.size 9 #[.string cc] := hSA.nth 1 rfl
  have hr8 := hr7.below hB8
  have hx8 := hx7.below hB8
  have hy8 := hy7.below hB8
  have ht8 := ht.below hB
  have hm8 := hm.below hB
  have hlt8 := Nat.lt_of_lt_of_le hlt7 hB8.size
  clear hr7 hx7 hy7 ht hm hb7 hlt7 hSA hB8
  have HCL : Hid (∀ W, Below w8.heap.size w8 W → W.cell? ⟨w7.heap.size, 0, none⟩ = some (.string cc) ∧ W.cell? ⟨w7.heap.size + 1, 0, none⟩ = some (.string x.id) ∧ W.cell? ⟨w7.heap.size + 1, 1, none⟩ = some (.string x.who) ∧ W.cell? ⟨w7.heap.size + 1, 2, none⟩ = some (.int .i64 x.time) ∧ W.cell? ⟨w7.heap.size + 1, 3, none⟩ = some (.int .i64 x.date) ∧ W.cell? ⟨w7.heap.size + 1, 4, none⟩ = some (.slice x.fa x.fs.length x.fc)) := Lib.hid (fun W h => by
    have hb1 := hk1.below h
    exact ⟨(hk0.below h).cell 0, hb1.cell 0, hb1.cell 1, hb1.cell 2, hb1.cell 3, hb1.cell 4⟩)
  have e1 := rl_err vs cc tt
  have e2 := cntE_first vs x
  have e3 := lost_err vs xs cc
  have HV1 : Hid (rlE vs cc tt ≠ 0 → rlT vs cc tt = ⟨#[]⟩ ∧ rlB vs cc tt = false) := Lib.hid (fun h => ⟨by unfold rlT; rw [if_neg h], by unfold rlB; rw [if_neg h]⟩)
  have HV2 : Hid (cntE vs x ≠ 0 → cntA vs x = []) := Lib.hid (fun h => by unfold cntA; rw [if_neg h])
  have HV3 : Hid (lostE vs xs cc ≠ 0 → lostA vs xs cc = []) := Lib.hid (fun h => by unfold lostA; rw [if_neg h])
  have hE1 : rlE vs cc tt = 0 → rlT vs cc tt = rulAt vs cc tt ∧ rlB vs cc tt = !isE (rulAt vs cc tt) := fun h => ⟨by unfold rlT; rw [if_pos h], by unfold rlB; rw [if_pos h]⟩
  have hE2 : cntE vs x = 0 → versF vs = 0 ∧ runF x = 0 ∧ cntA vs x = cntL vs x := fun h => ⟨(cntE_zero h).1, (cntE_zero h).2, by unfold cntA; rw [if_pos h]⟩
  have hE3 : lostE vs xs cc = 0 → versF vs = 0 ∧ runsF xs = 0 ∧ hasC vs cc = true ∧ lostA vs xs cc = lostL vs xs cc := fun h => by
    have ha : lostA vs xs cc = lostL vs xs cc := by unfold lostA; rw [if_pos h]
    unfold lostE at h
    split at h
    · rename_i g1
      split at h
      · split at h
        · rename_i g3
          split at h
          · rename_i g4; exact ⟨g1, g3, g4, ha⟩
          · cases h
        · rename_i g3; exact absurd h g3
      · cases h
    · rename_i g1; exact absurd h g1
  have G1 : Hid (∀ W, Below w8.heap.size w8 W → Calls Tryz.prog 11 #[.slice A n c, .string cc, .int .i64 tt] W (fun e w' => e = .returned (.tuple #[.string (rlT vs cc tt), .bool (rlB vs cc tt), .int .i64 (rlE vs cc tt)]) ∧ Below W.heap.size W w')) := Lib.hid (fun W h => ruleAt_calls w.heap.size A n c vs cc tt W (hr8.below h) (by omega))
  have G2 : Hid (∀ W, Below w8.heap.size w8 W → Calls Tryz.prog 10 #[.slice A n c, .agg #[.string x.id, .string x.who, .int .i64 x.time, .int .i64 x.date, .slice x.fa x.fs.length x.fc]] W (fun e w' => ∃ A' c', e = .returned (.tuple #[.slice A' (cntA vs x).length c', .int .i64 (cntE vs x)]) ∧ Rd w' w.heap.size 1 (.slice A' (cntA vs x).length c') (cntA vs x).length (strsV (cntA vs x)) ∧ Below W.heap.size W w')) := Lib.hid (fun W h => (counts_calls w.heap.size w.heap.size A n c vs x W (hr8.below h) (hy8.below h)).mono (fun e w' ⟨A', c', he, ho, hb⟩ => ⟨A', c', he, Rd.own ho (Nat.lt_of_lt_of_le hlt8 h.size), hb⟩))
  have G3 : Hid (∀ W, Below w8.heap.size w8 W → Calls Tryz.prog 14 #[.slice A n c, .slice A2 m c2, .string cc] W (fun e w' => ∃ A' c', e = .returned (.tuple #[.slice A' (lostA vs xs cc).length c', .int .i64 (lostE vs xs cc)]) ∧ Rd w' w.heap.size 1 (.slice A' (lostA vs xs cc).length c') (lostA vs xs cc).length (strsV (lostA vs xs cc)) ∧ Below W.heap.size W w')) := Lib.hid (fun W h => (lost_calls w.heap.size w.heap.size A n c vs A2 m c2 xs cc W (hr8.below h) (hx8.below h) (Nat.lt_of_lt_of_le hlt8 h.size) (by omega)).mono (fun e w' ⟨A', c', he, ho, hb⟩ => ⟨A', c', he, Rd.own ho (Nat.lt_of_lt_of_le hlt8 h.size), hb⟩))
  have G4 : Hid (∀ W, Below w8.heap.size w8 W → Calls Tryz.prog 7 #[.slice A n c] W (fun e w' => e = .returned (.int .i64 (versF vs)) ∧ Below W.heap.size W w')) := Lib.hid (fun W h => versionsFault_calls w.heap.size A n c vs W (hr8.below h) (ht8.below h))
  have G5 : Hid (∀ W, Below w8.heap.size w8 W → Calls Tryz.prog 21 #[.string cc] W (fun e w' => e = .returned (.int .i64 (if (!keyB cc.data.toList) = true then 5 else 0)) ∧ Below W.heap.size W w')) := Lib.hid (fun W h => nameFaultR_calls cc W (by unfold maxLen; omega))
  have G6 : Hid (∀ W, Below w8.heap.size w8 W → Calls Tryz.prog 22 #[.int .i64 tt] W (fun e w' => e = .returned (.int .i64 (if momB tt = true then 0 else 1)) ∧ Below W.heap.size W w')) := Lib.hid (fun W h => (momentFault_calls tt W).mono (fun e w' ⟨he, hw⟩ => ⟨he, hw ▸ Below.refl _ _⟩))
  have G7 := Lib.hid (fun W => errsR_calls [versF vs, if (!keyB cc.data.toList) = true then 5 else 0, if momB tt = true then 0 else 1] _ 3 rfl e1 (by omega) W)
  have G8 : Hid (∀ W, Below w8.heap.size w8 W → Calls Tryz.prog 23 #[.agg #[.string x.id, .string x.who, .int .i64 x.time, .int .i64 x.date, .slice x.fa x.fs.length x.fc]] W (fun e w' => e = .returned (.int .i64 (runF x)) ∧ Below W.heap.size W w')) := Lib.hid (fun W h => runFault_calls w.heap.size x W (hy8.below h))
  have G9 := Lib.hid (fun W => errsR_calls [versF vs, runF x] _ 2 rfl e2 (by omega) W)
  have G10 : Hid (∀ W, Below w8.heap.size w8 W → Calls Tryz.prog 8 #[.slice A2 m c2] W (fun e w' => e = .returned (.int .i64 (runsF xs)) ∧ Below W.heap.size W w')) := Lib.hid (fun W h => runsFaultQ_calls w.heap.size A2 m c2 xs W (hx8.below h) (Nat.lt_of_lt_of_le hlt8 h.size))
  have G11 : Hid (∀ W, Below w8.heap.size w8 W → Calls Tryz.prog 25 #[.slice A n c, .func (.func 26) #[] #[.pointer (some ⟨w7.heap.size, 0, none⟩)]] W (fun e w' => e = .returned (.bool (hasC vs cc)) ∧ Below W.heap.size W w')) := Lib.hid (fun W h => hasW_calls w.heap.size w7.heap.size cc A n c vs W (hk0.below h) (hr8.below h).rd)
  have G12 := Lib.hid (fun W => when_calls (!hasC vs cc) 8 W)
  have G13 := Lib.hid (fun W => errsR_calls [versF vs, if (!keyB cc.data.toList) = true then 5 else 0, runsF xs, if (!hasC vs cc) = true then 8 else 0] _ 4 rfl e3 (by omega) W)
  have G14 : Hid (rlE vs cc tt = 0 → ∀ W, Below w8.heap.size w8 W → Calls Tryz.prog 27 #[.slice A n c, .string cc, .int .i64 tt] W (fun e w' => e = .returned (.tuple #[.string (rlT vs cc tt), .bool (rlB vs cc tt)]) ∧ Below W.heap.size W w')) := Lib.hid (fun h0 W h => by rw [(hE1 h0).1, (hE1 h0).2]; exact ruleFor_calls w.heap.size A n c vs cc tt W (hr8.below h))
  have G15 : Hid (cntE vs x = 0 → ∀ W, Below w8.heap.size w8 W → Calls Tryz.prog 28 #[.slice A n c, .agg #[.string x.id, .string x.who, .int .i64 x.time, .int .i64 x.date, .slice x.fa x.fs.length x.fc]] W (fun e w' => ∃ A' c', e = .returned (.slice A' (cntA vs x).length c') ∧ Rd w' w.heap.size 1 (.slice A' (cntA vs x).length c') (cntA vs x).length (strsV (cntA vs x)) ∧ Below W.heap.size W w')) := Lib.hid (fun h0 W h => by rw [(hE2 h0).2.2]; exact countsFor_calls w.heap.size A n c vs x W (hr8.below h) (hy8.below h) (hE2 h0).1 (hE2 h0).2.1 (hm8.below h) (Nat.lt_of_lt_of_le hlt8 h.size))
  have G16 : Hid (lostE vs xs cc = 0 → ∀ W, Below w8.heap.size w8 W → Calls Tryz.prog 29 #[.slice A n c, .slice A2 m c2, .string cc] W (fun e w' => ∃ A' c', e = .returned (.slice A' (lostA vs xs cc).length c') ∧ Rd w' w.heap.size 1 (.slice A' (lostA vs xs cc).length c') (lostA vs xs cc).length (strsV (lostA vs xs cc)) ∧ Below W.heap.size W w')) := Lib.hid (fun h0 W h => by rw [(hE3 h0).2.2.2]; exact (lostOf_calls w.heap.size A n c vs A2 m c2 xs cc W (hr8.below h) (hx8.below h) (hE3 h0).1 (hE3 h0).2.1 (hE3 h0).2.2.1 (hm8.below h) (Nat.lt_of_lt_of_le hlt8 h.size)).mono (fun e w' ⟨A', c', he, ho, hb⟩ => ⟨A', c', he, Rd.own ho (Nat.lt_of_lt_of_le hlt8 h.size), hb⟩))
  have G17 : Hid (∀ W, Below w8.heap.size w8 W → Calls Tryz.prog 30 #[.slice A n c] W (fun e w' => e = .returned (.int .i64 (versF vs)) ∧ Below W.heap.size W w')) := Lib.hid (fun W h => checkVersions_calls w.heap.size A n c vs W (hr8.below h))
  have HEQ := Lib.hid (fun (ls : List ByteArray) (l : Nat) A A2 c c2 W (h1 : Rd W w.heap.size 1 (.slice A l c) l (strsV ls)) (h2 : Rd W w.heap.size 1 (.slice A2 l c2) l (strsV ls)) => equalS_calls w.heap.size A A2 l c c2 ls W h1 h2)
  have GR := Lib.hid (fun V => ruled_calls V)
  obtain ⟨E1, q1⟩ : ∃ z, rlE vs cc tt = z := ⟨_, rfl⟩
  obtain ⟨T1, q2⟩ : ∃ z, rlT vs cc tt = z := ⟨_, rfl⟩
  obtain ⟨B1, q3⟩ : ∃ z, rlB vs cc tt = z := ⟨_, rfl⟩
  obtain ⟨E2, q4⟩ : ∃ z, cntE vs x = z := ⟨_, rfl⟩
  obtain ⟨L1, q5⟩ : ∃ z, cntA vs x = z := ⟨_, rfl⟩
  obtain ⟨E3, q6⟩ : ∃ z, lostE vs xs cc = z := ⟨_, rfl⟩
  obtain ⟨L2, q7⟩ : ∃ z, lostA vs xs cc = z := ⟨_, rfl⟩
  obtain ⟨VF, q8⟩ : ∃ z, versF vs = z := ⟨_, rfl⟩
  obtain ⟨RF, q9⟩ : ∃ z, runF x = z := ⟨_, rfl⟩
  obtain ⟨SF, q10⟩ : ∃ z, runsF xs = z := ⟨_, rfl⟩
  obtain ⟨HC, q11⟩ : ∃ z, hasC vs cc = z := ⟨_, rfl⟩
  obtain ⟨nf, q12⟩ : ∃ z : Int, (if (!keyB cc.data.toList) = true then 5 else 0) = z := ⟨_, rfl⟩
  obtain ⟨mf, q13⟩ : ∃ z : Int, (if momB tt = true then 0 else 1) = z := ⟨_, rfl⟩
  obtain ⟨wf, q14⟩ : ∃ z : Int, (if (!hasC vs cc) = true then 8 else 0) = z := ⟨_, rfl⟩
  rw [q1, q2, q3] at HV1 G1 G14
  rw [q4, q5] at HV2 G2 G15
  rw [q6, q7] at HV3 G3 G16
  rw [q8] at G4 G17
  rw [q12] at G5
  rw [q13] at G6
  rw [q8, q12, q13, q1] at G7
  rw [q9] at G8
  rw [q8, q9, q4] at G9
  rw [q10] at G10
  rw [q14] at G12
  rw [q8, q12, q10, q14, q6] at G13
  rw [q11] at G11 G12
  obtain ⟨l1, q15⟩ : ∃ z, L1.length = z := ⟨_, rfl⟩
  obtain ⟨l2, q16⟩ : ∃ z, L2.length = z := ⟨_, rfl⟩
  rw [q15] at G2 G15
  rw [q16] at G3 G16
  have HQ15 := Lib.hid q15
  have HQ16 := Lib.hid q16
  simp only [List.map_cons, List.map_nil] at G7 G9 G13
  clear e1 e2 e3 hE1 hE2 hE3 q1 q2 q3 q4 q5 q6 q7 q8 q9 q10 q11 q12 q13 q14 q15 q16 hk0 hk1 hr8 hx8 hy8 ht8 hm8 hz hxm hvl hn hm' hcz ht0 ht1
  have HB := Lib.hid hB
  clear hB
  have S0 : Below w8.heap.size w8 w8 := Below.refl _ _
  obtain ⟨k0, k1, k2, k3, k4, k5⟩ := HCL.out _ S0
  go_wp2_with fail
  refine (G1.out _ S0).mono ?_
  rintro e w9 ⟨rfl, S9⟩
  clear k0 k1 k2 k3 k4 k5
  obtain ⟨k0, k1, k2, k3, k4, k5⟩ := HCL.out _ S9
  go_wp2_with fail
  refine (G2.out _ S9).mono ?_
  rintro e w10 ⟨A10, c10, rfl, hR10, hb10⟩
  have S10 := below_call S9 hb10 (Nat.le_refl _)
  clear k0 k1 k2 k3 k4 k5 hb10 S9
  obtain ⟨k0, k1, k2, k3, k4, k5⟩ := HCL.out _ S10
  go_wp2_with fail
  refine (G3.out _ S10).mono ?_
  rintro e w11 ⟨A11, c11, rfl, hR11, hb11⟩
  have S11 := below_call S10 hb11 (Nat.le_refl _)
  have hR10b := hR10.below hb11
  clear k0 k1 k2 k3 k4 k5 hb11 S10 hR10
  go_wp2_with fail
  refine (G4.out _ S11).mono ?_
  rintro e w12 ⟨rfl, hb12⟩
  have HS := Lib.hid (below_call S11 hb12 (Nat.le_refl _))
  have HRA := Lib.hid (hR10b.below hb12)
  have HRB := Lib.hid (hR11.below hb12)
  clear hb12 S11 hR10b hR11 G1 G2 G3 G4
  have HC2 : Hid (∀ W, Below w12.heap.size w12 W → W.cell? ⟨w7.heap.size, 0, none⟩ = some (.string cc) ∧ W.cell? ⟨w7.heap.size + 1, 0, none⟩ = some (.string x.id) ∧ W.cell? ⟨w7.heap.size + 1, 1, none⟩ = some (.string x.who) ∧ W.cell? ⟨w7.heap.size + 1, 2, none⟩ = some (.int .i64 x.time) ∧ W.cell? ⟨w7.heap.size + 1, 3, none⟩ = some (.int .i64 x.date) ∧ W.cell? ⟨w7.heap.size + 1, 4, none⟩ = some (.slice x.fa x.fs.length x.fc)) := Lib.hid (fun W h => HCL.out W (below_call HS.out h (Nat.le_refl _)))
  have T0 : Below w12.heap.size w12 w12 := Below.refl _ _
  have T1' : Below w12.heap.size w12 w12.drew := below_drewN T0 1
  have HAL : Hid (∀ W o, Below w12.heap.size w12 W → Below w12.heap.size w12 (W.alloc o)) := Lib.hid (fun W o h => h.alloc h.size o)
  have K5 := Lib.hid (fun W (h : Below w12.heap.size w12 W) => (G5.out W (below_call HS.out h (Nat.le_refl _))).mono (fun e w' h2 => (⟨h2.1, below_call h h2.2 (Nat.le_refl _)⟩ : e = .returned (.int .i64 nf) ∧ Below w12.heap.size w12 w')))
  have K6 := Lib.hid (fun W (h : Below w12.heap.size w12 W) => (G6.out W (below_call HS.out h (Nat.le_refl _))).mono (fun e w' h2 => (⟨h2.1, below_call h h2.2 (Nat.le_refl _)⟩ : e = .returned (.int .i64 mf) ∧ Below w12.heap.size w12 w')))
  have K7 := Lib.hid (fun W (h : Below w12.heap.size w12 W) => (G7.out W).mono (fun e w' h2 => (⟨h2.1, below_call h h2.2 (Nat.le_refl _)⟩ : e = .returned (.int .i64 E1) ∧ Below w12.heap.size w12 w')))
  have K8 := Lib.hid (fun W (h : Below w12.heap.size w12 W) => (G8.out W (below_call HS.out h (Nat.le_refl _))).mono (fun e w' h2 => (⟨h2.1, below_call h h2.2 (Nat.le_refl _)⟩ : e = .returned (.int .i64 RF) ∧ Below w12.heap.size w12 w')))
  have K9 := Lib.hid (fun W (h : Below w12.heap.size w12 W) => (G9.out W).mono (fun e w' h2 => (⟨h2.1, below_call h h2.2 (Nat.le_refl _)⟩ : e = .returned (.int .i64 E2) ∧ Below w12.heap.size w12 w')))
  obtain ⟨k0, k1, k2, k3, k4, k5⟩ := HC2.out _ T0
  go_wp2_with fail
  go_region_held3 (fun W => W.cell? ⟨w7.heap.size, 0, none⟩ = some (.string cc) ∧ W.cell? ⟨w7.heap.size + 1, 0, none⟩ = some (.string x.id) ∧ W.cell? ⟨w7.heap.size + 1, 1, none⟩ = some (.string x.who) ∧ W.cell? ⟨w7.heap.size + 1, 2, none⟩ = some (.int .i64 x.time) ∧ W.cell? ⟨w7.heap.size + 1, 3, none⟩ = some (.int .i64 x.date) ∧ W.cell? ⟨w7.heap.size + 1, 4, none⟩ = some (.slice x.fa x.fs.length x.fc))
    (first | with_reducible exact HC2.out _ T1' | with_reducible exact HC2.out _ T13 | with_reducible exact HC2.out _ T14 | with_reducible exact HC2.out _ (HAL.out _ _ T14) | with_reducible exact HC2.out _ T15 | with_reducible exact HC2.out _ T16 | with_reducible exact HC2.out _ (HAL.out _ _ T16) | with_reducible exact HC2.out _ T17)
    (first
      | (go_at_call 21; ((with_reducible refine (K5.out _ T1').mono ?_); rintro e w13 ⟨rfl, T13⟩))
      | (go_at_call 22; ((with_reducible refine (K6.out _ T13).mono ?_); rintro e w14 ⟨rfl, T14⟩))
      | (go_at_call 20; ((with_reducible refine (K7.out _ T14).mono ?_); rintro e w15 ⟨rfl, T15⟩))
      | (go_at_call 23; ((with_reducible refine (K8.out _ T15).mono ?_); rintro e w16 ⟨rfl, T16⟩))
      | (go_at_call 20; ((with_reducible refine (K9.out _ T16).mono ?_); rintro e w17 ⟨rfl, T17⟩)))
  clear k0 k1 k2 k3 k4 k5
  obtain ⟨k0, k1, k2, k3, k4, k5⟩ := HC2.out _ T17
  clear K5 K6 K7 K8 K9 G6 G7 G8 G9 T0 T1' T13 T14 T15 T16
  go_upto_if 87 with (first
    | (go_at_call 21; refine (G5.out _ (below_call HS.out T17 (Nat.le_refl _))).mono ?_; rintro e w18 ⟨rfl, hb18⟩; have T18 := below_call T17 hb18 (Nat.le_refl _))
    | (go_at_call 8; refine (G10.out _ (below_call HS.out T18 (Nat.le_refl _))).mono ?_; rintro e w19 ⟨rfl, hb19⟩; have T19 := below_call T18 hb19 (Nat.le_refl _))
    | (go_at_call 25; refine (G11.out _ (below_call HS.out T19 (Nat.le_refl _))).mono ?_; rintro e w20 ⟨rfl, hb20⟩; have T20 := below_call T19 hb20 (Nat.le_refl _))
    | (go_at_call 24; refine (G12.out _).mono ?_; rintro e w21 ⟨rfl, rfl⟩)
    | (go_at_call 20; refine (G13.out _).mono ?_; rintro e w22 ⟨rfl, hb22⟩; have T22 := below_call T20 hb22 (Nat.le_refl _)))
  clear k0 k1 k2 k3 k4 k5 T17 hb18 T18 hb19 T19 hb20 T20 hb22 G5 G10 G11 G12 G13
  obtain ⟨k0, k1, k2, k3, k4, k5⟩ := HC2.out _ T22
  go_cut [20, 21] (fun s20 s21 W => ∃ w33, w33 = W ∧ s20 = .string T1 ∧ s21 = .bool B1 ∧ Below w12.heap.size w12 W)
  case first =>
    by_cases h0 : E1 = 0
    · have H14 := Lib.hid (G14.out h0 _ (below_call HS.out T22 (Nat.le_refl _)))
      subst h0
      clear G14 HV1
      go_wp2_with fail
      refine H14.out.mono ?_
      rintro e w23 ⟨rfl, hb23⟩
      go_wp2_with fail
      go_meet
      exact ⟨_, rfl, rfl, rfl, below_call T22 hb23 (Nat.le_refl _)⟩
    · have hx : (E1 == 0) = false := by simpa using h0
      obtain ⟨e1, e2⟩ := HV1.out h0
      subst e1 e2
      clear G14 HV1 h0
      go_wp2_with fail
      go_meet
      exact ⟨_, rfl, rfl, rfl, T22⟩
  case rest =>
  obtain ⟨w23, rfl, rfl, rfl, T23⟩ := hcut
  clear k0 k1 k2 k3 k4 k5 T22 G14 HV1
  obtain ⟨k0, k1, k2, k3, k4, k5⟩ := HC2.out _ T23
  go_upto_if 96 with (fail)
  go_cut [22] (fun s22 W => ∃ w33, w33 = W ∧ ∃ A' c', s22 = .slice A' l1 c' ∧ Rd W w.heap.size 1 (.slice A' l1 c') l1 (strsV L1) ∧ Below w12.heap.size w12 W)
  case first =>
    by_cases h0 : E2 = 0
    · have H15 := Lib.hid (G15.out h0 _ (below_call HS.out T23 (Nat.le_refl _)))
      subst h0
      clear G15 HV2
      go_wp2_with fail
      refine H15.out.mono ?_
      rintro e w24 ⟨A', c', rfl, hR24, hb24⟩
      go_wp2_with fail
      go_meet
      exact ⟨_, rfl, A', c', rfl, hR24, below_call T23 hb24 (Nat.le_refl _)⟩
    · have hx : (E2 == 0) = false := by simpa using h0
      have e1 := HV2.out h0
      have e3 : l1 = 0 := by rw [← HQ15.out, e1]; rfl
      clear G15 HV2 h0
      go_wp2_with fail
      go_meet
      exact ⟨_, rfl, none, 0, by rw [e3], by rw [e3, e1]; exact Rd.nil _ _ _, T23⟩
  case rest =>
  obtain ⟨w24, rfl, A24, c24, rfl, hR24, T24⟩ := hcut
  clear k0 k1 k2 k3 k4 k5 T23 G15 HV2
  have HR24 := Lib.hid hR24
  clear hR24
  obtain ⟨k0, k1, k2, k3, k4, k5⟩ := HC2.out _ T24
  go_upto_if 101 with (fail)
  go_cut [23] (fun s23 W => ∃ w33, w33 = W ∧ ∃ A' c', s23 = .slice A' l2 c' ∧ Rd W w.heap.size 1 (.slice A' l2 c') l2 (strsV L2) ∧ Below w24.heap.size w24 W)
  case first =>
    by_cases h0 : E3 = 0
    · have H16 := Lib.hid (G16.out h0 _ (below_call HS.out T24 (Nat.le_refl _)))
      subst h0
      clear G16 HV3
      go_wp2_with fail
      refine H16.out.mono ?_
      rintro e w25 ⟨A', c', rfl, hR25, hb25⟩
      go_wp2_with fail
      go_meet
      exact ⟨_, rfl, A', c', rfl, hR25, hb25⟩
    · have hx : (E3 == 0) = false := by simpa using h0
      have e1 := HV3.out h0
      have e3 : l2 = 0 := by rw [← HQ16.out, e1]; rfl
      clear G16 HV3 h0
      go_wp2_with fail
      go_meet
      exact ⟨_, rfl, none, 0, by rw [e3], by rw [e3, e1]; exact Rd.nil _ _ _, Below.refl _ _⟩
  case rest =>
  obtain ⟨w25, rfl, A25, c25, rfl, hR25, hb25⟩ := hcut
  have T25 := below_call T24 hb25 (Nat.le_refl _)
  have HRD := Lib.hid (fun V (h : Below w25.heap.size w25 V) => And.intro (And.intro ((HRA.out.below T25).below h) ((HR24.out.below hb25).below h)) (And.intro ((HRB.out.below T25).below h) (hR25.below h)))
  have HFIN := Lib.hid (below_call HB.out (below_call HS.out T25 (Nat.le_refl _)) (Nat.le_refl _))
  have G17b := Lib.hid (G17.out _ (below_call HS.out T25 (Nat.le_refl _)))
  have n1 : (VF == VF) = true := by simp
  have n2 : (E1 == E1) = true := by simp
  have n3 : (T1.toList == T1.toList) = true := by simp
  have n4 : (B1 == B1) = true := by simp
  have n5 : (E2 == E2) = true := by simp
  have n6 : (E3 == E3) = true := by simp
  clear k0 k1 k2 k3 k4 k5 hR25 hb25 T24 T25 HR24 HRA HRB HS HB G16 G17 HV3 HCL HC2 HAL HQ15 HQ16
  go_wp2_with (first | (go_at_call 30; refine G17b.out.mono ?_; rintro e w26 ⟨rfl, S26⟩))
  have HE1 := Lib.hid (HEQ.out _ _ _ _ _ _ _ (HRD.out _ S26).1.1 (HRD.out _ S26).1.2)
  refine HE1.out.mono ?_
  rintro e w27 ⟨rfl, nq, hw27⟩
  have S27 : Below w25.heap.size w25 w27 := by rw [hw27]; exact below_drewN S26 nq
  clear HE1 hw27 S26
  go_wp2_with fail
  have HE2 := Lib.hid (HEQ.out _ _ _ _ _ _ _ (HRD.out _ S27).2.1 (HRD.out _ S27).2.2)
  refine HE2.out.mono ?_
  rintro e w28 ⟨rfl, nq2, hw28⟩
  have S28 : Below w25.heap.size w25 w28 := by rw [hw28]; exact below_drewN S27 nq2
  clear HE2 HRD HEQ hw28 S27
  go_wp2_with fail
  refine (GR.out _).mono ?_
  rintro e w29 ⟨rfl, hb29⟩
  have S29 := below_call S28 hb29 (Nat.le_refl _)
  go_wp2_with fail
  have hfin := below_call HFIN.out S29 (Nat.le_refl _)
  go_ret
  exact ⟨rfl, hfin⟩
end Go.Proofs.YtlkapcjofgpiiaaGreatDoor
