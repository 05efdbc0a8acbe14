/-
  The categories that a run counts for: rule.Counts by a contract.
-/
import Derived.Test.YtlkapcjofgpiiaaGreatDoorZVer2
import Derived.Test.YtlkapcjofgpiiaaGreatDoorZRatMake4
import Derived.Test.YtlkapcjofgpiiaaGreatDoorZTid
import Derived.Deep.DeepCutAuto
import Derived.Deep.RegionHeld3
import Derived.StillTailTactics
import Derived.Deep.QuietTactic
import Derived.BigQuiet
namespace Go.Proofs.YtlkapcjofgpiiaaGreatDoor
open Go Go.RowKit TxtP
attribute [local go_sem ↓] Go.wp_at_zero Go.wp_at_succ

theorem cntE_first (vs : List Vr) (x : Rn) : firstE [versF vs, runF x] = cntE vs x := by
  unfold cntE
  by_cases h : versF vs = 0
  · rw [if_pos h, h]
    simp [firstE]
    omega
  · rw [if_neg h]
    simp [firstE, h]
theorem cntE_zero {vs : List Vr} {x : Rn} (h : cntE vs x = 0) : versF vs = 0 ∧ runF x = 0 := by
  unfold cntE at h
  split at h
  · rename_i h1; exact ⟨h1, h⟩
  · rename_i h1; exact absurd h h1
/-- what Counts answers -/
def cntA (vs : List Vr) (x : Rn) : List ByteArray := if cntE vs x = 0 then cntL vs x else []
def CntS (vs : List Vr) (x : Rn) (w : World) (e : Ending) (w' : World) : Prop :=
  ∃ A c, e = .returned (.tuple #[.slice A (cntA vs x).length c, .int .i64 (cntE vs x)]) ∧ w'.ownsRow w.heap.size 9 1 (.slice A (cntA vs x).length c) (cntA vs x).length (strsV (cntA vs x)) ∧ Below w.heap.size w w'
set_option maxRecDepth 100000 in
set_option maxHeartbeats 8000000 in
theorem counts_calls (b b2 : Nat) (A : Option Addr) (n c : Nat) (vs : List Vr) (x : Rn) (w : World) (hr : Vrs w b A n c vs) (hx : RnW w b2 x) :
    Calls Tryz.prog 10 #[.slice A n c, .agg #[.string x.id, .string x.who, .int .i64 x.time, .int .i64 x.date, .slice x.fa x.fs.length x.fc]] w (CntS vs x w) := by
  obtain ⟨i0, hi, hy0, hy1, hy2⟩ := info_parts info_str
  obtain ⟨hl, hnc, hcm, hcells⟩ := hr.rd.cells vrC_len (by omega)
  unfold maxLen at hcm
  have hS := (Sq.start w).add (rnC x).toArray 36
  have hrn0 : (rnC x).toArray = #[.string x.id, .string x.who, .int .i64 x.time, .int .i64 x.date, .slice x.fa x.fs.length x.fc] := rfl
  have hRB : ∀ {W L}, Sq w W L → Blk W w.heap.size 36 (rnC x).toArray → RnP W b2 w.heap.size 0 x := fun h k => RnP.of ⟨k, hx.below h.below⟩
  have HCE : Hid (∀ W, Blk W w.heap.size 36 (rnC x).toArray → W.cell? ⟨w.heap.size, 0, none⟩ = some (.string x.id) ∧ W.cell? ⟨w.heap.size, 1, none⟩ = some (.string x.who) ∧ W.cell? ⟨w.heap.size, 2, none⟩ = some (.int .i64 x.time) ∧ W.cell? ⟨w.heap.size, 3, none⟩ = some (.int .i64 x.date) ∧ W.cell? ⟨w.heap.size, 4, none⟩ = some (.slice x.fa x.fs.length x.fc)) :=
    Lib.hid (fun V h => ⟨h.cell 0, h.cell 1, h.cell 2, h.cell 3, h.cell 4⟩)
  have HCV := Lib.hid (fun W (h : Below w.heap.size w W) => checkVersions_calls b A n c vs W (hr.below h))
  have HCR := Lib.hid (fun W (h : Below w.heap.size w W) => checkRun_calls b2 x W (hx.below h))
  have HFI : Hid (∀ W : World, Calls Tryz.prog 45 #[.slice (some ⟨W.heap.size, 0, none⟩) 2 2] (W.alloc (.cells #[.int .i64 (versF vs), .int .i64 (runF x)] 30)) (fun e w' => e = .returned (.int .i64 (cntE vs x)) ∧ Below W.heap.size W w')) := Lib.hid (fun W => by
    have h := first_calls (W.heap.size + 5) _ 2 2 [versF vs, runF x] _ (Rd.lit W (W.heap.size + 5) 1 2 #[.int .i64 (versF vs), .int .i64 (runF x)] 30 (by omega) (by decide) rfl)
    rw [cntE_first] at h
    refine h.mono ?_
    rintro e w' ⟨he, nq, rfl⟩
    exact ⟨he, below_drewN ((Below.refl _ _).alloc (Nat.le_refl _) _) nq⟩)
  have HCI : Hid (cntE vs x = 0 → ∀ W L v, Sq w W L → Blk W w.heap.size 36 (rnC x).toArray → Calls Tryz.prog 47 #[.slice A n c, .pointer (some ⟨w.heap.size, 0, none⟩), .string v] W (BRet (.bool (cntV vs v x)) W)) := Lib.hid (fun h0 W L v h1 h2 =>
    countsI_calls b b2 A n c vs v w.heap.size 0 x W (hr.below h1.below) (versF_rules (cntE_zero h0).1) (hRB h1 h2) (cntE_zero h0).2)
  have HST : Hid (∀ k (hk : k < vs.length), cntG vs x (lastV vs k) (vs.drop k) = (if (fstO (lastV vs k) vs[k] && cntV vs vs[k].c x) = true then [vs[k].c] else []) ++ cntG vs x (lastV vs (k + 1)) (vs.drop (k + 1))) := Lib.hid (fun k hk => cntG_step vs x vs k hk)
  have HG0 : Hid (cntL vs x = cntG vs x (lastV vs 0) (vs.drop 0)) := Lib.hid rfl
  have hA : cntA vs x = if cntE vs x = 0 then cntL vs x else [] := rfl
  have HN2 : Hid (cntE vs x = 0 → n ≤ 200) := Lib.hid (fun h => by have := (versF_rgt (cntE_zero h).1).1; omega)
  have HN0 : Hid (∀ o, cntG vs x o [] = []) := Lib.hid (fun _ => rfl)
  obtain ⟨GL, hGL⟩ : ∃ f, cntG vs x = f := ⟨_, rfl⟩
  obtain ⟨CV, hCV⟩ : ∃ f : ByteArray → Bool, (fun v => cntV vs v x) = f := ⟨_, rfl⟩
  have hcv : ∀ v, cntV vs v x = CV v := fun v => by rw [← hCV]
  simp only [hGL, hcv] at HST HG0 HCI HN0
  obtain ⟨CL, hCL⟩ : ∃ f, cntL vs x = f := ⟨_, rfl⟩
  rw [hCL] at HG0 hA
  unfold CntS
  obtain ⟨CA, hCA⟩ : ∃ f, cntA vs x = f := ⟨_, rfl⟩
  rw [hCA] at hA ⊢
  obtain ⟨E, hE⟩ : ∃ f, cntE vs x = f := ⟨_, rfl⟩
  rw [hE] at hA HFI HCI HN2 ⊢
  obtain ⟨VF, hVF⟩ : ∃ f, versF vs = f := ⟨_, rfl⟩
  obtain ⟨RF, hRF⟩ : ∃ f, runF x = f := ⟨_, rfl⟩
  rw [hVF] at HFI HCV
  rw [hRF] at HFI HCR
  rw [hrn0] at hS HCE HCI
  have HL := Lib.hid hl
  have HC := Lib.hid hcells
  have HOK := Lib.hid hr.ok
  clear hGL hCV hcv hCL hCA hE hVF hRF hrn0 hcells hl hr hx hRB
  obtain ⟨xid, xwho, xt, xd, xfa, xfc, xfs⟩ := x
  simp only at HCR HCE HCI hS
  obtain ⟨fl, hfl⟩ : ∃ z, xfs.length = z := ⟨_, rfl⟩
  rw [hfl] at HCR HCE HCI hS ⊢
  clear hfl
  obtain ⟨k0, k1, k2, k3, k4⟩ := HCE.out _ hS.head
  by_cases hz : E = 0
  case neg =>
    rw [if_neg hz] at hA
    subst hA
    have hne : (E != 0) = true := by rw [bne_iff_ne]; exact hz
    clear HCI HST HG0 HC HOK
    go_enter Tryz.func10, Tryz.ntmps10
    go_wp2_with fail
    go_region_law (first
      | (go_simp; go_at_call 30; ((with_reducible refine (HCV.out _ hS.drew.below).mono ?_); rintro e w1 ⟨rfl, hb1⟩; have hS1 := hS.drew.callB hb1; obtain ⟨k0, k1, k2, k3, k4⟩ := HCE.out _ hS1.head))
      | (go_simp; go_at_call 46; ((with_reducible refine (HCR.out _ hS1.below).mono ?_); rintro e w2 ⟨rfl, hb2⟩; have hS2 := hS1.callB hb2))
      | (go_simp; go_at_call 45; ((with_reducible refine (HFI.out _).mono ?_); rintro e w3 ⟨rfl, hb3⟩; have hS3 := hS2.callB hb3)))
    all_goals
      clear k0 k1 k2 k3 k4
      go_wp2_with fail
      go_ret2
      have hN := hS3.nil w.heap.size 9 1
      exact ⟨none, 0, rfl, hN.head, hN.below⟩
  subst hz
  rw [if_pos rfl] at hA
  subst hA
  have HCJ := Lib.hid (HCI.out rfl)
  have hn200 := HN2.out rfl
  clear HCI
  go_enter Tryz.func10, Tryz.ntmps10
  go_wp2_with fail
  go_cut [6] (fun s6 V => s6 = .int .i64 0 ∧ Sq w V [rBlk w.heap.size 36 #[.string xid, .string xwho, .int .i64 xt, .int .i64 xd, .slice xfa fl xfc]])
  case first =>
    go_region_law (first
      | (go_simp; go_at_call 30; ((with_reducible refine (HCV.out _ hS.drew.below).mono ?_); rintro e w1 ⟨rfl, hb1⟩; have hS1 := hS.drew.callB hb1; obtain ⟨k0, k1, k2, k3, k4⟩ := HCE.out _ hS1.head))
      | (go_simp; go_at_call 46; ((with_reducible refine (HCR.out _ hS1.below).mono ?_); rintro e w2 ⟨rfl, hb2⟩; have hS2 := hS1.callB hb2))
      | (go_simp; go_at_call 45; ((with_reducible refine (HFI.out _).mono ?_); rintro e w3 ⟨rfl, hb3⟩; have hS3 := hS2.callB hb3)))
    all_goals
      clear k0 k1 k2 k3 k4
      go_wp2_with fail
      go_meet
      exact ⟨rfl, hS3⟩
  obtain ⟨rfl, hS3⟩ := hcut
  clear k0 k1 k2 k3 k4
  go_wp2_with fail
  have hS4 := hS3.nil w.heap.size 9 1
  clear HCV HCR HFI HCE hS hS3
  go_loopw [7, 21] (fun v i wr => ∃ (k : Nat) (B : Option Addr) (d m : Nat) (hs : List ByteArray), k ≤ n ∧ v = .slice B m d ∧ i = .int .i64 k ∧ hs.length = m ∧ m ≤ k ∧ Hid (CA = hs ++ GL (lastV vs k) (vs.drop k)) ∧ Sq w wr [rOwn w.heap.size 9 1 (.slice B m d) m (strsV hs), rBlk w.heap.size 36 #[.string xid, .string xwho, .int .i64 xt, .int .i64 xd, .slice xfa fl xfc]]) (fun _ i _ => n - (intOf i).toNat)
  case atStart => exact ⟨0, none, 0, 0, [], Nat.zero_le _, rfl, rfl, rfl, Nat.zero_le _, HG0, hS4⟩
  case round =>
    clear hS4 HG0
    obtain ⟨k, B, d, m, hs, hk, rfl, rfl, hmh, hmk, HG, hT⟩ := hrel
    by_cases hlt : k < n
    · have hkr : k < vs.length := by rw [HL.out]; exact hlt
      obtain ⟨g, o, hA, _, hcs⟩ := HC.out (by omega)
      subst hA
      have hst : CA = hs ++ ((if (fstO (lastV vs k) vs[k] && CV vs[k].c) = true then [vs[k].c] else []) ++ GL (lastV vs (k + 1)) (vs.drop (k + 1))) := by rw [← HST.out k hkr]; exact HG.out
      have HCS := Lib.hid (fun j (hj : j < vs.length) i (hi : i < 3) => hcs j hj i hi)
      have c0 := below_cell hT.below (hcs k hkr 0 (by omega))
      have c1 := below_cell hT.below (hcs k hkr 1 (by omega))
      have c2 := below_cell hT.below (hcs k hkr 2 (by omega))
      obtain ⟨y, hy⟩ : ∃ y, vs[k] = y := ⟨_, rfl⟩
      rw [hy] at c0 c1 c2 hst
      obtain ⟨vc, vf, vr⟩ := y
      replace c0 : wr.cell? ⟨g, o + k * 3, none⟩ = some (.string vc) := c0
      replace c1 : wr.cell? ⟨g, o + k * 3 + 1, none⟩ = some (.int .i64 vf) := c1
      replace c2 : wr.cell? ⟨g, o + k * 3 + 2, none⟩ = some (.string vr) := c2
      have hT1 := hT.add #[.string vc, .int .i64 vf, .string vr] 59
      have hvb : Blk _ _ _ _ := hT1.head
      have z0 := hvb.cell 0
      have z1 := hvb.cell 1
      have z2 := hvb.cell 2
      have hk0 : (0 : Int) ≤ (k : Int) := by omega
      have hkn : (k : Int) < (n : Int) := by omega
      have HCN := Lib.hid (fun V (h : Below (wr.alloc (.cells #[.string vc, .int .i64 vf, .string vr] 59)).heap.size (wr.alloc (.cells #[.string vc, .int .i64 vf, .string vr] 59)) V) => HCJ.out _ _ vc (hT1.callB h) ((hT1.callB h).nth 2 rfl))
      simp only at hst
      obtain ⟨C1, hC1⟩ : ∃ z, CV vc = z := ⟨_, rfl⟩
      rw [hC1] at hst HCN
      obtain ⟨FS, hFS⟩ : ∃ z, fstO (lastV vs k) ⟨vc, vf, vr⟩ = z := ⟨_, rfl⟩
      rw [hFS] at hst
      have HP : Hid (∀ j, k = j + 1 → ∃ oc, wr.cell? ⟨g, o + j * 3, none⟩ = some (.string oc) ∧ (oc.toList == vc.toList) = !FS) := Lib.hid (fun j hj => by
        subst hj
        have hjr : j < vs.length := by omega
        refine ⟨vs[j].c, below_cell hT.below (HCS.out j hjr 0 (by omega)), ?_⟩
        rw [← hFS]
        simp [fstO, lastV, hjr])
      have HF0 : Hid (k = 0 → FS = true) := Lib.hid (fun h => by rw [← hFS]; subst h; rfl)
      have HT := Lib.hid hT
      clear hcs hvb hy hC1 hFS hT
      go_upto_region 8 with (fail)
      obtain ⟨W1, hW1⟩ : ∃ W, wr.alloc (.cells #[.string vc, .int .i64 vf, .string vr] 59) = W := ⟨_, rfl⟩
      obtain ⟨H, hH⟩ : ∃ H, wr.heap.size = H := ⟨_, rfl⟩
      rw [hW1] at hT1 z0 z1 z2 HCN ⊢
      have HP1 : Hid (∀ j, k = j + 1 → ∃ oc, W1.cell? ⟨g, o + j * 3, none⟩ = some (.string oc) ∧ (oc.toList == vc.toList) = !FS) := Lib.hid (fun j hj => by
        obtain ⟨oc, h1, h2⟩ := HP.out j hj
        exact ⟨oc, by rw [← hW1]; exact below_cell ((Below.refl _ _).alloc (Nat.le_refl _) _) h1, h2⟩)
      rw [hH] at hT1 z0 z1 z2 ⊢
      clear hW1 hH HP c0 c1 c2
      obtain ⟨G1, hG1⟩ : ∃ z, (FS && C1) = z := ⟨_, rfl⟩
      rw [hG1] at hst
      have HG1 := Lib.hid hG1
      clear hG1
      go_cut [44] (fun s44 V => s44 = .bool G1 ∧ Sq w V [rBlk H 59 #[.string vc, .int .i64 vf, .string vr], rOwn w.heap.size 9 1 (.slice B m d) m (strsV hs), rBlk w.heap.size 36 #[.string xid, .string xwho, .int .i64 xt, .int .i64 xd, .slice xfa fl xfc]])
      case first =>
        have HT1 := Lib.hid hT1
        have HZ : Hid (∀ V, Below W1.heap.size W1 V → V.cell? ⟨H, 0, none⟩ = some (.string vc)) := Lib.hid (fun V h => below_cell h z0)
        have S0 : Below W1.heap.size W1 W1 := Below.refl _ _
        have S1 : Below W1.heap.size W1 W1.drew := below_drewN S0 1
        clear hT1 z1 z2
        by_cases hk00 : k = 0
        · obtain rfl := HF0.out hk00
          obtain rfl : C1 = G1 := by rw [← HG1.out]; simp
          have hg0 : ((k : Int) == 0) = true := by rw [beq_iff_eq]; omega
          clear HP1 HF0 HG1 hk00
          go_wp2_with fail
          -- A begins
          refine wp_region_held_drew (S := fun V => V.cell? ⟨H, 0, none⟩ = some (.string vc)) (by kernel_rfl) (HZ.out _ S1) (fun hHeld => ?_)
          refine wpAnyH_take (i := 0) (v := .int .i64 k) rfl (by kernel_rfl) (by kernel_rfl) (by kernel_rfl) (fun _ _ _ h => h) (Or.inl ⟨by rfl, fun V hV => ?_⟩) hHeld ?_
          · (try dsimp only at hV); (try obtain _ := hV); first | (go_simp; done) | (go_simp; rfl) | (go_simp; simp only [*]; done) | rfl
          try simp only [Act.put, List.getElem_toArray, List.getElem_cons_zero, List.getElem_cons_succ, List.setIfInBounds_toArray, List.set_cons_zero, List.set_cons_succ]
          refine wpAnyH_take (i := 1) (v := .bool true) rfl (by kernel_rfl) (by kernel_rfl) (by kernel_rfl) (fun _ _ _ h => h) (Or.inl ⟨by rfl, fun V hV => ?_⟩) hHeld ?_
          · (try dsimp only at hV); (try obtain _ := hV); first | (go_simp; done) | (go_simp; rfl) | (go_simp; simp only [*]; done) | rfl
          try simp only [Act.put, List.getElem_toArray, List.getElem_cons_zero, List.getElem_cons_succ, List.setIfInBounds_toArray, List.set_cons_zero, List.set_cons_succ]
          refine wpAnyH_take (i := 2) (v := .bool true) rfl (by kernel_rfl) (by kernel_rfl) (by kernel_rfl) (fun _ _ _ h => h) (Or.inl ⟨by rfl, fun V hV => ?_⟩) hHeld ?_
          · (try dsimp only at hV); (try obtain _ := hV); first | (go_simp; done) | (go_simp; rfl) | (go_simp; simp only [*]; done) | rfl
          try simp only [Act.put, List.getElem_toArray, List.getElem_cons_zero, List.getElem_cons_succ, List.setIfInBounds_toArray, List.set_cons_zero, List.set_cons_succ]
          refine wpAnyH_take (i := 3) (v := undef) rfl (by kernel_rfl) (by kernel_rfl) (by kernel_rfl) (fun _ _ _ h => h) (Or.inr ⟨by rfl, rfl⟩) hHeld ?_
          try simp only [Act.put, List.getElem_toArray, List.getElem_cons_zero, List.getElem_cons_succ, List.setIfInBounds_toArray, List.set_cons_zero, List.set_cons_succ]
          refine wpAnyH_take (i := 4) (v := undef) rfl (by kernel_rfl) (by kernel_rfl) (by kernel_rfl) (fun _ _ _ h => h) (Or.inr ⟨by rfl, rfl⟩) hHeld ?_
          try simp only [Act.put, List.getElem_toArray, List.getElem_cons_zero, List.getElem_cons_succ, List.setIfInBounds_toArray, List.set_cons_zero, List.set_cons_succ]
          refine wpAnyH_take (i := 5) (v := undef) rfl (by kernel_rfl) (by kernel_rfl) (by kernel_rfl) (fun _ _ _ h => h) (Or.inr ⟨by rfl, rfl⟩) hHeld ?_
          try simp only [Act.put, List.getElem_toArray, List.getElem_cons_zero, List.getElem_cons_succ, List.setIfInBounds_toArray, List.set_cons_zero, List.set_cons_succ]
          refine wpAnyH_take (i := 6) (v := undef) rfl (by kernel_rfl) (by kernel_rfl) (by kernel_rfl) (fun _ _ _ h => h) (Or.inr ⟨by rfl, rfl⟩) hHeld ?_
          try simp only [Act.put, List.getElem_toArray, List.getElem_cons_zero, List.getElem_cons_succ, List.setIfInBounds_toArray, List.set_cons_zero, List.set_cons_succ]
          refine wpAnyH_take (i := 7) (v := undef) rfl (by kernel_rfl) (by kernel_rfl) (by kernel_rfl) (fun _ _ _ h => h) (Or.inr ⟨by rfl, rfl⟩) hHeld ?_
          try simp only [Act.put, List.getElem_toArray, List.getElem_cons_zero, List.getElem_cons_succ, List.setIfInBounds_toArray, List.set_cons_zero, List.set_cons_succ]
          refine wpAnyH_take (i := 8) (v := undef) rfl (by kernel_rfl) (by kernel_rfl) (by kernel_rfl) (fun _ _ _ h => h) (Or.inr ⟨by rfl, rfl⟩) hHeld ?_
          try simp only [Act.put, List.getElem_toArray, List.getElem_cons_zero, List.getElem_cons_succ, List.setIfInBounds_toArray, List.set_cons_zero, List.set_cons_succ]
          refine wpAnyH_take (i := 9) (v := undef) rfl (by kernel_rfl) (by kernel_rfl) (by kernel_rfl) (fun _ _ _ h => h) (Or.inr ⟨by rfl, rfl⟩) hHeld ?_
          try simp only [Act.put, List.getElem_toArray, List.getElem_cons_zero, List.getElem_cons_succ, List.setIfInBounds_toArray, List.set_cons_zero, List.set_cons_succ]
          refine wpAnyH_take (i := 10) (v := undef) rfl (by kernel_rfl) (by kernel_rfl) (by kernel_rfl) (fun _ _ _ h => h) (Or.inr ⟨by rfl, rfl⟩) hHeld ?_
          try simp only [Act.put, List.getElem_toArray, List.getElem_cons_zero, List.getElem_cons_succ, List.setIfInBounds_toArray, List.set_cons_zero, List.set_cons_succ]
          refine wpAnyH_take (i := 11) (v := undef) rfl (by kernel_rfl) (by kernel_rfl) (by kernel_rfl) (fun _ _ _ h => h) (Or.inr ⟨by rfl, rfl⟩) hHeld ?_
          try simp only [Act.put, List.getElem_toArray, List.getElem_cons_zero, List.getElem_cons_succ, List.setIfInBounds_toArray, List.set_cons_zero, List.set_cons_succ]
          refine wpAnyH_take (i := 12) (v := .bool true) rfl (by kernel_rfl) (by kernel_rfl) (by kernel_rfl) (fun _ _ _ h => h) (Or.inl ⟨by rfl, fun V hV => ?_⟩) hHeld ?_
          · (try dsimp only at hV); (try obtain _ := hV); first | (go_simp; done) | (go_simp; rfl) | (go_simp; simp only [*]; done) | rfl
          try simp only [Act.put, List.getElem_toArray, List.getElem_cons_zero, List.getElem_cons_succ, List.setIfInBounds_toArray, List.set_cons_zero, List.set_cons_succ]
          refine wpAnyH_take (i := 13) (v := .bool true) rfl (by kernel_rfl) (by kernel_rfl) (by kernel_rfl) (fun _ _ _ h => h) (Or.inl ⟨by rfl, fun V hV => ?_⟩) hHeld ?_
          · (try dsimp only at hV); (try obtain _ := hV); first | (go_simp; done) | (go_simp; rfl) | (go_simp; simp only [*]; done) | rfl
          try simp only [Act.put, List.getElem_toArray, List.getElem_cons_zero, List.getElem_cons_succ, List.setIfInBounds_toArray, List.set_cons_zero, List.set_cons_succ]
          refine wpAnyH_take (i := 14) (v := .slice (some ⟨g, o, none⟩) n c) rfl (by kernel_rfl) (by kernel_rfl) (by kernel_rfl) (fun _ _ _ h => h) (Or.inl ⟨by rfl, fun V hV => ?_⟩) hHeld ?_
          · (try dsimp only at hV); (try obtain _ := hV); first | (go_simp; done) | (go_simp; rfl) | (go_simp; simp only [*]; done) | rfl
          try simp only [Act.put, List.getElem_toArray, List.getElem_cons_zero, List.getElem_cons_succ, List.setIfInBounds_toArray, List.set_cons_zero, List.set_cons_succ]
          refine wpAnyH_take (i := 15) (v := .pointer (some ⟨H, 0, none⟩)) rfl (by kernel_rfl) (by kernel_rfl) (by kernel_rfl) (fun _ _ _ h => h) (Or.inl ⟨by rfl, fun V hV => ?_⟩) hHeld ?_
          · (try dsimp only at hV); (try obtain _ := hV); first | (go_simp; done) | (go_simp; rfl) | (go_simp; simp only [*]; done) | rfl
          try simp only [Act.put, List.getElem_toArray, List.getElem_cons_zero, List.getElem_cons_succ, List.setIfInBounds_toArray, List.set_cons_zero, List.set_cons_succ]
          refine wpAnyH_take (i := 16) (v := .string vc) rfl (by kernel_rfl) (by kernel_rfl) (by kernel_rfl) (fun _ _ _ h => h) (Or.inl ⟨by rfl, fun V hV => ?_⟩) hHeld ?_
          · (try dsimp only at hV); (try obtain _ := hV); first | (go_simp; done) | (go_simp; rfl) | (go_simp; simp only [*]; done) | rfl
          try simp only [Act.put, List.getElem_toArray, List.getElem_cons_zero, List.getElem_cons_succ, List.setIfInBounds_toArray, List.set_cons_zero, List.set_cons_succ]
          refine wpAnyH_ready (rs := [17]) (by kernel_rfl) (by simp) ?_
          refine AllReadyH.cons rfl (fun K hK => ?_) AllReadyH.nil
          go_simp
          go_at_call 47
          refine (HCN.out _ S1).mono ?_
          rintro e w5 ⟨rfl, hb5⟩
          refine hK.out _ _ (HZ.out _ (below_call S1 hb5 (Nat.le_refl _))) (fun hHeld => ?_)
          clear hK K
          try simp only [Act.put, List.getElem_toArray, List.getElem_cons_zero, List.getElem_cons_succ, List.setIfInBounds_toArray, List.set_cons_zero, List.set_cons_succ]
          refine wpAnyH_take (i := 18) (v := .bool C1) rfl (by kernel_rfl) (by kernel_rfl) (by kernel_rfl) (fun _ _ _ h => h) (Or.inl ⟨by rfl, fun V hV => ?_⟩) hHeld ?_
          · (try dsimp only at hV); (try obtain _ := hV); first | (go_simp; done) | (go_simp; rfl) | (go_simp; simp only [*]; done) | rfl
          try simp only [Act.put, List.getElem_toArray, List.getElem_cons_zero, List.getElem_cons_succ, List.setIfInBounds_toArray, List.set_cons_zero, List.set_cons_succ]
          refine wpAnyH_done (by kernel_rfl) ?_ _
          go_wp2_with fail
          go_meet
          exact ⟨rfl, HT1.out.callB (below_call S1 hb5 (Nat.le_refl _))⟩
          -- A ends
        · obtain ⟨j, hkj⟩ : ∃ j, k = j + 1 := ⟨k - 1, by omega⟩
          obtain ⟨oc, p0, hEQ⟩ := HP1.out j hkj
          have HZ2 : Hid (∀ V, Below W1.heap.size W1 V → V.cell? ⟨H, 0, none⟩ = some (.string vc) ∧ V.cell? ⟨g, o + j * 3, none⟩ = some (.string oc)) := Lib.hid (fun V h => ⟨HZ.out V h, below_cell h p0⟩)
          have hj0 : (0 : Int) ≤ (j : Int) := by omega
          have hjn : (j : Int) < (n : Int) := by omega
          have hj1 : (k : Int) - 1 = (j : Int) := by omega
          have hg0 : ((k : Int) == 0) = false := by rw [beq_eq_false_iff_ne]; omega
          clear HP1 HF0 HZ hkj hk00
          obtain ⟨z0, p0⟩ := HZ2.out _ S0
          cases FS
          · obtain rfl : false = G1 := by rw [← HG1.out]; simp
            clear HG1 HCN
            go_wp2_with fail
            go_quiet (fail)
            go_wp2_with fail
            go_meet
            exact ⟨rfl, HT1.out.drewN _⟩
          · obtain rfl : C1 = G1 := by rw [← HG1.out]; simp
            have hw1 : IntKind.i64.wrap ((k : Int) - 1) = (j : Int) := (IntWalk.i64_in _ (by omega)).trans (by omega)
            have hw3 : IntKind.i64.wrap (j : Int) = (j : Int) := IntWalk.i64_in _ (by omega)
            have hne : (oc.toList == vc.toList) = false := hEQ
            clear HG1
            go_wp2_with fail
            -- C begins
            refine wp_region_held_drew (S := fun V => V.cell? ⟨H, 0, none⟩ = some (.string vc) ∧ V.cell? ⟨g, o + j * 3, none⟩ = some (.string oc)) (by kernel_rfl) (HZ2.out _ S1) (fun hHeld => ?_)
            refine wpAnyH_take (i := 0) (v := .int .i64 k) rfl (by kernel_rfl) (by kernel_rfl) (by kernel_rfl) (fun _ _ _ h => h) (Or.inl ⟨by rfl, fun V hV => ?_⟩) hHeld ?_
            · (try dsimp only at hV); (try obtain ⟨_, _⟩ := hV); first | (go_simp; done) | (go_simp; rfl) | (go_simp; simp only [*]; done) | rfl
            try simp only [Act.put, List.getElem_toArray, List.getElem_cons_zero, List.getElem_cons_succ, List.setIfInBounds_toArray, List.set_cons_zero, List.set_cons_succ]
            refine wpAnyH_take (i := 1) (v := .bool false) rfl (by kernel_rfl) (by kernel_rfl) (by kernel_rfl) (fun _ _ _ h => h) (Or.inl ⟨by rfl, fun V hV => ?_⟩) hHeld ?_
            · (try dsimp only at hV); (try obtain ⟨_, _⟩ := hV); first | (go_simp; done) | (go_simp; rfl) | (go_simp; simp only [*]; done) | rfl
            try simp only [Act.put, List.getElem_toArray, List.getElem_cons_zero, List.getElem_cons_succ, List.setIfInBounds_toArray, List.set_cons_zero, List.set_cons_succ]
            refine wpAnyH_take (i := 2) (v := .bool false) rfl (by kernel_rfl) (by kernel_rfl) (by kernel_rfl) (fun _ _ _ h => h) (Or.inl ⟨by rfl, fun V hV => ?_⟩) hHeld ?_
            · (try dsimp only at hV); (try obtain ⟨_, _⟩ := hV); first | (go_simp; done) | (go_simp; rfl) | (go_simp; simp only [*]; done) | rfl
            try simp only [Act.put, List.getElem_toArray, List.getElem_cons_zero, List.getElem_cons_succ, List.setIfInBounds_toArray, List.set_cons_zero, List.set_cons_succ]
            refine wpAnyH_take (i := 3) (v := .slice (some ⟨g, o, none⟩) n c) rfl (by kernel_rfl) (by kernel_rfl) (by kernel_rfl) (fun _ _ _ h => h) (Or.inl ⟨by rfl, fun V hV => ?_⟩) hHeld ?_
            · (try dsimp only at hV); (try obtain ⟨_, _⟩ := hV); first | (go_simp; done) | (go_simp; rfl) | (go_simp; simp only [*]; done) | rfl
            try simp only [Act.put, List.getElem_toArray, List.getElem_cons_zero, List.getElem_cons_succ, List.setIfInBounds_toArray, List.set_cons_zero, List.set_cons_succ]
            refine wpAnyH_take (i := 4) (v := .int .i64 k) rfl (by kernel_rfl) (by kernel_rfl) (by kernel_rfl) (fun _ _ _ h => h) (Or.inl ⟨by rfl, fun V hV => ?_⟩) hHeld ?_
            · (try dsimp only at hV); (try obtain ⟨_, _⟩ := hV); first | (go_simp; done) | (go_simp; rfl) | (go_simp; simp only [*]; done) | rfl
            try simp only [Act.put, List.getElem_toArray, List.getElem_cons_zero, List.getElem_cons_succ, List.setIfInBounds_toArray, List.set_cons_zero, List.set_cons_succ]
            refine wpAnyH_take (i := 5) (v := .int .i64 j) rfl (by kernel_rfl) (by kernel_rfl) (by kernel_rfl) (fun _ _ _ h => h) (Or.inl ⟨by rfl, fun V hV => ?_⟩) hHeld ?_
            · (try dsimp only at hV); (try obtain ⟨_, _⟩ := hV); first | (go_simp; done) | (go_simp; rfl) | (go_simp; simp only [*]; done) | rfl
            try simp only [Act.put, List.getElem_toArray, List.getElem_cons_zero, List.getElem_cons_succ, List.setIfInBounds_toArray, List.set_cons_zero, List.set_cons_succ]
            refine wpAnyH_take (i := 6) (v := .pointer (some ⟨g, o + j * 3, none⟩)) rfl (by kernel_rfl) (by kernel_rfl) (by kernel_rfl) (fun _ _ _ h => h) (Or.inl ⟨by rfl, fun V hV => ?_⟩) hHeld ?_
            · (try dsimp only at hV); (try obtain ⟨_, _⟩ := hV); first | (go_simp; done) | (go_simp; rfl) | (go_simp; simp only [*]; done) | rfl
            try simp only [Act.put, List.getElem_toArray, List.getElem_cons_zero, List.getElem_cons_succ, List.setIfInBounds_toArray, List.set_cons_zero, List.set_cons_succ]
            refine wpAnyH_take (i := 7) (v := .pointer (some ⟨g, o + j * 3, none⟩)) rfl (by kernel_rfl) (by kernel_rfl) (by kernel_rfl) (fun _ _ _ h => h) (Or.inl ⟨by rfl, fun V hV => ?_⟩) hHeld ?_
            · (try dsimp only at hV); (try obtain ⟨_, _⟩ := hV); first | (go_simp; done) | (go_simp; rfl) | (go_simp; simp only [*]; done) | rfl
            try simp only [Act.put, List.getElem_toArray, List.getElem_cons_zero, List.getElem_cons_succ, List.setIfInBounds_toArray, List.set_cons_zero, List.set_cons_succ]
            refine wpAnyH_take (i := 8) (v := .string oc) rfl (by kernel_rfl) (by kernel_rfl) (by kernel_rfl) (fun _ _ _ h => h) (Or.inl ⟨by rfl, fun V hV => ?_⟩) hHeld ?_
            · (try dsimp only at hV); (try obtain ⟨_, _⟩ := hV); first | (go_simp; done) | (go_simp; rfl) | (go_simp; simp only [*]; done) | rfl
            try simp only [Act.put, List.getElem_toArray, List.getElem_cons_zero, List.getElem_cons_succ, List.setIfInBounds_toArray, List.set_cons_zero, List.set_cons_succ]
            refine wpAnyH_take (i := 9) (v := .pointer (some ⟨H, 0, none⟩)) rfl (by kernel_rfl) (by kernel_rfl) (by kernel_rfl) (fun _ _ _ h => h) (Or.inl ⟨by rfl, fun V hV => ?_⟩) hHeld ?_
            · (try dsimp only at hV); (try obtain ⟨_, _⟩ := hV); first | (go_simp; done) | (go_simp; rfl) | (go_simp; simp only [*]; done) | rfl
            try simp only [Act.put, List.getElem_toArray, List.getElem_cons_zero, List.getElem_cons_succ, List.setIfInBounds_toArray, List.set_cons_zero, List.set_cons_succ]
            refine wpAnyH_take (i := 10) (v := .string vc) rfl (by kernel_rfl) (by kernel_rfl) (by kernel_rfl) (fun _ _ _ h => h) (Or.inl ⟨by rfl, fun V hV => ?_⟩) hHeld ?_
            · (try dsimp only at hV); (try obtain ⟨_, _⟩ := hV); first | (go_simp; done) | (go_simp; rfl) | (go_simp; simp only [*]; done) | rfl
            try simp only [Act.put, List.getElem_toArray, List.getElem_cons_zero, List.getElem_cons_succ, List.setIfInBounds_toArray, List.set_cons_zero, List.set_cons_succ]
            refine wpAnyH_take (i := 11) (v := .bool true) rfl (by kernel_rfl) (by kernel_rfl) (by kernel_rfl) (fun _ _ _ h => h) (Or.inl ⟨by rfl, fun V hV => ?_⟩) hHeld ?_
            · (try dsimp only at hV); (try obtain ⟨_, _⟩ := hV); first | (go_simp; done) | (go_simp; rfl) | (go_simp; simp only [*]; done) | rfl
            try simp only [Act.put, List.getElem_toArray, List.getElem_cons_zero, List.getElem_cons_succ, List.setIfInBounds_toArray, List.set_cons_zero, List.set_cons_succ]
            refine wpAnyH_take (i := 12) (v := .bool true) rfl (by kernel_rfl) (by kernel_rfl) (by kernel_rfl) (fun _ _ _ h => h) (Or.inl ⟨by rfl, fun V hV => ?_⟩) hHeld ?_
            · (try dsimp only at hV); (try obtain ⟨_, _⟩ := hV); first | (go_simp; done) | (go_simp; rfl) | (go_simp; simp only [*]; done) | rfl
            try simp only [Act.put, List.getElem_toArray, List.getElem_cons_zero, List.getElem_cons_succ, List.setIfInBounds_toArray, List.set_cons_zero, List.set_cons_succ]
            refine wpAnyH_take (i := 13) (v := .bool true) rfl (by kernel_rfl) (by kernel_rfl) (by kernel_rfl) (fun _ _ _ h => h) (Or.inl ⟨by rfl, fun V hV => ?_⟩) hHeld ?_
            · (try dsimp only at hV); (try obtain ⟨_, _⟩ := hV); first | (go_simp; done) | (go_simp; rfl) | (go_simp; simp only [*]; done) | rfl
            try simp only [Act.put, List.getElem_toArray, List.getElem_cons_zero, List.getElem_cons_succ, List.setIfInBounds_toArray, List.set_cons_zero, List.set_cons_succ]
            refine wpAnyH_take (i := 14) (v := .slice (some ⟨g, o, none⟩) n c) rfl (by kernel_rfl) (by kernel_rfl) (by kernel_rfl) (fun _ _ _ h => h) (Or.inl ⟨by rfl, fun V hV => ?_⟩) hHeld ?_
            · (try dsimp only at hV); (try obtain ⟨_, _⟩ := hV); first | (go_simp; done) | (go_simp; rfl) | (go_simp; simp only [*]; done) | rfl
            try simp only [Act.put, List.getElem_toArray, List.getElem_cons_zero, List.getElem_cons_succ, List.setIfInBounds_toArray, List.set_cons_zero, List.set_cons_succ]
            refine wpAnyH_take (i := 15) (v := .pointer (some ⟨H, 0, none⟩)) rfl (by kernel_rfl) (by kernel_rfl) (by kernel_rfl) (fun _ _ _ h => h) (Or.inl ⟨by rfl, fun V hV => ?_⟩) hHeld ?_
            · (try dsimp only at hV); (try obtain ⟨_, _⟩ := hV); first | (go_simp; done) | (go_simp; rfl) | (go_simp; simp only [*]; done) | rfl
            try simp only [Act.put, List.getElem_toArray, List.getElem_cons_zero, List.getElem_cons_succ, List.setIfInBounds_toArray, List.set_cons_zero, List.set_cons_succ]
            refine wpAnyH_take (i := 16) (v := .string vc) rfl (by kernel_rfl) (by kernel_rfl) (by kernel_rfl) (fun _ _ _ h => h) (Or.inl ⟨by rfl, fun V hV => ?_⟩) hHeld ?_
            · (try dsimp only at hV); (try obtain ⟨_, _⟩ := hV); first | (go_simp; done) | (go_simp; rfl) | (go_simp; simp only [*]; done) | rfl
            try simp only [Act.put, List.getElem_toArray, List.getElem_cons_zero, List.getElem_cons_succ, List.setIfInBounds_toArray, List.set_cons_zero, List.set_cons_succ]
            refine wpAnyH_ready (rs := [17]) (by kernel_rfl) (by simp) ?_
            refine AllReadyH.cons rfl (fun K hK => ?_) AllReadyH.nil
            go_simp
            go_at_call 47
            refine (HCN.out _ S1).mono ?_
            rintro e w5 ⟨rfl, hb5⟩
            refine hK.out _ _ (HZ2.out _ (below_call S1 hb5 (Nat.le_refl _))) (fun hHeld => ?_)
            clear hK K
            try simp only [Act.put, List.getElem_toArray, List.getElem_cons_zero, List.getElem_cons_succ, List.setIfInBounds_toArray, List.set_cons_zero, List.set_cons_succ]
            refine wpAnyH_take (i := 18) (v := .bool C1) rfl (by kernel_rfl) (by kernel_rfl) (by kernel_rfl) (fun _ _ _ h => h) (Or.inl ⟨by rfl, fun V hV => ?_⟩) hHeld ?_
            · (try dsimp only at hV); (try obtain ⟨_, _⟩ := hV); first | (go_simp; done) | (go_simp; rfl) | (go_simp; simp only [*]; done) | rfl
            try simp only [Act.put, List.getElem_toArray, List.getElem_cons_zero, List.getElem_cons_succ, List.setIfInBounds_toArray, List.set_cons_zero, List.set_cons_succ]
            refine wpAnyH_done (by kernel_rfl) ?_ _
            go_wp2_with fail
            go_meet
            exact ⟨rfl, HT1.out.callB (below_call S1 hb5 (Nat.le_refl _))⟩
            -- C ends
      obtain ⟨rfl, hT2⟩ := hcut
      clear hT1 z0 z1 z2 HCN HP1 HF0 HG1
      have hvb : Blk _ _ _ _ := hT2.head
      have z0 := hvb.cell 0
      have z1 := hvb.cell 1
      have z2 := hvb.cell 2
      clear hvb
      cases G1
      · rw [if_neg (by decide), List.nil_append] at hst
        have HST2 := Lib.hid hst
        clear hst
        go_wp2_with fail
        go_roundw
        case rel => exact ⟨k + 1, B, d, m, hs, by omega, rfl, by go_num, hmh, by omega, HST2, hT2.tail⟩
        case measure => simp [intOf]; omega
      · rw [if_pos rfl, ← List.append_assoc] at hst
        have HST2 := Lib.hid hst
        clear hst
        have hT3 := hT2.front 1 rfl rfl
        have HO5 : wc.ownsRow w.heap.size 9 1 (.slice B m d) m (strsV hs) := hT3.head
        have hsz3 := hT3.size
        go_wp2_with (first
          | (at_builtin; refine wpList_append_own_at _ rfl _ _ 37 rfl w.heap.size 9 i0 (.string ⟨#[]⟩) 1 16 Tryz.underlying37 hi hy0 hy1 hy2 rfl (by decide) _ _ _ rfl (HO5.alloc _) ⟨wc.heap.size, 0, none⟩ 1 1 [.string vc] rfl rfl (World.news_of_block (heap_alloc_new _ _)) (one1 rfl) (by unfold maxLen; omega) (by omega) (by simp; omega) ?_; intro v' w8 hown' hgrow _ hblk; obtain ⟨A8, c8, hv8⟩ := own_form hown'; subst hv8; have hT8 := (hT3.alloc _).append hown' hgrow hblk; clear hown' hgrow hblk))
        go_roundw
        case rel => exact ⟨k + 1, A8, c8, m + 1, hs ++ [vc], by omega, rfl, by go_num, by simp [hmh], by omega, HST2, by
          have : strsV (hs ++ [vc]) = strsV hs ++ [.string vc] := by simp [strsV]
          rw [this]
          exact hT8.drop 1 rfl rfl⟩
        case measure => simp [intOf]; omega
    · obtain rfl : k = n := by omega
      have HS := Lib.hid (HG.out.trans (by rw [List.drop_of_length_le (by rw [HL.out]; exact Nat.le_refl _), HN0.out, List.append_nil] : _ = hs))
      clear HG
      go_wp2_with fail
      go_ret2
      rw [HS.out, hmh]
      exact ⟨B, d, rfl, hT.head, hT.below⟩
end Go.Proofs.YtlkapcjofgpiiaaGreatDoor
