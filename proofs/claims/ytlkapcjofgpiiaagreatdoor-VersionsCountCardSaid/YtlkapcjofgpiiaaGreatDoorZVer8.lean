/-
  The runs that are lost, as the reference says it: LostOf by a contract.
-/
import Derived.Test.YtlkapcjofgpiiaaGreatDoorZDelC
import Derived.Test.YtlkapcjofgpiiaaGreatDoorZVer7
import Derived.Test.YtlkapcjofgpiiaaGreatDoorZSlot1
import Derived.Deep.DeepCutAuto
namespace Go.Proofs.YtlkapcjofgpiiaaGreatDoor
open Go Go.RowKit TxtP
attribute [local go_sem ↓] Go.wp_at_zero Go.wp_at_succ

theorem mem_cnt (vs : List Vr) (x : Rn) (cat : ByteArray) (h : hasC vs cat = true) : memS (cntL vs x) cat = cntV vs cat x := by
  have inj : ∀ a b : ByteArray, a.toList = b.toList → a = b := fun a b h => by
    rw [← mkB_toList a, h, mkB_toList]
  have hc : cat ∈ catL vs := by
    rw [catL_mem]
    unfold hasC at h
    obtain ⟨v, hv, he⟩ := List.any_eq_true.1 h
    exact ⟨v, hv, inj _ _ (by simpa using he)⟩
  rw [cnt_cat, Bool.eq_iff_iff]
  unfold memS kptS eqS
  rw [List.any_eq_true]
  constructor
  · rintro ⟨y, hy, he⟩
    obtain ⟨_, hy2⟩ := List.mem_filter.1 hy
    have : cat = y := inj _ _ (by simpa using he)
    subst this
    simpa using hy2
  · intro hcv
    exact ⟨cat, List.mem_filter.2 ⟨hc, by simp [hcv]⟩, by simp⟩
set_option maxRecDepth 100000 in
set_option maxHeartbeats 8000000 in
theorem lostOf_calls (b : Nat) (A : Option Addr) (n c : Nat) (vs : List Vr) (A2 : Option Addr) (m c2 : Nat) (xs : List Rn) (cat : ByteArray) (w : World) (hr : Vrs w b A n c vs) (hx : Rns w b A2 m c2 xs) (hv : versF vs = 0) (h1 : runsF xs = 0) (hh : hasC vs cat = true) (hm : MxL w) (hlt2 : b < w.heap.size) :
    Calls Tryz.prog 29 #[.slice A n c, .slice A2 m c2, .string cat] w (fun e w' => ∃ A' c', e = .returned (.slice A' (lostL vs xs cat).length c') ∧ w'.ownsRow w.heap.size 9 1 (.slice A' (lostL vs xs cat).length c') (lostL vs xs cat).length (strsV (lostL vs xs cat)) ∧ Below w.heap.size w w') := by
  obtain ⟨i0, hi, hy0, hy1, hy2⟩ := info_parts info_str
  obtain ⟨hxl, hxnc, hxcm, hxcells⟩ := hx.rd.cells rnC_len (by omega)
  unfold maxLen at hxcm
  obtain ⟨hm1000, hrz⟩ := runsF_zero h1
  have hm1 : m ≤ 1000 := by omega
  have HXL := Lib.hid hxl
  have HXC := Lib.hid hxcells
  have hRg := rulAt_rgt (versF_rules hv) cat endT
  have hRz := rulAt_size hr.ok cat endT
  have HLS := Lib.hid (fun k hk => lostL_step vs xs cat k hk)
  have HLB : Hid (∀ x, lstB vs x cat = (cntV vs cat x && !(!isE (rulAt vs cat endT) && hldV numF (rulAt vs cat endT) x))) := Lib.hid (fun _ => rfl)
  have HL0 : Hid (lostL vs (xs.take 0) cat = []) := Lib.hid (by simp [lostL])
  have HLm : Hid (lostL vs (xs.take m) cat = lostL vs xs cat) := Lib.hid (by rw [List.take_of_length_le (by rw [hxl]; exact Nat.le_refl _)])
  have HI := Lib.hid (ruleFor_calls b A n c vs cat endT w hr)
  have HRW : Hid (∀ V, Below w.heap.size w V → ∀ (k : Nat) (hk : k < xs.length), RnW V b xs[k]) := Lib.hid (fun V hV k hk => (hx.ok _ (List.getElem_mem hk)).below hV)
  have HCF : Hid (∀ V, Below w.heap.size w V → ∀ (k : Nat) (hk : k < xs.length), Calls Tryz.prog 28 #[.slice A n c, .agg #[.string xs[k].id, .string xs[k].who, .int .i64 xs[k].time, .int .i64 xs[k].date, .slice xs[k].fa xs[k].fs.length xs[k].fc]] V
      (fun e w' => ∃ A' q c', e = .returned (.slice A' q c') ∧ Below V.heap.size V w' ∧ ∀ V2, Below w'.heap.size w' V2 → Calls Tryz.prog 13 #[.slice A' q c', .string cat] V2 (fun e w' => e = .returned (.bool (cntV vs cat xs[k])) ∧ ∃ nq, w' = V2.drewN nq))) := Lib.hid (fun V hV k hk => by
    refine (countsFor_calls b A n c vs xs[k] V (hr.below hV) (HRW.out V hV k hk) hv (hrz _ (List.getElem_mem hk)) (hm.below hV) (Nat.lt_of_lt_of_le hlt2 hV.size)).mono ?_
    rintro e w' ⟨A', c', rfl, h2, h3⟩
    refine ⟨A', _, c', rfl, h3, fun V2 hV2 => ?_⟩
    refine (containsS_calls b A' _ c' (cntL vs xs[k]) cat V2 (h2.below hV2)).mono ?_
    rintro e w9 ⟨rfl, nq, rfl⟩
    exact ⟨by rw [mem_cnt vs _ cat hh], nq, rfl⟩)
  have HHF : Hid (isE (rulAt vs cat endT) = false → ∀ V, Below w.heap.size w V → ∀ (k : Nat) (hk : k < xs.length), Calls Tryz.prog 66 #[.string (rulAt vs cat endT), .agg #[.string xs[k].id, .string xs[k].who, .int .i64 xs[k].time, .int .i64 xs[k].date, .slice xs[k].fa xs[k].fs.length xs[k].fc]] V (BRet (.bool (hldV numF (rulAt vs cat endT) xs[k])) V)) :=
    Lib.hid (fun he V hV k hk => holdsForV_calls _ b xs[k] V hRz (by unfold rulE; rw [if_pos (hRg he), hrz _ (List.getElem_mem hk)]) (HRW.out V hV k hk) (hm.below hV))
  obtain ⟨R, hR⟩ : ∃ z, rulAt vs cat endT = z := ⟨_, rfl⟩
  rw [hR] at HI HLB HHF
  obtain ⟨LL, hLL⟩ : ∃ z : Nat → List ByteArray, (fun k => lostL vs (xs.take k) cat) = z := ⟨_, rfl⟩
  have hLLk : ∀ k, lostL vs (xs.take k) cat = LL k := fun k => by rw [← hLL]
  simp only [hLLk] at HLS HL0 HLm
  obtain ⟨LB, hLB⟩ : ∃ z : Rn → Bool, (fun x => lstB vs x cat) = z := ⟨_, rfl⟩
  have hLBx : ∀ x, lstB vs x cat = LB x := fun x => by rw [← hLB]
  simp only [hLBx] at HLS HLB
  obtain ⟨CV, hCV⟩ : ∃ z : Rn → Bool, (fun x => cntV vs cat x) = z := ⟨_, rfl⟩
  have hCVx : ∀ x, cntV vs cat x = CV x := fun x => by rw [← hCV]
  simp only [hCVx] at HCF HLB
  obtain ⟨LO, hLO⟩ : ∃ z, lostL vs xs cat = z := ⟨_, rfl⟩
  rw [hLO] at HLm
  rw [hLO]
  have HEND : endT = 345686400000 := rfl
  rw [HEND] at HI
  have hS0 := (Sq.start w).nil w.heap.size 9 1
  obtain ⟨IE, hIE⟩ : ∃ z, isE R = z := ⟨_, rfl⟩
  rw [hIE] at HI HLB HHF
  clear hLL hLLk hLB hLBx hCV hCVx hLO HEND hR hrz hxcells hxl hRg hr hx h1 hh hv hm1000 hIE HRW hm hRz
  go_enter Tryz.func29, Tryz.ntmps29
  go_wp2_with (first | (go_at_call 27; refine HI.out.mono ?_; rintro e w1 ⟨rfl, hb1⟩; have hS1 := hS0.callB hb1))
  clear HI hS0
  go_loopw [9, 20] (fun v i wr => ∃ (k : Nat) (B : Option Addr) (d q : Nat) (hs : List ByteArray), k ≤ m ∧ v = .slice B q d ∧ i = .int .i64 k ∧ hs.length = q ∧ q ≤ k ∧ Hid (hs = LL k) ∧ Sq w wr [rOwn w.heap.size 9 1 (.slice B q d) q (strsV hs)]) (fun _ i _ => m - (intOf i).toNat)
  case atStart => exact ⟨0, none, 0, 0, [], Nat.zero_le _, rfl, rfl, rfl, Nat.zero_le _, Lib.hid HL0.out.symm, hS1⟩
  case round =>
    clear hS1
    obtain ⟨k, B, d, q, hs, hk, rfl, rfl, hqh, hqk, HG, hT⟩ := hrel
    by_cases hlt : k < m
    · have hkr : k < xs.length := by rw [HXL.out]; exact hlt
      obtain ⟨g, o, hA, _, hcs⟩ := HXC.out (by omega)
      subst hA
      have hk0 : (0 : Int) ≤ (k : Int) := by omega
      have hkn : (k : Int) < (m : Int) := by omega
      have hst : LL (k + 1) = hs ++ if LB xs[k] = true then [xs[k].id] else [] := by rw [HG.out]; exact HLS.out k hkr
      have hlb := HLB.out xs[k]
      have HCF1 := Lib.hid (fun V hV => HCF.out V hV k hkr)
      have HHF1 := Lib.hid (fun h V hV => HHF.out h V hV k hkr)
      have c0 := below_cell hT.below (hcs k hkr 0 (by omega))
      have c1 := below_cell hT.below (hcs k hkr 1 (by omega))
      have c2 := below_cell hT.below (hcs k hkr 2 (by omega))
      have c3 := below_cell hT.below (hcs k hkr 3 (by omega))
      have c4 := below_cell hT.below (hcs k hkr 4 (by omega))
      obtain ⟨x, hxk⟩ : ∃ x, xs[k] = x := ⟨_, rfl⟩
      rw [hxk] at hst hlb HCF1 HHF1 c0 c1 c2 c3 c4
      obtain ⟨C1, hC1⟩ : ∃ z, CV x = z := ⟨_, rfl⟩
      rw [hC1] at hlb HCF1
      obtain ⟨G1, hG1⟩ : ∃ z, LB x = z := ⟨_, rfl⟩
      rw [hG1] at hlb hst
      obtain ⟨HD, hHD⟩ : ∃ z, hldV numF R x = z := ⟨_, rfl⟩
      rw [hHD] at hlb HHF1
      clear hcs hxk hC1 hG1 hHD HG
      obtain ⟨xi, xw, xt, xd, xfa, xfc, xfs⟩ := x
      simp only at hst HCF1 HHF1
      replace c0 : wr.cell? ⟨g, o + k * 5, none⟩ = some (.string xi) := c0
      replace c1 : wr.cell? ⟨g, o + k * 5 + 1, none⟩ = some (.string xw) := c1
      replace c2 : wr.cell? ⟨g, o + k * 5 + 2, none⟩ = some (.int .i64 xt) := c2
      replace c3 : wr.cell? ⟨g, o + k * 5 + 3, none⟩ = some (.int .i64 xd) := c3
      replace c4 : wr.cell? ⟨g, o + k * 5 + 4, none⟩ = some (.slice xfa xfs.length xfc) := c4
      obtain ⟨fl, hfl⟩ : ∃ z, xfs.length = z := ⟨_, rfl⟩
      rw [hfl] at HCF1 HHF1 c4
      clear hfl
      have hT1 := (hT.add #[.string xi, .string xw, .int .i64 xt, .int .i64 xd, .slice xfa fl xfc] 36).front 1 rfl rfl
      go_upto_region 6 with (fail)
      obtain ⟨H, hH⟩ : ∃ H, wr.heap.size = H := ⟨_, rfl⟩
      obtain ⟨W1, hW1⟩ : ∃ W, wr.alloc (.cells #[.string xi, .string xw, .int .i64 xt, .int .i64 xd, .slice xfa fl xfc] 36) = W := ⟨_, rfl⟩
      rw [hH, hW1] at hT1
      rw [hH, hW1]
      clear c0 c1 c2 c3 c4 hH hW1 hT
      have HCE : Hid (∀ V, Below W1.heap.size W1 V → V.cell? ⟨H, 0, none⟩ = some (.string xi) ∧ V.cell? ⟨H, 1, none⟩ = some (.string xw) ∧ V.cell? ⟨H, 2, none⟩ = some (.int .i64 xt) ∧ V.cell? ⟨H, 3, none⟩ = some (.int .i64 xd) ∧ V.cell? ⟨H, 4, none⟩ = some (.slice xfa fl xfc)) := Lib.hid (fun V h => by
        have hb := (show Blk W1 H 36 _ from hT1.nth 1 rfl).below h
        exact ⟨hb.cell 0, hb.cell 1, hb.cell 2, hb.cell 3, hb.cell 4⟩)
      obtain ⟨k0, k1, k2, k3, k4⟩ := HCE.out _ (Below.refl _ _)
      have hbW := hT1.below
      go_cut [37] (fun s37 V => s37 = .bool G1 ∧ Below W1.heap.size W1 V ∧ Sq w V [rOwn w.heap.size 9 1 (.slice B q d) q (strsV hs)])
      case first =>
        have HTT := Lib.hid hT1
        clear hT1 hst
        cases C1
        · obtain rfl : G1 = false := hlb
          go_wp2_with (first
            | (go_at_call 28; refine (HCF1.out _ hbW).mono ?_; rintro e w5 ⟨A5, q5, c5, rfl, hb5, hcon⟩; have HCON := Lib.hid (hcon _ (Below.refl _ _)); clear hcon)
            | (go_at_call 13; refine HCON.out.mono ?_; rintro e w6 ⟨rfl, nq, rfl⟩))
          have hb6 := below_drewN hb5 nq
          go_meet
          exact ⟨rfl, hb6, (HTT.out.callB hb6).drop 1 rfl rfl⟩
        · cases IE
          · obtain rfl : G1 = !HD := hlb
            have HHF2 := Lib.hid (HHF1.out rfl)
            clear HHF1
            go_wp2_with (first
              | (go_at_call 28; refine (HCF1.out _ hbW).mono ?_; rintro e w5 ⟨A5, q5, c5, rfl, hb5, hcon⟩; have HCON := Lib.hid (hcon _ (Below.refl _ _)); clear hcon)
              | (go_at_call 13; refine HCON.out.mono ?_; rintro e w6 ⟨rfl, nq, rfl⟩; have hb6 := below_drewN hb5 nq; obtain ⟨k0, k1, k2, k3, k4⟩ := HCE.out _ hb6)
              | (go_at_call 66; refine (HHF2.out _ (below_call hbW hb6 (Nat.le_refl _))).mono ?_; rintro e w7 ⟨rfl, hb7⟩))
            have hb8 := below_call hb6 hb7 (Nat.le_refl _)
            go_meet
            exact ⟨rfl, hb8, (HTT.out.callB hb8).drop 1 rfl rfl⟩
          · obtain rfl : G1 = true := hlb
            go_wp2_with (first
              | (go_at_call 28; refine (HCF1.out _ hbW).mono ?_; rintro e w5 ⟨A5, q5, c5, rfl, hb5, hcon⟩; have HCON := Lib.hid (hcon _ (Below.refl _ _)); clear hcon)
              | (go_at_call 13; refine HCON.out.mono ?_; rintro e w6 ⟨rfl, nq, rfl⟩))
            have hb6 := below_drewN hb5 nq
            go_meet
            exact ⟨rfl, hb6, (HTT.out.callB hb6).drop 1 rfl rfl⟩
      obtain ⟨rfl, hbc, hT2⟩ := hcut
      obtain ⟨z0, _, _, _, _⟩ := HCE.out _ hbc
      clear hT1 HCE HCF1 HHF1 k0 k1 k2 k3 k4 hlb hbW hbc
      cases G1
      · rw [if_neg (by decide), List.append_nil] at hst
        have HST2 := Lib.hid hst.symm
        clear hst
        go_wp2_with fail
        go_roundw
        case rel => exact ⟨k + 1, B, d, q, hs, by omega, rfl, by go_num, hqh, by omega, HST2, hT2⟩
        case measure => simp [intOf]; omega
      · rw [if_pos rfl] at hst
        have HST2 := Lib.hid hst.symm
        clear hst
        have HO5 : wc.ownsRow w.heap.size 9 1 (.slice B q d) q (strsV hs) := hT2.head
        have hsz3 := hT2.size
        go_wp2_with (first
          | (at_builtin; refine wpList_append_own_at _ rfl _ _ 37 rfl w.heap.size 9 i0 (.string ⟨#[]⟩) 1 16 Tryz.underlying37 hi hy0 hy1 hy2 rfl (by decide) _ _ _ rfl (HO5.alloc _) ⟨wc.heap.size, 0, none⟩ 1 1 [.string xi] rfl rfl (World.news_of_block (heap_alloc_new _ _)) (one1 rfl) (by unfold maxLen; omega) (by omega) (by simp; omega) ?_; intro v' w8 hown' hgrow _ hblk; obtain ⟨A8, c8, hv8⟩ := own_form hown'; subst hv8; have hT8 := (hT2.alloc _).append hown' hgrow hblk; clear hown' hgrow hblk))
        go_roundw
        case rel => exact ⟨k + 1, A8, c8, q + 1, hs ++ [xi], by omega, rfl, by go_num, by simp [hqh], by omega, HST2, by
          have : strsV (hs ++ [xi]) = strsV hs ++ [.string xi] := by simp [strsV]
          rw [this]
          exact hT8⟩
        case measure => simp [intOf]; omega
    · obtain rfl : k = m := by omega
      have HS : Hid (LO = hs) := Lib.hid (HLm.out.symm.trans HG.out.symm)
      have HFO := Lib.hid (And.intro (hT.head : wr.ownsRow w.heap.size 9 1 (.slice B q d) q (strsV hs)) hT.below)
      clear HG hT
      go_wp2_with fail
      go_ret
      rw [HS.out, hqh]
      exact ⟨B, d, rfl, HFO.out.1, HFO.out.2⟩
end Go.Proofs.YtlkapcjofgpiiaaGreatDoor
