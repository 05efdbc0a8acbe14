/-
  The runs that are lost: rule.Lost by a contract. (Printed by gen_ver7.py.)
-/
import Derived.Test.YthbcogekfdllmaaGreatDoorZVer2
import Derived.Test.YthbcogekfdllmaaGreatDoorZRatMake4
import Derived.Test.YthbcogekfdllmaaGreatDoorZScmp
import Derived.Deep.DeepCutAuto
import Derived.Deep.RegionHeld3
import Derived.StillTailTactics
import Derived.Deep.QuietTactic
import Derived.BigQuiet
import Derived.Test.YthbcogekfdllmaaGreatDoorZRule2
namespace Go.Proofs.YthbcogekfdllmaaGreatDoor
open Go Go.RowKit TxtP
attribute [local go_sem ↓] Go.wp_at_zero Go.wp_at_succ

theorem runsG_zero : ∀ (xs : List Rn) (last : ByteArray), runsG last xs = 0 → ∀ x ∈ xs, runF x = 0
  | [], _, _, x, hx => by cases hx
  | y :: ys, last, h, x, hx => by
    rw [runsG] at h
    by_cases h1 : runF y = 0
    · rw [if_pos h1] at h
      by_cases h2 : leS y.id last = true
      · rw [if_pos h2] at h; cases h
      · rw [if_neg h2] at h
        rcases List.mem_cons.1 hx with rfl | hx
        · exact h1
        · exact runsG_zero ys _ h x hx
    · rw [if_neg h1] at h; exact absurd h h1
theorem runsF_zero {xs : List Rn} (h : runsF xs = 0) : xs.length ≤ 1000 ∧ ∀ x ∈ xs, runF x = 0 := by
  unfold runsF at h
  split at h
  · cases h
  · exact ⟨by omega, runsG_zero xs _ h⟩
/-- is a run lost? -/
def lstB (vs : List Vr) (x : Rn) (c : ByteArray) : Bool := cntV vs c x && !(!isE (rulAt vs c endT) && hldV numF (rulAt vs c endT) x)
theorem lostL_step (vs : List Vr) (xs : List Rn) (c : ByteArray) (k : Nat) (hk : k < xs.length) : lostL vs (xs.take (k + 1)) c = lostL vs (xs.take k) c ++ if lstB vs xs[k] c = true then [xs[k].id] else [] := by
  rw [List.take_succ_eq_append_getElem hk]
  unfold lostL
  rw [List.flatMap_append]
  simp [lstB]
/-- what Lost answers -/
def lostA (vs : List Vr) (xs : List Rn) (c : ByteArray) : List ByteArray := if lostE vs xs c = 0 then lostL vs xs c else []
def LostS (vs : List Vr) (xs : List Rn) (cat : ByteArray) (w : World) (e : Ending) (w' : World) : Prop :=
  ∃ A c, e = .returned (.tuple #[.slice A (lostA vs xs cat).length c, .int .i64 (lostE vs xs cat)]) ∧ w'.ownsRow w.heap.size 9 1 (.slice A (lostA vs xs cat).length c) (lostA vs xs cat).length (strsV (lostA vs xs cat)) ∧ Below w.heap.size w w'
set_option maxRecDepth 100000 in
set_option maxHeartbeats 8000000 in
theorem lost_calls (b b2 : Nat) (A : Option Addr) (n c : Nat) (vs : List Vr) (A2 : Option Addr) (m c2 : Nat) (xs : List Rn) (cat : ByteArray) (w : World) (hr : Vrs w b A n c vs) (hx : Rns w b2 A2 m c2 xs) (hlt2 : b2 < w.heap.size) (hz : cat.size ≤ 1000000) :
    Calls Tryz.prog 38 #[.slice A n c, .slice A2 m c2, .string cat] w (LostS vs xs cat w) := by
  obtain ⟨i0, hi, hy0, hy1, hy2⟩ := info_parts info_str
  have hS := (Sq.start w).add #[.string cat] 9
  have hB0 := hS.below
  have hg0 : Blk (w.alloc (.cells #[.string cat] 9)) w.heap.size 9 #[.string cat] := hS.head
  have d0 := hg0.cell 0
  replace d0 : (w.alloc (.cells #[.string cat] 9)).cell? ⟨w.heap.size, 0, none⟩ = some (.string cat) := d0
  obtain ⟨W0, hW0⟩ : ∃ W, w.alloc (.cells #[.string cat] 9) = W := ⟨_, rfl⟩
  have HW0 := Lib.hid hW0
  rw [hW0] at hB0 hg0 d0
  have hr0 := hr.below hB0
  have hx0 := hx.below hB0
  have hlt20 := Nat.lt_of_lt_of_le hlt2 hB0.size
  have HCV := Lib.hid (checkVersions_calls b A n c vs W0 hr0)
  have HK := Lib.hid (fun W => key_calls cat W (by unfold maxLen; omega))
  have HCR := Lib.hid (fun W (h : Below W0.heap.size W0 W) => checkRuns_calls b2 A2 m c2 xs W (hx0.below h) (Nat.lt_of_lt_of_le hlt20 h.size))
  have HCC := Lib.hid (fun W (h : Below W0.heap.size W0 W) => hasL_calls b w.heap.size cat A n c vs W (hg0.below h) (hr0.below h).rd)
  have HCB : Hid (∀ W, Below W0.heap.size W0 W → W.cell? ⟨w.heap.size, 0, none⟩ = some (.string cat)) := Lib.hid (fun W h => below_cell h d0)
  have HI := Lib.hid (fun W (h : Below W0.heap.size W0 W) => ruleAtI_calls b A n c vs cat endT W (hr0.below h))
  have HE : lostE vs xs cat = if versF vs = 0 then if keyB cat.data.toList = true then if runsF xs = 0 then if hasC vs cat = true then 0 else 8 else runsF xs else 5 else versF vs := rfl
  have HA : lostA vs xs cat = if lostE vs xs cat = 0 then lostL vs xs cat else [] := rfl
  have hRg := fun (h : versF vs = 0) => rulAt_rgt (versF_rules h) cat endT
  have hRz := rulAt_size hr.ok cat endT
  have HLS := Lib.hid (fun k hk => lostL_step vs xs cat k hk)
  have HLB : Hid (∀ x, lstB vs x cat = (cntV vs cat x && !(!isE (rulAt vs cat endT) && hldV numF (rulAt vs cat endT) x))) := Lib.hid (fun _ => rfl)
  have HL0 : Hid (lostL vs (xs.take 0) cat = []) := Lib.hid (by simp [lostL])
  have HLm : Hid (lostL vs (xs.take m) cat = lostL vs xs cat) := Lib.hid (by rw [List.take_of_length_le (by rw [(hx.rd.cells rnC_len (by omega)).1]; exact Nat.le_refl _)])
  unfold LostS
  obtain ⟨E, hE⟩ : ∃ z, lostE vs xs cat = z := ⟨_, rfl⟩
  obtain ⟨LA, hLA⟩ : ∃ z, lostA vs xs cat = z := ⟨_, rfl⟩
  rw [hE] at HE
  rw [hE, hLA] at HA
  rw [hE, hLA]
  by_cases h0 : versF vs = 0
  case neg =>
    rw [if_neg h0] at HE
    subst HE
    rw [if_neg h0] at HA
    subst HA
    have hne : (versF vs != 0) = true := by rw [bne_iff_ne]; exact h0
    have hN := fun W (h : Below w.heap.size w W) => World.ownsRow_nil W w.heap.size 9 1
    clear hS hg0 d0 HCR HCC HCB HI hRg HLS HLB HL0 HLm hE hLA hr hx hr0 hx0 hW0
    obtain ⟨VF, hVF⟩ : ∃ z, versF vs = z := ⟨_, rfl⟩
    rw [hVF] at hne HCV
    rw [hVF]
    clear hVF h0
    go_enter Tryz.func38, Tryz.ntmps38
    go_upto_region 1 with (fail)
    rw [HW0.out]
    go_wp2_with (first | (go_at_call 93; refine HCV.out.mono ?_; rintro e w1 ⟨rfl, hb1⟩))
    go_ret2
    exact ⟨none, 0, rfl, World.ownsRow_nil _ _ _ _, below_call hB0 hb1 (Nat.le_refl _)⟩
  rw [if_pos h0] at HE
  rw [h0] at HCV
  cases hkb : keyB cat.data.toList
  case false =>
    rw [hkb, if_neg (by decide)] at HE
    subst HE
    rw [if_neg (by decide)] at HA
    subst HA
    rw [hkb] at HK
    clear hS hg0 HCR HCC HI hRg HLS HLB HL0 HLm hE hLA hr hx hr0 hx0 hW0 hkb h0
    go_enter Tryz.func38, Tryz.ntmps38
    go_upto_region 1 with (fail)
    rw [HW0.out]
    go_wp2_with (first | (go_at_call 93; refine HCV.out.mono ?_; rintro e w1 ⟨rfl, hb1⟩; have d1 := HCB.out _ hb1) | (go_at_call 94; refine (HK.out _).mono ?_; rintro e w2 ⟨rfl, rfl⟩))
    go_ret2
    exact ⟨none, 0, rfl, World.ownsRow_nil _ _ _ _, below_call hB0 hb1 (Nat.le_refl _)⟩
  rw [hkb, if_pos rfl] at HE
  rw [hkb] at HK
  by_cases h1 : runsF xs = 0
  case neg =>
    rw [if_neg h1] at HE
    subst HE
    rw [if_neg h1] at HA
    subst HA
    have hne : (runsF xs != 0) = true := by rw [bne_iff_ne]; exact h1
    clear hS hg0 HCC HI hRg HLS HLB HL0 HLm hE hLA hr hx hr0 hx0 hW0 hkb h0
    obtain ⟨RF, hRF⟩ : ∃ z, runsF xs = z := ⟨_, rfl⟩
    rw [hRF] at hne HCR
    rw [hRF]
    clear hRF h1
    go_enter Tryz.func38, Tryz.ntmps38
    go_upto_region 1 with (fail)
    rw [HW0.out]
    go_wp2_with (first | (go_at_call 93; refine HCV.out.mono ?_; rintro e w1 ⟨rfl, hb1⟩; have d1 := HCB.out _ hb1) | (go_at_call 94; refine (HK.out _).mono ?_; rintro e w2 ⟨rfl, rfl⟩) | (go_at_call 87; refine (HCR.out _ hb1).mono ?_; rintro e w3 ⟨rfl, hb3⟩))
    go_ret2
    exact ⟨none, 0, rfl, World.ownsRow_nil _ _ _ _, below_call (below_call hB0 hb1 (Nat.le_refl _)) hb3 (Nat.le_refl _)⟩
  rw [if_pos h1] at HE
  rw [h1] at HCR
  cases hhc : hasC vs cat
  case false =>
    rw [hhc, if_neg (by decide)] at HE
    subst HE
    rw [if_neg (by decide)] at HA
    subst HA
    rw [hhc] at HCC
    clear hS hg0 HI hRg HLS HLB HL0 HLm hE hLA hr hx hr0 hx0 hW0 hkb h0 h1 hhc
    go_enter Tryz.func38, Tryz.ntmps38
    go_upto_region 1 with (fail)
    rw [HW0.out]
    go_wp2_with (first | (go_at_call 93; refine HCV.out.mono ?_; rintro e w1 ⟨rfl, hb1⟩; have d1 := HCB.out _ hb1) | (go_at_call 94; refine (HK.out _).mono ?_; rintro e w2 ⟨rfl, rfl⟩) | (go_at_call 87; refine (HCR.out _ hb1).mono ?_; rintro e w3 ⟨rfl, hb3⟩; have hb13 := below_call hb1 hb3 (Nat.le_refl _)) | (go_at_call 95; refine (HCC.out _ hb13).mono ?_; rintro e w4 ⟨rfl, hb4⟩))
    go_ret2
    exact ⟨none, 0, rfl, World.ownsRow_nil _ _ _ _, below_call (below_call hB0 hb13 (Nat.le_refl _)) hb4 (Nat.le_refl _)⟩
  rw [hhc, if_pos rfl] at HE
  rw [hhc] at HCC
  subst HE
  rw [if_pos rfl] at HA
  subst HA
  obtain ⟨hxl, hxnc, hxcm, hxcells⟩ := hx.rd.cells rnC_len (by omega)
  unfold maxLen at hxcm
  have HXL := Lib.hid hxl
  have HXC := Lib.hid hxcells
  obtain ⟨hm1000, hrz⟩ := runsF_zero h1
  have hm1 : m ≤ 1000 := by omega
  have HRP : Hid (∀ V, Below w.heap.size w V → ∀ (k : Nat) (hk : k < xs.length) (g o : Nat), A2 = some ⟨g, o, none⟩ → RnP V b2 g (o + k * 5) xs[k]) := Lib.hid (fun V hV k hk g o hA => by
    have hm0 : 0 < m := by omega
    obtain ⟨g', o', hA', _, hcs⟩ := hxcells hm0
    rw [hA] at hA'
    injection hA' with hA'
    injection hA' with hA1 hA2
    subst hA1 hA2
    exact ⟨below_cell hV (hcs k hk 0 (by omega)), below_cell hV (hcs k hk 1 (by omega)), below_cell hV (hcs k hk 2 (by omega)), below_cell hV (hcs k hk 3 (by omega)), below_cell hV (hcs k hk 4 (by omega)), (hx.ok _ (List.getElem_mem hk)).below hV⟩)
  have HCN : Hid (∀ V, Below w.heap.size w V → ∀ (k : Nat) (hk : k < xs.length) (g o : Nat), A2 = some ⟨g, o, none⟩ → Calls Tryz.prog 99 #[.slice A n c, .pointer (some ⟨g, o + k * 5, none⟩), .string cat] V (BRet (.bool (cntV vs cat xs[k])) V)) := Lib.hid (fun V hV k hk g o hA =>
    countsI_calls b b2 A n c vs cat g (o + k * 5) xs[k] V (hr.below hV) (versF_rules h0) (HRP.out V hV k hk g o hA) (hrz _ (List.getElem_mem hk)))
  have HRZ := Lib.hid (fun k (hk : k < xs.length) => hrz _ (List.getElem_mem hk))
  have hRg0 := hRg h0
  obtain ⟨R, hR⟩ : ∃ z, rulAt vs cat endT = z := ⟨_, rfl⟩
  rw [hR] at HI HLB hRg0 hRz
  obtain ⟨LL, hLL⟩ : ∃ z : Nat → List ByteArray, (fun k => lostL vs (xs.take k) cat) = z := ⟨_, rfl⟩
  have hLLk : ∀ k, lostL vs (xs.take k) cat = LL k := fun k => by rw [← hLL]
  simp only [hLLk] at HLS HL0 HLm
  obtain ⟨LB, hLB⟩ : ∃ z : Rn → Bool, (fun x => lstB vs x cat) = z := ⟨_, rfl⟩
  have hLBx : ∀ x, lstB vs x cat = LB x := fun x => by rw [← hLB]
  simp only [hLBx] at HLS HLB
  obtain ⟨CV, hCV⟩ : ∃ z : Rn → Bool, (fun x => cntV vs cat x) = z := ⟨_, rfl⟩
  have hCVx : ∀ x, cntV vs cat x = CV x := fun x => by rw [← hCV]
  simp only [hCVx] at HCN HLB
  obtain ⟨LO, hLO⟩ : ∃ z, lostL vs xs cat = z := ⟨_, rfl⟩
  rw [hLO] at HLm
  rw [hLO]
  have HEND : endT = 345686400000 := rfl
  rw [HEND] at HI
  clear hLL hLLk hLB hLBx hCV hCVx hLO HEND hR hrz hxcells hxl hRg hr hx hr0 hx0 hg0 hS h0 h1 hkb hhc hE hLA hW0 hm1000
  cases hIE : isE R
  · have hp0 := hRg0 hIE
    rw [hIE] at HI
    have HKK := Lib.hid ((check_parse numF numF_ok R).2 hp0).1
    have HP := Lib.hid (fun W => parse_calls numF R W (by omega) (.inr numF_c))
    have hldv : ∀ k (hk : k < xs.length), hldV numF R xs[k] = holF (atP xs[k].time xs[k].fs) (parseT numF R).1 := fun k hk => hldV_of hp0 (HRZ.out k hk)
    obtain ⟨qq, hqq⟩ : ∃ z, parseE numF R = z := ⟨_, rfl⟩
    obtain ⟨q1, q2⟩ := qq
    rw [hqq] at hp0
    simp only at hp0
    subst hp0
    have HQ := Lib.hid hqq
    obtain ⟨t, htt⟩ : ∃ t, (parseT numF R).1 = t := ⟨_, rfl⟩
    rw [htt] at HKK
    have HTT := Lib.hid htt
    have HLD : Hid (∀ k (hk : k < xs.length), hldV numF R xs[k] = holF (atP xs[k].time xs[k].fs) t) := Lib.hid (fun k hk => by rw [← htt]; exact hldv k hk)
    clear hqq htt hldv HRZ hRz hRg0
    go_enter Tryz.func38, Tryz.ntmps38
    go_upto_region 1 with (fail)
    rw [HW0.out]
    go_upto_region 14 with (first | (go_at_call 93; refine HCV.out.mono ?_; rintro e w1 ⟨rfl, hb1⟩; have d1 := HCB.out _ hb1) | (go_at_call 94; refine (HK.out _).mono ?_; rintro e w2 ⟨rfl, rfl⟩) | (go_at_call 87; refine (HCR.out _ hb1).mono ?_; rintro e w3 ⟨rfl, hb3⟩; have hb13 := below_call hb1 hb3 (Nat.le_refl _)) | (go_at_call 95; refine (HCC.out _ hb13).mono ?_; rintro e w4 ⟨rfl, hb4⟩; have hb14 := below_call hb13 hb4 (Nat.le_refl _); have d4 := HCB.out _ hb14) | (go_at_call 97; refine (HI.out _ hb14).mono ?_; rintro e w5 ⟨rfl, hb5⟩; have hb15 := below_call hb14 hb5 (Nat.le_refl _)))
    go_wp2_with (first | (go_at_call 98; refine (HP.out _).mono ?_; rintro e WL ⟨v, rfl, hbp, hN⟩; rw [HQ.out] at hN ⊢; obtain ⟨g1, rfl, hnode⟩ := hN rfl; rw [HTT.out] at hnode; have hb16 := below_call hb15 hbp (Nat.le_refl _)))
    have HBL := Lib.hid (below_call hB0 hb16 (Nat.le_refl _))
    have HCC2 := Lib.hid (fun V (h : Below WL.heap.size WL V) => HCB.out V (below_call hb16 h (Nat.le_refl _)))
    have HHO : Hid (∀ V V3 bx (k : Nat) (hk : k < xs.length) (g o : Nat), A2 = some ⟨g, o, none⟩ → Below WL.heap.size WL V → Below V.heap.size V V3 → V3.cell? ⟨bx, 0, none⟩ = some (.pointer (some ⟨g, o + k * 5, none⟩)) →
        Calls Tryz.prog 100 #[.pointer (some ⟨g1, 0, none⟩), .func (.func 153) #[] #[.pointer (some ⟨bx, 0, none⟩)]] V3 (BRet (.bool (hldV numF R xs[k])) V3)) := Lib.hid (fun V V3 bx k hk g o hA h1 h2 h3 => by
      have hbV := below_call h1 h2 (Nat.le_refl _)
      rw [HLD.out k hk]
      exact hol_calls _ _ HKK.out V3 bx g1 _ _ V3 (hnode.keep (fun q _ hq => hbV.block q (by omega))) (Nat.le_trans (Nat.le_refl _) hbV.size) ((HRP.out V (below_call HBL.out h1 (Nat.le_refl _)) k hk g o hA).rnA h2 h3) (Below.refl _ _))
    clear hN hnode HP HKK HLD HCV HK HCR HCC HI HCB hb1 hb3 hb13 hb4 hb14 hb5 hb15 hbp hb16 d1 d4 HRP
    have hN := (Sq.start WL).nil WL.heap.size 9 1
    go_loopw [13, 47] (fun v i wr => ∃ (k : Nat) (B : Option Addr) (d q : Nat) (hs : List ByteArray), k ≤ m ∧ v = .slice B q d ∧ i = .int .i64 k ∧ hs.length = q ∧ q ≤ k ∧ Hid (hs = LL k) ∧ Sq WL wr [rOwn WL.heap.size 9 1 (.slice B q d) q (strsV hs)]) (fun _ i _ => m - (intOf i).toNat)
    case atStart => exact ⟨0, none, 0, 0, [], Nat.zero_le _, rfl, rfl, rfl, Nat.zero_le _, Lib.hid HL0.out.symm, hN⟩
    case round =>
      clear hN
      obtain ⟨k, B, d, q, hs, hk, rfl, rfl, hqh, hqk, HG, hT⟩ := hrel
      by_cases hlt : k < m
      · have hkr : k < xs.length := by rw [HXL.out]; exact hlt
        obtain ⟨g, o, hA, _, hcs⟩ := HXC.out (by omega)
        subst hA
        have hk0 : (0 : Int) ≤ (k : Int) := by omega
        have hkn : (k : Int) < (m : Int) := by omega
        have hst : LL (k + 1) = hs ++ if LB xs[k] = true then [xs[k].id] else [] := by rw [HG.out]; exact HLS.out k hkr
        have hlb := HLB.out xs[k]
        have HCT : Hid (∀ V, Below WL.heap.size WL V → Calls Tryz.prog 99 #[.slice A n c, .pointer (some ⟨g, o + k * 5, none⟩), .string cat] V (BRet (.bool (CV xs[k])) V)) := Lib.hid (fun V hV => HCN.out V (below_call HBL.out hV (Nat.le_refl _)) k hkr g o rfl)
        have HHL : Hid (∀ V V3 bx, Below WL.heap.size WL V → Below V.heap.size V V3 → V3.cell? ⟨bx, 0, none⟩ = some (.pointer (some ⟨g, o + k * 5, none⟩)) → Calls Tryz.prog 100 #[.pointer (some ⟨g1, 0, none⟩), .func (.func 153) #[] #[.pointer (some ⟨bx, 0, none⟩)]] V3 (BRet (.bool (hldV numF R xs[k])) V3)) := Lib.hid (fun V V3 bx h1 h2 h3 => HHO.out V V3 bx k hkr g o rfl h1 h2 h3)
        have hcid := below_cell HBL.out (hcs k hkr 0 (by omega))
        obtain ⟨x, hxk⟩ : ∃ x, xs[k] = x := ⟨_, rfl⟩
        rw [hxk] at hst hlb HCT hcid HHL
        obtain ⟨xi, hxi⟩ : ∃ z, x.id = z := ⟨_, rfl⟩
        rw [hxi] at hst
        replace hcid : WL.cell? ⟨g, o + k * 5, none⟩ = some (.string xi) := by rw [← hxi]; exact hcid
        obtain ⟨C1, hC1⟩ : ∃ z, CV x = z := ⟨_, rfl⟩
        rw [hC1] at hlb HCT
        obtain ⟨G1, hG1⟩ : ∃ z, LB x = z := ⟨_, rfl⟩
        rw [hG1] at hlb hst
        obtain ⟨HD, hHD⟩ : ∃ z, hldV numF R x = z := ⟨_, rfl⟩
        rw [hHD] at hlb HHL
        replace hlb : G1 = (C1 && !HD) := by rw [hlb, hIE]; rfl
        clear hHD
        have hcT := hT.below
        have hCat := below_cell hcT (HCC2.out _ (Below.refl _ _))
        clear hcs hC1 hG1 hxk hxi HG
        go_upto_region 19 with (fail)
        go_cut [68] (fun s68 V => s68 = .bool G1 ∧ Sq WL V [rOwn WL.heap.size 9 1 (.slice B q d) q (strsV hs)])
        case first =>
          have S0 : Below wr.heap.size wr wr := Below.refl _ _
          have S1 : Below wr.heap.size wr wr.drew := below_drewN S0 1
          have HZ : Hid (∀ V, Below wr.heap.size wr V → V.cell? ⟨w.heap.size, 0, none⟩ = some (.string cat)) := Lib.hid (fun V h => below_cell h hCat)
          have HCT2 : Hid (∀ V, Below wr.heap.size wr V → Calls Tryz.prog 99 #[.slice A n c, .pointer (some ⟨g, o + k * 5, none⟩), .string cat] V (BRet (.bool C1) V)) := Lib.hid (fun V h => HCT.out V (below_call hcT h (Nat.le_refl _)))
          have HT := Lib.hid hT
          clear hst hcid HCT
          cases C1
          · obtain rfl : G1 = false := hlb
            (try clear hlb)
            refine wp_region_held_drew (S := fun V => V.cell? ⟨w.heap.size, 0, none⟩ = some (.string cat)) (by kernel_rfl) (HZ.out _ S1) (fun hHeld => ?_)
            refine wpAnyH_take (i := 0) (v := .slice A n c) rfl (by kernel_rfl) (by kernel_rfl) (by kernel_rfl) (fun _ _ _ h => h) (Or.inl ⟨by rfl, fun V hV => ?_⟩) hHeld ?_
            · (try dsimp only at hV); (try obtain _ := hV); first | (go_simp; done) | (go_simp; rfl) | (go_simp; simp only [*]; done) | rfl
            try simp only [Act.put, List.getElem_toArray, List.getElem_cons_zero, List.getElem_cons_succ, List.setIfInBounds_toArray, List.set_cons_zero, List.set_cons_succ]
            refine wpAnyH_take (i := 1) (v := .slice (some ⟨g, o, none⟩) m c2) rfl (by kernel_rfl) (by kernel_rfl) (by kernel_rfl) (fun _ _ _ h => h) (Or.inl ⟨by rfl, fun V hV => ?_⟩) hHeld ?_
            · (try dsimp only at hV); (try obtain _ := hV); first | (go_simp; done) | (go_simp; rfl) | (go_simp; simp only [*]; done) | rfl
            try simp only [Act.put, List.getElem_toArray, List.getElem_cons_zero, List.getElem_cons_succ, List.setIfInBounds_toArray, List.set_cons_zero, List.set_cons_succ]
            refine wpAnyH_take (i := 2) (v := .int .i64 k) rfl (by kernel_rfl) (by kernel_rfl) (by kernel_rfl) (fun _ _ _ h => h) (Or.inl ⟨by rfl, fun V hV => ?_⟩) hHeld ?_
            · (try dsimp only at hV); (try obtain _ := hV); first | (go_simp; done) | (go_simp; rfl) | (go_simp; simp only [*]; done) | rfl
            try simp only [Act.put, List.getElem_toArray, List.getElem_cons_zero, List.getElem_cons_succ, List.setIfInBounds_toArray, List.set_cons_zero, List.set_cons_succ]
            refine wpAnyH_take (i := 3) (v := .pointer (some ⟨g, o + k * 5, none⟩)) rfl (by kernel_rfl) (by kernel_rfl) (by kernel_rfl) (fun _ _ _ h => h) (Or.inl ⟨by rfl, fun V hV => ?_⟩) hHeld ?_
            · (try dsimp only at hV); (try obtain _ := hV); first | (go_simp; done) | (go_simp; rfl) | (go_simp; simp only [*]; done) | rfl
            try simp only [Act.put, List.getElem_toArray, List.getElem_cons_zero, List.getElem_cons_succ, List.setIfInBounds_toArray, List.set_cons_zero, List.set_cons_succ]
            refine wpAnyH_take (i := 4) (v := .string cat) rfl (by kernel_rfl) (by kernel_rfl) (by kernel_rfl) (fun _ _ _ h => h) (Or.inl ⟨by rfl, fun V hV => ?_⟩) hHeld ?_
            · (try dsimp only at hV); (try obtain _ := hV); first | (go_simp; done) | (go_simp; rfl) | (go_simp; simp only [*]; done) | rfl
            try simp only [Act.put, List.getElem_toArray, List.getElem_cons_zero, List.getElem_cons_succ, List.setIfInBounds_toArray, List.set_cons_zero, List.set_cons_succ]
            refine wpAnyH_ready (rs := [5]) (by kernel_rfl) (by simp) ?_
            refine AllReadyH.cons rfl (fun K hK => ?_) AllReadyH.nil
            go_simp
            go_at_call 99
            refine (HCT2.out _ S1).mono ?_
            rintro e w5 ⟨rfl, hb5⟩
            have S5 := below_call S1 hb5 (Nat.le_refl _)
            refine hK.out _ _ (HZ.out _ S5) (fun hHeld => ?_)
            clear hK K
            try simp only [Act.put, List.getElem_toArray, List.getElem_cons_zero, List.getElem_cons_succ, List.setIfInBounds_toArray, List.set_cons_zero, List.set_cons_succ]
            refine wpAnyH_take (i := 6) (v := .bool false) rfl (by kernel_rfl) (by kernel_rfl) (by kernel_rfl) (fun _ _ _ h => h) (Or.inl ⟨by rfl, fun V hV => ?_⟩) hHeld ?_
            · (try dsimp only at hV); (try obtain _ := hV); first | (go_simp; done) | (go_simp; rfl) | (go_simp; simp only [*]; done) | rfl
            try simp only [Act.put, List.getElem_toArray, List.getElem_cons_zero, List.getElem_cons_succ, List.setIfInBounds_toArray, List.set_cons_zero, List.set_cons_succ]
            refine wpAnyH_take (i := 7) (v := undef) rfl (by kernel_rfl) (by kernel_rfl) (by kernel_rfl) (fun _ _ _ h => h) (Or.inr ⟨by rfl, rfl⟩) hHeld ?_
            try simp only [Act.put, List.getElem_toArray, List.getElem_cons_zero, List.getElem_cons_succ, List.setIfInBounds_toArray, List.set_cons_zero, List.set_cons_succ]
            refine wpAnyH_take (i := 8) (v := undef) rfl (by kernel_rfl) (by kernel_rfl) (by kernel_rfl) (fun _ _ _ h => h) (Or.inr ⟨by rfl, rfl⟩) hHeld ?_
            try simp only [Act.put, List.getElem_toArray, List.getElem_cons_zero, List.getElem_cons_succ, List.setIfInBounds_toArray, List.set_cons_zero, List.set_cons_succ]
            refine wpAnyH_take (i := 9) (v := undef) rfl (by kernel_rfl) (by kernel_rfl) (by kernel_rfl) (fun _ _ _ h => h) (Or.inr ⟨by rfl, rfl⟩) hHeld ?_
            try simp only [Act.put, List.getElem_toArray, List.getElem_cons_zero, List.getElem_cons_succ, List.setIfInBounds_toArray, List.set_cons_zero, List.set_cons_succ]
            refine wpAnyH_take (i := 10) (v := undef) rfl (by kernel_rfl) (by kernel_rfl) (by kernel_rfl) (fun _ _ _ h => h) (Or.inr ⟨by rfl, rfl⟩) hHeld ?_
            try simp only [Act.put, List.getElem_toArray, List.getElem_cons_zero, List.getElem_cons_succ, List.setIfInBounds_toArray, List.set_cons_zero, List.set_cons_succ]
            refine wpAnyH_take (i := 11) (v := undef) rfl (by kernel_rfl) (by kernel_rfl) (by kernel_rfl) (fun _ _ _ h => h) (Or.inr ⟨by rfl, rfl⟩) hHeld ?_
            try simp only [Act.put, List.getElem_toArray, List.getElem_cons_zero, List.getElem_cons_succ, List.setIfInBounds_toArray, List.set_cons_zero, List.set_cons_succ]
            refine wpAnyH_take (i := 12) (v := undef) rfl (by kernel_rfl) (by kernel_rfl) (by kernel_rfl) (fun _ _ _ h => h) (Or.inr ⟨by rfl, rfl⟩) hHeld ?_
            try simp only [Act.put, List.getElem_toArray, List.getElem_cons_zero, List.getElem_cons_succ, List.setIfInBounds_toArray, List.set_cons_zero, List.set_cons_succ]
            refine wpAnyH_take (i := 13) (v := undef) rfl (by kernel_rfl) (by kernel_rfl) (by kernel_rfl) (fun _ _ _ h => h) (Or.inr ⟨by rfl, rfl⟩) hHeld ?_
            try simp only [Act.put, List.getElem_toArray, List.getElem_cons_zero, List.getElem_cons_succ, List.setIfInBounds_toArray, List.set_cons_zero, List.set_cons_succ]
            refine wpAnyH_take (i := 14) (v := undef) rfl (by kernel_rfl) (by kernel_rfl) (by kernel_rfl) (fun _ _ _ h => h) (Or.inr ⟨by rfl, rfl⟩) hHeld ?_
            try simp only [Act.put, List.getElem_toArray, List.getElem_cons_zero, List.getElem_cons_succ, List.setIfInBounds_toArray, List.set_cons_zero, List.set_cons_succ]
            refine wpAnyH_take (i := 15) (v := undef) rfl (by kernel_rfl) (by kernel_rfl) (by kernel_rfl) (fun _ _ _ h => h) (Or.inr ⟨by rfl, rfl⟩) hHeld ?_
            try simp only [Act.put, List.getElem_toArray, List.getElem_cons_zero, List.getElem_cons_succ, List.setIfInBounds_toArray, List.set_cons_zero, List.set_cons_succ]
            refine wpAnyH_take (i := 16) (v := undef) rfl (by kernel_rfl) (by kernel_rfl) (by kernel_rfl) (fun _ _ _ h => h) (Or.inr ⟨by rfl, rfl⟩) hHeld ?_
            try simp only [Act.put, List.getElem_toArray, List.getElem_cons_zero, List.getElem_cons_succ, List.setIfInBounds_toArray, List.set_cons_zero, List.set_cons_succ]
            refine wpAnyH_take (i := 17) (v := undef) rfl (by kernel_rfl) (by kernel_rfl) (by kernel_rfl) (fun _ _ _ h => h) (Or.inr ⟨by rfl, rfl⟩) hHeld ?_
            try simp only [Act.put, List.getElem_toArray, List.getElem_cons_zero, List.getElem_cons_succ, List.setIfInBounds_toArray, List.set_cons_zero, List.set_cons_succ]
            refine wpAnyH_take (i := 18) (v := .bool false) rfl (by kernel_rfl) (by kernel_rfl) (by kernel_rfl) (fun _ _ _ h => h) (Or.inl ⟨by rfl, fun V hV => ?_⟩) hHeld ?_
            · (try dsimp only at hV); (try obtain _ := hV); first | (go_simp; done) | (go_simp; rfl) | (go_simp; simp only [*]; done) | rfl
            try simp only [Act.put, List.getElem_toArray, List.getElem_cons_zero, List.getElem_cons_succ, List.setIfInBounds_toArray, List.set_cons_zero, List.set_cons_succ]
            refine wpAnyH_done (by kernel_rfl) ?_ _
            go_wp2_with fail
            go_meet
            exact ⟨rfl, HT.out.callB S5⟩
          · obtain rfl : G1 = !HD := hlb
            (try clear hlb)
            refine wp_region_held_drew (S := fun V => V.cell? ⟨w.heap.size, 0, none⟩ = some (.string cat)) (by kernel_rfl) (HZ.out _ S1) (fun hHeld => ?_)
            refine wpAnyH_take (i := 0) (v := .slice A n c) rfl (by kernel_rfl) (by kernel_rfl) (by kernel_rfl) (fun _ _ _ h => h) (Or.inl ⟨by rfl, fun V hV => ?_⟩) hHeld ?_
            · (try dsimp only at hV); (try obtain _ := hV); first | (go_simp; done) | (go_simp; rfl) | (go_simp; simp only [*]; done) | rfl
            try simp only [Act.put, List.getElem_toArray, List.getElem_cons_zero, List.getElem_cons_succ, List.setIfInBounds_toArray, List.set_cons_zero, List.set_cons_succ]
            refine wpAnyH_take (i := 1) (v := .slice (some ⟨g, o, none⟩) m c2) rfl (by kernel_rfl) (by kernel_rfl) (by kernel_rfl) (fun _ _ _ h => h) (Or.inl ⟨by rfl, fun V hV => ?_⟩) hHeld ?_
            · (try dsimp only at hV); (try obtain _ := hV); first | (go_simp; done) | (go_simp; rfl) | (go_simp; simp only [*]; done) | rfl
            try simp only [Act.put, List.getElem_toArray, List.getElem_cons_zero, List.getElem_cons_succ, List.setIfInBounds_toArray, List.set_cons_zero, List.set_cons_succ]
            refine wpAnyH_take (i := 2) (v := .int .i64 k) rfl (by kernel_rfl) (by kernel_rfl) (by kernel_rfl) (fun _ _ _ h => h) (Or.inl ⟨by rfl, fun V hV => ?_⟩) hHeld ?_
            · (try dsimp only at hV); (try obtain _ := hV); first | (go_simp; done) | (go_simp; rfl) | (go_simp; simp only [*]; done) | rfl
            try simp only [Act.put, List.getElem_toArray, List.getElem_cons_zero, List.getElem_cons_succ, List.setIfInBounds_toArray, List.set_cons_zero, List.set_cons_succ]
            refine wpAnyH_take (i := 3) (v := .pointer (some ⟨g, o + k * 5, none⟩)) rfl (by kernel_rfl) (by kernel_rfl) (by kernel_rfl) (fun _ _ _ h => h) (Or.inl ⟨by rfl, fun V hV => ?_⟩) hHeld ?_
            · (try dsimp only at hV); (try obtain _ := hV); first | (go_simp; done) | (go_simp; rfl) | (go_simp; simp only [*]; done) | rfl
            try simp only [Act.put, List.getElem_toArray, List.getElem_cons_zero, List.getElem_cons_succ, List.setIfInBounds_toArray, List.set_cons_zero, List.set_cons_succ]
            refine wpAnyH_take (i := 4) (v := .string cat) rfl (by kernel_rfl) (by kernel_rfl) (by kernel_rfl) (fun _ _ _ h => h) (Or.inl ⟨by rfl, fun V hV => ?_⟩) hHeld ?_
            · (try dsimp only at hV); (try obtain _ := hV); first | (go_simp; done) | (go_simp; rfl) | (go_simp; simp only [*]; done) | rfl
            try simp only [Act.put, List.getElem_toArray, List.getElem_cons_zero, List.getElem_cons_succ, List.setIfInBounds_toArray, List.set_cons_zero, List.set_cons_succ]
            refine wpAnyH_ready (rs := [5]) (by kernel_rfl) (by simp) ?_
            refine AllReadyH.cons rfl (fun K hK => ?_) AllReadyH.nil
            go_simp
            go_at_call 99
            refine (HCT2.out _ S1).mono ?_
            rintro e w5 ⟨rfl, hb5⟩
            have S5 := below_call S1 hb5 (Nat.le_refl _)
            refine hK.out _ _ (HZ.out _ S5) (fun hHeld => ?_)
            clear hK K
            try simp only [Act.put, List.getElem_toArray, List.getElem_cons_zero, List.getElem_cons_succ, List.setIfInBounds_toArray, List.set_cons_zero, List.set_cons_succ]
            refine wpAnyH_take (i := 6) (v := .bool true) rfl (by kernel_rfl) (by kernel_rfl) (by kernel_rfl) (fun _ _ _ h => h) (Or.inl ⟨by rfl, fun V hV => ?_⟩) hHeld ?_
            · (try dsimp only at hV); (try obtain _ := hV); first | (go_simp; done) | (go_simp; rfl) | (go_simp; simp only [*]; done) | rfl
            try simp only [Act.put, List.getElem_toArray, List.getElem_cons_zero, List.getElem_cons_succ, List.setIfInBounds_toArray, List.set_cons_zero, List.set_cons_succ]
            refine wpAnyH_take (i := 7) (v := .bool true) rfl (by kernel_rfl) (by kernel_rfl) (by kernel_rfl) (fun _ _ _ h => h) (Or.inl ⟨by rfl, fun V hV => ?_⟩) hHeld ?_
            · (try dsimp only at hV); (try obtain _ := hV); first | (go_simp; done) | (go_simp; rfl) | (go_simp; simp only [*]; done) | rfl
            try simp only [Act.put, List.getElem_toArray, List.getElem_cons_zero, List.getElem_cons_succ, List.setIfInBounds_toArray, List.set_cons_zero, List.set_cons_succ]
            refine wpAnyH_take (i := 8) (v := .bool false) rfl (by kernel_rfl) (by kernel_rfl) (by kernel_rfl) (fun _ _ _ h => h) (Or.inl ⟨by rfl, fun V hV => ?_⟩) hHeld ?_
            · (try dsimp only at hV); (try obtain _ := hV); first | (go_simp; done) | (go_simp; rfl) | (go_simp; simp only [*]; done) | rfl
            try simp only [Act.put, List.getElem_toArray, List.getElem_cons_zero, List.getElem_cons_succ, List.setIfInBounds_toArray, List.set_cons_zero, List.set_cons_succ]
            refine wpAnyH_take (i := 9) (v := .bool false) rfl (by kernel_rfl) (by kernel_rfl) (by kernel_rfl) (fun _ _ _ h => h) (Or.inl ⟨by rfl, fun V hV => ?_⟩) hHeld ?_
            · (try dsimp only at hV); (try obtain _ := hV); first | (go_simp; done) | (go_simp; rfl) | (go_simp; simp only [*]; done) | rfl
            try simp only [Act.put, List.getElem_toArray, List.getElem_cons_zero, List.getElem_cons_succ, List.setIfInBounds_toArray, List.set_cons_zero, List.set_cons_succ]
            refine wpAnyH_take (i := 10) (v := .pointer (some ⟨g1, 0, none⟩)) rfl (by kernel_rfl) (by kernel_rfl) (by kernel_rfl) (fun _ _ _ h => h) (Or.inl ⟨by rfl, fun V hV => ?_⟩) hHeld ?_
            · (try dsimp only at hV); (try obtain _ := hV); first | (go_simp; done) | (go_simp; rfl) | (go_simp; simp only [*]; done) | rfl
            try simp only [Act.put, List.getElem_toArray, List.getElem_cons_zero, List.getElem_cons_succ, List.setIfInBounds_toArray, List.set_cons_zero, List.set_cons_succ]
            refine wpAnyH_take (i := 11) (v := .slice (some ⟨g, o, none⟩) m c2) rfl (by kernel_rfl) (by kernel_rfl) (by kernel_rfl) (fun _ _ _ h => h) (Or.inl ⟨by rfl, fun V hV => ?_⟩) hHeld ?_
            · (try dsimp only at hV); (try obtain _ := hV); first | (go_simp; done) | (go_simp; rfl) | (go_simp; simp only [*]; done) | rfl
            try simp only [Act.put, List.getElem_toArray, List.getElem_cons_zero, List.getElem_cons_succ, List.setIfInBounds_toArray, List.set_cons_zero, List.set_cons_succ]
            refine wpAnyH_take (i := 12) (v := .int .i64 k) rfl (by kernel_rfl) (by kernel_rfl) (by kernel_rfl) (fun _ _ _ h => h) (Or.inl ⟨by rfl, fun V hV => ?_⟩) hHeld ?_
            · (try dsimp only at hV); (try obtain _ := hV); first | (go_simp; done) | (go_simp; rfl) | (go_simp; simp only [*]; done) | rfl
            try simp only [Act.put, List.getElem_toArray, List.getElem_cons_zero, List.getElem_cons_succ, List.setIfInBounds_toArray, List.set_cons_zero, List.set_cons_succ]
            refine wpAnyH_take (i := 13) (v := .pointer (some ⟨g, o + k * 5, none⟩)) rfl (by kernel_rfl) (by kernel_rfl) (by kernel_rfl) (fun _ _ _ h => h) (Or.inl ⟨by rfl, fun V hV => ?_⟩) hHeld ?_
            · (try dsimp only at hV); (try obtain _ := hV); first | (go_simp; done) | (go_simp; rfl) | (go_simp; simp only [*]; done) | rfl
            try simp only [Act.put, List.getElem_toArray, List.getElem_cons_zero, List.getElem_cons_succ, List.setIfInBounds_toArray, List.set_cons_zero, List.set_cons_succ]
            refine wpAnyH_ready (rs := [14]) (by kernel_rfl) (by simp) ?_
            refine AllReadyH.cons rfl (fun K hK => ?_) AllReadyH.nil
            go_simp
            go_at_call 101
            refine (truthO_calls g (o + k * 5) _).mono ?_
            rintro e w6 ⟨rfl, hc6, hb6⟩
            have S6 := below_call S5 hb6 (Nat.le_refl _)
            refine hK.out _ _ (HZ.out _ S6) (fun hHeld => ?_)
            clear hK K
            try simp only [Act.put, List.getElem_toArray, List.getElem_cons_zero, List.getElem_cons_succ, List.setIfInBounds_toArray, List.set_cons_zero, List.set_cons_succ]
            refine wpAnyH_ready (rs := [15]) (by kernel_rfl) (by simp) ?_
            refine AllReadyH.cons rfl (fun K hK => ?_) AllReadyH.nil
            go_simp
            go_at_call 100
            refine (HHL.out _ _ _ (below_call hcT S5 (Nat.le_refl _)) hb6 hc6).mono ?_
            rintro e w7 ⟨rfl, hb7⟩
            have S7 := below_call S6 hb7 (Nat.le_refl _)
            refine hK.out _ _ (HZ.out _ S7) (fun hHeld => ?_)
            clear hK K
            try simp only [Act.put, List.getElem_toArray, List.getElem_cons_zero, List.getElem_cons_succ, List.setIfInBounds_toArray, List.set_cons_zero, List.set_cons_succ]
            refine wpAnyH_take (i := 16) (v := .bool (!HD)) rfl (by kernel_rfl) (by kernel_rfl) (by kernel_rfl) (fun _ _ _ h => h) (Or.inl ⟨by rfl, fun V hV => ?_⟩) hHeld ?_
            · (try dsimp only at hV); (try obtain _ := hV); first | (go_simp; done) | (go_simp; rfl) | (go_simp; simp only [*]; done) | rfl
            try simp only [Act.put, List.getElem_toArray, List.getElem_cons_zero, List.getElem_cons_succ, List.setIfInBounds_toArray, List.set_cons_zero, List.set_cons_succ]
            refine wpAnyH_take (i := 17) (v := .bool (!HD)) rfl (by kernel_rfl) (by kernel_rfl) (by kernel_rfl) (fun _ _ _ h => h) (Or.inl ⟨by rfl, fun V hV => ?_⟩) hHeld ?_
            · (try dsimp only at hV); (try obtain _ := hV); first | (go_simp; done) | (go_simp; rfl) | (go_simp; simp only [*]; done) | rfl
            try simp only [Act.put, List.getElem_toArray, List.getElem_cons_zero, List.getElem_cons_succ, List.setIfInBounds_toArray, List.set_cons_zero, List.set_cons_succ]
            refine wpAnyH_take (i := 18) (v := .bool (!HD)) rfl (by kernel_rfl) (by kernel_rfl) (by kernel_rfl) (fun _ _ _ h => h) (Or.inl ⟨by rfl, fun V hV => ?_⟩) hHeld ?_
            · (try dsimp only at hV); (try obtain _ := hV); first | (go_simp; done) | (go_simp; rfl) | (go_simp; simp only [*]; done) | rfl
            try simp only [Act.put, List.getElem_toArray, List.getElem_cons_zero, List.getElem_cons_succ, List.setIfInBounds_toArray, List.set_cons_zero, List.set_cons_succ]
            refine wpAnyH_done (by kernel_rfl) ?_ _
            go_wp2_with fail
            go_meet
            exact ⟨rfl, HT.out.callB S7⟩
        obtain ⟨rfl, hT2⟩ := hcut
        have hcid2 := below_cell hT2.below hcid
        clear hT hlb hcT hCat HCT HHL
        cases G1
        · rw [if_neg (by decide), List.append_nil] at hst
          have HST2 := Lib.hid hst.symm
          clear hst
          go_wp2_with fail
          go_roundw
          case rel => exact ⟨k + 1, B, d, q, hs, by omega, rfl, by go_num, hqh, by omega, HST2, hT2⟩
          case measure => simp [intOf]; omega
        · rw [if_pos rfl] at hst
          have HST2 := Lib.hid hst.symm
          clear hst
          have HO5 : wc.ownsRow WL.heap.size 9 1 (.slice B q d) q (strsV hs) := hT2.head
          have hsz3 := hT2.size
          go_wp2_with (first
            | (at_builtin; refine wpList_append_own_at _ rfl _ _ 57 rfl WL.heap.size 9 i0 (.string ⟨#[]⟩) 1 16 Tryz.underlying57 hi hy0 hy1 hy2 rfl (by decide) _ _ _ rfl (HO5.alloc _) ⟨wc.heap.size, 0, none⟩ 1 1 [.string xi] rfl rfl (World.news_of_block (heap_alloc_new _ _)) (one1 rfl) (by unfold maxLen; omega) (by omega) (by simp; omega) ?_; intro v' w8 hown' hgrow _ hblk; obtain ⟨A8, c8, hv8⟩ := own_form hown'; subst hv8; have hT8 := (hT2.alloc _).append hown' hgrow hblk; clear hown' hgrow hblk))
          go_roundw
          case rel => exact ⟨k + 1, A8, c8, q + 1, hs ++ [xi], by omega, rfl, by go_num, by simp [hqh], by omega, HST2, by
            have : strsV (hs ++ [xi]) = strsV hs ++ [.string xi] := by simp [strsV]
            rw [this]
            exact hT8⟩
          case measure => simp [intOf]; omega
      · obtain rfl : k = m := by omega
        have HS : Hid (LO = hs) := Lib.hid (HLm.out.symm.trans HG.out.symm)
        have HFO := Lib.hid (And.intro (own_base (hT.head : wr.ownsRow WL.heap.size 9 1 (.slice B q d) q (strsV hs)) HBL.out.size) (below_call HBL.out hT.below (Nat.le_refl _)))
        clear HG hT
        go_wp2_with fail
        go_ret2
        rw [HS.out, hqh]
        exact ⟨B, d, rfl, HFO.out.1, HFO.out.2⟩
  · rw [hIE] at HI
    clear HRZ hRz hRg0 HRP
    go_enter Tryz.func38, Tryz.ntmps38
    go_upto_region 1 with (fail)
    rw [HW0.out]
    go_wp2_with (first | (go_at_call 93; refine HCV.out.mono ?_; rintro e w1 ⟨rfl, hb1⟩; have d1 := HCB.out _ hb1) | (go_at_call 94; refine (HK.out _).mono ?_; rintro e w2 ⟨rfl, rfl⟩) | (go_at_call 87; refine (HCR.out _ hb1).mono ?_; rintro e w3 ⟨rfl, hb3⟩; have hb13 := below_call hb1 hb3 (Nat.le_refl _)) | (go_at_call 95; refine (HCC.out _ hb13).mono ?_; rintro e w4 ⟨rfl, hb4⟩; have hb14 := below_call hb13 hb4 (Nat.le_refl _); have d4 := HCB.out _ hb14) | (go_at_call 97; refine (HI.out _ hb14).mono ?_; rintro e w5 ⟨rfl, hb5⟩; have hb15 := below_call hb14 hb5 (Nat.le_refl _)))
    obtain ⟨WL, hWL⟩ : ∃ z, w5 = z := ⟨_, rfl⟩
    subst hWL
    have HBL := Lib.hid (below_call hB0 hb15 (Nat.le_refl _))
    have HCC2 := Lib.hid (fun V (h : Below w5.heap.size w5 V) => HCB.out V (below_call hb15 h (Nat.le_refl _)))
    clear HCV HK HCR HCC HI HCB hb1 hb3 hb13 hb4 hb14 hb5 hb15 d1 d4
    have hN := (Sq.start w5).nil w5.heap.size 9 1
    go_loopw [13, 47] (fun v i wr => ∃ (k : Nat) (B : Option Addr) (d q : Nat) (hs : List ByteArray), k ≤ m ∧ v = .slice B q d ∧ i = .int .i64 k ∧ hs.length = q ∧ q ≤ k ∧ Hid (hs = LL k) ∧ Sq w5 wr [rOwn w5.heap.size 9 1 (.slice B q d) q (strsV hs)]) (fun _ i _ => m - (intOf i).toNat)
    case atStart => exact ⟨0, none, 0, 0, [], Nat.zero_le _, rfl, rfl, rfl, Nat.zero_le _, Lib.hid HL0.out.symm, hN⟩
    case round =>
      clear hN
      obtain ⟨k, B, d, q, hs, hk, rfl, rfl, hqh, hqk, HG, hT⟩ := hrel
      by_cases hlt : k < m
      · have hkr : k < xs.length := by rw [HXL.out]; exact hlt
        obtain ⟨g, o, hA, _, hcs⟩ := HXC.out (by omega)
        subst hA
        have hk0 : (0 : Int) ≤ (k : Int) := by omega
        have hkn : (k : Int) < (m : Int) := by omega
        have hst : LL (k + 1) = hs ++ if LB xs[k] = true then [xs[k].id] else [] := by rw [HG.out]; exact HLS.out k hkr
        have hlb := HLB.out xs[k]
        have HCT : Hid (∀ V, Below w5.heap.size w5 V → Calls Tryz.prog 99 #[.slice A n c, .pointer (some ⟨g, o + k * 5, none⟩), .string cat] V (BRet (.bool (CV xs[k])) V)) := Lib.hid (fun V hV => HCN.out V (below_call HBL.out hV (Nat.le_refl _)) k hkr g o rfl)
        have hcid := below_cell HBL.out (hcs k hkr 0 (by omega))
        obtain ⟨x, hxk⟩ : ∃ x, xs[k] = x := ⟨_, rfl⟩
        rw [hxk] at hst hlb HCT hcid
        obtain ⟨xi, hxi⟩ : ∃ z, x.id = z := ⟨_, rfl⟩
        rw [hxi] at hst
        replace hcid : w5.cell? ⟨g, o + k * 5, none⟩ = some (.string xi) := by rw [← hxi]; exact hcid
        obtain ⟨C1, hC1⟩ : ∃ z, CV x = z := ⟨_, rfl⟩
        rw [hC1] at hlb HCT
        obtain ⟨G1, hG1⟩ : ∃ z, LB x = z := ⟨_, rfl⟩
        rw [hG1] at hlb hst
        replace hlb : G1 = (C1 && true) := by rw [hlb, hIE]; rfl
        have hcT := hT.below
        have hCat := below_cell hcT (HCC2.out _ (Below.refl _ _))
        clear hcs hC1 hG1 hxk hxi HG
        go_upto_region 19 with (fail)
        go_cut [68] (fun s68 V => s68 = .bool G1 ∧ Sq w5 V [rOwn w5.heap.size 9 1 (.slice B q d) q (strsV hs)])
        case first =>
          have S0 : Below wr.heap.size wr wr := Below.refl _ _
          have S1 : Below wr.heap.size wr wr.drew := below_drewN S0 1
          have HZ : Hid (∀ V, Below wr.heap.size wr V → V.cell? ⟨w.heap.size, 0, none⟩ = some (.string cat)) := Lib.hid (fun V h => below_cell h hCat)
          have HCT2 : Hid (∀ V, Below wr.heap.size wr V → Calls Tryz.prog 99 #[.slice A n c, .pointer (some ⟨g, o + k * 5, none⟩), .string cat] V (BRet (.bool C1) V)) := Lib.hid (fun V h => HCT.out V (below_call hcT h (Nat.le_refl _)))
          have HT := Lib.hid hT
          clear hst hcid HCT
          cases C1
          · obtain rfl : G1 = false := hlb
            (try clear hlb)
            refine wp_region_held_drew (S := fun V => V.cell? ⟨w.heap.size, 0, none⟩ = some (.string cat)) (by kernel_rfl) (HZ.out _ S1) (fun hHeld => ?_)
            refine wpAnyH_take (i := 0) (v := .slice A n c) rfl (by kernel_rfl) (by kernel_rfl) (by kernel_rfl) (fun _ _ _ h => h) (Or.inl ⟨by rfl, fun V hV => ?_⟩) hHeld ?_
            · (try dsimp only at hV); (try obtain _ := hV); first | (go_simp; done) | (go_simp; rfl) | (go_simp; simp only [*]; done) | rfl
            try simp only [Act.put, List.getElem_toArray, List.getElem_cons_zero, List.getElem_cons_succ, List.setIfInBounds_toArray, List.set_cons_zero, List.set_cons_succ]
            refine wpAnyH_take (i := 1) (v := .slice (some ⟨g, o, none⟩) m c2) rfl (by kernel_rfl) (by kernel_rfl) (by kernel_rfl) (fun _ _ _ h => h) (Or.inl ⟨by rfl, fun V hV => ?_⟩) hHeld ?_
            · (try dsimp only at hV); (try obtain _ := hV); first | (go_simp; done) | (go_simp; rfl) | (go_simp; simp only [*]; done) | rfl
            try simp only [Act.put, List.getElem_toArray, List.getElem_cons_zero, List.getElem_cons_succ, List.setIfInBounds_toArray, List.set_cons_zero, List.set_cons_succ]
            refine wpAnyH_take (i := 2) (v := .int .i64 k) rfl (by kernel_rfl) (by kernel_rfl) (by kernel_rfl) (fun _ _ _ h => h) (Or.inl ⟨by rfl, fun V hV => ?_⟩) hHeld ?_
            · (try dsimp only at hV); (try obtain _ := hV); first | (go_simp; done) | (go_simp; rfl) | (go_simp; simp only [*]; done) | rfl
            try simp only [Act.put, List.getElem_toArray, List.getElem_cons_zero, List.getElem_cons_succ, List.setIfInBounds_toArray, List.set_cons_zero, List.set_cons_succ]
            refine wpAnyH_take (i := 3) (v := .pointer (some ⟨g, o + k * 5, none⟩)) rfl (by kernel_rfl) (by kernel_rfl) (by kernel_rfl) (fun _ _ _ h => h) (Or.inl ⟨by rfl, fun V hV => ?_⟩) hHeld ?_
            · (try dsimp only at hV); (try obtain _ := hV); first | (go_simp; done) | (go_simp; rfl) | (go_simp; simp only [*]; done) | rfl
            try simp only [Act.put, List.getElem_toArray, List.getElem_cons_zero, List.getElem_cons_succ, List.setIfInBounds_toArray, List.set_cons_zero, List.set_cons_succ]
            refine wpAnyH_take (i := 4) (v := .string cat) rfl (by kernel_rfl) (by kernel_rfl) (by kernel_rfl) (fun _ _ _ h => h) (Or.inl ⟨by rfl, fun V hV => ?_⟩) hHeld ?_
            · (try dsimp only at hV); (try obtain _ := hV); first | (go_simp; done) | (go_simp; rfl) | (go_simp; simp only [*]; done) | rfl
            try simp only [Act.put, List.getElem_toArray, List.getElem_cons_zero, List.getElem_cons_succ, List.setIfInBounds_toArray, List.set_cons_zero, List.set_cons_succ]
            refine wpAnyH_ready (rs := [5]) (by kernel_rfl) (by simp) ?_
            refine AllReadyH.cons rfl (fun K hK => ?_) AllReadyH.nil
            go_simp
            go_at_call 99
            refine (HCT2.out _ S1).mono ?_
            rintro e w5 ⟨rfl, hb5⟩
            have S5 := below_call S1 hb5 (Nat.le_refl _)
            refine hK.out _ _ (HZ.out _ S5) (fun hHeld => ?_)
            clear hK K
            try simp only [Act.put, List.getElem_toArray, List.getElem_cons_zero, List.getElem_cons_succ, List.setIfInBounds_toArray, List.set_cons_zero, List.set_cons_succ]
            refine wpAnyH_take (i := 6) (v := .bool false) rfl (by kernel_rfl) (by kernel_rfl) (by kernel_rfl) (fun _ _ _ h => h) (Or.inl ⟨by rfl, fun V hV => ?_⟩) hHeld ?_
            · (try dsimp only at hV); (try obtain _ := hV); first | (go_simp; done) | (go_simp; rfl) | (go_simp; simp only [*]; done) | rfl
            try simp only [Act.put, List.getElem_toArray, List.getElem_cons_zero, List.getElem_cons_succ, List.setIfInBounds_toArray, List.set_cons_zero, List.set_cons_succ]
            refine wpAnyH_take (i := 7) (v := undef) rfl (by kernel_rfl) (by kernel_rfl) (by kernel_rfl) (fun _ _ _ h => h) (Or.inr ⟨by rfl, rfl⟩) hHeld ?_
            try simp only [Act.put, List.getElem_toArray, List.getElem_cons_zero, List.getElem_cons_succ, List.setIfInBounds_toArray, List.set_cons_zero, List.set_cons_succ]
            refine wpAnyH_take (i := 8) (v := undef) rfl (by kernel_rfl) (by kernel_rfl) (by kernel_rfl) (fun _ _ _ h => h) (Or.inr ⟨by rfl, rfl⟩) hHeld ?_
            try simp only [Act.put, List.getElem_toArray, List.getElem_cons_zero, List.getElem_cons_succ, List.setIfInBounds_toArray, List.set_cons_zero, List.set_cons_succ]
            refine wpAnyH_take (i := 9) (v := undef) rfl (by kernel_rfl) (by kernel_rfl) (by kernel_rfl) (fun _ _ _ h => h) (Or.inr ⟨by rfl, rfl⟩) hHeld ?_
            try simp only [Act.put, List.getElem_toArray, List.getElem_cons_zero, List.getElem_cons_succ, List.setIfInBounds_toArray, List.set_cons_zero, List.set_cons_succ]
            refine wpAnyH_take (i := 10) (v := undef) rfl (by kernel_rfl) (by kernel_rfl) (by kernel_rfl) (fun _ _ _ h => h) (Or.inr ⟨by rfl, rfl⟩) hHeld ?_
            try simp only [Act.put, List.getElem_toArray, List.getElem_cons_zero, List.getElem_cons_succ, List.setIfInBounds_toArray, List.set_cons_zero, List.set_cons_succ]
            refine wpAnyH_take (i := 11) (v := undef) rfl (by kernel_rfl) (by kernel_rfl) (by kernel_rfl) (fun _ _ _ h => h) (Or.inr ⟨by rfl, rfl⟩) hHeld ?_
            try simp only [Act.put, List.getElem_toArray, List.getElem_cons_zero, List.getElem_cons_succ, List.setIfInBounds_toArray, List.set_cons_zero, List.set_cons_succ]
            refine wpAnyH_take (i := 12) (v := undef) rfl (by kernel_rfl) (by kernel_rfl) (by kernel_rfl) (fun _ _ _ h => h) (Or.inr ⟨by rfl, rfl⟩) hHeld ?_
            try simp only [Act.put, List.getElem_toArray, List.getElem_cons_zero, List.getElem_cons_succ, List.setIfInBounds_toArray, List.set_cons_zero, List.set_cons_succ]
            refine wpAnyH_take (i := 13) (v := undef) rfl (by kernel_rfl) (by kernel_rfl) (by kernel_rfl) (fun _ _ _ h => h) (Or.inr ⟨by rfl, rfl⟩) hHeld ?_
            try simp only [Act.put, List.getElem_toArray, List.getElem_cons_zero, List.getElem_cons_succ, List.setIfInBounds_toArray, List.set_cons_zero, List.set_cons_succ]
            refine wpAnyH_take (i := 14) (v := undef) rfl (by kernel_rfl) (by kernel_rfl) (by kernel_rfl) (fun _ _ _ h => h) (Or.inr ⟨by rfl, rfl⟩) hHeld ?_
            try simp only [Act.put, List.getElem_toArray, List.getElem_cons_zero, List.getElem_cons_succ, List.setIfInBounds_toArray, List.set_cons_zero, List.set_cons_succ]
            refine wpAnyH_take (i := 15) (v := undef) rfl (by kernel_rfl) (by kernel_rfl) (by kernel_rfl) (fun _ _ _ h => h) (Or.inr ⟨by rfl, rfl⟩) hHeld ?_
            try simp only [Act.put, List.getElem_toArray, List.getElem_cons_zero, List.getElem_cons_succ, List.setIfInBounds_toArray, List.set_cons_zero, List.set_cons_succ]
            refine wpAnyH_take (i := 16) (v := undef) rfl (by kernel_rfl) (by kernel_rfl) (by kernel_rfl) (fun _ _ _ h => h) (Or.inr ⟨by rfl, rfl⟩) hHeld ?_
            try simp only [Act.put, List.getElem_toArray, List.getElem_cons_zero, List.getElem_cons_succ, List.setIfInBounds_toArray, List.set_cons_zero, List.set_cons_succ]
            refine wpAnyH_take (i := 17) (v := undef) rfl (by kernel_rfl) (by kernel_rfl) (by kernel_rfl) (fun _ _ _ h => h) (Or.inr ⟨by rfl, rfl⟩) hHeld ?_
            try simp only [Act.put, List.getElem_toArray, List.getElem_cons_zero, List.getElem_cons_succ, List.setIfInBounds_toArray, List.set_cons_zero, List.set_cons_succ]
            refine wpAnyH_take (i := 18) (v := .bool false) rfl (by kernel_rfl) (by kernel_rfl) (by kernel_rfl) (fun _ _ _ h => h) (Or.inl ⟨by rfl, fun V hV => ?_⟩) hHeld ?_
            · (try dsimp only at hV); (try obtain _ := hV); first | (go_simp; done) | (go_simp; rfl) | (go_simp; simp only [*]; done) | rfl
            try simp only [Act.put, List.getElem_toArray, List.getElem_cons_zero, List.getElem_cons_succ, List.setIfInBounds_toArray, List.set_cons_zero, List.set_cons_succ]
            refine wpAnyH_done (by kernel_rfl) ?_ _
            go_wp2_with fail
            go_meet
            exact ⟨rfl, HT.out.callB S5⟩
          · obtain rfl : G1 = true := hlb
            (try clear hlb)
            refine wp_region_held_drew (S := fun V => V.cell? ⟨w.heap.size, 0, none⟩ = some (.string cat)) (by kernel_rfl) (HZ.out _ S1) (fun hHeld => ?_)
            refine wpAnyH_take (i := 0) (v := .slice A n c) rfl (by kernel_rfl) (by kernel_rfl) (by kernel_rfl) (fun _ _ _ h => h) (Or.inl ⟨by rfl, fun V hV => ?_⟩) hHeld ?_
            · (try dsimp only at hV); (try obtain _ := hV); first | (go_simp; done) | (go_simp; rfl) | (go_simp; simp only [*]; done) | rfl
            try simp only [Act.put, List.getElem_toArray, List.getElem_cons_zero, List.getElem_cons_succ, List.setIfInBounds_toArray, List.set_cons_zero, List.set_cons_succ]
            refine wpAnyH_take (i := 1) (v := .slice (some ⟨g, o, none⟩) m c2) rfl (by kernel_rfl) (by kernel_rfl) (by kernel_rfl) (fun _ _ _ h => h) (Or.inl ⟨by rfl, fun V hV => ?_⟩) hHeld ?_
            · (try dsimp only at hV); (try obtain _ := hV); first | (go_simp; done) | (go_simp; rfl) | (go_simp; simp only [*]; done) | rfl
            try simp only [Act.put, List.getElem_toArray, List.getElem_cons_zero, List.getElem_cons_succ, List.setIfInBounds_toArray, List.set_cons_zero, List.set_cons_succ]
            refine wpAnyH_take (i := 2) (v := .int .i64 k) rfl (by kernel_rfl) (by kernel_rfl) (by kernel_rfl) (fun _ _ _ h => h) (Or.inl ⟨by rfl, fun V hV => ?_⟩) hHeld ?_
            · (try dsimp only at hV); (try obtain _ := hV); first | (go_simp; done) | (go_simp; rfl) | (go_simp; simp only [*]; done) | rfl
            try simp only [Act.put, List.getElem_toArray, List.getElem_cons_zero, List.getElem_cons_succ, List.setIfInBounds_toArray, List.set_cons_zero, List.set_cons_succ]
            refine wpAnyH_take (i := 3) (v := .pointer (some ⟨g, o + k * 5, none⟩)) rfl (by kernel_rfl) (by kernel_rfl) (by kernel_rfl) (fun _ _ _ h => h) (Or.inl ⟨by rfl, fun V hV => ?_⟩) hHeld ?_
            · (try dsimp only at hV); (try obtain _ := hV); first | (go_simp; done) | (go_simp; rfl) | (go_simp; simp only [*]; done) | rfl
            try simp only [Act.put, List.getElem_toArray, List.getElem_cons_zero, List.getElem_cons_succ, List.setIfInBounds_toArray, List.set_cons_zero, List.set_cons_succ]
            refine wpAnyH_take (i := 4) (v := .string cat) rfl (by kernel_rfl) (by kernel_rfl) (by kernel_rfl) (fun _ _ _ h => h) (Or.inl ⟨by rfl, fun V hV => ?_⟩) hHeld ?_
            · (try dsimp only at hV); (try obtain _ := hV); first | (go_simp; done) | (go_simp; rfl) | (go_simp; simp only [*]; done) | rfl
            try simp only [Act.put, List.getElem_toArray, List.getElem_cons_zero, List.getElem_cons_succ, List.setIfInBounds_toArray, List.set_cons_zero, List.set_cons_succ]
            refine wpAnyH_ready (rs := [5]) (by kernel_rfl) (by simp) ?_
            refine AllReadyH.cons rfl (fun K hK => ?_) AllReadyH.nil
            go_simp
            go_at_call 99
            refine (HCT2.out _ S1).mono ?_
            rintro e w5 ⟨rfl, hb5⟩
            have S5 := below_call S1 hb5 (Nat.le_refl _)
            refine hK.out _ _ (HZ.out _ S5) (fun hHeld => ?_)
            clear hK K
            try simp only [Act.put, List.getElem_toArray, List.getElem_cons_zero, List.getElem_cons_succ, List.setIfInBounds_toArray, List.set_cons_zero, List.set_cons_succ]
            refine wpAnyH_take (i := 6) (v := .bool true) rfl (by kernel_rfl) (by kernel_rfl) (by kernel_rfl) (fun _ _ _ h => h) (Or.inl ⟨by rfl, fun V hV => ?_⟩) hHeld ?_
            · (try dsimp only at hV); (try obtain _ := hV); first | (go_simp; done) | (go_simp; rfl) | (go_simp; simp only [*]; done) | rfl
            try simp only [Act.put, List.getElem_toArray, List.getElem_cons_zero, List.getElem_cons_succ, List.setIfInBounds_toArray, List.set_cons_zero, List.set_cons_succ]
            refine wpAnyH_take (i := 7) (v := .bool false) rfl (by kernel_rfl) (by kernel_rfl) (by kernel_rfl) (fun _ _ _ h => h) (Or.inl ⟨by rfl, fun V hV => ?_⟩) hHeld ?_
            · (try dsimp only at hV); (try obtain _ := hV); first | (go_simp; done) | (go_simp; rfl) | (go_simp; simp only [*]; done) | rfl
            try simp only [Act.put, List.getElem_toArray, List.getElem_cons_zero, List.getElem_cons_succ, List.setIfInBounds_toArray, List.set_cons_zero, List.set_cons_succ]
            refine wpAnyH_take (i := 8) (v := .bool true) rfl (by kernel_rfl) (by kernel_rfl) (by kernel_rfl) (fun _ _ _ h => h) (Or.inl ⟨by rfl, fun V hV => ?_⟩) hHeld ?_
            · (try dsimp only at hV); (try obtain _ := hV); first | (go_simp; done) | (go_simp; rfl) | (go_simp; simp only [*]; done) | rfl
            try simp only [Act.put, List.getElem_toArray, List.getElem_cons_zero, List.getElem_cons_succ, List.setIfInBounds_toArray, List.set_cons_zero, List.set_cons_succ]
            refine wpAnyH_take (i := 9) (v := .bool true) rfl (by kernel_rfl) (by kernel_rfl) (by kernel_rfl) (fun _ _ _ h => h) (Or.inl ⟨by rfl, fun V hV => ?_⟩) hHeld ?_
            · (try dsimp only at hV); (try obtain _ := hV); first | (go_simp; done) | (go_simp; rfl) | (go_simp; simp only [*]; done) | rfl
            try simp only [Act.put, List.getElem_toArray, List.getElem_cons_zero, List.getElem_cons_succ, List.setIfInBounds_toArray, List.set_cons_zero, List.set_cons_succ]
            refine wpAnyH_take (i := 10) (v := undef) rfl (by kernel_rfl) (by kernel_rfl) (by kernel_rfl) (fun _ _ _ h => h) (Or.inr ⟨by rfl, rfl⟩) hHeld ?_
            try simp only [Act.put, List.getElem_toArray, List.getElem_cons_zero, List.getElem_cons_succ, List.setIfInBounds_toArray, List.set_cons_zero, List.set_cons_succ]
            refine wpAnyH_take (i := 11) (v := undef) rfl (by kernel_rfl) (by kernel_rfl) (by kernel_rfl) (fun _ _ _ h => h) (Or.inr ⟨by rfl, rfl⟩) hHeld ?_
            try simp only [Act.put, List.getElem_toArray, List.getElem_cons_zero, List.getElem_cons_succ, List.setIfInBounds_toArray, List.set_cons_zero, List.set_cons_succ]
            refine wpAnyH_take (i := 12) (v := undef) rfl (by kernel_rfl) (by kernel_rfl) (by kernel_rfl) (fun _ _ _ h => h) (Or.inr ⟨by rfl, rfl⟩) hHeld ?_
            try simp only [Act.put, List.getElem_toArray, List.getElem_cons_zero, List.getElem_cons_succ, List.setIfInBounds_toArray, List.set_cons_zero, List.set_cons_succ]
            refine wpAnyH_take (i := 13) (v := undef) rfl (by kernel_rfl) (by kernel_rfl) (by kernel_rfl) (fun _ _ _ h => h) (Or.inr ⟨by rfl, rfl⟩) hHeld ?_
            try simp only [Act.put, List.getElem_toArray, List.getElem_cons_zero, List.getElem_cons_succ, List.setIfInBounds_toArray, List.set_cons_zero, List.set_cons_succ]
            refine wpAnyH_take (i := 14) (v := undef) rfl (by kernel_rfl) (by kernel_rfl) (by kernel_rfl) (fun _ _ _ h => h) (Or.inr ⟨by rfl, rfl⟩) hHeld ?_
            try simp only [Act.put, List.getElem_toArray, List.getElem_cons_zero, List.getElem_cons_succ, List.setIfInBounds_toArray, List.set_cons_zero, List.set_cons_succ]
            refine wpAnyH_take (i := 15) (v := undef) rfl (by kernel_rfl) (by kernel_rfl) (by kernel_rfl) (fun _ _ _ h => h) (Or.inr ⟨by rfl, rfl⟩) hHeld ?_
            try simp only [Act.put, List.getElem_toArray, List.getElem_cons_zero, List.getElem_cons_succ, List.setIfInBounds_toArray, List.set_cons_zero, List.set_cons_succ]
            refine wpAnyH_take (i := 16) (v := undef) rfl (by kernel_rfl) (by kernel_rfl) (by kernel_rfl) (fun _ _ _ h => h) (Or.inr ⟨by rfl, rfl⟩) hHeld ?_
            try simp only [Act.put, List.getElem_toArray, List.getElem_cons_zero, List.getElem_cons_succ, List.setIfInBounds_toArray, List.set_cons_zero, List.set_cons_succ]
            refine wpAnyH_take (i := 17) (v := .bool true) rfl (by kernel_rfl) (by kernel_rfl) (by kernel_rfl) (fun _ _ _ h => h) (Or.inl ⟨by rfl, fun V hV => ?_⟩) hHeld ?_
            · (try dsimp only at hV); (try obtain _ := hV); first | (go_simp; done) | (go_simp; rfl) | (go_simp; simp only [*]; done) | rfl
            try simp only [Act.put, List.getElem_toArray, List.getElem_cons_zero, List.getElem_cons_succ, List.setIfInBounds_toArray, List.set_cons_zero, List.set_cons_succ]
            refine wpAnyH_take (i := 18) (v := .bool true) rfl (by kernel_rfl) (by kernel_rfl) (by kernel_rfl) (fun _ _ _ h => h) (Or.inl ⟨by rfl, fun V hV => ?_⟩) hHeld ?_
            · (try dsimp only at hV); (try obtain _ := hV); first | (go_simp; done) | (go_simp; rfl) | (go_simp; simp only [*]; done) | rfl
            try simp only [Act.put, List.getElem_toArray, List.getElem_cons_zero, List.getElem_cons_succ, List.setIfInBounds_toArray, List.set_cons_zero, List.set_cons_succ]
            refine wpAnyH_done (by kernel_rfl) ?_ _
            go_wp2_with fail
            go_meet
            exact ⟨rfl, HT.out.callB S5⟩
        obtain ⟨rfl, hT2⟩ := hcut
        have hcid2 := below_cell hT2.below hcid
        clear hT hlb hcT hCat HCT
        cases G1
        · rw [if_neg (by decide), List.append_nil] at hst
          have HST2 := Lib.hid hst.symm
          clear hst
          go_wp2_with fail
          go_roundw
          case rel => exact ⟨k + 1, B, d, q, hs, by omega, rfl, by go_num, hqh, by omega, HST2, hT2⟩
          case measure => simp [intOf]; omega
        · rw [if_pos rfl] at hst
          have HST2 := Lib.hid hst.symm
          clear hst
          have HO5 : wc.ownsRow w5.heap.size 9 1 (.slice B q d) q (strsV hs) := hT2.head
          have hsz3 := hT2.size
          go_wp2_with (first
            | (at_builtin; refine wpList_append_own_at _ rfl _ _ 57 rfl w5.heap.size 9 i0 (.string ⟨#[]⟩) 1 16 Tryz.underlying57 hi hy0 hy1 hy2 rfl (by decide) _ _ _ rfl (HO5.alloc _) ⟨wc.heap.size, 0, none⟩ 1 1 [.string xi] rfl rfl (World.news_of_block (heap_alloc_new _ _)) (one1 rfl) (by unfold maxLen; omega) (by omega) (by simp; omega) ?_; intro v' w8 hown' hgrow _ hblk; obtain ⟨A8, c8, hv8⟩ := own_form hown'; subst hv8; have hT8 := (hT2.alloc _).append hown' hgrow hblk; clear hown' hgrow hblk))
          go_roundw
          case rel => exact ⟨k + 1, A8, c8, q + 1, hs ++ [xi], by omega, rfl, by go_num, by simp [hqh], by omega, HST2, by
            have : strsV (hs ++ [xi]) = strsV hs ++ [.string xi] := by simp [strsV]
            rw [this]
            exact hT8⟩
          case measure => simp [intOf]; omega
      · obtain rfl : k = m := by omega
        have HS : Hid (LO = hs) := Lib.hid (HLm.out.symm.trans HG.out.symm)
        have HFO := Lib.hid (And.intro (own_base (hT.head : wr.ownsRow w5.heap.size 9 1 (.slice B q d) q (strsV hs)) HBL.out.size) (below_call HBL.out hT.below (Nat.le_refl _)))
        clear HG hT
        go_wp2_with fail
        go_ret2
        rw [HS.out, hqh]
        exact ⟨B, d, rfl, HFO.out.1, HFO.out.2⟩
end Go.Proofs.YthbcogekfdllmaaGreatDoor
