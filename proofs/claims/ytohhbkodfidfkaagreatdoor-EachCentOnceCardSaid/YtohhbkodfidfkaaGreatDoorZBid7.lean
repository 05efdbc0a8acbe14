/-
  The reference's giftsFault, GiftsFault by contracts. (Printed by gen_bid7.py.)
-/
import Derived.Test.YtohhbkodfidfkaaGreatDoorZBid6
import Derived.Test.YtohhbkodfidfkaaGreatDoorZBid5
namespace Go.Proofs.YtohhbkodfidfkaaGreatDoor
open Go Go.RowKit
attribute [local go_sem ↓] Go.wp_at_zero Go.wp_at_succ

set_option maxRecDepth 100000 in
theorem gfid1_calls (g7 : Nat) (gi : ByteArray) (ga gc : Int) (gb go : ByteArray) (x : Gf) (w : World) (hg : Blk w g7 61 #[.string gi, .int .i64 ga, .int .i64 gc, .string gb, .string go]) :
    Calls Tryz.prog 100 #[.agg #[.string x.id, .int .i64 x.at_, .int .i64 x.cents, .string x.bid, .string x.option], .pointer (some ⟨g7, 0, none⟩)] w (BRet (.bool (eqS x.id gi)) w) := by
  have hb : Below w.heap.size w (w.alloc (.cells #[.string x.id, .int .i64 x.at_, .int .i64 x.cents, .string x.bid, .string x.option] 61)) := (Below.refl _ _).alloc (Nat.le_refl _) _
  have g0 := hg.cell 0
  have gl := hg.lt
  obtain ⟨xi, xa, xc, xb, xo⟩ := x
  simp only at hb ⊢
  have HE : Hid (eqS xi gi = (xi.toList == gi.toList)) := rfl
  rw [HE.out]
  clear hg
  go_enter Tryz.func100, Tryz.ntmps100
  go_wp2_with fail
  go_ret
  exact ⟨rfl, hb⟩
set_option maxRecDepth 100000 in
theorem contGf_calls (b g7 : Nat) (gi : ByteArray) (ga gc : Int) (gb go : ByteArray) (A2 : Option Addr) (m c2 : Nat) (hs : List Gf) (w : World) (hg : Blk w g7 61 #[.string gi, .int .i64 ga, .int .i64 gc, .string gb, .string go]) (hr2 : Rd w b 5 (.slice A2 m c2) m (hs.flatMap gfC)) :
    Calls Tryz.prog 99 #[.slice A2 m c2, .func (.func 100) #[] #[.pointer (some ⟨g7, 0, none⟩)]] w (BRet (.bool (hs.any (fun o => eqS o.id gi))) w) := by
  obtain ⟨hl, hnc, hcm, hcells⟩ := hr2.cells gfC_len (by omega)
  unfold maxLen at hcm
  obtain ⟨p, hpp⟩ : ∃ p : Gf → Bool, (fun o : Gf => eqS o.id gi) = p := ⟨_, rfl⟩
  have HCC : Hid (∀ W (x : Gf), Below w.heap.size w W → Calls Tryz.prog 100 #[.agg #[.string x.id, .int .i64 x.at_, .int .i64 x.cents, .string x.bid, .string x.option], .pointer (some ⟨g7, 0, none⟩)] W (BRet (.bool (p x)) W)) := fun W x hW => by
    rw [← hpp]
    exact gfid1_calls g7 gi ga gc gb go x W (hg.below hW)
  have HL := Lib.hid hl
  have HCL := Lib.hid hcells
  rw [hpp]
  have HM := Lib.hid (ixOf_mem p hs)
  clear hcells hl hr2 hg hpp
  go_enter Tryz.func99, Tryz.ntmps99
  go_wp2
  go_loopw [8] (fun i wr => ∃ k : Nat, k ≤ m ∧ i = .int .i64 k ∧ Hid (∀ i (_ : i < k) (hi' : i < hs.length), p hs[i] = false) ∧ Below w.heap.size w wr) (fun i _ => m - (intOf i).toNat)
  case atStart => exact ⟨0, Nat.zero_le _, rfl, (fun i hi => absurd hi (by omega)), Below.refl _ _⟩
  case round =>
    obtain ⟨k, hk, rfl, HF, hbr⟩ := hrel
    by_cases hlt : k < m
    · have hkr : k < hs.length := by rw [HL.out]; exact hlt
      obtain ⟨g, o, hA, _, hcs⟩ := HCL.out (by omega)
      subst hA
      have c0 := below_cell hbr (hcs k hkr 0 (by omega))
      have c1 := below_cell hbr (hcs k hkr 1 (by omega))
      have c2 := below_cell hbr (hcs k hkr 2 (by omega))
      have c3 := below_cell hbr (hcs k hkr 3 (by omega))
      have c4 := below_cell hbr (hcs k hkr 4 (by omega))
      obtain ⟨s, hs'⟩ : ∃ s, hs[k] = s := ⟨_, rfl⟩
      rw [hs'] at c0 c1 c2 c3 c4
      replace c0 : wr.cell? ⟨g, o + k * 5, none⟩ = some (.string s.id) := c0
      replace c1 : wr.cell? ⟨g, o + k * 5 + 1, none⟩ = some (.int .i64 s.at_) := c1
      replace c2 : wr.cell? ⟨g, o + k * 5 + 2, none⟩ = some (.int .i64 s.cents) := c2
      replace c3 : wr.cell? ⟨g, o + k * 5 + 3, none⟩ = some (.string s.bid) := c3
      replace c4 : wr.cell? ⟨g, o + k * 5 + 4, none⟩ = some (.string s.option) := c4
      have HK := Lib.hid (HCC.out wr s hbr)
      clear hcs
      cases hp : p s
      · rw [hp] at HK
        have HF2 : Hid (∀ i (_ : i < k + 1) (hi' : i < hs.length), p hs[i] = false) := by
          intro i hi hi'
          by_cases hik : i = k
          · subst hik; rw [hs']; exact hp
          · exact HF.out i (by omega) hi'
        clear hp hs'
        go_wp2_with (go_at_call 100; refine HK.out.mono ?_; rintro e w2 ⟨rfl, hb2⟩)
        have hb3 := below_call hbr hb2 (Nat.le_refl _)
        go_roundw
        case rel => exact ⟨k + 1, by omega, by go_num, HF2, hb3⟩
        case measure => simp [intOf]; omega
      · rw [hp] at HK
        have HR : Hid (ixOf p hs = k) := ixOf_at _ hs k hkr (fun i hi => HF.out i hi (by omega)) (by rw [hs']; exact hp)
        have HA : Hid (hs.any p = true) := by
          have := HM.out
          rw [HR.out] at this
          rw [← this]
          exact Lib.hid (decide_eq_true (by omega))
        clear hp hs'
        go_wp2_with (go_at_call 100; refine HK.out.mono ?_; rintro e w2 ⟨rfl, hb2⟩)
        have hb3 := below_call hbr hb2 (Nat.le_refl _)
        go_ret
        exact ⟨ret_bool HA.out.symm, hb3⟩
    · obtain rfl : k = m := by omega
      have HR : Hid (ixOf p hs = -1) := ixOf_no _ hs (fun i hi => HF.out i (by rw [← HL.out]; exact hi) hi)
      have HA : Hid (hs.any p = false) := by
        have := HM.out
        rw [HR.out] at this
        rw [← this]
        exact Lib.hid rfl
      go_wp2
      go_ret
      exact ⟨ret_bool HA.out.symm, hbr⟩

set_option maxRecDepth 100000 in
set_option maxHeartbeats 4000000 in
theorem giftsFaultQ_calls (b gb : Nat) (t : Gf → Int) (A : Option Addr) (n c : Nat) (gs : List Gf) (w : World) (hr : Rd w b 5 (.slice A n c) n (gs.flatMap gfC)) (hgs : ∀ x ∈ gs, GfOk x)
    (HT : ∀ W (x : Gf), Below w.heap.size w W → Calls Tryz.prog 62 #[.agg #[.string x.id, .int .i64 x.at_, .int .i64 x.cents, .string x.bid, .string x.option], .pointer (some ⟨gb, 0, none⟩)] W (BRet (.int .i64 (t x)) W)) :
    Calls Tryz.prog 61 #[.slice A n c, .func (.func 62) #[] #[.pointer (some ⟨gb, 0, none⟩)]] w (BRet (.int .i64 (giftsF t gs)) w) := by
  obtain ⟨hl, hnc, hcm, hcells⟩ := hr.cells gfC_len (by omega)
  unfold maxLen at hcm
  by_cases hbig : 2000 < n
  · have HF := Lib.hid (show giftsF t gs = 2 by unfold giftsF; rw [if_pos (by omega)])
    clear hcells hl hr HT
    go_enter Tryz.func61, Tryz.ntmps61
    go_wp2_with fail
    go_ret
    exact ⟨ret_int HF.out.symm, Below.refl _ _⟩
  have HF0 := Lib.hid (show giftsF t gs = if giftsG t none gs = 0 then (if dupTo gs gs.length = true then 6 else 0) else giftsG t none gs by unfold giftsF; rw [if_neg (by omega)])
  have HF := Lib.hid (show giftsG t none gs = giftsG t (prevG gs 0) (gs.drop 0) from rfl)
  have HL := Lib.hid hl
  have HC := Lib.hid hcells
  have HTT := Lib.hid HT
  have HGS := Lib.hid hgs
  have HR := Lib.hid hr
  clear hcells hl hr HT hgs
  go_enter Tryz.func61, Tryz.ntmps61
  go_wp2_with fail
  go_loopw [15] (fun i wr => ∃ k : Nat, k ≤ n ∧ i = .int .i64 k ∧ Hid (giftsG t none gs = giftsG t (prevG gs k) (gs.drop k)) ∧ Below w.heap.size w wr) (fun i _ => n - (intOf i).toNat)
  case atStart => exact ⟨0, Nat.zero_le _, rfl, HF, Below.refl _ _⟩
  case round =>
    clear HF
    obtain ⟨k, hk, rfl, HF, hbr⟩ := hrel
    by_cases hlt : k < n
    · have hkr : k < gs.length := by rw [HL.out]; exact hlt
      obtain ⟨g, o, hA, _, hcs⟩ := HC.out (by omega)
      subst hA
      have hst := HF.out.trans (giftsG_step t gs k hkr)
      have hok := HGS.out _ (List.getElem_mem hkr)
      have HCS := Lib.hid hcs
      have c0 := below_cell hbr (hcs k hkr 0 (by omega))
      have c1 := below_cell hbr (hcs k hkr 1 (by omega))
      have c2 := below_cell hbr (hcs k hkr 2 (by omega))
      have c3 := below_cell hbr (hcs k hkr 3 (by omega))
      have c4 := below_cell hbr (hcs k hkr 4 (by omega))
      obtain ⟨x, hx⟩ : ∃ x, gs[k] = x := ⟨_, rfl⟩
      rw [hx] at c0 c1 c2 c3 c4 hst hok
      have hsz : x.id.size ≤ 1000 := hok.hi
      have HOX0 := Lib.hid hok
      have ht1 := HTT.out
      obtain ⟨xi, xa, xc, xb, xo⟩ := x
      simp only at hsz
      have HOX : Hid (GfOk ⟨xi, xa, xc, xb, xo⟩) := HOX0
      replace c0 : wr.cell? ⟨g, o + k * 5, none⟩ = some (.string xi) := c0
      replace c1 : wr.cell? ⟨g, o + k * 5 + 1, none⟩ = some (.int .i64 xa) := c1
      replace c2 : wr.cell? ⟨g, o + k * 5 + 2, none⟩ = some (.int .i64 xc) := c2
      replace c3 : wr.cell? ⟨g, o + k * 5 + 3, none⟩ = some (.string xb) := c3
      replace c4 : wr.cell? ⟨g, o + k * 5 + 4, none⟩ = some (.string xo) := c4
      obtain ⟨KS, hKS⟩ : ∃ B, keyB xi.data.toList = B := ⟨_, rfl⟩
      obtain ⟨MS, hMS⟩ : ∃ B, momB xa = B := ⟨_, rfl⟩
      obtain ⟨OS, hOS⟩ : ∃ B, outB xc 1 1000000000 = B := ⟨_, rfl⟩
      obtain ⟨TS, hTS⟩ : ∃ B, t ⟨xi, xa, xc, xb, xo⟩ = B := ⟨_, rfl⟩
      have HK := Lib.hid hKS
      have HM := Lib.hid hMS
      have HO := Lib.hid hOS
      have HTS := Lib.hid hTS
      have HX : Hid (∀ z : Int, giftE t (prevG gs k) ⟨xi, xa, xc, xb, xo⟩ = z → z ≠ 0 → giftsF t gs = z) := fun z hz h0 => by
        have h1 : giftsG t none gs = z := hst.trans (by rw [if_neg (by rw [hz]; exact h0), hz])
        rw [HF0.out, h1, if_neg h0]
      have HX0 : Hid (giftE t (prevG gs k) ⟨xi, xa, xc, xb, xo⟩ = 0 → giftsG t none gs = giftsG t (prevG gs (k + 1)) (gs.drop (k + 1))) := fun hz => hst.trans (if_pos hz)
      have HE : Hid (giftsF t gs = giftsF t gs) := rfl
      have hba0 : Below w.heap.size w (wr.alloc (.cells #[.string xi, .int .i64 xa, .int .i64 xc, .string xb, .string xo] 61)) := hbr.alloc hbr.size _
      have hwa0 : Below wr.heap.size wr (wr.alloc (.cells #[.string xi, .int .i64 xa, .int .i64 xc, .string xb, .string xo] 61)) := (Below.refl _ _).alloc (Nat.le_refl _) _
      have HBX0 := Blk.new wr 61 #[.string xi, .int .i64 xa, .int .i64 xc, .string xb, .string xo]
      obtain ⟨gx, hgx⟩ : ∃ gx, wr.heap.size = gx := ⟨_, rfl⟩
      obtain ⟨wa, hwa⟩ : ∃ wa, wr.alloc (.cells #[.string xi, .int .i64 xa, .int .i64 xc, .string xb, .string xo] 61) = wa := ⟨_, rfl⟩
      rw [hwa] at hba0 HBX0
      rw [hgx] at HBX0
      have hba := hba0
      have HBX := Lib.hid HBX0
      obtain ⟨y0, y1, y2, y3, y4⟩ := blk5 HBX0
      have HT1 := Lib.hid (ht1 wa ⟨xi, xa, xc, xb, xo⟩ hba)
      simp only [hTS] at HT1
      clear hcs hst hok hx ht1 hKS hMS hOS hTS hba0 hwa0 HBX0
      by_cases h0 : k = 0
      · subst h0
        simp only [Nat.zero_mul, Nat.add_zero] at c0 c1 c2 c3 c4
        have HLZ := Lib.hid (lateG_zero gs ⟨xi, xa, xc, xb, xo⟩)
        cases KS
        · have HSS := Lib.hid (id (HX.out 5 (by simp [giftE, HK.out]) (by decide)))
          clear HX
          go_wp2_with fail
          refine (keyQ_calls xi _ (by unfold maxLen; omega)).mono ?_
          rintro e w1 ⟨rfl, rfl⟩
          rw [HK.out]
          go_wp2_with fail
          go_ret
          exact ⟨ret_int HSS.out.symm, hba⟩
        cases MS
        · have HSS := Lib.hid (id (HX.out 1 (by simp [giftE, HK.out, HM.out]) (by decide)))
          clear HX
          go_wp2_with fail
          refine (keyQ_calls xi _ (by unfold maxLen; omega)).mono ?_
          rintro e w1 ⟨rfl, rfl⟩
          rw [HK.out]
          go_wp2_with fail
          refine (momentQ_calls xa _).mono ?_
          rintro e w1 ⟨rfl, rfl⟩
          rw [HM.out]
          go_wp2_with fail
          go_ret
          exact ⟨ret_int HSS.out.symm, hba⟩
        cases OS
        · by_cases ht : TS = 0
          · subst ht
            have HSS := Lib.hid (id (HX0.out (by simp [giftE, HK.out, HM.out, HO.out, HTS.out, HLZ.out])))
            clear HX HX0
            go_wp2_with fail
            refine (keyQ_calls xi _ (by unfold maxLen; omega)).mono ?_
            rintro e w1 ⟨rfl, rfl⟩
            rw [HK.out]
            go_wp2_with fail
            refine (momentQ_calls xa _).mono ?_
            rintro e w1 ⟨rfl, rfl⟩
            rw [HM.out]
            go_wp2_with fail
            refine (in_calls _ _ _ _).mono ?_
            rintro e w1 ⟨rfl, rfl⟩
            rw [HO.out]
            go_wp2_with fail
            refine HT1.out.mono ?_
            rintro e w2 ⟨rfl, hb2⟩
            have hbb := below_call hba hb2 (Nat.le_refl _)
            obtain ⟨d0, d1, d2, d3, d4⟩ := blk5 (HBX.out.below hb2)
            go_wp2_with fail
            first | go_quiet (fail) | go_region_law (fail) | go_region
            go_wp2_with fail
            go_roundw
            case rel => exact ⟨1, by omega, by go_num, HSS, (below_drewN hbb _)⟩
            case measure => simp [intOf]; omega
          · have HSS := Lib.hid (id (HX.out TS (by simp [giftE, HK.out, HM.out, HO.out, HTS.out, ht]) ht))
            have htn : (TS != 0) = true := by simpa using ht
            clear HX HX0 ht
            go_wp2_with fail
            refine (keyQ_calls xi _ (by unfold maxLen; omega)).mono ?_
            rintro e w1 ⟨rfl, rfl⟩
            rw [HK.out]
            go_wp2_with fail
            refine (momentQ_calls xa _).mono ?_
            rintro e w1 ⟨rfl, rfl⟩
            rw [HM.out]
            go_wp2_with fail
            refine (in_calls _ _ _ _).mono ?_
            rintro e w1 ⟨rfl, rfl⟩
            rw [HO.out]
            go_wp2_with fail
            refine HT1.out.mono ?_
            rintro e w2 ⟨rfl, hb2⟩
            have hbb := below_call hba hb2 (Nat.le_refl _)
            go_wp2_with fail
            go_ret
            exact ⟨ret_int HSS.out.symm, hbb⟩
        · have HSS := Lib.hid (id (HX.out 1 (by simp [giftE, HK.out, HM.out, HO.out]) (by decide)))
          clear HX HX0
          go_wp2_with fail
          refine (keyQ_calls xi _ (by unfold maxLen; omega)).mono ?_
          rintro e w1 ⟨rfl, rfl⟩
          rw [HK.out]
          go_wp2_with fail
          refine (momentQ_calls xa _).mono ?_
          rintro e w1 ⟨rfl, rfl⟩
          rw [HM.out]
          go_wp2_with fail
          refine (in_calls _ _ _ _).mono ?_
          rintro e w1 ⟨rfl, rfl⟩
          rw [HO.out]
          go_wp2_with fail
          go_ret
          exact ⟨ret_int HSS.out.symm, hba⟩
      · obtain ⟨q, rfl⟩ : ∃ q, k = q + 1 := ⟨k - 1, by omega⟩
        have hqr : q < gs.length := by omega
        have hlz := lateG_succ gs q hqr ⟨xi, xa, xc, xb, xo⟩
        have hpv := fun W (h : Below w.heap.size w W) => (⟨below_cell h (HCS.out q hqr 0 (by omega)), below_cell h (HCS.out q hqr 1 (by omega)), below_cell h (HCS.out q hqr 2 (by omega)), below_cell h (HCS.out q hqr 3 (by omega)), below_cell h (HCS.out q hqr 4 (by omega))⟩ : W.cell? ⟨g, o + q * 5 + 0, none⟩ = (gfC gs[q])[0]? ∧ W.cell? ⟨g, o + q * 5 + 1, none⟩ = (gfC gs[q])[1]? ∧ W.cell? ⟨g, o + q * 5 + 2, none⟩ = (gfC gs[q])[2]? ∧ W.cell? ⟨g, o + q * 5 + 3, none⟩ = (gfC gs[q])[3]? ∧ W.cell? ⟨g, o + q * 5 + 4, none⟩ = (gfC gs[q])[4]?)
        obtain ⟨y, hy⟩ : ∃ y, gs[q] = y := ⟨_, rfl⟩
        have hoy := HGS.out _ (List.getElem_mem hqr)
        rw [hy] at hlz hpv hoy
        obtain ⟨pi, pa, pc, pb, po⟩ := y
        have HPV : Hid (∀ W, Below w.heap.size w W → W.cell? ⟨g, o + q * 5, none⟩ = some (.string pi) ∧ W.cell? ⟨g, o + q * 5 + 1, none⟩ = some (.int .i64 pa) ∧ W.cell? ⟨g, o + q * 5 + 2, none⟩ = some (.int .i64 pc) ∧ W.cell? ⟨g, o + q * 5 + 3, none⟩ = some (.string pb) ∧ W.cell? ⟨g, o + q * 5 + 4, none⟩ = some (.string po)) := hpv
        have HLZ := Lib.hid hlz
        have HOY := Lib.hid hoy
        have hg0 : 0 < q + 1 := by omega
        have hg1 : (0 : Int) < (((q + 1 : Nat)) : Int) := by omega
        have hq0 : (0 : Int) ≤ (q : Int) := by omega
        have hqn : (q : Int) < (n : Int) := by omega
        clear hy hlz hpv hoy
        cases KS
        · have HSS := Lib.hid (id (HX.out 5 (by simp [giftE, HK.out]) (by decide)))
          clear HX
          go_wp2_with fail
          refine (keyQ_calls xi _ (by unfold maxLen; omega)).mono ?_
          rintro e w1 ⟨rfl, rfl⟩
          rw [HK.out]
          go_wp2_with fail
          go_ret
          exact ⟨ret_int HSS.out.symm, hba⟩
        cases MS
        · have HSS := Lib.hid (id (HX.out 1 (by simp [giftE, HK.out, HM.out]) (by decide)))
          clear HX
          go_wp2_with fail
          refine (keyQ_calls xi _ (by unfold maxLen; omega)).mono ?_
          rintro e w1 ⟨rfl, rfl⟩
          rw [HK.out]
          go_wp2_with fail
          refine (momentQ_calls xa _).mono ?_
          rintro e w1 ⟨rfl, rfl⟩
          rw [HM.out]
          go_wp2_with fail
          go_ret
          exact ⟨ret_int HSS.out.symm, hba⟩
        cases OS
        · by_cases ht : TS = 0
          · subst ht
            cases hl : behG ⟨pi, pa, pc, pb, po⟩ ⟨xi, xa, xc, xb, xo⟩
            · have HSS := Lib.hid (id (HX0.out (by simp [giftE, HK.out, HM.out, HO.out, HTS.out, HLZ.out, hl])))
              have HLE : Hid (decide (0 ≤ ordQ ⟨pi, pa, pc, pb, po⟩ ⟨xi, xa, xc, xb, xo⟩) = false) := (ordQ_beh _ _).trans hl
              clear HX HX0 hl
              go_wp2_with fail
              refine (keyQ_calls xi _ (by unfold maxLen; omega)).mono ?_
              rintro e w1 ⟨rfl, rfl⟩
              rw [HK.out]
              go_wp2_with fail
              refine (momentQ_calls xa _).mono ?_
              rintro e w1 ⟨rfl, rfl⟩
              rw [HM.out]
              go_wp2_with fail
              refine (in_calls _ _ _ _).mono ?_
              rintro e w1 ⟨rfl, rfl⟩
              rw [HO.out]
              go_wp2_with fail
              refine HT1.out.mono ?_
              rintro e w2 ⟨rfl, hb2⟩
              have hbb := below_call hba hb2 (Nat.le_refl _)
              obtain ⟨d0, d1, d2, d3, d4⟩ := blk5 (HBX.out.below hb2)
              obtain ⟨e0, e1, e2, e3, e4⟩ := HPV.out _ hbb
              have HBG := Lib.hid (giftOrder_calls ⟨pi, pa, pc, pb, po⟩ ⟨xi, xa, xc, xb, xo⟩ w2.drew HOX.out HOY.out)
              obtain ⟨Z, hZ⟩ : ∃ Z, ordQ ⟨pi, pa, pc, pb, po⟩ ⟨xi, xa, xc, xb, xo⟩ = Z := ⟨_, rfl⟩
              have hle := HLE.out
              rw [hZ] at HBG hle
              have HLZ2 := Lib.hid (of_decide_eq_false hle)
              have hbd := below_drewN hbb 1
              clear hZ hle HLE
              have HKP : Hid (∀ W, Below w.heap.size w W → Below wa.heap.size wa W → W.cell? ⟨gx, 0, none⟩ = some (.string xi) ∧ W.cell? ⟨gx, 1, none⟩ = some (.int .i64 xa) ∧ W.cell? ⟨gx, 2, none⟩ = some (.int .i64 xc) ∧ W.cell? ⟨gx, 3, none⟩ = some (.string xb) ∧ W.cell? ⟨gx, 4, none⟩ = some (.string xo) ∧ W.cell? ⟨g, o + q * 5, none⟩ = some (.string pi) ∧ W.cell? ⟨g, o + q * 5 + 1, none⟩ = some (.int .i64 pa) ∧ W.cell? ⟨g, o + q * 5 + 2, none⟩ = some (.int .i64 pc) ∧ W.cell? ⟨g, o + q * 5 + 3, none⟩ = some (.string pb) ∧ W.cell? ⟨g, o + q * 5 + 4, none⟩ = some (.string po)) := fun W h1 h2 => by
                obtain ⟨a0, a1, a2, a3, a4⟩ := blk5 (HBX.out.below h2)
                obtain ⟨b0, b1, b2, b3, b4⟩ := HPV.out _ h1
                exact ⟨a0, a1, a2, a3, a4, b0, b1, b2, b3, b4⟩
              have HKD := Lib.hid (HKP.out _ hbd (below_drewN hb2 1))
              go_wp2_with fail
              have hw1 : IntKind.i64.wrap ((((q + 1 : Nat)) : Int) - 1) = (q : Int) := (IntWalk.i64_in _ (by omega)).trans (by omega)
              have hw2 : IntKind.i64.wrap ((q : Int) + 1 - 1) = (q : Int) := (IntWalk.i64_in _ (by omega)).trans (by omega)
              have hw3 : IntKind.i64.wrap (q : Int) = (q : Int) := IntWalk.i64_in _ (by omega)
              go_region_held3 (fun W => W.cell? ⟨gx, 0, none⟩ = some (.string xi) ∧ W.cell? ⟨gx, 1, none⟩ = some (.int .i64 xa) ∧ W.cell? ⟨gx, 2, none⟩ = some (.int .i64 xc) ∧ W.cell? ⟨gx, 3, none⟩ = some (.string xb) ∧ W.cell? ⟨gx, 4, none⟩ = some (.string xo) ∧ W.cell? ⟨g, o + q * 5, none⟩ = some (.string pi) ∧ W.cell? ⟨g, o + q * 5 + 1, none⟩ = some (.int .i64 pa) ∧ W.cell? ⟨g, o + q * 5 + 2, none⟩ = some (.int .i64 pc) ∧ W.cell? ⟨g, o + q * 5 + 3, none⟩ = some (.string pb) ∧ W.cell? ⟨g, o + q * 5 + 4, none⟩ = some (.string po))
                (first | exact HKD.out | exact HKP.out _ (below_call hbd hb5 (Nat.le_refl _)) (below_call (below_drewN hb2 1) hb5 (Nat.le_refl _)) | go_keep)
                (first | (go_at_call 98; ((with_reducible refine HBG.out.mono ?_); rintro e w5 ⟨rfl, hb5⟩)))
              have hle := HLZ2.out
              clear hw1 hw2 hw3
              go_wp2_with fail
              go_roundw
              case rel => exact ⟨q + 1 + 1, by omega, by go_num, HSS, (below_call hbd hb5 (Nat.le_refl _))⟩
              case measure => simp [intOf]; omega
            · have HSS := Lib.hid (id (HX.out 7 (by simp [giftE, HK.out, HM.out, HO.out, HTS.out, HLZ.out, hl]) (by decide)))
              have HLE : Hid (decide (0 ≤ ordQ ⟨pi, pa, pc, pb, po⟩ ⟨xi, xa, xc, xb, xo⟩) = true) := (ordQ_beh _ _).trans hl
              clear HX HX0 hl
              go_wp2_with fail
              refine (keyQ_calls xi _ (by unfold maxLen; omega)).mono ?_
              rintro e w1 ⟨rfl, rfl⟩
              rw [HK.out]
              go_wp2_with fail
              refine (momentQ_calls xa _).mono ?_
              rintro e w1 ⟨rfl, rfl⟩
              rw [HM.out]
              go_wp2_with fail
              refine (in_calls _ _ _ _).mono ?_
              rintro e w1 ⟨rfl, rfl⟩
              rw [HO.out]
              go_wp2_with fail
              refine HT1.out.mono ?_
              rintro e w2 ⟨rfl, hb2⟩
              have hbb := below_call hba hb2 (Nat.le_refl _)
              obtain ⟨d0, d1, d2, d3, d4⟩ := blk5 (HBX.out.below hb2)
              obtain ⟨e0, e1, e2, e3, e4⟩ := HPV.out _ hbb
              have HBG := Lib.hid (giftOrder_calls ⟨pi, pa, pc, pb, po⟩ ⟨xi, xa, xc, xb, xo⟩ w2.drew HOX.out HOY.out)
              obtain ⟨Z, hZ⟩ : ∃ Z, ordQ ⟨pi, pa, pc, pb, po⟩ ⟨xi, xa, xc, xb, xo⟩ = Z := ⟨_, rfl⟩
              have hle := HLE.out
              rw [hZ] at HBG hle
              have HLZ2 := Lib.hid (of_decide_eq_true hle)
              have hbd := below_drewN hbb 1
              clear hZ hle HLE
              have HKP : Hid (∀ W, Below w.heap.size w W → Below wa.heap.size wa W → W.cell? ⟨gx, 0, none⟩ = some (.string xi) ∧ W.cell? ⟨gx, 1, none⟩ = some (.int .i64 xa) ∧ W.cell? ⟨gx, 2, none⟩ = some (.int .i64 xc) ∧ W.cell? ⟨gx, 3, none⟩ = some (.string xb) ∧ W.cell? ⟨gx, 4, none⟩ = some (.string xo) ∧ W.cell? ⟨g, o + q * 5, none⟩ = some (.string pi) ∧ W.cell? ⟨g, o + q * 5 + 1, none⟩ = some (.int .i64 pa) ∧ W.cell? ⟨g, o + q * 5 + 2, none⟩ = some (.int .i64 pc) ∧ W.cell? ⟨g, o + q * 5 + 3, none⟩ = some (.string pb) ∧ W.cell? ⟨g, o + q * 5 + 4, none⟩ = some (.string po)) := fun W h1 h2 => by
                obtain ⟨a0, a1, a2, a3, a4⟩ := blk5 (HBX.out.below h2)
                obtain ⟨b0, b1, b2, b3, b4⟩ := HPV.out _ h1
                exact ⟨a0, a1, a2, a3, a4, b0, b1, b2, b3, b4⟩
              have HKD := Lib.hid (HKP.out _ hbd (below_drewN hb2 1))
              go_wp2_with fail
              have hw1 : IntKind.i64.wrap ((((q + 1 : Nat)) : Int) - 1) = (q : Int) := (IntWalk.i64_in _ (by omega)).trans (by omega)
              have hw2 : IntKind.i64.wrap ((q : Int) + 1 - 1) = (q : Int) := (IntWalk.i64_in _ (by omega)).trans (by omega)
              have hw3 : IntKind.i64.wrap (q : Int) = (q : Int) := IntWalk.i64_in _ (by omega)
              go_region_held3 (fun W => W.cell? ⟨gx, 0, none⟩ = some (.string xi) ∧ W.cell? ⟨gx, 1, none⟩ = some (.int .i64 xa) ∧ W.cell? ⟨gx, 2, none⟩ = some (.int .i64 xc) ∧ W.cell? ⟨gx, 3, none⟩ = some (.string xb) ∧ W.cell? ⟨gx, 4, none⟩ = some (.string xo) ∧ W.cell? ⟨g, o + q * 5, none⟩ = some (.string pi) ∧ W.cell? ⟨g, o + q * 5 + 1, none⟩ = some (.int .i64 pa) ∧ W.cell? ⟨g, o + q * 5 + 2, none⟩ = some (.int .i64 pc) ∧ W.cell? ⟨g, o + q * 5 + 3, none⟩ = some (.string pb) ∧ W.cell? ⟨g, o + q * 5 + 4, none⟩ = some (.string po))
                (first | exact HKD.out | exact HKP.out _ (below_call hbd hb5 (Nat.le_refl _)) (below_call (below_drewN hb2 1) hb5 (Nat.le_refl _)) | go_keep)
                (first | (go_at_call 98; ((with_reducible refine HBG.out.mono ?_); rintro e w5 ⟨rfl, hb5⟩)))
              have hle := HLZ2.out
              clear hw1 hw2 hw3
              go_wp2_with fail
              go_ret
              exact ⟨ret_int HSS.out.symm, (below_call hbd hb5 (Nat.le_refl _))⟩
          · have HSS := Lib.hid (id (HX.out TS (by simp [giftE, HK.out, HM.out, HO.out, HTS.out, ht]) ht))
            have htn : (TS != 0) = true := by simpa using ht
            clear HX HX0 ht
            go_wp2_with fail
            refine (keyQ_calls xi _ (by unfold maxLen; omega)).mono ?_
            rintro e w1 ⟨rfl, rfl⟩
            rw [HK.out]
            go_wp2_with fail
            refine (momentQ_calls xa _).mono ?_
            rintro e w1 ⟨rfl, rfl⟩
            rw [HM.out]
            go_wp2_with fail
            refine (in_calls _ _ _ _).mono ?_
            rintro e w1 ⟨rfl, rfl⟩
            rw [HO.out]
            go_wp2_with fail
            refine HT1.out.mono ?_
            rintro e w2 ⟨rfl, hb2⟩
            have hbb := below_call hba hb2 (Nat.le_refl _)
            go_wp2_with fail
            go_ret
            exact ⟨ret_int HSS.out.symm, hbb⟩
        · have HSS := Lib.hid (id (HX.out 1 (by simp [giftE, HK.out, HM.out, HO.out]) (by decide)))
          clear HX HX0
          go_wp2_with fail
          refine (keyQ_calls xi _ (by unfold maxLen; omega)).mono ?_
          rintro e w1 ⟨rfl, rfl⟩
          rw [HK.out]
          go_wp2_with fail
          refine (momentQ_calls xa _).mono ?_
          rintro e w1 ⟨rfl, rfl⟩
          rw [HM.out]
          go_wp2_with fail
          refine (in_calls _ _ _ _).mono ?_
          rintro e w1 ⟨rfl, rfl⟩
          rw [HO.out]
          go_wp2_with fail
          go_ret
          exact ⟨ret_int HSS.out.symm, hba⟩
    · obtain rfl : k = n := by omega
      have h1 : giftsG t none gs = 0 := HF.out.trans (by rw [List.drop_of_length_le (by rw [HL.out]; exact Nat.le_refl _)]; rfl)
      have HF1 := Lib.hid (HF0.out.trans (if_pos h1))
      obtain ⟨wq, rfl⟩ : ∃ wq, wq = wr := ⟨wr, rfl⟩
      have HD0 : Hid (dupTo gs 0 = false) := rfl
      clear h1 HF HF0
      go_wp2_with fail
      go_loopw [55] (fun i w3 => ∃ j : Nat, j ≤ k ∧ i = .int .i64 j ∧ Hid (dupTo gs j = false) ∧ Below wq.heap.size wq w3) (fun i _ => k - (intOf i).toNat)
      case atStart => exact ⟨0, Nat.zero_le _, rfl, HD0, Below.refl _ _⟩
      case round =>
        clear HD0
        obtain ⟨j, hj, rfl, HD, hS⟩ := hrel
        by_cases hlt2 : j < k
        · have hkr : j < gs.length := by rw [HL.out]; exact hlt2
          obtain ⟨g, o, hA, _, hcs⟩ := HC.out (by omega)
          subst hA
          have hbw := below_call hbr hS (Nat.le_refl _)
          have htk := (HR.out.take gfC_len (by omega) hj).below hbw
          have c0 := below_cell hbw (hcs j hkr 0 (by omega))
          have c1 := below_cell hbw (hcs j hkr 1 (by omega))
          have c2 := below_cell hbw (hcs j hkr 2 (by omega))
          have c3 := below_cell hbw (hcs j hkr 3 (by omega))
          have c4 := below_cell hbw (hcs j hkr 4 (by omega))
          have hds := dupTo_step gs j hkr
          have hdn : (gs.take j).any (fun o => eqS o.id gs[j].id) = anyId gs j gs[j].id := rfl
          rw [HD.out, Bool.false_or, hdn] at hds
          obtain ⟨x, hx⟩ : ∃ x, gs[j] = x := ⟨_, rfl⟩
          rw [hx] at c0 c1 c2 c3 c4 hds
          obtain ⟨xi, xa, xc, xb, xo⟩ := x
          simp only at hds
          replace c0 : wr.cell? ⟨g, o + j * 5, none⟩ = some (.string xi) := c0
          replace c1 : wr.cell? ⟨g, o + j * 5 + 1, none⟩ = some (.int .i64 xa) := c1
          replace c2 : wr.cell? ⟨g, o + j * 5 + 2, none⟩ = some (.int .i64 xc) := c2
          replace c3 : wr.cell? ⟨g, o + j * 5 + 3, none⟩ = some (.string xb) := c3
          replace c4 : wr.cell? ⟨g, o + j * 5 + 4, none⟩ = some (.string xo) := c4
          have hwa0 : Below wr.heap.size wr (wr.alloc (.cells #[.string xi, .int .i64 xa, .int .i64 xc, .string xb, .string xo] 61)) := (Below.refl _ _).alloc (Nat.le_refl _) _
          have hCT := contGf_calls b wr.heap.size xi xa xc xb xo _ j c (gs.take j) _ (Blk.new wr 61 #[.string xi, .int .i64 xa, .int .i64 xc, .string xb, .string xo]) (htk.below hwa0)
          have hany : (gs.take j).any (fun o => eqS o.id xi) = anyId gs j xi := rfl
          obtain ⟨B, hB⟩ : ∃ B, anyId gs j xi = B := ⟨_, rfl⟩
          rw [hany, hB] at hCT
          rw [hB] at hds
          have HCT := Lib.hid hCT
          have HDS := Lib.hid hds
          have hwb := below_call hbw hwa0 (Nat.le_refl _)
          have hsb := below_call hS hwa0 (Nat.le_refl _)
          have hk0 : (0 : Int) ≤ (j : Int) := by omega
          have hkc : (j : Int) ≤ (c : Int) := by omega
          clear hcs hdn hx hB hds hCT hany htk hwa0
          cases B
          · go_wp2_with fail
            refine HCT.out.mono ?_
            rintro e w4 ⟨rfl, hb4⟩
            have hS4 := below_call hsb hb4 (Nat.le_refl _)
            go_wp2_with fail
            go_roundw
            case rel => exact ⟨j + 1, by omega, by go_num, HDS, hS4⟩
            case measure => simp [intOf]; omega
          · have HSS := Lib.hid (HF1.out.trans (if_pos (dupTo_mono gs HDS.out _ hkr)))
            go_wp2_with fail
            refine HCT.out.mono ?_
            rintro e w4 ⟨rfl, hb4⟩
            have hfin := below_call hwb hb4 (Nat.le_refl _)
            go_wp2_with fail
            go_ret
            exact ⟨ret_int HSS.out.symm, hfin⟩
        · obtain rfl : j = k := by omega
          have HSS := Lib.hid (HF1.out.trans (if_neg (by rw [HL.out, HD.out]; decide)))
          have hfin := below_call hbr hS (Nat.le_refl _)
          go_wp2_with fail
          go_ret
          exact ⟨ret_int HSS.out.symm, hfin⟩

set_option maxRecDepth 100000 in
theorem giftsFaultB_calls (b : Nat) (A A2 : Option Addr) (n c m2 c2 : Nat) (bs : List Bd) (gs : List Gf) (w : World) (hr : Bds w b A2 m2 c2 bs) (hr2 : Rd w b 5 (.slice A n c) n (gs.flatMap gfC)) (hgs : ∀ x ∈ gs, GfOk x) (hbw : b < w.heap.size) :
    Calls Tryz.prog 20 #[.slice A2 m2 c2, .slice A n c] w (BRet (.int .i64 (giftsF (namedF bs) gs)) w) := by
  have hb : Below w.heap.size w (w.alloc (.cells #[.slice A2 m2 c2] 54)) := (Below.refl _ _).alloc (Nat.le_refl _) _
  have HG := Lib.hid (giftsFaultQ_calls b w.heap.size (namedF bs) A n c gs _ (hr2.below hb) hgs (fun W x hW => namedQ_calls b w.heap.size A2 m2 c2 bs x W ((Blk.new w _ _).below hW) ((hr.below hb).below hW) (by have := hb.size; have := hW.size; omega)))
  clear hr hr2 hgs
  go_enter Tryz.func20, Tryz.ntmps20
  go_wp2_with fail
  refine HG.out.mono ?_
  rintro e w1 ⟨rfl, hb1⟩
  go_wp2_with fail
  go_ret
  exact ⟨rfl, below_call hb hb1 (Nat.le_refl _)⟩
end Go.Proofs.YtohhbkodfidfkaaGreatDoor
