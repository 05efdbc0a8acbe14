/-
  splitref2.MetBy by a contract.
-/
import Derived.Test.YtknojcomgccpeaaZBid14
import Derived.Test.YtknojcomgccpeaaZBid11
import Derived.Test.YtknojcomgccpeaaZLive4
namespace Go.Proofs.Ytknojcomgccpeaa
open Go Go.RowKit
attribute [local go_sem ↓] Go.wp_at_zero Go.wp_at_succ

set_option maxRecDepth 100000 in
set_option maxHeartbeats 4000000 in
theorem metBy_calls (b : Nat) (A A2 A3 A4 : Option Addr) (n c m2 c2 m3 c3 m4 c4 : Nat) (xs : List Slt) (f : Int) (bs : List Bd) (gs : List Gf) (ys : List Lv) (w : World) (hr : Slts w b A n c xs) (hn : n ≤ 1000) (hrb : Bds w b A2 m2 c2 bs)
    (hrg : Rd w b 5 (.slice A3 m3 c3) m3 (gs.flatMap gfC)) (hgs : ∀ x ∈ gs, GfOk x) (hm3 : m3 ≤ 100000) (hry : Rd w b 3 (.slice A4 m4 c4) m4 (ys.flatMap lvC)) (hf : -4398046511104 ≤ f ∧ f ≤ 4398046511104) (hb : b < w.heap.size)
    (hE : metE xs f bs gs ys = 0) :
    Calls Try.prog 29 #[.slice A n c, .int .i64 f, .slice A2 m2 c2, .slice A3 m3 c3, .slice A4 m4 c4] w (PrsS (metF (metQ xs f gs ys) bs) w) := by
  obtain ⟨hl2, hnc2, hcm2, hcells2⟩ := hrb.rd.cells bdC_len (by omega)
  obtain ⟨i0, hi, hz0, hz1, hz2⟩ := info_parts info_pr
  unfold maxLen at hcm2
  obtain ⟨hE1, hE2, _, _⟩ := metE_zero hE
  have hI := (live_ok hE1).1 ys.length (Nat.le_refl _)
  rw [List.take_length] at hI
  have hm2 := bids_short hE2
  rw [hl2] at hm2
  have HBR := Lib.hid (bids_right hE2).1
  have HLO := Lib.hid hI.lo
  have HTT : Hid (∀ W, Below w.heap.size w W → Calls Try.prog 81 #[.slice A n c, .int .i64 f] W (PlcsS (placesF f xs) W)) := fun W hW => placesOf_calls b A n c xs f W (hr.below hW) hn hf
  have HWN : Hid (∀ W x t, Below w.heap.size w W → BdOk W b x → Calls Try.prog 82 #[.agg #[.string x.key, .string x.before, .int .i64 x.goal, .slice x.oa x.opts.length x.oc], .slice A3 m3 c3, .int .i64 t] W (BRet (.tuple #[.string (wonQ x gs t).1, .int .i64 (wonQ x gs t).2.1, .bool (wonQ x gs t).2.2]) W)) := fun W x t hW hx => wonBy_calls b x A3 m3 c3 gs t W hx (hrg.below hW) hgs hm3 (by have := hW.size; omega)
  have HFD : Hid (∀ W key, Below w.heap.size w W → Calls Try.prog 72 #[.slice A n c, .string key] W (BRet (.int .i64 (findL xs key)) W)) := fun W key hW => findLQ_calls b A n c xs key W (hr.below hW).rd
  have HSE : Hid (∀ W key, Below w.heap.size w W → Calls Try.prog 73 #[.slice A4 m4 c4, .string key] W (SeenS (seenF ys key) W)) := fun W key hW => seenBy_calls b A4 m4 c4 ys key W (hry.below hW)
  have hnl : xs.length = n := (hr.rd.cells sltC_len (by omega)).1
  have HPB : Hid (∀ key, -4611686018427387904 ≤ plcAt f xs key ∧ plcAt f xs key ≤ 4611686018427387904) := fun key => by
    have hfb := ixOf_bd xs key
    have := fromAt_bd hr.sml hf (findL xs key).toNat (by omega)
    unfold plcAt
    omega
  have hpn : (placesF f xs).length = n := by unfold placesF; rw [placesTo_len f xs _ (Nat.le_refl _)]; exact hnl
  have HPN := Lib.hid hpn
  have HL := Lib.hid hl2
  have HNL := Lib.hid hnl
  have HC := Lib.hid hcells2
  have HRB := Lib.hid hrb
  obtain ⟨G, hG⟩ : ∃ G, metQ xs f gs ys = G := ⟨_, rfl⟩
  have HGX : Hid (∀ x, G x = nameB (wonQ x gs (begQ xs f ys x - 1)).1 (wonQ x gs (begQ xs f ys x - 1)).2.2) := fun x => by rw [← hG]; rfl
  rw [hG]
  have hS0 := (Sq.start w).nil w.heap.size 63 2
  clear hG hl2 hnl hcells2 hrb hr hrg hgs hry hf hI hpn hE hE1 hE2
  go_enter Try.func29, Try.ntmps29
  go_wp2_with fail
  go_loopw [11, 22] (fun v i wr => ∃ (k : Nat), k ≤ m2 ∧ i = .int .i64 k ∧ Sq w wr [rOwn w.heap.size 63 2 v (metF G (bs.take k)).length ((metF G (bs.take k)).flatMap prC)]) (fun _ i _ => m2 - (intOf i).toNat)
  case atStart => exact ⟨0, Nat.zero_le _, rfl, hS0⟩
  case round =>
    clear hS0
    obtain ⟨k, hk, rfl, hS⟩ := hrel
    have hbr := hS.below
    by_cases hlt : k < m2
    · have hkr : k < bs.length := by rw [HL.out]; exact hlt
      obtain ⟨g, o, hA, _, hcs⟩ := HC.out (by omega)
      subst hA
      have hml := metF_len G bs k (by omega)
      have hst := metF_step G bs k hkr
      have hok := (HRB.out.ok _ (List.getElem_mem hkr)).below hbr
      have hbR := HBR.out _ (List.getElem_mem hkr)
      have hGx := HGX.out bs[k]
      obtain ⟨x, hx⟩ : ∃ x, bs[k] = x := ⟨_, rfl⟩
      have k0 := below_cell hbr (hcs k hkr 0 (by omega))
      have k1 := below_cell hbr (hcs k hkr 1 (by omega))
      have k2 := below_cell hbr (hcs k hkr 2 (by omega))
      have k3 := below_cell hbr (hcs k hkr 3 (by omega))
      rw [hx] at k0 k1 k2 k3 hst hok hbR hGx
      obtain ⟨q, hq⟩ : ∃ q : Nat, findL xs x.before = q := ⟨(findL xs x.before).toNat, by have := hbR.before; omega⟩
      have hqr : q < xs.length := by have := (ixOf_bd xs x.before).2; omega
      have hqn : q < n := by rw [← HNL.out]; exact hqr
      obtain ⟨pp, hpp, hpa⟩ := places_at f xs x.before hq hqr
      have HPP := Lib.hid hpp
      have HPA := Lib.hid hpa
      obtain ⟨PA, hPA⟩ : ∃ z, plcAt f xs x.before = z := ⟨_, rfl⟩
      rw [hPA] at HPA
      obtain ⟨hp0, hp1⟩ := HPB.out x.before
      rw [hPA] at hp0 hp1
      obtain ⟨SB, hSB⟩ : ∃ z, seenF ys x.before = z := ⟨_, rfl⟩
      have hlo := HLO.out x.before
      rw [hSB] at hlo
      have hGb : begQ xs f ys x = if 0 ≤ SB.1 then SB.1 else PA := by unfold begQ; rw [hSB, hPA]
      obtain ⟨key, bef, go, oa, oc, opts⟩ := x
      obtain ⟨m, hm⟩ : ∃ m, opts.length = m := ⟨_, rfl⟩
      simp only at hq hSB
      simp only [Nat.add_zero] at k0
      replace k0 : wr.cell? ⟨g, o + k * 4, none⟩ = some (.string key) := k0
      replace k1 : wr.cell? ⟨g, o + k * 4 + 1, none⟩ = some (.string bef) := k1
      replace k2 : wr.cell? ⟨g, o + k * 4 + 2, none⟩ = some (.int .i64 go) := k2
      replace k3 : wr.cell? ⟨g, o + k * 4 + 3, none⟩ = some (.slice oa m oc) := by rw [← hm]; exact k3
      have hlz := hbr.size
      have hbr1 : Below w.heap.size w (wr.alloc (.cells #[.string key, .string bef, .int .i64 go, .slice oa m oc] 101)) := hbr.alloc hlz _
      have B0 : Blk (wr.alloc (.cells #[.string key, .string bef, .int .i64 go, .slice oa m oc] 101)) wr.heap.size 101 #[.string key, .string bef, .int .i64 go, .slice oa m oc] := Blk.new wr _ _
      have HB0 := Lib.hid B0
      have b0 := B0.cell 0
      have b1 := B0.cell 1
      have b2 := B0.cell 2
      have b3 := B0.cell 3
      have HK := Lib.hid hok
      have HST := Lib.hid hst
      have HGB := Lib.hid hGb
      have HGN := Lib.hid hGx
      have HSQ := Lib.hid hSB
      have HQ := Lib.hid hq
      have HMM := Lib.hid hm
      have HS := Lib.hid hS
      have HLN := Lib.hid hml
      clear hcs hx hpp hpa hok hbR hst hGb hGx hm hS hPA hSB hml
      clear B0
      go_wp2_with fail
      refine (HFD.out _ _ hbr1).mono ?_
      rintro e w8 ⟨rfl, hb8⟩
      rw [HQ.out]
      have hbr8 := below_call hbr1 hb8 (Nat.le_refl _)
      have hS8 := (HS.out.add #[.string key, .string bef, .int .i64 go, .slice oa m oc] 101).callB hb8
      have hB8 := HB0.out.below hb8
      clear b0 b1 b2 b3 hbr1 HB0 k0 k1 k2 k3
      go_wp2_with fail
      refine (HTT.out _ hbr8).mono ?_
      rintro e wp ⟨v, rfl, hown, hbp⟩
      have hbrp := below_call hbr8 hbp (Nat.le_refl _)
      have hSp := hS8.callB hbp
      have hpr := Rd.own (b := b) hown (by have := hbr8.size; omega)
      obtain ⟨AP, cP, hv⟩ := own_form hown
      subst hv
      obtain ⟨_, hpc, hpm, hpcells⟩ := hpr.cells plcC_len (by omega)
      unfold maxLen at hpm
      rw [HPN.out] at hpc ⊢
      obtain ⟨gp, op, hAP, _, hpcs⟩ := hpcells (by rw [HPN.out]; omega)
      subst hAP
      obtain ⟨hq2, hpg⟩ := List.getElem?_eq_some_iff.1 HPP.out
      have p1 := hpcs q hq2 1 (by omega)
      rw [hpg] at p1
      replace p1 : wp.cell? ⟨gp, op + q * 4 + 1, none⟩ = some (.int .i64 PA) := by rw [← HPA.out]; exact p1
      have hBp := hB8.below hbp
      have b1 := hBp.cell 1
      have hq0 : (0 : Int) ≤ (q : Int) := by omega
      have hqi : (q : Int) < (n : Int) := by omega
      clear hown hpr hpcells hpcs hpg hB8 hS8
      go_wp2_with fail
      refine (HSE.out _ _ hbrp).mono ?_
      rintro e wq ⟨rfl, hbq⟩
      rw [HSQ.out]
      obtain ⟨sb, se, so⟩ := SB
      have hbrq := below_call hbrp hbq (Nat.le_refl _)
      have hS9 := (hSp.callB hbq).add #[.int .i64 sb, .int .i64 se, .bool so] 124
      have hbr9 := hbrq.alloc hbrq.size (.cells #[.int .i64 sb, .int .i64 se, .bool so] 124)
      have hw9 : Below wr.heap.size wr wq := below_call (below_call (below_call ((Below.refl _ _).alloc (Nat.le_refl _) _) hb8 (Nat.le_refl _)) hbp (Nat.le_refl _)) hbq (Nat.le_refl _)
      have HK9 := Lib.hid (HK.out.below (hw9.alloc hw9.size (.cells #[.int .i64 sb, .int .i64 se, .bool so] 124)))
      obtain ⟨w9, hw9e⟩ : ∃ W, wq.alloc (.cells #[.int .i64 sb, .int .i64 se, .bool so] 124) = W := ⟨_, rfl⟩
      rw [hw9e] at hS9 hbr9 HK9
      have hB9 : Blk w9 wr.heap.size 101 #[.string key, .string bef, .int .i64 go, .slice oa m oc] := hS9.nth 1 rfl
      have hG9 : Blk w9 wq.heap.size 124 #[.int .i64 sb, .int .i64 se, .bool so] := hS9.nth 0 rfl
      have g0 := hG9.cell 0
      have a0 := hB9.cell 0
      have a1 := hB9.cell 1
      have a2 := hB9.cell 2
      have a3 := hB9.cell 3
      have lG := hG9.lt
      simp only at hlo HGB
      obtain ⟨lo0, lo1, _, _⟩ := hlo
      clear hB9 hG9 p1 b1 hBp hw9
      by_cases h0 : 0 ≤ sb
      · have HT : Hid (G ⟨key, bef, go, oa, oc, opts⟩ = nameB (wonQ ⟨key, bef, go, oa, oc, opts⟩ gs (sb - 1)).1 (wonQ ⟨key, bef, go, oa, oc, opts⟩ gs (sb - 1)).2.2) := by rw [HGN.out, HGB.out]; exact Lib.hid (by rw [if_pos h0])
        obtain ⟨wp, hwp⟩ : ∃ z, wonQ ⟨key, bef, go, oa, oc, opts⟩ gs (sb - 1) = z := ⟨_, rfl⟩
        have hwn := HWN.out w9 ⟨key, bef, go, oa, oc, opts⟩ (sb - 1) hbr9 HK9.out
        rw [hwp] at HT hwn
        simp only [HMM.out] at hwn
        have HWN2 := Lib.hid hwn
        obtain ⟨s1, cn, ok⟩ := wp
        clear hwp hwn
        go_wp2_with fail
        refine HWN2.out.mono ?_
        rintro e w10 ⟨rfl, hb10⟩
        have hS10 := hS9.callB hb10
        have hb10' : Blk w10 wr.heap.size 101 #[.string key, .string bef, .int .i64 go, .slice oa m oc] := hS10.nth 1 rfl
        have d0 := hb10'.cell 0
        have hz10 := hS10.size
        clear hb10' hb10 g0 a0 a1 a2 a3
        cases ok
        · have HN : Hid (G ⟨key, bef, go, oa, oc, opts⟩ = ⟨#[110, 111]⟩) := HT.out.trans (if_pos rfl)
          have HS5 := Lib.hid ((hS10).add #[.string key, .string ⟨#[110, 111]⟩] 63)
          have HO5 : World.ownsRow w10 w.heap.size 63 2 u11 (metF G (bs.take k)).length ((metF G (bs.take k)).flatMap prC) := hS10.nth 2 rfl
          have HFS : Hid (metF G (bs.take (k + 1)) = metF G (bs.take k) ++ [(key, ⟨#[110, 111]⟩)]) := by rw [HST.out]; exact Lib.hid (by rw [HN.out])
          go_wp2_with (first
            | (at_builtin; refine wpList_append_own_at _ rfl _ _ 52 rfl w.heap.size 63 i0 (.agg #[.string ⟨#[]⟩, .string ⟨#[]⟩]) 2 32 Try.underlying52 hi hz0 hz1 hz2 rfl (by decide) _ _ _ rfl (HO5.alloc _) ⟨w10.heap.size, 0, none⟩ 1 1 [.string key, .string ⟨#[110, 111]⟩] rfl rfl (World.news_of_block (heap_alloc_new _ _)) (one2 rfl rfl) (by rw [HLN.out]; unfold maxLen; omega) (by rw [HLN.out]; omega) (by simp; omega) ?_; intro v' w12 hown' hgrow _ hblk; have hS12 := (HS5.out.front 3 rfl rfl).append hown' hgrow hblk; clear hown' hgrow hblk))
          have hS13 : Sq w w12 [rOwn w.heap.size 63 2 v' (metF G (bs.take (k + 1))).length ((metF G (bs.take (k + 1))).flatMap prC)] := by
            rw [HFS.out, flat_snoc, List.length_append]
            exact ((hS12.drop 3 rfl rfl).drop 2 rfl rfl).drop 1 rfl rfl
          go_roundw
          case rel => exact ⟨k + 1, by omega, by go_num, hS13⟩
          case measure => simp [intOf]; omega
        · obtain ⟨em, hem⟩ : ∃ z, s1.toList.isEmpty = z := ⟨_, rfl⟩
          cases em
          · have HN : Hid (G ⟨key, bef, go, oa, oc, opts⟩ = s1) := HT.out.trans ((if_neg (by simp)).trans (if_neg (by rw [eqS_nil, hem]; simp)))
            have HS5 := Lib.hid ((hS10).add #[.string key, .string s1] 63)
            have HO5 : World.ownsRow w10 w.heap.size 63 2 u11 (metF G (bs.take k)).length ((metF G (bs.take k)).flatMap prC) := hS10.nth 2 rfl
            have HFS : Hid (metF G (bs.take (k + 1)) = metF G (bs.take k) ++ [(key, s1)]) := by rw [HST.out]; exact Lib.hid (by rw [HN.out])
            go_wp2_with (first
              | (at_builtin; refine wpList_append_own_at _ rfl _ _ 52 rfl w.heap.size 63 i0 (.agg #[.string ⟨#[]⟩, .string ⟨#[]⟩]) 2 32 Try.underlying52 hi hz0 hz1 hz2 rfl (by decide) _ _ _ rfl (HO5.alloc _) ⟨w10.heap.size, 0, none⟩ 1 1 [.string key, .string s1] rfl rfl (World.news_of_block (heap_alloc_new _ _)) (one2 rfl rfl) (by rw [HLN.out]; unfold maxLen; omega) (by rw [HLN.out]; omega) (by simp; omega) ?_; intro v' w12 hown' hgrow _ hblk; have hS12 := (HS5.out.front 3 rfl rfl).append hown' hgrow hblk; clear hown' hgrow hblk))
            have hS13 : Sq w w12 [rOwn w.heap.size 63 2 v' (metF G (bs.take (k + 1))).length ((metF G (bs.take (k + 1))).flatMap prC)] := by
              rw [HFS.out, flat_snoc, List.length_append]
              exact ((hS12.drop 3 rfl rfl).drop 2 rfl rfl).drop 1 rfl rfl
            go_roundw
            case rel => exact ⟨k + 1, by omega, by go_num, hS13⟩
            case measure => simp [intOf]; omega
          · have HN : Hid (G ⟨key, bef, go, oa, oc, opts⟩ = ⟨#[121, 101, 115]⟩) := HT.out.trans ((if_neg (by simp)).trans (if_pos (by rw [eqS_nil, hem])))
            have HS5 := Lib.hid ((hS10).add #[.string key, .string ⟨#[121, 101, 115]⟩] 63)
            have HO5 : World.ownsRow w10 w.heap.size 63 2 u11 (metF G (bs.take k)).length ((metF G (bs.take k)).flatMap prC) := hS10.nth 2 rfl
            have HFS : Hid (metF G (bs.take (k + 1)) = metF G (bs.take k) ++ [(key, ⟨#[121, 101, 115]⟩)]) := by rw [HST.out]; exact Lib.hid (by rw [HN.out])
            go_wp2_with (first
              | (at_builtin; refine wpList_append_own_at _ rfl _ _ 52 rfl w.heap.size 63 i0 (.agg #[.string ⟨#[]⟩, .string ⟨#[]⟩]) 2 32 Try.underlying52 hi hz0 hz1 hz2 rfl (by decide) _ _ _ rfl (HO5.alloc _) ⟨w10.heap.size, 0, none⟩ 1 1 [.string key, .string ⟨#[121, 101, 115]⟩] rfl rfl (World.news_of_block (heap_alloc_new _ _)) (one2 rfl rfl) (by rw [HLN.out]; unfold maxLen; omega) (by rw [HLN.out]; omega) (by simp; omega) ?_; intro v' w12 hown' hgrow _ hblk; have hS12 := (HS5.out.front 3 rfl rfl).append hown' hgrow hblk; clear hown' hgrow hblk))
            have hS13 : Sq w w12 [rOwn w.heap.size 63 2 v' (metF G (bs.take (k + 1))).length ((metF G (bs.take (k + 1))).flatMap prC)] := by
              rw [HFS.out, flat_snoc, List.length_append]
              exact ((hS12.drop 3 rfl rfl).drop 2 rfl rfl).drop 1 rfl rfl
            go_roundw
            case rel => exact ⟨k + 1, by omega, by go_num, hS13⟩
            case measure => simp [intOf]; omega
      · have HT : Hid (G ⟨key, bef, go, oa, oc, opts⟩ = nameB (wonQ ⟨key, bef, go, oa, oc, opts⟩ gs (PA - 1)).1 (wonQ ⟨key, bef, go, oa, oc, opts⟩ gs (PA - 1)).2.2) := by rw [HGN.out, HGB.out]; exact Lib.hid (by rw [if_neg h0])
        obtain ⟨wp, hwp⟩ : ∃ z, wonQ ⟨key, bef, go, oa, oc, opts⟩ gs (PA - 1) = z := ⟨_, rfl⟩
        have hwn := HWN.out w9 ⟨key, bef, go, oa, oc, opts⟩ (PA - 1) hbr9 HK9.out
        rw [hwp] at HT hwn
        simp only [HMM.out] at hwn
        have HWN2 := Lib.hid hwn
        obtain ⟨s1, cn, ok⟩ := wp
        clear hwp hwn
        go_wp2_with fail
        refine HWN2.out.mono ?_
        rintro e w10 ⟨rfl, hb10⟩
        have hS10 := hS9.callB hb10
        have hb10' : Blk w10 wr.heap.size 101 #[.string key, .string bef, .int .i64 go, .slice oa m oc] := hS10.nth 1 rfl
        have d0 := hb10'.cell 0
        have hz10 := hS10.size
        clear hb10' hb10 g0 a0 a1 a2 a3
        cases ok
        · have HN : Hid (G ⟨key, bef, go, oa, oc, opts⟩ = ⟨#[110, 111]⟩) := HT.out.trans (if_pos rfl)
          have HS5 := Lib.hid ((hS10).add #[.string key, .string ⟨#[110, 111]⟩] 63)
          have HO5 : World.ownsRow w10 w.heap.size 63 2 u11 (metF G (bs.take k)).length ((metF G (bs.take k)).flatMap prC) := hS10.nth 2 rfl
          have HFS : Hid (metF G (bs.take (k + 1)) = metF G (bs.take k) ++ [(key, ⟨#[110, 111]⟩)]) := by rw [HST.out]; exact Lib.hid (by rw [HN.out])
          go_wp2_with (first
            | (at_builtin; refine wpList_append_own_at _ rfl _ _ 52 rfl w.heap.size 63 i0 (.agg #[.string ⟨#[]⟩, .string ⟨#[]⟩]) 2 32 Try.underlying52 hi hz0 hz1 hz2 rfl (by decide) _ _ _ rfl (HO5.alloc _) ⟨w10.heap.size, 0, none⟩ 1 1 [.string key, .string ⟨#[110, 111]⟩] rfl rfl (World.news_of_block (heap_alloc_new _ _)) (one2 rfl rfl) (by rw [HLN.out]; unfold maxLen; omega) (by rw [HLN.out]; omega) (by simp; omega) ?_; intro v' w12 hown' hgrow _ hblk; have hS12 := (HS5.out.front 3 rfl rfl).append hown' hgrow hblk; clear hown' hgrow hblk))
          have hS13 : Sq w w12 [rOwn w.heap.size 63 2 v' (metF G (bs.take (k + 1))).length ((metF G (bs.take (k + 1))).flatMap prC)] := by
            rw [HFS.out, flat_snoc, List.length_append]
            exact ((hS12.drop 3 rfl rfl).drop 2 rfl rfl).drop 1 rfl rfl
          go_roundw
          case rel => exact ⟨k + 1, by omega, by go_num, hS13⟩
          case measure => simp [intOf]; omega
        · obtain ⟨em, hem⟩ : ∃ z, s1.toList.isEmpty = z := ⟨_, rfl⟩
          cases em
          · have HN : Hid (G ⟨key, bef, go, oa, oc, opts⟩ = s1) := HT.out.trans ((if_neg (by simp)).trans (if_neg (by rw [eqS_nil, hem]; simp)))
            have HS5 := Lib.hid ((hS10).add #[.string key, .string s1] 63)
            have HO5 : World.ownsRow w10 w.heap.size 63 2 u11 (metF G (bs.take k)).length ((metF G (bs.take k)).flatMap prC) := hS10.nth 2 rfl
            have HFS : Hid (metF G (bs.take (k + 1)) = metF G (bs.take k) ++ [(key, s1)]) := by rw [HST.out]; exact Lib.hid (by rw [HN.out])
            go_wp2_with (first
              | (at_builtin; refine wpList_append_own_at _ rfl _ _ 52 rfl w.heap.size 63 i0 (.agg #[.string ⟨#[]⟩, .string ⟨#[]⟩]) 2 32 Try.underlying52 hi hz0 hz1 hz2 rfl (by decide) _ _ _ rfl (HO5.alloc _) ⟨w10.heap.size, 0, none⟩ 1 1 [.string key, .string s1] rfl rfl (World.news_of_block (heap_alloc_new _ _)) (one2 rfl rfl) (by rw [HLN.out]; unfold maxLen; omega) (by rw [HLN.out]; omega) (by simp; omega) ?_; intro v' w12 hown' hgrow _ hblk; have hS12 := (HS5.out.front 3 rfl rfl).append hown' hgrow hblk; clear hown' hgrow hblk))
            have hS13 : Sq w w12 [rOwn w.heap.size 63 2 v' (metF G (bs.take (k + 1))).length ((metF G (bs.take (k + 1))).flatMap prC)] := by
              rw [HFS.out, flat_snoc, List.length_append]
              exact ((hS12.drop 3 rfl rfl).drop 2 rfl rfl).drop 1 rfl rfl
            go_roundw
            case rel => exact ⟨k + 1, by omega, by go_num, hS13⟩
            case measure => simp [intOf]; omega
          · have HN : Hid (G ⟨key, bef, go, oa, oc, opts⟩ = ⟨#[121, 101, 115]⟩) := HT.out.trans ((if_neg (by simp)).trans (if_pos (by rw [eqS_nil, hem])))
            have HS5 := Lib.hid ((hS10).add #[.string key, .string ⟨#[121, 101, 115]⟩] 63)
            have HO5 : World.ownsRow w10 w.heap.size 63 2 u11 (metF G (bs.take k)).length ((metF G (bs.take k)).flatMap prC) := hS10.nth 2 rfl
            have HFS : Hid (metF G (bs.take (k + 1)) = metF G (bs.take k) ++ [(key, ⟨#[121, 101, 115]⟩)]) := by rw [HST.out]; exact Lib.hid (by rw [HN.out])
            go_wp2_with (first
              | (at_builtin; refine wpList_append_own_at _ rfl _ _ 52 rfl w.heap.size 63 i0 (.agg #[.string ⟨#[]⟩, .string ⟨#[]⟩]) 2 32 Try.underlying52 hi hz0 hz1 hz2 rfl (by decide) _ _ _ rfl (HO5.alloc _) ⟨w10.heap.size, 0, none⟩ 1 1 [.string key, .string ⟨#[121, 101, 115]⟩] rfl rfl (World.news_of_block (heap_alloc_new _ _)) (one2 rfl rfl) (by rw [HLN.out]; unfold maxLen; omega) (by rw [HLN.out]; omega) (by simp; omega) ?_; intro v' w12 hown' hgrow _ hblk; have hS12 := (HS5.out.front 3 rfl rfl).append hown' hgrow hblk; clear hown' hgrow hblk))
            have hS13 : Sq w w12 [rOwn w.heap.size 63 2 v' (metF G (bs.take (k + 1))).length ((metF G (bs.take (k + 1))).flatMap prC)] := by
              rw [HFS.out, flat_snoc, List.length_append]
              exact ((hS12.drop 3 rfl rfl).drop 2 rfl rfl).drop 1 rfl rfl
            go_roundw
            case rel => exact ⟨k + 1, by omega, by go_num, hS13⟩
            case measure => simp [intOf]; omega
    · obtain rfl : k = m2 := by omega
      have HT : Hid (bs.take k = bs) := by rw [← HL.out]; exact Lib.hid List.take_length
      rw [HT.out] at hS
      have hfin : World.ownsRow wr w.heap.size 63 2 u11 (metF G bs).length ((metF G bs).flatMap prC) := hS.head
      go_wp2_with fail
      go_ret
      exact ⟨_, rfl, hfin, hbr⟩
end Go.Proofs.Ytknojcomgccpeaa
