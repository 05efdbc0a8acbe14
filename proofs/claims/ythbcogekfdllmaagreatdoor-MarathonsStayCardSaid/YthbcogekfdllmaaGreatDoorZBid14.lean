/-
  marathon.Met by a contract.
-/
import Derived.Test.YthbcogekfdllmaaGreatDoorZBid4
import Derived.Test.YthbcogekfdllmaaGreatDoorZBid6
import Derived.Test.YthbcogekfdllmaaGreatDoorZBid9
import Derived.Test.YthbcogekfdllmaaGreatDoorZSlot5
import Derived.Test.YthbcogekfdllmaaGreatDoorZSlot11
import Derived.Test.YthbcogekfdllmaaGreatDoorZLive3
import Derived.Test.YthbcogekfdllmaaGreatDoorZLive6
namespace Go.Proofs.YthbcogekfdllmaaGreatDoor
open Go Go.RowKit
attribute [local go_sem ↓] Go.wp_at_zero Go.wp_at_succ

/-- the fault of Met -/
def metE (xs : List Slt) (f : Int) (bs : List Bd) (gs : List Gf) (ys : List Lv) : Int := firstE [liveF wrongP xs ys, bidsF xs bs, giftsF (namedF bs) gs, fromF f xs]
theorem metE_zero {xs : List Slt} {f : Int} {bs : List Bd} {gs : List Gf} {ys : List Lv} (h : metE xs f bs gs ys = 0) : liveF wrongP xs ys = 0 ∧ bidsF xs bs = 0 ∧ giftsF (namedF bs) gs = 0 ∧ fromF f xs = 0 := by
  unfold metE at h
  simp only [firstE] at h
  split at h
  · rename_i h1
    split at h
    · rename_i h2
      split at h
      · rename_i h3
        split at h
        · rename_i h4
          exact ⟨h1, h2, h3, h4⟩
        · rename_i h4; exact absurd h h4
      · rename_i h3; exact absurd h h3
    · rename_i h2; exact absurd h h2
  · rename_i h1; exact absurd h h1
/-- what Met answers -/
def metL (xs : List Slt) (f : Int) (bs : List Bd) (gs : List Gf) (ys : List Lv) : List Pr := if metE xs f bs gs ys = 0 then metF (metP xs f gs (stateP ys)) bs else []
theorem places_at (f : Int) (xs : List Slt) (key : ByteArray) {q : Nat} (hq : findL xs key = q) (h : q < xs.length) : ∃ p : Plc, (placesF f xs)[q]? = some p ∧ p.2.1 = plcAt f xs key := by
  refine ⟨_, placesTo_get f xs xs.length (Nat.le_refl _) q h h, ?_⟩
  unfold plcAt
  rw [hq]
  rfl

set_option maxRecDepth 100000 in
set_option maxHeartbeats 4000000 in
theorem met_calls (b : Nat) (A A2 A3 A4 : Option Addr) (n c m2 c2 m3 c3 m4 c4 : Nat) (xs : List Slt) (f : Int) (bs : List Bd) (gs : List Gf) (ys : List Lv) (w : World) (hr : Slts w b A n c xs) (hn : n ≤ 1000) (hrb : Bds w b A2 m2 c2 bs)
    (hrg : Rd w b 5 (.slice A3 m3 c3) m3 (gs.flatMap gfC)) (hgs : ∀ x ∈ gs, GfOk x) (hm3 : m3 ≤ 100000) (hry : Rd w b 3 (.slice A4 m4 c4) m4 (ys.flatMap lvC)) (hys : ∀ y ∈ ys, LvOk y) (hf : -4398046511104 ≤ f ∧ f ≤ 4398046511104) (hb : b < w.heap.size) :
    Calls Tryz.prog 26 #[.slice A n c, .int .i64 f, .slice A2 m2 c2, .slice A3 m3 c3, .slice A4 m4 c4] w (ClashS (metL xs f bs gs ys) (metE xs f bs gs ys) w) := by
  obtain ⟨hl2, hnc2, hcm2, hcells2⟩ := hrb.rd.cells bdC_len (by omega)
  obtain ⟨i0, hi, hz0, hz1, hz2⟩ := info_parts info_pr
  unfold maxLen at hcm2
  obtain ⟨E1, hE1⟩ : ∃ E, liveF wrongP xs ys = E := ⟨_, rfl⟩
  obtain ⟨E2, hE2⟩ : ∃ E, bidsF xs bs = E := ⟨_, rfl⟩
  obtain ⟨E3, hE3⟩ : ∃ E, giftsF (namedF bs) gs = E := ⟨_, rfl⟩
  obtain ⟨E4, hE4⟩ : ∃ E, fromF f xs = E := ⟨_, rfl⟩
  obtain ⟨E, hE⟩ : ∃ E, metE xs f bs gs ys = E := ⟨_, rfl⟩
  have hEE : firstE [E1, E2, E3, E4] = E := by rw [← hE, ← hE1, ← hE2, ← hE3, ← hE4]; rfl
  have HC1 := Lib.hid (checkLive_calls b A A4 n c m4 c4 xs ys w hr hry hys hb)
  have HC2 : Hid (∀ W, Below w.heap.size w W → Calls Tryz.prog 79 #[.slice A n c, .slice A2 m2 c2] W (BRet (.int .i64 E2) W)) := fun W hW => by
    have := checkBids_calls b A A2 n c m2 c2 xs bs W (hr.below hW) (hrb.below hW) (by have := hW.size; omega)
    rw [hE2] at this
    exact this
  have HC3 : Hid (∀ W, Below w.heap.size w W → Calls Tryz.prog 80 #[.slice A2 m2 c2, .slice A3 m3 c3] W (BRet (.int .i64 E3) W)) := fun W hW => by
    have := checkGifts_calls b A3 A2 m3 c3 m2 c2 bs gs W (hrb.below hW) (hrg.below hW) hgs
    rw [hE3] at this
    exact this
  have HC4 : Hid (∀ W, Below w.heap.size w W → Calls Tryz.prog 81 #[.slice A n c, .int .i64 f] W (BRet (.int .i64 E4) W)) := fun W hW => by
    have := fromFault_calls b A n c xs f W (hr.below hW) hn hf (by have := hW.size; omega)
    rw [hE4] at this
    exact this
  have HFI : Hid (∀ W : World, Calls Tryz.prog 77 #[.slice (some ⟨W.heap.size, 0, none⟩) 4 4] (W.alloc (.cells #[.int .i64 E1, .int .i64 E2, .int .i64 E3, .int .i64 E4] 29)) (QRet (.int .i64 E) (W.alloc (.cells #[.int .i64 E1, .int .i64 E2, .int .i64 E3, .int .i64 E4] 29)))) := fun W => by
    have hr : Rd (W.alloc (.cells #[.int .i64 E1, .int .i64 E2, .int .i64 E3, .int .i64 E4] 29)) (W.heap.size + 5) 1 (.slice (some ⟨W.heap.size, 0, none⟩) 4 4) 4 ([E1, E2, E3, E4].map (Value.int .i64)) := Rd.lit W _ 1 4 #[.int .i64 E1, .int .i64 E2, .int .i64 E3, .int .i64 E4] _ (by omega) (by decide) rfl
    have := first_calls (W.heap.size + 5) _ 4 4 [E1, E2, E3, E4] _ hr
    rw [hEE] at this
    exact this
  rw [hE1] at HC1
  have HLL : Hid (metL xs f bs gs ys = if E = 0 then metF (metP xs f gs (stateP ys)) bs else []) := by unfold metL; rw [hE]; exact Lib.hid rfl
  have HZ : Hid (E = 0 → liveF wrongP xs ys = 0 ∧ bidsF xs bs = 0) := fun h => by have := metE_zero (hE.trans h); exact ⟨this.1, this.2.1⟩
  have hml4 : ys.length = m4 := (hry.cells lvC_len (by omega)).1
  have HFO : Hid (E = 0 → ∀ W, Below w.heap.size w W → Calls Tryz.prog 82 #[.slice A4 m4 c4, .int .i64 345686400000] W (ShowS (stateP ys) W)) := fun h W hW => by
    have hl0 := (metE_zero (hE.trans h)).1
    have h4 := live_ok hl0
    have hI := h4.1 ys.length (Nat.le_refl _)
    rw [List.take_length] at hI
    have := follow_calls b A4 m4 c4 ys 345686400000 W (hry.below hW) hys (live_kinds hl0) (by omega)
    rw [upTo_end hI] at this
    exact this
  have HTT : Hid (∀ W, Below w.heap.size w W → Calls Tryz.prog 83 #[.slice A n c, .int .i64 f] W (PlcsS (placesF f xs) W)) := fun W hW => timetable_calls b A n c xs f W (hr.below hW) hn hf
  have HWN : Hid (∀ W x t, Below w.heap.size w W → BdOk W b x → -4611686018427387904 ≤ t ∧ t ≤ 4611686018427387904 → Calls Tryz.prog 84 #[.agg #[.string x.key, .string x.before, .int .i64 x.goal, .slice x.oa x.opts.length x.oc], .slice A3 m3 c3, .int .i64 t] W (BRet (.tuple #[.string (wonP x gs t).1, .int .i64 (wonP x gs t).2.1, .bool (wonP x gs t).2.2]) W)) := fun W x t hW hx ht => won_calls b x A3 m3 c3 gs t W hx (hrg.below hW) hgs hm3 ht
  have HFD : Hid (∀ W key, Below w.heap.size w W → Calls Tryz.prog 74 #[.slice A n c, .string key] W (BRet (.int .i64 (findL xs key)) W)) := fun W key hW => findL_calls b A n c xs key W (hr.below hW).rd
  have hnl : xs.length = n := (hr.rd.cells sltC_len (by omega)).1
  have HPB : Hid (∀ key, -4611686018427387904 ≤ plcAt f xs key ∧ plcAt f xs key ≤ 4611686018427387904) := fun key => by
    have hfb := ixOf_bd xs key
    have := fromAt_bd hr.sml hf (findL xs key).toNat (by omega)
    unfold plcAt
    omega
  have HIN : Hid (E = 0 → Inv xs ys) := fun h => by
    have h4 := (live_ok (metE_zero (hE.trans h)).1).1 ys.length (Nat.le_refl _)
    rw [List.take_length] at h4
    exact h4
  rw [HLL.out, hE]
  have HL := Lib.hid hl2
  have HNL := Lib.hid hnl
  have HC := Lib.hid hcells2
  have HRB := Lib.hid hrb
  clear hE hE1 hE2 hE3 hE4 hEE HLL hl2 hnl hcells2 hrb hr hrg hgs hry hys hml4 hf
  by_cases hz : E = 0
  · subst hz
    rw [if_pos rfl]
    have HFO2 := Lib.hid (HFO.out rfl)
    have hI := HIN.out rfl
    have hbR := (bids_right (HZ.out rfl).2).1
    have hm2 := bids_short (HZ.out rfl).2
    rw [HL.out] at hm2
    have HI := Lib.hid hI
    have HBR := Lib.hid hbR
    clear HFO hI hbR HIN HZ
    obtain ⟨S, hS⟩ : ∃ S, stateP ys = S := ⟨_, rfl⟩
    have HSB : Hid (∀ key, (S.st key).began = true → -4611686018427387904 ≤ (S.st key).at_ ∧ (S.st key).at_ ≤ 4611686018427387904) := fun key h => by
      have h1 := beg_alike HI.out 0 ⟨key, key, 0, none, 0, []⟩
      unfold begP begQ at h1
      rw [hS] at h1
      simp only [h, if_true] at h1
      have h2 := HI.out.began key
      rw [hS, h] at h2
      have h3 : 0 ≤ (seenF ys key).1 := by simpa using h2.symm
      rw [if_pos h3] at h1
      have := HI.out.lo key
      omega
    rw [hS] at HFO2 ⊢
    clear HI hS
    obtain ⟨G, hG⟩ : ∃ G, metP xs f gs S = G := ⟨_, rfl⟩
    have HGX : Hid (∀ x, G x = bnameB (wonP x gs (begP xs f S x)).1 (wonP x gs (begP xs f S x)).2.2) := fun x => by rw [← hG]; rfl
    rw [hG]
    clear hG
    go_enter Tryz.func26, Tryz.ntmps26
    go_wp2_with fail
    refine HC1.out.mono ?_
    rintro e w1 ⟨rfl, hb1⟩
    go_wp2_with fail
    refine (HC2.out _ hb1).mono ?_
    rintro e w2 ⟨rfl, hb2⟩
    have hS2 := below_call hb1 hb2 (Nat.le_refl _)
    clear hb1 hb2
    go_wp2_with fail
    refine (HC3.out _ hS2).mono ?_
    rintro e w3 ⟨rfl, hb3⟩
    have hS3 := below_call hS2 hb3 (Nat.le_refl _)
    clear hS2 hb3
    go_wp2_with fail
    refine (HC4.out _ hS3).mono ?_
    rintro e w4 ⟨rfl, hb4⟩
    have hS4 := below_call hS3 hb4 (Nat.le_refl _)
    clear hS3 hb4
    go_wp2_with fail
    refine (HFI.out _).mono ?_
    rintro e w5 ⟨rfl, nq, rfl⟩
    have hS5 := below_drewN (hS4.alloc hS4.size (.cells #[.int .i64 E1, .int .i64 E2, .int .i64 E3, .int .i64 E4] 29)) nq
    clear hS4
    obtain ⟨wa, hwa⟩ : ∃ wa, (w4.alloc (.cells #[.int .i64 E1, .int .i64 E2, .int .i64 E3, .int .i64 E4] 29)).drewN nq = wa := ⟨_, rfl⟩
    rw [hwa] at hS5 ⊢
    clear hwa
    go_wp2_with fail
    refine (HFO2.out _ hS5).mono ?_
    rintro e w6 ⟨gs0, gm, N, AO, cO, rfl, hN, hSh⟩
    have HSH := Lib.hid (fun W (hW : Below w6.heap.size w6 W) => show_stays (W := W) (b := b) hSh (by have := hS5.size; omega) hW)
    have hS6 := below_call hS5 hSh.below (Nat.le_refl _)
    clear hSh hS5
    go_wp2_with fail
    refine (HTT.out _ hS6).mono ?_
    rintro e w7 ⟨v, rfl, hown, hb7⟩
    have hpr := Rd.own (b := b) hown (by have := hS6.size; omega)
    obtain ⟨AP, cP, hv⟩ := own_form hown
    subst hv
    have HW7 := Lib.hid (below_call hS6 hb7 (Nat.le_refl _))
    have HB7 := Lib.hid hb7
    obtain ⟨_, hpc, hpm, hpcells⟩ := hpr.cells plcC_len (by omega)
    unfold maxLen at hpm
    have HPC := Lib.hid hpcells
    have hpn : (placesF f xs).length = n := by unfold placesF; rw [placesTo_len f xs _ (Nat.le_refl _)]; exact HNL.out
    have HPN := Lib.hid hpn
    rw [hpn] at hpc ⊢
    have hw7 := HW7.out.size
    have hS0 := (Sq.start w7).nil w7.heap.size 75 2
    clear hown hpr hb7 hS6 hpcells hpn HFO2 HTT HFI HC1 HC2 HC3 HC4
    go_wp2_with fail
    go_loopw [15, 47] (fun v i wr => ∃ (k : Nat), k ≤ m2 ∧ i = .int .i64 k ∧ Sq w7 wr [rOwn w7.heap.size 75 2 v (metF G (bs.take k)).length ((metF G (bs.take k)).flatMap prC)]) (fun _ i _ => m2 - (intOf i).toNat)
    case atStart => exact ⟨0, Nat.zero_le _, rfl, hS0⟩
    case round =>
      clear hS0
      obtain ⟨k, hk, rfl, hS⟩ := hrel
      have hbw := hS.below
      by_cases hlt : k < m2
      · have hkr : k < bs.length := by rw [HL.out]; exact hlt
        obtain ⟨g, o, hA, _, hcs⟩ := HC.out (by omega)
        subst hA
        have hbr : Below w.heap.size w wr := below_call HW7.out hbw (Nat.le_refl _)
        have hml := metF_len G bs k (by omega)
        have hst := metF_step G bs k hkr
        have hok := (HRB.out.ok _ (List.getElem_mem hkr)).below hbr
        have hbR := HBR.out _ (List.getElem_mem hkr)
        have hGx := HGX.out bs[k]
        obtain ⟨x, hx⟩ : ∃ x, bs[k] = x := ⟨_, rfl⟩
        have k0 := below_cell hbr (hcs k hkr 0 (by omega))
        have k1 := below_cell hbr (hcs k hkr 1 (by omega))
        have k2 := below_cell hbr (hcs k hkr 2 (by omega))
        have k3 := below_cell hbr (hcs k hkr 3 (by omega))
        rw [hx] at k0 k1 k2 k3 hst hok hbR hGx
        obtain ⟨q, hq⟩ : ∃ q : Nat, findL xs x.before = q := ⟨(findL xs x.before).toNat, by have := hbR.before; omega⟩
        have hqr : q < xs.length := by have := (ixOf_bd xs x.before).2; omega
        have hqn : q < n := by rw [← HNL.out]; exact hqr
        obtain ⟨pp, hpp, hpa⟩ := places_at f xs x.before hq hqr
        obtain ⟨gp, op, hAP, _, hpcs⟩ := HPC.out (by rw [HPN.out]; omega)
        subst hAP
        obtain ⟨hq2, hpg⟩ := List.getElem?_eq_some_iff.1 hpp
        have p1 := hpcs q hq2 1 (by omega)
        rw [hpg] at p1
        obtain ⟨PA, hPA⟩ : ∃ z, plcAt f xs x.before = z := ⟨_, rfl⟩
        rw [hPA] at hpa
        have hPB := HPB.out x.before
        rw [hPA] at hPB
        replace p1 : w7.cell? ⟨gp, op + q * 4 + 1, none⟩ = some (.int .i64 PA) := by rw [← hpa]; exact p1
        obtain ⟨sg, hsg⟩ : ∃ s, S.st x.before = s := ⟨_, rfl⟩
        have hsb := HSB.out x.before
        rw [hsg] at hsb
        have hGb : begP xs f S x = if sg.began = true then sg.at_ else PA := by unfold begP; rw [hsg, hPA]
        have hlk := fun W (hW : Below wr.heap.size wr W) => (HSH.out W (below_call HB7.out (below_call hbw hW (Nat.le_refl _)) (Nat.le_refl _)))
        obtain ⟨key, bef, go, oa, oc, opts⟩ := x
        obtain ⟨m, hm⟩ : ∃ m, opts.length = m := ⟨_, rfl⟩
        have hbz := hok.hb
        simp only at hq hsg hbz
        simp only [Nat.add_zero] at k0
        replace k0 : wr.cell? ⟨g, o + k * 4, none⟩ = some (.string key) := k0
        replace k1 : wr.cell? ⟨g, o + k * 4 + 1, none⟩ = some (.string bef) := k1
        replace k2 : wr.cell? ⟨g, o + k * 4 + 2, none⟩ = some (.int .i64 go) := k2
        replace k3 : wr.cell? ⟨g, o + k * 4 + 3, none⟩ = some (.slice oa m oc) := by rw [← hm]; exact k3
        have hlz := hbr.size
        have hbr1 : Below w.heap.size w (wr.alloc (.cells #[.string key, .string bef, .int .i64 go, .slice oa m oc] 77)) := hbr.alloc hlz _
        have B0 : Blk (wr.alloc (.cells #[.string key, .string bef, .int .i64 go, .slice oa m oc] 77)) wr.heap.size 77 #[.string key, .string bef, .int .i64 go, .slice oa m oc] := Blk.new wr _ _
        have HB0 := Lib.hid B0
        have b0 := B0.cell 0
        have b1 := B0.cell 1
        have b2 := B0.cell 2
        have b3 := B0.cell 3
        have HK := Lib.hid hok
        have HST := Lib.hid hst
        have HGB := Lib.hid hGb
        have HGN := Lib.hid hGx
        have HSBK := Lib.hid hsb
        have HLK := Lib.hid hlk
        have HSG := Lib.hid hsg
        have HQ := Lib.hid hq
        have HMM := Lib.hid hm
        have HP1 := Lib.hid p1
        have HS := Lib.hid hS
        clear hcs hx hpp hpa hpcs hq2 hpg p1 hok hbR hst hGb hGx hsb hlk hsg hm hS
        clear B0
        go_wp2_with fail
        refine (HFD.out _ _ hbr1).mono ?_
        rintro e w8 ⟨rfl, hb8⟩
        rw [HQ.out]
        have hbr8 := below_call hbr1 hb8 (Nat.le_refl _)
        have hw8 : Below wr.heap.size wr w8 := below_call ((Below.refl _ _).alloc (Nat.le_refl _) _) hb8 (Nat.le_refl _)
        have hS8 := (HS.out.add #[.string key, .string bef, .int .i64 go, .slice oa m oc] 77).callB hb8
        have p1 := below_cell (below_call hbw hw8 (Nat.le_refl _)) HP1.out
        obtain ⟨ob, oe, oo, sa, sz⟩ := sg
        have hB8 : Blk w8 wr.heap.size 77 #[.string key, .string bef, .int .i64 go, .slice oa m oc] := HB0.out.below hb8
        have c1 := hB8.cell 1
        have HSP : Hid (∀ W, Below w8.heap.size w8 W → W.cell? ⟨gs0, 0, none⟩ = some (.map (some gm)) ∧ W.cell? ⟨wr.heap.size, 1, none⟩ = some (.string bef) ∧ (Instr.lookup 160 (.map (some gm)) (.string bef) false).run Tryz.prog W = .ok (.agg #[.bool ob, .bool oe, .bool oo, .int .i64 sa, .int .i64 sz]) W) := fun W hW => by
          obtain ⟨l0, _, l2, _⟩ := HLK.out W (below_call hw8 hW (Nat.le_refl _))
          have h := l2.look (s := bef) (by unfold maxLen; omega)
          rw [HSG.out] at h
          exact ⟨l0, (hB8.below hW).cell 1, h⟩
        have hS9' := (hS8.add #[.bool ob, .bool oe, .bool oo, .int .i64 sa, .int .i64 sz] 159).drew
        have hdr : Below w8.heap.size w8 w8.drew := below_drewN (Below.refl _ _) 1
        have hq0 : (0 : Int) ≤ (q : Int) := by omega
        have hqi : (q : Int) < (n : Int) := by omega
        have HK8 := Lib.hid (HK.out.below hw8)
        have HLN := Lib.hid hml
        clear b0 b1 b2 b3 hS8 hB8 hml hbr1 hw8 k0 k1 k2 k3 hbz
        simp only at HGB HSBK
        go_wp2_with fail
        go_region_held3 (fun W => W.cell? ⟨gs0, 0, none⟩ = some (.map (some gm)) ∧ W.cell? ⟨wr.heap.size, 1, none⟩ = some (.string bef) ∧ (Instr.lookup 160 (.map (some gm)) (.string bef) false).run Tryz.prog W = .ok (.agg #[.bool ob, .bool oe, .bool oo, .int .i64 sa, .int .i64 sz]) W)
          (first | exact HSP.out _ hdr | exact HSP.out _ (below_drewN ((Below.refl _ _).alloc (Nat.le_refl _) _) 1) | exact HSP.out _ (hdr.alloc (Nat.le_refl _) _)) (fail)
        all_goals
          obtain ⟨w9, hw9, hS9, hbr9, HK9⟩ : ∃ W, W = _ ∧ Sq w7 W [rBlk w8.heap.size 159 #[.bool ob, .bool oe, .bool oo, .int .i64 sa, .int .i64 sz], rBlk wr.heap.size 77 #[.string key, .string bef, .int .i64 go, .slice oa m oc], rOwn w7.heap.size 75 2 u15 (metF G (bs.take k)).length ((metF G (bs.take k)).flatMap prC)] ∧ Below w.heap.size w W ∧ Hid (BdOk W b ⟨key, bef, go, oa, oc, opts⟩) := ⟨_, rfl, hS9', below_drewN (hbr8.alloc hbr8.size _) 1, HK8.out.below (below_drewN ((Below.refl _ _).alloc (Nat.le_refl _) _) 1)⟩
          rw [← hw9]
          clear hw9 hS9' HSP hdr HK8
          have hB9 : Blk w9 wr.heap.size 77 #[.string key, .string bef, .int .i64 go, .slice oa m oc] := hS9.nth 1 rfl
          have hG9 : Blk w9 w8.heap.size 159 #[.bool ob, .bool oe, .bool oo, .int .i64 sa, .int .i64 sz] := hS9.nth 0 rfl
          have g0 := hG9.cell 0
          have g3 := hG9.cell 3
          have a0 := hB9.cell 0
          have a1 := hB9.cell 1
          have a2 := hB9.cell 2
          have a3 := hB9.cell 3
          have lG := hG9.lt
          clear hB9 hG9 p1 c1
          cases ob
          · have HT : Hid (G ⟨key, bef, go, oa, oc, opts⟩ = bnameB (wonP ⟨key, bef, go, oa, oc, opts⟩ gs PA).1 (wonP ⟨key, bef, go, oa, oc, opts⟩ gs PA).2.2) := by rw [HGN.out, HGB.out]; exact Lib.hid (by simp)
            obtain ⟨wp, hwp⟩ : ∃ z, wonP ⟨key, bef, go, oa, oc, opts⟩ gs PA = z := ⟨_, rfl⟩
            have hwn := HWN.out w9 ⟨key, bef, go, oa, oc, opts⟩ PA hbr9 (HK9.out) hPB
            rw [hwp] at HT hwn
            simp only [HMM.out] at hwn
            have HWN2 := Lib.hid hwn
            obtain ⟨s1, cn, ok⟩ := wp
            clear hwp hwn
            go_wp2_with fail
            refine HWN2.out.mono ?_
            rintro e w10 ⟨rfl, hb10⟩
            have hS10 := hS9.callB hb10
            have hb10' : Blk w10 wr.heap.size 77 #[.string key, .string bef, .int .i64 go, .slice oa m oc] := hS10.nth 1 rfl
            have d0 := hb10'.cell 0
            have hz10 := hS10.size
            clear hb10' hb10 g0 g3 a0 a1 a2 a3
            cases ok
            · have HN : Hid (G ⟨key, bef, go, oa, oc, opts⟩ = ⟨#[110, 111]⟩) := HT.out.trans (if_pos rfl)
              have HS5 := Lib.hid ((hS10).add #[.string key, .string ⟨#[110, 111]⟩] 75)
              have HO5 : World.ownsRow w10 w7.heap.size 75 2 u15 (metF G (bs.take k)).length ((metF G (bs.take k)).flatMap prC) := hS10.nth 2 rfl
              have HFS : Hid (metF G (bs.take (k + 1)) = metF G (bs.take k) ++ [(key, ⟨#[110, 111]⟩)]) := by rw [HST.out]; exact Lib.hid (by rw [HN.out])
              go_wp2_with (first
                | (at_builtin; refine wpList_append_own_at _ rfl _ _ 45 rfl w7.heap.size 75 i0 (.agg #[.string ⟨#[]⟩, .string ⟨#[]⟩]) 2 32 Tryz.underlying45 hi hz0 hz1 hz2 rfl (by decide) _ _ _ rfl (HO5.alloc _) ⟨w10.heap.size, 0, none⟩ 1 1 [.string key, .string ⟨#[110, 111]⟩] rfl rfl (World.news_of_block (heap_alloc_new _ _)) (one2 rfl rfl) (by rw [HLN.out]; unfold maxLen; omega) (by rw [HLN.out]; omega) (by simp; omega) ?_; intro v' w12 hown' hgrow _ hblk; have hS12 := (HS5.out.front 3 rfl rfl).append hown' hgrow hblk; clear hown' hgrow hblk))
              have hS13 : Sq w7 w12 [rOwn w7.heap.size 75 2 v' (metF G (bs.take (k + 1))).length ((metF G (bs.take (k + 1))).flatMap prC)] := by
                rw [HFS.out, flat_snoc, List.length_append]
                exact ((hS12.drop 3 rfl rfl).drop 2 rfl rfl).drop 1 rfl rfl
              go_roundw
              case rel => exact ⟨k + 1, by omega, by go_num, hS13⟩
              case measure => simp [intOf]; omega
            · obtain ⟨em, hem⟩ : ∃ z, s1.toList.isEmpty = z := ⟨_, rfl⟩
              cases em
              · have HN : Hid (G ⟨key, bef, go, oa, oc, opts⟩ = s1) := HT.out.trans ((if_neg (by simp)).trans (if_neg (by rw [eqS_nil, hem]; simp)))
                have HS5 := Lib.hid ((hS10).add #[.string key, .string s1] 75)
                have HO5 : World.ownsRow w10 w7.heap.size 75 2 u15 (metF G (bs.take k)).length ((metF G (bs.take k)).flatMap prC) := hS10.nth 2 rfl
                have HFS : Hid (metF G (bs.take (k + 1)) = metF G (bs.take k) ++ [(key, s1)]) := by rw [HST.out]; exact Lib.hid (by rw [HN.out])
                go_wp2_with (first
                  | (at_builtin; refine wpList_append_own_at _ rfl _ _ 45 rfl w7.heap.size 75 i0 (.agg #[.string ⟨#[]⟩, .string ⟨#[]⟩]) 2 32 Tryz.underlying45 hi hz0 hz1 hz2 rfl (by decide) _ _ _ rfl (HO5.alloc _) ⟨w10.heap.size, 0, none⟩ 1 1 [.string key, .string s1] rfl rfl (World.news_of_block (heap_alloc_new _ _)) (one2 rfl rfl) (by rw [HLN.out]; unfold maxLen; omega) (by rw [HLN.out]; omega) (by simp; omega) ?_; intro v' w12 hown' hgrow _ hblk; have hS12 := (HS5.out.front 3 rfl rfl).append hown' hgrow hblk; clear hown' hgrow hblk))
                have hS13 : Sq w7 w12 [rOwn w7.heap.size 75 2 v' (metF G (bs.take (k + 1))).length ((metF G (bs.take (k + 1))).flatMap prC)] := by
                  rw [HFS.out, flat_snoc, List.length_append]
                  exact ((hS12.drop 3 rfl rfl).drop 2 rfl rfl).drop 1 rfl rfl
                go_roundw
                case rel => exact ⟨k + 1, by omega, by go_num, hS13⟩
                case measure => simp [intOf]; omega
              · have HN : Hid (G ⟨key, bef, go, oa, oc, opts⟩ = ⟨#[121, 101, 115]⟩) := HT.out.trans ((if_neg (by simp)).trans (if_pos (by rw [eqS_nil, hem])))
                have HS5 := Lib.hid ((hS10).add #[.string key, .string ⟨#[121, 101, 115]⟩] 75)
                have HO5 : World.ownsRow w10 w7.heap.size 75 2 u15 (metF G (bs.take k)).length ((metF G (bs.take k)).flatMap prC) := hS10.nth 2 rfl
                have HFS : Hid (metF G (bs.take (k + 1)) = metF G (bs.take k) ++ [(key, ⟨#[121, 101, 115]⟩)]) := by rw [HST.out]; exact Lib.hid (by rw [HN.out])
                go_wp2_with (first
                  | (at_builtin; refine wpList_append_own_at _ rfl _ _ 45 rfl w7.heap.size 75 i0 (.agg #[.string ⟨#[]⟩, .string ⟨#[]⟩]) 2 32 Tryz.underlying45 hi hz0 hz1 hz2 rfl (by decide) _ _ _ rfl (HO5.alloc _) ⟨w10.heap.size, 0, none⟩ 1 1 [.string key, .string ⟨#[121, 101, 115]⟩] rfl rfl (World.news_of_block (heap_alloc_new _ _)) (one2 rfl rfl) (by rw [HLN.out]; unfold maxLen; omega) (by rw [HLN.out]; omega) (by simp; omega) ?_; intro v' w12 hown' hgrow _ hblk; have hS12 := (HS5.out.front 3 rfl rfl).append hown' hgrow hblk; clear hown' hgrow hblk))
                have hS13 : Sq w7 w12 [rOwn w7.heap.size 75 2 v' (metF G (bs.take (k + 1))).length ((metF G (bs.take (k + 1))).flatMap prC)] := by
                  rw [HFS.out, flat_snoc, List.length_append]
                  exact ((hS12.drop 3 rfl rfl).drop 2 rfl rfl).drop 1 rfl rfl
                go_roundw
                case rel => exact ⟨k + 1, by omega, by go_num, hS13⟩
                case measure => simp [intOf]; omega
          · have HT : Hid (G ⟨key, bef, go, oa, oc, opts⟩ = bnameB (wonP ⟨key, bef, go, oa, oc, opts⟩ gs sa).1 (wonP ⟨key, bef, go, oa, oc, opts⟩ gs sa).2.2) := by rw [HGN.out, HGB.out]; exact Lib.hid (by simp)
            obtain ⟨wp, hwp⟩ : ∃ z, wonP ⟨key, bef, go, oa, oc, opts⟩ gs sa = z := ⟨_, rfl⟩
            have hwn := HWN.out w9 ⟨key, bef, go, oa, oc, opts⟩ sa hbr9 (HK9.out) (HSBK.out rfl)
            rw [hwp] at HT hwn
            simp only [HMM.out] at hwn
            have HWN2 := Lib.hid hwn
            obtain ⟨s1, cn, ok⟩ := wp
            clear hwp hwn
            go_wp2_with fail
            refine HWN2.out.mono ?_
            rintro e w10 ⟨rfl, hb10⟩
            have hS10 := hS9.callB hb10
            have hb10' : Blk w10 wr.heap.size 77 #[.string key, .string bef, .int .i64 go, .slice oa m oc] := hS10.nth 1 rfl
            have d0 := hb10'.cell 0
            have hz10 := hS10.size
            clear hb10' hb10 g0 g3 a0 a1 a2 a3
            cases ok
            · have HN : Hid (G ⟨key, bef, go, oa, oc, opts⟩ = ⟨#[110, 111]⟩) := HT.out.trans (if_pos rfl)
              have HS5 := Lib.hid ((hS10).add #[.string key, .string ⟨#[110, 111]⟩] 75)
              have HO5 : World.ownsRow w10 w7.heap.size 75 2 u15 (metF G (bs.take k)).length ((metF G (bs.take k)).flatMap prC) := hS10.nth 2 rfl
              have HFS : Hid (metF G (bs.take (k + 1)) = metF G (bs.take k) ++ [(key, ⟨#[110, 111]⟩)]) := by rw [HST.out]; exact Lib.hid (by rw [HN.out])
              go_wp2_with (first
                | (at_builtin; refine wpList_append_own_at _ rfl _ _ 45 rfl w7.heap.size 75 i0 (.agg #[.string ⟨#[]⟩, .string ⟨#[]⟩]) 2 32 Tryz.underlying45 hi hz0 hz1 hz2 rfl (by decide) _ _ _ rfl (HO5.alloc _) ⟨w10.heap.size, 0, none⟩ 1 1 [.string key, .string ⟨#[110, 111]⟩] rfl rfl (World.news_of_block (heap_alloc_new _ _)) (one2 rfl rfl) (by rw [HLN.out]; unfold maxLen; omega) (by rw [HLN.out]; omega) (by simp; omega) ?_; intro v' w12 hown' hgrow _ hblk; have hS12 := (HS5.out.front 3 rfl rfl).append hown' hgrow hblk; clear hown' hgrow hblk))
              have hS13 : Sq w7 w12 [rOwn w7.heap.size 75 2 v' (metF G (bs.take (k + 1))).length ((metF G (bs.take (k + 1))).flatMap prC)] := by
                rw [HFS.out, flat_snoc, List.length_append]
                exact ((hS12.drop 3 rfl rfl).drop 2 rfl rfl).drop 1 rfl rfl
              go_roundw
              case rel => exact ⟨k + 1, by omega, by go_num, hS13⟩
              case measure => simp [intOf]; omega
            · obtain ⟨em, hem⟩ : ∃ z, s1.toList.isEmpty = z := ⟨_, rfl⟩
              cases em
              · have HN : Hid (G ⟨key, bef, go, oa, oc, opts⟩ = s1) := HT.out.trans ((if_neg (by simp)).trans (if_neg (by rw [eqS_nil, hem]; simp)))
                have HS5 := Lib.hid ((hS10).add #[.string key, .string s1] 75)
                have HO5 : World.ownsRow w10 w7.heap.size 75 2 u15 (metF G (bs.take k)).length ((metF G (bs.take k)).flatMap prC) := hS10.nth 2 rfl
                have HFS : Hid (metF G (bs.take (k + 1)) = metF G (bs.take k) ++ [(key, s1)]) := by rw [HST.out]; exact Lib.hid (by rw [HN.out])
                go_wp2_with (first
                  | (at_builtin; refine wpList_append_own_at _ rfl _ _ 45 rfl w7.heap.size 75 i0 (.agg #[.string ⟨#[]⟩, .string ⟨#[]⟩]) 2 32 Tryz.underlying45 hi hz0 hz1 hz2 rfl (by decide) _ _ _ rfl (HO5.alloc _) ⟨w10.heap.size, 0, none⟩ 1 1 [.string key, .string s1] rfl rfl (World.news_of_block (heap_alloc_new _ _)) (one2 rfl rfl) (by rw [HLN.out]; unfold maxLen; omega) (by rw [HLN.out]; omega) (by simp; omega) ?_; intro v' w12 hown' hgrow _ hblk; have hS12 := (HS5.out.front 3 rfl rfl).append hown' hgrow hblk; clear hown' hgrow hblk))
                have hS13 : Sq w7 w12 [rOwn w7.heap.size 75 2 v' (metF G (bs.take (k + 1))).length ((metF G (bs.take (k + 1))).flatMap prC)] := by
                  rw [HFS.out, flat_snoc, List.length_append]
                  exact ((hS12.drop 3 rfl rfl).drop 2 rfl rfl).drop 1 rfl rfl
                go_roundw
                case rel => exact ⟨k + 1, by omega, by go_num, hS13⟩
                case measure => simp [intOf]; omega
              · have HN : Hid (G ⟨key, bef, go, oa, oc, opts⟩ = ⟨#[121, 101, 115]⟩) := HT.out.trans ((if_neg (by simp)).trans (if_pos (by rw [eqS_nil, hem])))
                have HS5 := Lib.hid ((hS10).add #[.string key, .string ⟨#[121, 101, 115]⟩] 75)
                have HO5 : World.ownsRow w10 w7.heap.size 75 2 u15 (metF G (bs.take k)).length ((metF G (bs.take k)).flatMap prC) := hS10.nth 2 rfl
                have HFS : Hid (metF G (bs.take (k + 1)) = metF G (bs.take k) ++ [(key, ⟨#[121, 101, 115]⟩)]) := by rw [HST.out]; exact Lib.hid (by rw [HN.out])
                go_wp2_with (first
                  | (at_builtin; refine wpList_append_own_at _ rfl _ _ 45 rfl w7.heap.size 75 i0 (.agg #[.string ⟨#[]⟩, .string ⟨#[]⟩]) 2 32 Tryz.underlying45 hi hz0 hz1 hz2 rfl (by decide) _ _ _ rfl (HO5.alloc _) ⟨w10.heap.size, 0, none⟩ 1 1 [.string key, .string ⟨#[121, 101, 115]⟩] rfl rfl (World.news_of_block (heap_alloc_new _ _)) (one2 rfl rfl) (by rw [HLN.out]; unfold maxLen; omega) (by rw [HLN.out]; omega) (by simp; omega) ?_; intro v' w12 hown' hgrow _ hblk; have hS12 := (HS5.out.front 3 rfl rfl).append hown' hgrow hblk; clear hown' hgrow hblk))
                have hS13 : Sq w7 w12 [rOwn w7.heap.size 75 2 v' (metF G (bs.take (k + 1))).length ((metF G (bs.take (k + 1))).flatMap prC)] := by
                  rw [HFS.out, flat_snoc, List.length_append]
                  exact ((hS12.drop 3 rfl rfl).drop 2 rfl rfl).drop 1 rfl rfl
                go_roundw
                case rel => exact ⟨k + 1, by omega, by go_num, hS13⟩
                case measure => simp [intOf]; omega
      · obtain rfl : k = m2 := by omega
        have HT : Hid (bs.take k = bs) := by rw [← HL.out]; exact Lib.hid List.take_length
        rw [HT.out] at hS
        have hfin : World.ownsRow wr w7.heap.size 75 2 u15 (metF G bs).length ((metF G bs).flatMap prC) := hS.head
        have hfb := own_base hfin hw7
        have hbx : Below w.heap.size w wr := below_call HW7.out hbw (Nat.le_refl _)
        go_wp2_with fail
        refine bodyPost_ret (v := .tuple #[u15, .int .i64 0]) (by simp [results, Tryz.results26, go_sem]) rfl ⟨_, rfl, hfb, hbx⟩
  · rw [if_neg hz]
    have hz' : (E != 0) = true := by rw [bne_iff_ne]; exact hz
    clear HFO HZ HIN
    go_enter Tryz.func26, Tryz.ntmps26
    go_wp2_with fail
    refine HC1.out.mono ?_
    rintro e w1 ⟨rfl, hb1⟩
    go_wp2_with fail
    refine (HC2.out _ hb1).mono ?_
    rintro e w2 ⟨rfl, hb2⟩
    have hS2 := below_call hb1 hb2 (Nat.le_refl _)
    clear hb1 hb2
    go_wp2_with fail
    refine (HC3.out _ hS2).mono ?_
    rintro e w3 ⟨rfl, hb3⟩
    have hS3 := below_call hS2 hb3 (Nat.le_refl _)
    clear hS2 hb3
    go_wp2_with fail
    refine (HC4.out _ hS3).mono ?_
    rintro e w4 ⟨rfl, hb4⟩
    have hS4 := below_call hS3 hb4 (Nat.le_refl _)
    clear hS3 hb4
    go_wp2_with fail
    refine (HFI.out _).mono ?_
    rintro e w5 ⟨rfl, nq, rfl⟩
    have hS5 := below_drewN (hS4.alloc hS4.size (.cells #[.int .i64 E1, .int .i64 E2, .int .i64 E3, .int .i64 E4] 29)) nq
    go_wp2_with fail
    refine bodyPost_ret (v := .tuple #[.slice none 0 0, .int .i64 E]) (by simp [results, Tryz.results26, go_sem]) rfl ⟨_, rfl, World.ownsRow_nil _ _ _ _, hS5⟩
end Go.Proofs.YthbcogekfdllmaaGreatDoor
