/-
  marathon.CheckAway and splitref2.AwayFault by contracts: both answer awayF. (Printed by gen_slot10.py.)
-/
import Derived.Test.YtlfhommeomchoaaZSlot4
import Derived.Test.YtlfhommeomchoaaZSlotPure
import Derived.Deep.RegionHeld3
namespace Go.Proofs.Ytlfhommeomchoaa
open Go Go.RowKit
attribute [local go_sem ↓] Go.wp_at_zero Go.wp_at_succ

set_option maxRecDepth 100000 in
set_option maxHeartbeats 1000000 in
theorem checkAway_calls (b : Nat) (A A2 : Option Addr) (n c m c2 : Nat) (xs : List Slt) (ps : List Pr) (w : World) (hr : Slts w b A n c xs) (hn : n ≤ 1000) (hr2 : Rd w b 2 (.slice A2 m c2) m (ps.flatMap prC)) (hps : ∀ p ∈ ps, PrOk p) (hb : b < w.heap.size) :
    Calls Try.prog 45 #[.slice A n c, .slice A2 m c2] w (BRet (.int .i64 (awayF xs ps)) w) := by
  obtain ⟨hl, hnc, hcm, hcells⟩ := hr.rd.cells sltC_len (by omega)
  obtain ⟨hl2, hnc2, hcm2, hcells2⟩ := hr2.cells prC_len (by omega)
  unfold maxLen at hcm hcm2
  obtain ⟨E, hE⟩ : ∃ E, slotsF xs = E := ⟨_, rfl⟩
  have hF : awayF xs ps = if E = 0 then if 200 < m then 2 else awayG xs ps else E := by unfold awayF; rw [hE, hl2]
  have HCS := Lib.hid (checkSlots_calls b A n c xs w hr hb)
  rw [hE] at HCS
  have HL := Lib.hid hl
  have HL2 := Lib.hid hl2
  have HC := Lib.hid hcells
  have HC2 := Lib.hid hcells2
  have HR := Lib.hid hr
  have HR2 := Lib.hid hr2
  have HPS := Lib.hid hps
  clear hcells hl hr hcells2 hl2 hr2 hE hps
  by_cases hz : E = 0
  · rw [if_pos hz] at hF
    subst hz
    by_cases hbig : 200 < m
    · have HF := Lib.hid (hF.trans (if_pos hbig))
      clear hF
      go_enter Try.func45, Try.ntmps45
      go_wp2_with fail
      refine HCS.out.mono ?_
      rintro e w1 ⟨rfl, hb1⟩
      go_wp2_with fail
      go_ret
      exact ⟨ret_int HF.out.symm, hb1⟩
    rw [if_neg hbig] at hF
    have HF : Hid (awayF xs ps = awayG xs (ps.drop 0)) := hF
    clear hF
    go_enter Try.func45, Try.ntmps45
    go_wp2_with fail
    refine HCS.out.mono ?_
    rintro e w1 ⟨rfl, hb1⟩
    go_wp2_with fail
    go_loopw [19] (fun i wr => ∃ k : Nat, k ≤ m ∧ i = .int .i64 k ∧ Hid (awayF xs ps = awayG xs (ps.drop k)) ∧ Below w.heap.size w wr) (fun i _ => m - (intOf i).toNat)
    case atStart => exact ⟨0, Nat.zero_le _, rfl, HF, hb1⟩
    case round =>
      clear HF
      obtain ⟨k, hk, rfl, HF, hbr⟩ := hrel
      by_cases hlt : k < m
      · have hkr : k < ps.length := by rw [HL2.out]; exact hlt
        obtain ⟨gp, op, hA, _, hps⟩ := HC2.out (by omega)
        subst hA
        obtain ⟨p, hp⟩ : ∃ p, ps[k] = p := ⟨_, rfl⟩
        have c0 := below_cell hbr (hps k hkr 0 (by omega))
        have c1 := below_cell hbr (hps k hkr 1 (by omega))
        have hst := HF.out.trans (awayG_step xs ps k hkr)
        have hpk := HPS.out _ (List.getElem_mem hkr)
        rw [hp] at c0 c1 hst hpk
        obtain ⟨s, t⟩ := p
        replace c0 : wr.cell? ⟨gp, op + k * 2, none⟩ = some (.string s) := c0
        replace c1 : wr.cell? ⟨gp, op + k * 2 + 1, none⟩ = some (.string t) := c1
        have hlz := hbr.size
        have hsz : s.size ≤ 1000 := hpk.1
        obtain ⟨KS, hKS⟩ : ∃ B, keyB s.data.toList = B := ⟨_, rfl⟩
        obtain ⟨F1, hF1⟩ : ∃ F, findL xs t = F := ⟨_, rfl⟩
        have hae : awayE xs (s, t) = if KS = true then awayK xs (s, t) F1 else 5 := by unfold awayE; rw [← hKS, ← hF1]
        have HFD := Lib.hid (findL_calls b A n c xs t (wr.alloc (.cells #[.string s, .string t] 83)) ((HR.out.rd.below hbr).below ((Below.refl _ _).alloc (Nat.le_refl _) _)))
        rw [hF1] at HFD
        have hfb := findL_bd xs t
        rw [hF1] at hfb
        have hbr1 : Below w.heap.size w (wr.alloc (.cells #[.string s, .string t] 83)) := hbr.alloc hlz _
        have B0 : Blk (wr.alloc (.cells #[.string s, .string t] 83)) wr.heap.size 83 #[.string s, .string t] := Blk.new wr _ _
        have HKC : Hid (∀ W, Calls Try.prog 77 #[.string s] W (fun e w' => e = .returned (.bool KS) ∧ W = w')) := by
          intro W
          have := key_calls s W (by unfold maxLen; omega)
          rw [hKS] at this
          exact this
        have HST := Lib.hid hst
        have HAE := Lib.hid hae
        clear hps hst hp hKS hF1 hae hpk
        go_wp2_with fail
        refine HFD.out.mono ?_
        rintro e w2 ⟨rfl, hb2⟩
        have hb3 := below_call hbr1 hb2 (Nat.le_refl _)
        have B2 := B0.below hb2
        have b0 := B2.cell 0
        have b1 := B2.cell 1
        have hz2 := hb3.size
        clear B0 hbr1 hb2 HFD
        cases KS
        · have h5 := HAE.out.trans (if_neg (by simp))
          have HS := Lib.hid (HST.out.trans ((if_neg (by rw [h5]; decide)).trans h5))
          clear h5
          go_wp2_with fail
          refine (HKC.out _).mono ?_
          rintro e w4 ⟨rfl, rfl⟩
          go_wp2_with fail
          go_ret
          exact ⟨ret_int HS.out.symm, hb3⟩
        have HAE2 := Lib.hid (HAE.out.trans (if_pos rfl))
        clear HAE
        by_cases hneg : F1 < 0
        · have h8 : awayE xs (s, t) = 8 := HAE2.out.trans (by unfold awayK; rw [if_pos hneg])
          have HS := Lib.hid (HST.out.trans ((if_neg (by rw [h8]; decide)).trans h8))
          clear h8
          go_wp2_with fail
          refine (HKC.out _).mono ?_
          rintro e w4 ⟨rfl, rfl⟩
          go_wp2_with fail
          go_ret
          exact ⟨ret_int HS.out.symm, hb3⟩
        obtain ⟨q, rfl⟩ : ∃ q : Nat, F1 = q := ⟨F1.toNat, by omega⟩
        have hqr : q < xs.length := by omega
        have hqn : q < n := by rw [← HL.out]; exact hqr
        obtain ⟨g, o, hA, _, hcs⟩ := HC.out (by omega)
        subst hA
        obtain ⟨x, hx⟩ : ∃ x, xs[q] = x := ⟨_, rfl⟩
        have hak := HAE2.out.trans (awayK_at xs (s, t) q hqr)
        have hok := (HR.out.ok _ (List.getElem_mem hqr)).below hb3
        have d0 := below_cell hb3 (hcs q hqr 0 (by omega))
        have d1 := below_cell hb3 (hcs q hqr 1 (by omega))
        have d2 := below_cell hb3 (hcs q hqr 2 (by omega))
        have d3 := below_cell hb3 (hcs q hqr 3 (by omega))
        have d4 := below_cell hb3 (hcs q hqr 4 (by omega))
        rw [hx] at d0 d1 d2 d3 d4 hak hok
        replace d0 : w2.cell? ⟨g, o + q * 5, none⟩ = some (.string x.key) := d0
        replace d1 : w2.cell? ⟨g, o + q * 5 + 1, none⟩ = some (.string x.who) := d1
        replace d2 : w2.cell? ⟨g, o + q * 5 + 2, none⟩ = some (.slice x.ha x.hosts.length x.hc) := d2
        replace d3 : w2.cell? ⟨g, o + q * 5 + 3, none⟩ = some (.int .i64 x.setup) := d3
        replace d4 : w2.cell? ⟨g, o + q * 5 + 4, none⟩ = some (.int .i64 x.long) := d4
        have hbw : b < w2.heap.size := by omega
        obtain ⟨L, hL⟩ : ∃ L, needL x = L := ⟨_, rfl⟩
        have hml : memS (needL x) s = memS L s := by rw [← hL]
        obtain ⟨M, hM⟩ : ∃ M, memS L s = M := ⟨_, rfl⟩
        have hak2 : awayE xs (s, t) = if M = true then 13 else 0 := by rw [hak, hml, hM]
        have HND : Hid (∀ W, Below w2.heap.size w2 W → Calls Try.prog 103 #[.agg #[.string x.key, .string x.who, .slice x.ha x.hosts.length x.hc, .int .i64 x.setup, .int .i64 x.long]] W (StrsS L W)) := fun W hW => by
          have := needed_calls b x W (hok.below hW)
          rw [← hL]
          exact this
        have HCT : Hid (∀ W A3 c3, Rd W b 1 (.slice A3 L.length c3) L.length (strsV L) → Calls Try.prog 79 #[.slice A3 L.length c3, .string s] W (QRet (.bool M) W)) := fun W A3 c3 h => by
          have := containsS_calls b A3 L.length c3 L s W h
          rw [hM] at this
          exact this
        have HS5 : Hid (∀ W, Below w2.heap.size w2 W → W.cell? ⟨g, o + q * 5, none⟩ = some (.string x.key) ∧ W.cell? ⟨g, o + q * 5 + 1, none⟩ = some (.string x.who) ∧ W.cell? ⟨g, o + q * 5 + 2, none⟩ = some (.slice x.ha x.hosts.length x.hc) ∧ W.cell? ⟨g, o + q * 5 + 3, none⟩ = some (.int .i64 x.setup) ∧ W.cell? ⟨g, o + q * 5 + 4, none⟩ = some (.int .i64 x.long) ∧ W.cell? ⟨wr.heap.size, 0, none⟩ = some (.string s)) := fun W hW =>
          ⟨below_cell hW d0, below_cell hW d1, below_cell hW d2, below_cell hW d3, below_cell hW d4, (B2.below hW).cell 0⟩
        have hdr : Below w2.heap.size w2 w2.drew := below_drewN (Below.refl _ _) 1
        have hq0 : (0 : Int) ≤ (q : Int) := by omega
        have hqi : (q : Int) < (n : Int) := by omega
        have HAK := Lib.hid hak2
        clear hcs hx hak hok hL hml hM hak2 HAE2 B2
        go_wp2_with fail
        refine (HKC.out _).mono ?_
        rintro e w4 ⟨rfl, rfl⟩
        go_wp2_with fail
        go_region_held3 (fun W => W.cell? ⟨g, o + q * 5, none⟩ = some (.string x.key) ∧ W.cell? ⟨g, o + q * 5 + 1, none⟩ = some (.string x.who) ∧ W.cell? ⟨g, o + q * 5 + 2, none⟩ = some (.slice x.ha x.hosts.length x.hc) ∧ W.cell? ⟨g, o + q * 5 + 3, none⟩ = some (.int .i64 x.setup) ∧ W.cell? ⟨g, o + q * 5 + 4, none⟩ = some (.int .i64 x.long) ∧ W.cell? ⟨wr.heap.size, 0, none⟩ = some (.string s))
          (first | exact HS5.out _ hdr | exact HS5.out _ (below_drewN hb7 _) | exact HS5.out _ hb7)
          (first
            | (go_at_call 103; ((with_reducible refine (HND.out _ hdr).mono ?_); rintro e w5 ⟨v5, rfl, hown5, hb5⟩; have hb7 := below_call hdr hb5 (Nat.le_refl _); have hrd5 := Rd.own hown5 hbw; obtain ⟨A5, c5, hv5⟩ := own_form hown5; subst hv5))
            | (go_at_call 79; ((with_reducible refine (HCT.out _ _ _ hrd5).mono ?_); rintro e w6 ⟨rfl, nq6, rfl⟩)))
        all_goals
          have hb8 := below_drewN (below_call hb3 hb7 (Nat.le_refl _)) nq6
          clear b0 b1 d0 d1 d2 d3 d4
          cases M
          · have HS := Lib.hid (HST.out.trans (if_pos (HAK.out.trans (if_neg (by simp)))))
            go_wp2_with fail
            go_roundw
            case rel => exact ⟨k + 1, by omega, by go_num, HS, hb8⟩
            case measure => simp [intOf]; omega
          · have h13 := HAK.out.trans (if_pos rfl)
            have HS := Lib.hid (HST.out.trans ((if_neg (by rw [h13]; decide)).trans h13))
            clear h13
            go_wp2_with fail
            go_ret
            exact ⟨ret_int HS.out.symm, hb8⟩
      · obtain rfl : k = m := by omega
        have HS := Lib.hid (HF.out.trans (by rw [List.drop_of_length_le (by rw [HL2.out]; exact Nat.le_refl _)]; rfl : _ = (0 : Int)))
        go_wp2_with fail
        go_ret
        exact ⟨ret_int HS.out.symm, hbr⟩
  · have HF := Lib.hid (hF.trans (if_neg hz))
    have hz' : (E != 0) = true := by rw [bne_iff_ne]; exact hz
    clear hF
    go_enter Try.func45, Try.ntmps45
    go_wp2_with fail
    refine HCS.out.mono ?_
    rintro e w1 ⟨rfl, hb1⟩
    go_wp2_with fail
    go_ret
    exact ⟨ret_int HF.out.symm, hb1⟩

set_option maxRecDepth 100000 in
set_option maxHeartbeats 1000000 in
theorem awayFault_calls (b : Nat) (A A2 : Option Addr) (n c m c2 : Nat) (xs : List Slt) (ps : List Pr) (w : World) (hr : Slts w b A n c xs) (hn : n ≤ 1000) (hr2 : Rd w b 2 (.slice A2 m c2) m (ps.flatMap prC)) (hps : ∀ p ∈ ps, PrOk p) (hb : b < w.heap.size) :
    Calls Try.prog 46 #[.slice A n c, .slice A2 m c2] w (BRet (.int .i64 (awayF xs ps)) w) := by
  obtain ⟨hl, hnc, hcm, hcells⟩ := hr.rd.cells sltC_len (by omega)
  obtain ⟨hl2, hnc2, hcm2, hcells2⟩ := hr2.cells prC_len (by omega)
  unfold maxLen at hcm hcm2
  obtain ⟨E, hE⟩ : ∃ E, slotsF xs = E := ⟨_, rfl⟩
  have hF : awayF xs ps = if E = 0 then if 200 < m then 2 else awayG xs ps else E := by unfold awayF; rw [hE, hl2]
  have HCS := Lib.hid (slotsFaultQ_calls b A n c xs w hr hb)
  rw [hE] at HCS
  have HL := Lib.hid hl
  have HL2 := Lib.hid hl2
  have HC := Lib.hid hcells
  have HC2 := Lib.hid hcells2
  have HR := Lib.hid hr
  have HR2 := Lib.hid hr2
  have HPS := Lib.hid hps
  clear hcells hl hr hcells2 hl2 hr2 hE hps
  by_cases hz : E = 0
  · rw [if_pos hz] at hF
    subst hz
    by_cases hbig : 200 < m
    · have HF := Lib.hid (hF.trans (if_pos hbig))
      clear hF
      go_enter Try.func46, Try.ntmps46
      go_wp2_with fail
      refine HCS.out.mono ?_
      rintro e w1 ⟨rfl, hb1⟩
      go_wp2_with fail
      go_ret
      exact ⟨ret_int HF.out.symm, hb1⟩
    rw [if_neg hbig] at hF
    have HF : Hid (awayF xs ps = awayG xs (ps.drop 0)) := hF
    clear hF
    go_enter Try.func46, Try.ntmps46
    go_wp2_with fail
    refine HCS.out.mono ?_
    rintro e w1 ⟨rfl, hb1⟩
    go_wp2_with fail
    go_loopw [19] (fun i wr => ∃ k : Nat, k ≤ m ∧ i = .int .i64 k ∧ Hid (awayF xs ps = awayG xs (ps.drop k)) ∧ Below w.heap.size w wr) (fun i _ => m - (intOf i).toNat)
    case atStart => exact ⟨0, Nat.zero_le _, rfl, HF, hb1⟩
    case round =>
      clear HF
      obtain ⟨k, hk, rfl, HF, hbr⟩ := hrel
      by_cases hlt : k < m
      · have hkr : k < ps.length := by rw [HL2.out]; exact hlt
        obtain ⟨gp, op, hA, _, hps⟩ := HC2.out (by omega)
        subst hA
        obtain ⟨p, hp⟩ : ∃ p, ps[k] = p := ⟨_, rfl⟩
        have c0 := below_cell hbr (hps k hkr 0 (by omega))
        have c1 := below_cell hbr (hps k hkr 1 (by omega))
        have hst := HF.out.trans (awayG_step xs ps k hkr)
        have hpk := HPS.out _ (List.getElem_mem hkr)
        rw [hp] at c0 c1 hst hpk
        obtain ⟨s, t⟩ := p
        replace c0 : wr.cell? ⟨gp, op + k * 2, none⟩ = some (.string s) := c0
        replace c1 : wr.cell? ⟨gp, op + k * 2 + 1, none⟩ = some (.string t) := c1
        have hlz := hbr.size
        have hsz : s.size ≤ 1000 := hpk.1
        obtain ⟨KS, hKS⟩ : ∃ B, keyB s.data.toList = B := ⟨_, rfl⟩
        obtain ⟨F1, hF1⟩ : ∃ F, findL xs t = F := ⟨_, rfl⟩
        have hae : awayE xs (s, t) = if KS = true then awayK xs (s, t) F1 else 5 := by unfold awayE; rw [← hKS, ← hF1]
        have HFD := Lib.hid (findLQ_calls b A n c xs t (wr.alloc (.cells #[.string s, .string t] 83)) ((HR.out.rd.below hbr).below ((Below.refl _ _).alloc (Nat.le_refl _) _)))
        rw [hF1] at HFD
        have hfb := findL_bd xs t
        rw [hF1] at hfb
        have hbr1 : Below w.heap.size w (wr.alloc (.cells #[.string s, .string t] 83)) := hbr.alloc hlz _
        have B0 : Blk (wr.alloc (.cells #[.string s, .string t] 83)) wr.heap.size 83 #[.string s, .string t] := Blk.new wr _ _
        have HKC : Hid (∀ W, Calls Try.prog 78 #[.string s] W (fun e w' => e = .returned (.bool KS) ∧ W = w')) := by
          intro W
          have := keyQ_calls s W (by unfold maxLen; omega)
          rw [hKS] at this
          exact this
        have HST := Lib.hid hst
        have HAE := Lib.hid hae
        clear hps hst hp hKS hF1 hae hpk
        go_wp2_with fail
        refine HFD.out.mono ?_
        rintro e w2 ⟨rfl, hb2⟩
        have hb3 := below_call hbr1 hb2 (Nat.le_refl _)
        have B2 := B0.below hb2
        have b0 := B2.cell 0
        have b1 := B2.cell 1
        have hz2 := hb3.size
        clear B0 hbr1 hb2 HFD
        cases KS
        · have h5 := HAE.out.trans (if_neg (by simp))
          have HS := Lib.hid (HST.out.trans ((if_neg (by rw [h5]; decide)).trans h5))
          clear h5
          go_wp2_with fail
          refine (HKC.out _).mono ?_
          rintro e w4 ⟨rfl, rfl⟩
          go_wp2_with fail
          go_ret
          exact ⟨ret_int HS.out.symm, hb3⟩
        have HAE2 := Lib.hid (HAE.out.trans (if_pos rfl))
        clear HAE
        by_cases hneg : F1 < 0
        · have h8 : awayE xs (s, t) = 8 := HAE2.out.trans (by unfold awayK; rw [if_pos hneg])
          have HS := Lib.hid (HST.out.trans ((if_neg (by rw [h8]; decide)).trans h8))
          clear h8
          go_wp2_with fail
          refine (HKC.out _).mono ?_
          rintro e w4 ⟨rfl, rfl⟩
          go_wp2_with fail
          go_ret
          exact ⟨ret_int HS.out.symm, hb3⟩
        obtain ⟨q, rfl⟩ : ∃ q : Nat, F1 = q := ⟨F1.toNat, by omega⟩
        have hqr : q < xs.length := by omega
        have hqn : q < n := by rw [← HL.out]; exact hqr
        obtain ⟨g, o, hA, _, hcs⟩ := HC.out (by omega)
        subst hA
        obtain ⟨x, hx⟩ : ∃ x, xs[q] = x := ⟨_, rfl⟩
        have hak := HAE2.out.trans (awayK_at xs (s, t) q hqr)
        have hok := (HR.out.ok _ (List.getElem_mem hqr)).below hb3
        have d0 := below_cell hb3 (hcs q hqr 0 (by omega))
        have d1 := below_cell hb3 (hcs q hqr 1 (by omega))
        have d2 := below_cell hb3 (hcs q hqr 2 (by omega))
        have d3 := below_cell hb3 (hcs q hqr 3 (by omega))
        have d4 := below_cell hb3 (hcs q hqr 4 (by omega))
        rw [hx] at d0 d1 d2 d3 d4 hak hok
        replace d0 : w2.cell? ⟨g, o + q * 5, none⟩ = some (.string x.key) := d0
        replace d1 : w2.cell? ⟨g, o + q * 5 + 1, none⟩ = some (.string x.who) := d1
        replace d2 : w2.cell? ⟨g, o + q * 5 + 2, none⟩ = some (.slice x.ha x.hosts.length x.hc) := d2
        replace d3 : w2.cell? ⟨g, o + q * 5 + 3, none⟩ = some (.int .i64 x.setup) := d3
        replace d4 : w2.cell? ⟨g, o + q * 5 + 4, none⟩ = some (.int .i64 x.long) := d4
        have hbw : b < w2.heap.size := by omega
        obtain ⟨L, hL⟩ : ∃ L, peopL x = L := ⟨_, rfl⟩
        have hml : memS (needL x) s = memS L s := by rw [← hL]; rw [peop_need]
        obtain ⟨M, hM⟩ : ∃ M, memS L s = M := ⟨_, rfl⟩
        have hak2 : awayE xs (s, t) = if M = true then 13 else 0 := by rw [hak, hml, hM]
        have HND : Hid (∀ W, Below w2.heap.size w2 W → Calls Try.prog 99 #[.agg #[.string x.key, .string x.who, .slice x.ha x.hosts.length x.hc, .int .i64 x.setup, .int .i64 x.long]] W (StrsS L W)) := fun W hW => by
          have := people_calls b x W (hok.below hW) (by have := hW.size; omega)
          rw [← hL]
          exact this
        have HCT : Hid (∀ W A3 c3, Rd W b 1 (.slice A3 L.length c3) L.length (strsV L) → Calls Try.prog 79 #[.slice A3 L.length c3, .string s] W (QRet (.bool M) W)) := fun W A3 c3 h => by
          have := containsS_calls b A3 L.length c3 L s W h
          rw [hM] at this
          exact this
        have HS5 : Hid (∀ W, Below w2.heap.size w2 W → W.cell? ⟨g, o + q * 5, none⟩ = some (.string x.key) ∧ W.cell? ⟨g, o + q * 5 + 1, none⟩ = some (.string x.who) ∧ W.cell? ⟨g, o + q * 5 + 2, none⟩ = some (.slice x.ha x.hosts.length x.hc) ∧ W.cell? ⟨g, o + q * 5 + 3, none⟩ = some (.int .i64 x.setup) ∧ W.cell? ⟨g, o + q * 5 + 4, none⟩ = some (.int .i64 x.long) ∧ W.cell? ⟨wr.heap.size, 0, none⟩ = some (.string s)) := fun W hW =>
          ⟨below_cell hW d0, below_cell hW d1, below_cell hW d2, below_cell hW d3, below_cell hW d4, (B2.below hW).cell 0⟩
        have hdr : Below w2.heap.size w2 w2.drew := below_drewN (Below.refl _ _) 1
        have hq0 : (0 : Int) ≤ (q : Int) := by omega
        have hqi : (q : Int) < (n : Int) := by omega
        have HAK := Lib.hid hak2
        clear hcs hx hak hok hL hml hM hak2 HAE2 B2
        go_wp2_with fail
        refine (HKC.out _).mono ?_
        rintro e w4 ⟨rfl, rfl⟩
        go_wp2_with fail
        go_region_held3 (fun W => W.cell? ⟨g, o + q * 5, none⟩ = some (.string x.key) ∧ W.cell? ⟨g, o + q * 5 + 1, none⟩ = some (.string x.who) ∧ W.cell? ⟨g, o + q * 5 + 2, none⟩ = some (.slice x.ha x.hosts.length x.hc) ∧ W.cell? ⟨g, o + q * 5 + 3, none⟩ = some (.int .i64 x.setup) ∧ W.cell? ⟨g, o + q * 5 + 4, none⟩ = some (.int .i64 x.long) ∧ W.cell? ⟨wr.heap.size, 0, none⟩ = some (.string s))
          (first | exact HS5.out _ hdr | exact HS5.out _ (below_drewN hb7 _) | exact HS5.out _ hb7)
          (first
            | (go_at_call 99; ((with_reducible refine (HND.out _ hdr).mono ?_); rintro e w5 ⟨v5, rfl, hown5, hb5⟩; have hb7 := below_call hdr hb5 (Nat.le_refl _); have hrd5 := Rd.own hown5 hbw; obtain ⟨A5, c5, hv5⟩ := own_form hown5; subst hv5))
            | (go_at_call 79; ((with_reducible refine (HCT.out _ _ _ hrd5).mono ?_); rintro e w6 ⟨rfl, nq6, rfl⟩)))
        all_goals
          have hb8 := below_drewN (below_call hb3 hb7 (Nat.le_refl _)) nq6
          clear b0 b1 d0 d1 d2 d3 d4
          cases M
          · have HS := Lib.hid (HST.out.trans (if_pos (HAK.out.trans (if_neg (by simp)))))
            go_wp2_with fail
            go_roundw
            case rel => exact ⟨k + 1, by omega, by go_num, HS, hb8⟩
            case measure => simp [intOf]; omega
          · have h13 := HAK.out.trans (if_pos rfl)
            have HS := Lib.hid (HST.out.trans ((if_neg (by rw [h13]; decide)).trans h13))
            clear h13
            go_wp2_with fail
            go_ret
            exact ⟨ret_int HS.out.symm, hb8⟩
      · obtain rfl : k = m := by omega
        have HS := Lib.hid (HF.out.trans (by rw [List.drop_of_length_le (by rw [HL2.out]; exact Nat.le_refl _)]; rfl : _ = (0 : Int)))
        go_wp2_with fail
        go_ret
        exact ⟨ret_int HS.out.symm, hbr⟩
  · have HF := Lib.hid (hF.trans (if_neg hz))
    have hz' : (E != 0) = true := by rw [bne_iff_ne]; exact hz
    clear hF
    go_enter Try.func46, Try.ntmps46
    go_wp2_with fail
    refine HCS.out.mono ?_
    rintro e w1 ⟨rfl, hb1⟩
    go_wp2_with fail
    go_ret
    exact ⟨ret_int HF.out.symm, hb1⟩
end Go.Proofs.Ytlfhommeomchoaa
