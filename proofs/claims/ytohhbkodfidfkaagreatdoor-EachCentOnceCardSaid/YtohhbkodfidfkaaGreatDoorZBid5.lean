/-
  GiftsFault's closure of the reference by a contract. (Printed by gen_bid5.py.)
-/
import Derived.Test.YtohhbkodfidfkaaGreatDoorZBid4
import Derived.Test.YtohhbkodfidfkaaGreatDoorZBase
namespace Go.Proofs.YtohhbkodfidfkaaGreatDoor
open Go Go.RowKit

theorem memS_nil (o : ByteArray) : memS [⟨#[]⟩] o = o.toList.isEmpty := by
  unfold memS
  simp [eqS_nil]
set_option maxRecDepth 100000 in
set_option maxHeartbeats 1000000 in
theorem namedQ_calls (b g : Nat) (A2 : Option Addr) (n c2 : Nat) (bs : List Bd) (x : Gf) (w : World) (hg : Blk w g 54 #[.slice A2 n c2]) (hr : Bds w b A2 n c2 bs) (hbw : b < w.heap.size) :
    Calls Tryz.prog 62 #[.agg #[.string x.id, .int .i64 x.at_, .int .i64 x.cents, .string x.bid, .string x.option], .pointer (some ⟨g, 0, none⟩)] w (BRet (.int .i64 (namedF bs x)) w) := by
  have hgl := hg.lt
  have hno := namedF_no (bs := bs) (x := x)
  have hnn := namedF_none (bs := bs) (x := x)
  have hat := fun h q hk hq => namedF_at (bs := bs) (x := x) h (q := q) hk hq
  have hbd := bidAt_bd bs x.bid
  obtain ⟨hl, hnc, hcm, hcells⟩ := hr.rd.cells bdC_len (by omega)
  unfold maxLen at hcm
  obtain ⟨xi, xa, xc, xb, xo⟩ := x
  have hS := ((Sq.start w).add #[.string xi, .int .i64 xa, .int .i64 xc, .string xb, .string xo] 61).add #[.string ⟨#[]⟩] 9
  rw [World.size_alloc] at hS
  obtain ⟨W2, hW2⟩ : ∃ W2, W2 = ((w.alloc (.cells #[.string xi, .int .i64 xa, .int .i64 xc, .string xb, .string xo] 61)).alloc (.cells #[.string ⟨#[]⟩] 9)) := ⟨_, rfl⟩
  rw [← hW2] at hS
  have HW2 := Lib.hid hW2
  have HG := Lib.hid (hg.below hS.below)
  simp only at hno hnn hat hbd ⊢
  have hix := bidAt_calls b xb A2 n c2 bs W2 (hr.rd.below hS.below)
  obtain ⟨N, hN⟩ : ∃ N, namedF bs ⟨xi, xa, xc, xb, xo⟩ = N := ⟨_, rfl⟩
  rw [hN] at hno hnn
  simp only [hN] at hat
  rw [hN]
  obtain ⟨K, hK⟩ : ∃ K, bidAt bs xb = K := ⟨_, rfl⟩
  rw [hK] at hnn hbd hix
  simp only [hK] at hat
  have HIX := Lib.hid hix
  have HR := Lib.hid hr
  have HL := Lib.hid hl
  have HC := Lib.hid hcells
  have HLIT : Hid (∀ W, Sq w W [rBlk (w.heap.size + 1) 9 #[.string ⟨#[]⟩], rBlk w.heap.size 61 #[.string xi, .int .i64 xa, .int .i64 xc, .string xb, .string xo]] → Calls Tryz.prog 10 #[.slice (some ⟨w.heap.size + 1, 0, none⟩) 1 1, .string xo] W (QRet (.bool xo.toList.isEmpty) W)) := fun W h => by
    have := containsS_calls b (some ⟨w.heap.size + 1, 0, none⟩) 1 1 [⟨#[]⟩] xo W (blkRd 1 1 (h.nth 0 rfl) (by omega) (by decide) rfl)
    rw [memS_nil] at this
    exact this
  have HCELL : Hid (∀ W, Sq w W [rBlk (w.heap.size + 1) 9 #[.string ⟨#[]⟩], rBlk w.heap.size 61 #[.string xi, .int .i64 xa, .int .i64 xc, .string xb, .string xo]] → W.cell? ⟨w.heap.size, 3, none⟩ = some (.string xb) ∧ W.cell? ⟨w.heap.size, 4, none⟩ = some (.string xo)) := fun W h => by
    have h2 : Blk W w.heap.size 61 #[.string xi, .int .i64 xa, .int .i64 xc, .string xb, .string xo] := h.nth 1 rfl
    exact ⟨h2.cell 3, h2.cell 4⟩
  have HS := Lib.hid hS
  clear hN hK hix hr hl hcells hg hW2 hS
  cases he : xb.toList.isEmpty
  · have HNN := Lib.hid (hnn he)
    have HAT := Lib.hid (fun q hk hq => hat he q hk hq)
    clear hno hnn hat
    by_cases hk : K < 0
    · have HSS := Lib.hid (HNN.out hk)
      clear HNN HAT
      go_enter Tryz.func62, Tryz.ntmps62
      go_upto_region 2 with (fail)
      rw [← HW2.out]
      obtain ⟨x3, x4⟩ := HCELL.out _ HS.out
      have g0 := HG.out.cell 0
      go_wp2_with fail
      refine HIX.out.mono ?_
      rintro e w1 ⟨rfl, hb1⟩
      go_wp2_with fail
      go_ret
      exact ⟨ret_int HSS.out.symm, below_call HS.out.below hb1 (Nat.le_refl _)⟩
    · obtain ⟨q, rfl⟩ := Int.eq_ofNat_of_zero_le (show 0 ≤ K by omega)
      have hq : q < bs.length := by omega
      have hN := HAT.out q rfl hq
      have hq0 : (0 : Int) ≤ (q : Int) := by omega
      have hqn : (q : Int) < (n : Int) := by rw [← HL.out]; exact hbd.2
      obtain ⟨g2, o, hA, _, hcs⟩ := HC.out (by omega)
      subst hA
      have c3 := hcs q hq 3 (by omega)
      have hok := HR.out.ok _ (List.getElem_mem hq)
      obtain ⟨y, hy⟩ : ∃ y, bs[q] = y := ⟨_, rfl⟩
      rw [hy] at hN c3 hok
      obtain ⟨yk, yb, yg, ya, yc, yo⟩ := y
      have hrd := hok.rd
      obtain ⟨m, hm⟩ : ∃ m, yo.length = m := ⟨_, rfl⟩
      replace c3 : w.cell? ⟨g2, o + q * 4 + 3, none⟩ = some (.slice ya m yc) := by rw [← hm]; exact c3
      have hrd : Rd w b 1 (.slice ya m yc) m (strsV yo) := by rw [← hm]; exact hrd
      have C3 := Lib.hid c3
      have HRD := Lib.hid hrd
      have hN : N = optE yo xo := hN
      clear HNN HAT hcs hy hok c3 hrd hk
      by_cases hm0 : m = 0
      · subst hm0
        have hyo : yo = [] := List.eq_nil_of_length_eq_zero hm
        rw [hyo, optE_nil] at hN
        clear hyo hm
        cases ho : xo.toList.isEmpty
        · have HSS := Lib.hid (hN.trans (if_neg (by rw [ho]; decide)))
          clear hN
          go_enter Tryz.func62, Tryz.ntmps62
          go_upto_region 2 with (fail)
          rw [← HW2.out]
          obtain ⟨x3, x4⟩ := HCELL.out _ HS.out
          have g0 := HG.out.cell 0
          go_wp2_with fail
          refine HIX.out.mono ?_
          rintro e w1 ⟨rfl, hb1⟩
          have hS1 := HS.out.callB hb1
          have hbb := hS1.below
          have c3 := below_cell hbb C3.out
          have g0 := (HG.out.below hb1).cell 0
          obtain ⟨x3, x4⟩ := HCELL.out _ hS1
          have HCT := Lib.hid (HLIT.out w1 hS1)
          rw [ho] at HCT
          go_wp2_with fail
          refine HCT.out.mono ?_
          rintro e w2 ⟨rfl, nq, rfl⟩
          go_wp2_with fail
          go_ret
          exact ⟨ret_int HSS.out.symm, below_drewN hbb nq⟩
        · have HSS := Lib.hid (hN.trans (if_pos (by rw [ho])))
          clear hN
          go_enter Tryz.func62, Tryz.ntmps62
          go_upto_region 2 with (fail)
          rw [← HW2.out]
          obtain ⟨x3, x4⟩ := HCELL.out _ HS.out
          have g0 := HG.out.cell 0
          go_wp2_with fail
          refine HIX.out.mono ?_
          rintro e w1 ⟨rfl, hb1⟩
          have hS1 := HS.out.callB hb1
          have hbb := hS1.below
          have c3 := below_cell hbb C3.out
          have g0 := (HG.out.below hb1).cell 0
          obtain ⟨x3, x4⟩ := HCELL.out _ hS1
          have HCT := Lib.hid (HLIT.out w1 hS1)
          rw [ho] at HCT
          go_wp2_with fail
          refine HCT.out.mono ?_
          rintro e w2 ⟨rfl, nq, rfl⟩
          go_wp2_with fail
          go_ret
          exact ⟨ret_int HSS.out.symm, below_drewN hbb nq⟩
      · rw [optE_len (by rw [hm]; exact hm0)] at hN
        have hmp : 0 < m := by omega
        obtain ⟨M, hM⟩ : ∃ M, memS yo xo = M := ⟨_, rfl⟩
        rw [hM] at hN
        have HM := Lib.hid hM
        clear hM hm hm0
        cases M
        · have HSS := Lib.hid (hN.trans (if_neg (by decide)))
          clear hN
          go_enter Tryz.func62, Tryz.ntmps62
          go_upto_region 2 with (fail)
          rw [← HW2.out]
          obtain ⟨x3, x4⟩ := HCELL.out _ HS.out
          have g0 := HG.out.cell 0
          go_wp2_with fail
          refine HIX.out.mono ?_
          rintro e w1 ⟨rfl, hb1⟩
          have hS1 := HS.out.callB hb1
          have hbb := hS1.below
          have c3 := below_cell hbb C3.out
          have g0 := (HG.out.below hb1).cell 0
          obtain ⟨x3, x4⟩ := HCELL.out _ hS1
          have HCT := Lib.hid (containsS_calls b ya m yc yo xo w1 (HRD.out.below hbb))
          rw [HM.out] at HCT
          go_wp2_with fail
          refine HCT.out.mono ?_
          rintro e w2 ⟨rfl, nq, rfl⟩
          go_wp2_with fail
          go_ret
          exact ⟨ret_int HSS.out.symm, below_drewN hbb nq⟩
        · have HSS := Lib.hid (hN.trans (if_pos rfl))
          clear hN
          go_enter Tryz.func62, Tryz.ntmps62
          go_upto_region 2 with (fail)
          rw [← HW2.out]
          obtain ⟨x3, x4⟩ := HCELL.out _ HS.out
          have g0 := HG.out.cell 0
          go_wp2_with fail
          refine HIX.out.mono ?_
          rintro e w1 ⟨rfl, hb1⟩
          have hS1 := HS.out.callB hb1
          have hbb := hS1.below
          have c3 := below_cell hbb C3.out
          have g0 := (HG.out.below hb1).cell 0
          obtain ⟨x3, x4⟩ := HCELL.out _ hS1
          have HCT := Lib.hid (containsS_calls b ya m yc yo xo w1 (HRD.out.below hbb))
          rw [HM.out] at HCT
          go_wp2_with fail
          refine HCT.out.mono ?_
          rintro e w2 ⟨rfl, nq, rfl⟩
          go_wp2_with fail
          go_ret
          exact ⟨ret_int HSS.out.symm, below_drewN hbb nq⟩
  · have hN := hno he
    rw [optE_nil] at hN
    clear hno hnn hat HIX hbd
    have HCT := Lib.hid (HLIT.out W2 HS.out)
    have hbb := HS.out.below
    cases ho : xo.toList.isEmpty
    · have HSS := Lib.hid (hN.trans (if_neg (by rw [ho]; decide)))
      rw [ho] at HCT
      clear hN
      go_enter Tryz.func62, Tryz.ntmps62
      go_upto_region 2 with (fail)
      rw [← HW2.out]
      obtain ⟨x3, x4⟩ := HCELL.out _ HS.out
      have g0 := HG.out.cell 0
      go_wp2_with fail
      refine HCT.out.mono ?_
      rintro e w2 ⟨rfl, nq, rfl⟩
      go_wp2_with fail
      go_ret
      exact ⟨ret_int HSS.out.symm, below_drewN hbb nq⟩
    · have HSS := Lib.hid (hN.trans (if_pos (by rw [ho])))
      rw [ho] at HCT
      clear hN
      go_enter Tryz.func62, Tryz.ntmps62
      go_upto_region 2 with (fail)
      rw [← HW2.out]
      obtain ⟨x3, x4⟩ := HCELL.out _ HS.out
      have g0 := HG.out.cell 0
      go_wp2_with fail
      refine HCT.out.mono ?_
      rintro e w2 ⟨rfl, nq, rfl⟩
      go_wp2_with fail
      go_ret
      exact ⟨ret_int HSS.out.symm, below_drewN hbb nq⟩
end Go.Proofs.YtohhbkodfidfkaaGreatDoor
