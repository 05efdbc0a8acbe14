/-
  The reference's TotalOf, WonBy by contracts. (Printed by gen_bid11.py.)
-/
import Derived.Test.YtohhbkodfidfkaaGreatZBid10
import Derived.Test.YtohhbkodfidfkaaGreatZBid1
import Derived.Deep.RegionHeld3
import Derived.Deep.DeepCutAuto
namespace Go.Proofs.YtohhbkodfidfkaaGreat
open Go Go.RowKit
attribute [local go_sem ↓] Go.wp_at_zero Go.wp_at_succ

theorem totTo_bd {gs : List Gf} (hg : ∀ x ∈ gs, GfOk x) (at_ : Int) : ∀ k : Nat, -2199023255552 * (k : Int) ≤ totTo gs at_ k ∧ totTo gs at_ k ≤ 2199023255552 * (k : Int)
  | 0 => by simp [totTo]
  | k + 1 => by
    have ih := totTo_bd hg at_ k
    by_cases hk : k < gs.length
    · have hx := (hg _ (List.getElem_mem hk)).hc
      rw [totTo_step gs at_ k hk]
      split <;> omega
    · rw [totTo, List.getElem?_eq_none (by omega)]
      simp only
      omega
theorem optTo_bd {gs : List Gf} (hg : ∀ x ∈ gs, GfOk x) (o : ByteArray) : ∀ k : Nat, (-2199023255552 * (k : Int) ≤ (optTo gs o k).1 ∧ (optTo gs o k).1 ≤ 2199023255552 * (k : Int)) ∧ -1 ≤ (optTo gs o k).2 ∧ (optTo gs o k).2 ≤ (k : Int)
  | 0 => by simp [optTo]
  | k + 1 => by
    have ih := optTo_bd hg o k
    by_cases hk : k < gs.length
    · have hx := (hg _ (List.getElem_mem hk)).hc
      rw [optTo_step gs o k hk]
      split
      · simp only; omega
      · omega
    · rw [optTo, List.getElem?_eq_none (by omega)]
      simp only
      omega
theorem ownG_ok {key : ByteArray} {at_ : Int} {gs : List Gf} (h : ∀ x ∈ gs, GfOk x) : ∀ x ∈ ownG key at_ gs, GfOk x := fun x hx => h x (List.mem_filter.1 hx).1
theorem ownG_len (key : ByteArray) (at_ : Int) (gs : List Gf) : (ownG key at_ gs).length ≤ gs.length := List.length_filter_le _ _
set_option maxRecDepth 100000 in
set_option maxHeartbeats 1000000 in
theorem totalOf_calls (b : Nat) (A : Option Addr) (n c : Nat) (gs : List Gf) (at_ : Int) (w : World) (hr : Rd w b 5 (.slice A n c) n (gs.flatMap gfC)) (hgs : ∀ x ∈ gs, GfOk x) (hn : n ≤ 100000) :
    Calls Tryz.prog 20 #[.slice A n c, .int .i64 at_] w (BRet (.int .i64 (totTo gs at_ gs.length)) w) := by
  obtain ⟨hl, hnc, hcm, hcells⟩ := hr.cells gfC_len (by omega)
  unfold maxLen at hcm
  have HL := Lib.hid hl
  have HC := Lib.hid hcells
  have HGS := Lib.hid hgs
  have H0 : Hid (totTo gs at_ 0 = 0) := rfl
  clear hcells hl hr hgs
  go_enter Tryz.func20, Tryz.ntmps20
  go_wp2_with fail
  go_loopw [5, 10] (fun s i wr => ∃ k : Nat, k ≤ n ∧ i = .int .i64 k ∧ s = .int .i64 (totTo gs at_ k) ∧ Below w.heap.size w wr) (fun _ i _ => n - (intOf i).toNat)
  case atStart => exact ⟨0, Nat.zero_le _, rfl, rfl, Below.refl _ _⟩
  case round =>
    clear H0
    obtain ⟨k, hk, rfl, rfl, hbr⟩ := hrel
    by_cases hlt : k < n
    · have hkr : k < gs.length := by rw [HL.out]; exact hlt
      obtain ⟨g, o, hA, _, hcs⟩ := HC.out (by omega)
      subst hA
      have hok := HGS.out _ (List.getElem_mem hkr)
      have hbd := totTo_bd HGS.out at_ k
      have hst := totTo_step gs at_ k hkr
      have c0 := below_cell hbr (hcs k hkr 0 (by omega))
      have c1 := below_cell hbr (hcs k hkr 1 (by omega))
      have c2 := below_cell hbr (hcs k hkr 2 (by omega))
      have c3 := below_cell hbr (hcs k hkr 3 (by omega))
      have c4 := below_cell hbr (hcs k hkr 4 (by omega))
      obtain ⟨x, hx⟩ : ∃ x, gs[k] = x := ⟨_, rfl⟩
      rw [hx] at c0 c1 c2 c3 c4 hok hst
      obtain ⟨xi, xa, xc, xb, xo⟩ := x
      have hxc : -2199023255552 ≤ xc ∧ xc ≤ 2199023255552 := hok.hc
      simp only at hst
      replace c0 : wr.cell? ⟨g, o + k * 5, none⟩ = some (.string xi) := c0
      replace c1 : wr.cell? ⟨g, o + k * 5 + 1, none⟩ = some (.int .i64 xa) := c1
      replace c2 : wr.cell? ⟨g, o + k * 5 + 2, none⟩ = some (.int .i64 xc) := c2
      replace c3 : wr.cell? ⟨g, o + k * 5 + 3, none⟩ = some (.string xb) := c3
      replace c4 : wr.cell? ⟨g, o + k * 5 + 4, none⟩ = some (.string xo) := c4
      have hba := hbr.alloc hbr.size (.cells #[.string xi, .int .i64 xa, .int .i64 xc, .string xb, .string xo] 39)
      obtain ⟨z, hz⟩ : ∃ z, totTo gs at_ k = z := ⟨_, rfl⟩
      rw [hz] at hst hbd ⊢
      have HST := Lib.hid hst
      obtain ⟨hb0, hb1⟩ := hbd
      obtain ⟨hx0, hx1⟩ := hxc
      have hsum : -9223372036854775808 ≤ z + xc ∧ z + xc ≤ 9223372036854775807 := by omega
      obtain ⟨hs0, hs1⟩ := hsum
      clear hcs hok hx hst hz
      by_cases hp : xa ≤ at_
      · have HSS := Lib.hid (HST.out.trans (if_pos hp))
        clear HST
        go_wp2_with fail
        go_roundw
        case rel => exact ⟨k + 1, by omega, by go_num, by rw [HSS.out], hba⟩
        case measure => simp [intOf]; omega
      · have HSS := Lib.hid (HST.out.trans (if_neg hp))
        clear HST
        go_wp2_with fail
        go_roundw
        case rel => exact ⟨k + 1, by omega, by go_num, by rw [HSS.out], hba⟩
        case measure => simp [intOf]; omega
    · obtain rfl : k = n := by omega
      have HLL := Lib.hid HL.out
      go_wp2_with fail
      go_ret
      exact ⟨ret_int (by rw [HLL.out]), hbr⟩

set_option maxRecDepth 100000 in
set_option maxHeartbeats 4000000 in
theorem wonBy_calls (b : Nat) (x : Bd) (A : Option Addr) (n c : Nat) (gs : List Gf) (at_ : Int) (w : World) (hx : BdOk w b x) (hr : Rd w b 5 (.slice A n c) n (gs.flatMap gfC)) (hgs : ∀ x ∈ gs, GfOk x) (hn : n ≤ 100000) (hbw : b < w.heap.size) :
    Calls Tryz.prog 27 #[.agg #[.string x.key, .string x.before, .int .i64 x.goal, .slice x.oa x.opts.length x.oc], .slice A n c, .int .i64 at_] w (BRet (.tuple #[.string (wonQ x gs at_).1, .int .i64 (wonQ x gs at_).2.1, .bool (wonQ x gs at_).2.2]) w) := by
  have hl := (hr.cells gfC_len (by omega)).1
  obtain ⟨key, bef, go, oa, oc, opts⟩ := x
  obtain ⟨h1, h2, h3, h4, h5, h6⟩ := hx
  simp only at h1 h2 h3 h4 h5 h6 ⊢
  obtain ⟨m, hm⟩ : ∃ m, opts.length = m := ⟨_, rfl⟩
  rw [hm] at h1 h5 ⊢
  obtain ⟨hol, honc, hocm, hoc⟩ := strs_cells h1
  unfold maxLen at hocm
  have hS := ((Sq.start w).add #[.string key, .string bef, .int .i64 go, .slice oa m oc] 53).add #[.int .i64 at_] 3
  rw [World.size_alloc] at hS
  obtain ⟨W0, hW0⟩ : ∃ W0, W0 = (w.alloc (.cells #[.string key, .string bef, .int .i64 go, .slice oa m oc] 53)).alloc (.cells #[.int .i64 at_] 3) := ⟨_, rfl⟩
  rw [← hW0] at hS
  have hlt0 : w.heap.size < W0.heap.size := Blk.lt (hS.nth 1 rfl)
  have HCLO := Lib.hid (cloneGf_calls b A n c _ W0 (hr.below hS.below) (gfC_one gs) hn)
  obtain ⟨G, hG⟩ : ∃ G, ownG key at_ gs = G := ⟨_, rfl⟩
  have hGl : G.length ≤ 100000 := by have := ownG_len key at_ gs; rw [hG] at this; omega
  have hGk : ∀ x ∈ G, GfOk x := by rw [← hG]; exact ownG_ok hgs
  have HDEL : Hid (∀ A' c' W, Sq W0 W [rOwn W0.heap.size 39 5 (.slice A' n c') n (gs.flatMap gfC)] → Calls Tryz.prog 24 #[.slice A' n c', .func (.func 63) #[] #[.pointer (some ⟨w.heap.size + 1, 0, none⟩), .pointer (some ⟨w.heap.size, 0, none⟩)]] W (DelG W0 b G)) := fun A' c' W h => by
    have := deleteGf_calls W0 b (w.heap.size + 1) w.heap.size at_ key bef go oa m oc A' n c' gs W h (hS.nth 0 rfl) (hS.nth 1 rfl) (by omega) hn (by have := h.size; omega)
    rw [hG] at this
    exact this
  have hWQ : wonQ ⟨key, bef, go, oa, oc, opts⟩ gs at_ = if opts = [] then (⟨#[]⟩, totTo G at_ G.length, decide (go ≤ totTo G at_ G.length)) else ((bestQ G opts opts.length).best, (bestQ G opts opts.length).most, decide (0 < (bestQ G opts opts.length).most)) := by
    subst hG
    rfl
  have HWQ := Lib.hid hWQ
  have HS := Lib.hid hS
  have HW0 := Lib.hid hW0
  have HOL := Lib.hid hol
  have HOC := Lib.hid hoc
  have HHS := Lib.hid h4
  have HGK := Lib.hid hGk
  have HLT := Lib.hid hlt0
  obtain ⟨go0, go1⟩ := h6
  clear hl hr hgs h1 h2 h3 h4 hm hol hoc hS hW0 hG hGk hWQ hlt0
  go_enter Tryz.func27, Tryz.ntmps27
  go_upto_region 1 with (fail)
  rw [← HW0.out]
  go_wp2_with fail
  refine HCLO.out.mono ?_
  rintro e w1 ⟨v, rfl, ho1, hb1⟩
  obtain ⟨A1, c1, hv⟩ := own_form ho1
  subst hv
  have hS1 : Sq W0 w1 [rOwn W0.heap.size 39 5 (.slice A1 n c1) n (gs.flatMap gfC)] := (Sq.start W0).ownB hb1 ho1
  clear ho1 hb1
  go_wp2_with fail
  refine (HDEL.out _ _ _ hS1).mono ?_
  rintro e w2 ⟨A2, mG, c2, rfl, hmG, hrG, hb2⟩
  obtain ⟨z0, z1, z2, z3⟩ := blk4 (Blk.below (show Blk W0 w.heap.size 53 #[.string key, .string bef, .int .i64 go, .slice oa m oc] from HS.out.nth 1 rfl) hb2)
  have y0 := Blk.cell (Blk.below (show Blk W0 (w.heap.size + 1) 3 #[.int .i64 at_] from HS.out.nth 0 rfl) hb2) 0
  have hbb := below_call HS.out.below hb2 (Nat.le_refl _)
  have hmGb : mG ≤ 100000 := by omega
  have HGL := Lib.hid hmG.symm
  have HRG := Lib.hid hrG
  clear hS1 hb2 HCLO HDEL hGl hmG hrG
  by_cases hm0 : m = 0
  · subst hm0
    have ho : opts = [] := List.eq_nil_of_length_eq_zero HOL.out
    have hW := HWQ.out
    rw [if_pos ho] at hW
    have HTOT := Lib.hid (totalOf_calls b A2 mG c2 G at_ w2 HRG.out HGK.out hmGb)
    obtain ⟨Z, hZ⟩ : ∃ Z, totTo G at_ G.length = Z := ⟨_, rfl⟩
    rw [hZ] at hW HTOT
    have HW := Lib.hid hW
    clear hW ho hZ HWQ
    go_wp2_with fail
    refine HTOT.out.mono ?_
    rintro e w3 ⟨rfl, hb3⟩
    have z2 := below_cell hb3 z2
    have hbb3 := below_call hbb hb3 (Nat.le_refl _)
    clear z0 z1 z3 y0
    go_wp2_with fail
    go_quiet (fail)
    go_wp2_with fail
    go_ret3
    rw [HW.out]
    exact ⟨rfl, below_drewN hbb3 _⟩
  · have hne : opts ≠ [] := by intro e; rw [e] at HOL; exact hm0 HOL.out.symm
    have hW := HWQ.out
    rw [if_neg hne, HOL.out] at hW
    have HW := Lib.hid hW
    have hmp : 0 < m := by omega
    have hmz : ((m : Int) == 0) = false := by rw [beq_eq_false_iff_ne]; omega
    obtain ⟨g0, o0, hA0, _, hcs0⟩ := HOC.out hmp
    have HCS := Lib.hid (fun i hi => below_cell hbb (hcs0 i hi))
    obtain ⟨hgl, hgnc, hgcm, hgc⟩ := HRG.out.cells gfC_len (by omega)
    unfold maxLen at hgcm
    have HGC := Lib.hid hgc
    have HBB := Lib.hid hbb
    clear hW hne hcs0 hm0 HWQ hgl hgc y0 HOC hbb
    subst hA0
    go_wp2_with fail
    clear z0 z1 z2 z3
    go_loopw [10, 11, 12, 38] (fun be mo wh i w3 => ∃ j : Nat, j ≤ m ∧ i = .int .i64 j ∧ be = .string (bestQ G opts j).best ∧ mo = .int .i64 (bestQ G opts j).most ∧ wh = .int .i64 (bestQ G opts j).when ∧ Below w2.heap.size w2 w3) (fun _ _ _ i _ => m - (intOf i).toNat)
    case atStart => exact ⟨0, Nat.zero_le _, rfl, rfl, rfl, rfl, Below.refl _ _⟩
    case round =>
      obtain ⟨j, hj, rfl, rfl, rfl, rfl, hbo⟩ := hrel
      by_cases hlt2 : j < m
      · have hjr : j < opts.length := by rw [HOL.out]; exact hlt2
        have hst := bestQ_step G opts j hjr
        have k0 := below_cell hbo (HCS.out j hjr)
        obtain ⟨s, hs'⟩ : ∃ s, opts[j] = s := ⟨_, rfl⟩
        rw [hs'] at hst k0
        obtain ⟨⟨bb, bm, bw⟩, hB⟩ : ∃ B, bestQ G opts j = B := ⟨_, rfl⟩
        rw [hB] at hst ⊢
        simp only at hst ⊢
        have HSTO := Lib.hid hst
        clear hs' hB hst
        go_wp2_with fail
        go_loopw [15, 16, 44] (fun nn la i w3 => ∃ q : Nat, q ≤ mG ∧ i = .int .i64 q ∧ nn = .int .i64 (optTo G s q).1 ∧ la = .int .i64 (optTo G s q).2 ∧ Below w2.heap.size w2 w3) (fun _ _ i _ => mG - (intOf i).toNat)
        case atStart => exact ⟨0, Nat.zero_le _, rfl, rfl, rfl, hbo⟩
        case round =>
          clear k0 hbo
          obtain ⟨q, hq, rfl, rfl, rfl, hbin⟩ := hrel
          by_cases hlt3 : q < mG
          · have hqr : q < G.length := by rw [HGL.out]; exact hlt3
            obtain ⟨g, o', hA, _, hcs⟩ := HGC.out (by omega)
            have hok := HGK.out _ (List.getElem_mem hqr)
            have hbd := optTo_bd HGK.out s q
            have hst := optTo_step G s q hqr
            have c0 := below_cell hbin (hcs q hqr 0 (by omega))
            have c1 := below_cell hbin (hcs q hqr 1 (by omega))
            have c2 := below_cell hbin (hcs q hqr 2 (by omega))
            have c3 := below_cell hbin (hcs q hqr 3 (by omega))
            have c4 := below_cell hbin (hcs q hqr 4 (by omega))
            obtain ⟨x, hx⟩ : ∃ x, G[q] = x := ⟨_, rfl⟩
            rw [hx] at c0 c1 c2 c3 c4 hok hst
            obtain ⟨xi, xa, xc, xb, xo⟩ := x
            have hxc : -2199023255552 ≤ xc ∧ xc ≤ 2199023255552 := hok.hc
            simp only at hst
            replace c0 : wr.cell? ⟨g, o' + q * 5, none⟩ = some (.string xi) := c0
            replace c1 : wr.cell? ⟨g, o' + q * 5 + 1, none⟩ = some (.int .i64 xa) := c1
            replace c2 : wr.cell? ⟨g, o' + q * 5 + 2, none⟩ = some (.int .i64 xc) := c2
            replace c3 : wr.cell? ⟨g, o' + q * 5 + 3, none⟩ = some (.string xb) := c3
            replace c4 : wr.cell? ⟨g, o' + q * 5 + 4, none⟩ = some (.string xo) := c4
            have hba := hbin.alloc hbin.size (.cells #[.string xi, .int .i64 xa, .int .i64 xc, .string xb, .string xo] 39)
            obtain ⟨⟨z1, z2⟩, hz⟩ : ∃ z, optTo G s q = z := ⟨_, rfl⟩
            rw [hz] at hst hbd ⊢
            simp only at hbd hst ⊢
            have hes : eqS xo s = (xo.toList == s.toList) := rfl
            rw [hes] at hst
            have HST := Lib.hid hst
            obtain ⟨⟨hb0, hb1⟩, hb2, hb3⟩ := hbd
            obtain ⟨hx0, hx1⟩ := hxc
            have hsum : -9223372036854775808 ≤ z1 + xc ∧ z1 + xc ≤ 9223372036854775807 := by omega
            obtain ⟨hs0, hs1⟩ := hsum
            clear hcs hok hx hst hz hes
            subst hA
            cases he : (xo.toList == s.toList)
            · have HSS := Lib.hid (HST.out.trans (if_neg (by rw [he]; decide)))
              clear HST
              go_wp2_with fail
              go_roundw
              case rel => exact ⟨q + 1, by omega, by go_num, by rw [HSS.out], by rw [HSS.out], hba⟩
              case measure => simp [intOf]; omega
            · have HSS := Lib.hid (HST.out.trans (if_pos (by rw [he])))
              clear HST
              go_wp2_with fail
              go_roundw
              case rel => exact ⟨q + 1, by omega, by go_num, by rw [HSS.out], by rw [HSS.out], hba⟩
              case measure => simp [intOf]; omega
          · obtain rfl : q = mG := by omega
            have hoq : optQ G s = optTo G s q := by unfold optQ; rw [HGL.out]
            have hst := HSTO.out
            rw [hoq] at hst
            obtain ⟨⟨z1, z2⟩, hz⟩ : ∃ z, optTo G s q = z := ⟨_, rfl⟩
            rw [hz] at hst ⊢
            simp only at hst ⊢
            have hbe : betQ ⟨bb, bm, bw⟩ z1 z2 = (decide (bm < z1) || (decide (z1 = bm) && (decide (0 < z1) && decide (z2 < bw)))) := rfl
            rw [hbe] at hst
            have HST := Lib.hid hst
            clear hoq hst hz hbe
            by_cases q1 : bm < z1
            · have HSS := Lib.hid (HST.out.trans (if_pos (by simp [q1])))
              clear HST
              go_wp2_with fail
              go_roundw
              case rel => exact ⟨j + 1, by omega, by go_num, by rw [HSS.out], by rw [HSS.out], by rw [HSS.out], hbin⟩
              case measure => simp [intOf]; omega
            · by_cases q3 : z1 = bm
              · subst q3
                by_cases q2 : 0 < z1
                · by_cases q4 : z2 < bw
                  · have HSS := Lib.hid (HST.out.trans (if_pos (by simp [q2, q4])))
                    clear HST q1
                    go_wp2_with fail
                    go_roundw
                    case rel => exact ⟨j + 1, by omega, by go_num, by rw [HSS.out], by rw [HSS.out], by rw [HSS.out], hbin⟩
                    case measure => simp [intOf]; omega
                  · have HSS := Lib.hid (HST.out.trans (if_neg (by simp [q4])))
                    clear HST q1
                    go_wp2_with fail
                    go_roundw
                    case rel => exact ⟨j + 1, by omega, by go_num, by rw [HSS.out], by rw [HSS.out], by rw [HSS.out], hbin⟩
                    case measure => simp [intOf]; omega
                · have HSS := Lib.hid (HST.out.trans (if_neg (by simp [q2])))
                  clear HST q1
                  go_wp2_with fail
                  go_roundw
                  case rel => exact ⟨j + 1, by omega, by go_num, by rw [HSS.out], by rw [HSS.out], by rw [HSS.out], hbin⟩
                  case measure => simp [intOf]; omega
              · have HSS := Lib.hid (HST.out.trans (if_neg (by simp [q1, q3])))
                have q5 : (z1 == bm) = false := by simpa using q3
                clear HST q3
                go_wp2_with fail
                go_roundw
                case rel => exact ⟨j + 1, by omega, by go_num, by rw [HSS.out], by rw [HSS.out], by rw [HSS.out], hbin⟩
                case measure => simp [intOf]; omega
      · obtain rfl : j = m := by omega
        obtain ⟨⟨bb, bm, bw⟩, hB⟩ : ∃ B, bestQ G opts j = B := ⟨_, rfl⟩
        rw [hB] at HW ⊢
        simp only at HW ⊢
        have hfin := below_call HBB.out hbo (Nat.le_refl _)
        clear hB
        go_wp2_with fail
        go_ret3
        rw [HW.out]
        exact ⟨rfl, hfin⟩
end Go.Proofs.YtohhbkodfidfkaaGreat
