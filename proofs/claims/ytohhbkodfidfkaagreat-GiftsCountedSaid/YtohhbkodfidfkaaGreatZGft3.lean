/-
  marathon.Total by a contract. (Printed by gen_gft3.py.)
-/
import Derived.Test.YtohhbkodfidfkaaGreatZBid11
import Derived.Test.YtohhbkodfidfkaaGreatZGft1
namespace Go.Proofs.YtohhbkodfidfkaaGreat
open Go Go.RowKit
attribute [local go_sem ↓] Go.wp_at_zero Go.wp_at_succ

def totalE (gs : List Gf) (at_ : Int) : Int := if giftsF keysT gs = 0 then if momB at_ = true then 0 else 1 else giftsF keysT gs
def totalL (gs : List Gf) (at_ : Int) : Int := if totalE gs at_ = 0 then totTo gs at_ gs.length else 0

set_option maxRecDepth 100000 in
set_option maxHeartbeats 1000000 in
theorem total_calls (b : Nat) (A : Option Addr) (n c : Nat) (gs : List Gf) (at_ : Int) (w : World) (hr : Rd w b 5 (.slice A n c) n (gs.flatMap gfC)) (hgs : ∀ x ∈ gs, GfOk x) (hn : n ≤ 100000) :
    Calls Tryz.prog 15 #[.slice A n c, .int .i64 at_] w (BRet (.tuple #[.int .i64 (totalL gs at_), .int .i64 (totalE gs at_)]) w) := by
  obtain ⟨hl, hnc, hcm, hcells⟩ := hr.cells gfC_len (by omega)
  unfold maxLen at hcm
  obtain ⟨E, hE⟩ : ∃ E, giftsF keysT gs = E := ⟨_, rfl⟩
  obtain ⟨M, hM⟩ : ∃ M, momB at_ = M := ⟨_, rfl⟩
  have HKF := Lib.hid (keysFault_calls b A n c gs w hr hgs)
  have HTE : Hid (totalE gs at_ = if E = 0 then if M = true then 0 else 1 else E) := by unfold totalE; rw [hE, hM]; exact Lib.hid rfl
  have HTL : Hid (totalL gs at_ = if totalE gs at_ = 0 then totTo gs at_ gs.length else 0) := rfl
  have HM := Lib.hid hM
  rw [hE] at HKF
  have HL := Lib.hid hl
  have HC := Lib.hid hcells
  have HGS := Lib.hid hgs
  have H0 : Hid (totTo gs at_ 0 = 0) := rfl
  clear hcells hl hr hgs hE hM
  by_cases hz : E = 0
  · subst hz
    cases M
    · have h1 : totalE gs at_ = 1 := HTE.out.trans rfl
      have h2 : totalL gs at_ = 0 := HTL.out.trans (if_neg (by rw [h1]; decide))
      rw [h1, h2]
      clear h1 h2
      go_enter Tryz.func15, Tryz.ntmps15
      go_wp2_with fail
      refine HKF.out.mono ?_
      rintro e w1 ⟨rfl, hb1⟩
      go_wp2_with fail
      refine (moment_calls at_ _).mono ?_
      rintro e w2 ⟨rfl, rfl⟩
      rw [HM.out]
      go_wp2_with fail
      refine bodyPost_ret (v := .tuple #[.int .i64 0, .int .i64 1]) (by simp [results, Tryz.results15, go_sem]) rfl ⟨rfl, hb1⟩
    · have h1 : totalE gs at_ = 0 := HTE.out.trans rfl
      have h2 : totalL gs at_ = totTo gs at_ gs.length := HTL.out.trans (if_pos h1)
      rw [h1, h2]
      clear h1 h2
      go_enter Tryz.func15, Tryz.ntmps15
      go_wp2_with fail
      refine HKF.out.mono ?_
      rintro e w1 ⟨rfl, hb1⟩
      go_wp2_with fail
      refine (moment_calls at_ _).mono ?_
      rintro e w2 ⟨rfl, rfl⟩
      rw [HM.out]
      go_wp2_with fail
      go_loopw [7, 20] (fun s i wr => ∃ k : Nat, k ≤ n ∧ i = .int .i64 k ∧ s = .int .i64 (totTo gs at_ k) ∧ Below w.heap.size w wr) (fun _ i _ => n - (intOf i).toNat)
      case atStart => exact ⟨0, Nat.zero_le _, rfl, rfl, hb1⟩
      case round =>
        clear H0
        obtain ⟨k, hk, rfl, rfl, hbr⟩ := hrel
        by_cases hlt : k < n
        · have hkr : k < gs.length := by rw [HL.out]; exact hlt
          obtain ⟨g, o, hA, _, hcs⟩ := HC.out (by omega)
          subst hA
          have hok := HGS.out _ (List.getElem_mem hkr)
          have hbd := totTo_bd HGS.out at_ k
          have hst := totTo_step gs at_ k hkr
          have c0 := below_cell hbr (hcs k hkr 0 (by omega))
          have c1 := below_cell hbr (hcs k hkr 1 (by omega))
          have c2 := below_cell hbr (hcs k hkr 2 (by omega))
          have c3 := below_cell hbr (hcs k hkr 3 (by omega))
          have c4 := below_cell hbr (hcs k hkr 4 (by omega))
          obtain ⟨x, hx⟩ : ∃ x, gs[k] = x := ⟨_, rfl⟩
          rw [hx] at c0 c1 c2 c3 c4 hok hst
          obtain ⟨xi, xa, xc, xb, xo⟩ := x
          have hxc : -2199023255552 ≤ xc ∧ xc ≤ 2199023255552 := hok.hc
          simp only at hst
          replace c0 : wr.cell? ⟨g, o + k * 5, none⟩ = some (.string xi) := c0
          replace c1 : wr.cell? ⟨g, o + k * 5 + 1, none⟩ = some (.int .i64 xa) := c1
          replace c2 : wr.cell? ⟨g, o + k * 5 + 2, none⟩ = some (.int .i64 xc) := c2
          replace c3 : wr.cell? ⟨g, o + k * 5 + 3, none⟩ = some (.string xb) := c3
          replace c4 : wr.cell? ⟨g, o + k * 5 + 4, none⟩ = some (.string xo) := c4
          have hba := hbr.alloc hbr.size (.cells #[.string xi, .int .i64 xa, .int .i64 xc, .string xb, .string xo] 39)
          obtain ⟨z, hz⟩ : ∃ z, totTo gs at_ k = z := ⟨_, rfl⟩
          rw [hz] at hst hbd ⊢
          have HST := Lib.hid hst
          obtain ⟨hb0, hb1⟩ := hbd
          obtain ⟨hx0, hx1⟩ := hxc
          have hsum : -9223372036854775808 ≤ z + xc ∧ z + xc ≤ 9223372036854775807 := by omega
          obtain ⟨hs0, hs1⟩ := hsum
          clear hcs hok hx hst hz
          by_cases hp : xa ≤ at_
          · have HSS := Lib.hid (HST.out.trans (if_pos hp))
            clear HST
            go_wp2_with fail
            go_roundw
            case rel => exact ⟨k + 1, by omega, by go_num, by rw [HSS.out], hba⟩
            case measure => simp [intOf]; omega
          · have HSS := Lib.hid (HST.out.trans (if_neg hp))
            clear HST
            go_wp2_with fail
            go_roundw
            case rel => exact ⟨k + 1, by omega, by go_num, by rw [HSS.out], hba⟩
            case measure => simp [intOf]; omega
        · obtain rfl : k = n := by omega
          have HLL := Lib.hid HL.out
          go_wp2_with fail
          refine bodyPost_ret (v := .tuple #[.int .i64 (totTo gs at_ k), .int .i64 0]) (by simp [results, Tryz.results15, go_sem]) rfl ⟨by rw [HLL.out], hbr⟩
  · have h1 : totalE gs at_ = E := HTE.out.trans (if_neg hz)
    have h2 : totalL gs at_ = 0 := HTL.out.trans (if_neg (by rw [h1]; exact hz))
    have hz' : (E != 0) = true := by rw [bne_iff_ne]; exact hz
    rw [h1, h2]
    clear h1 h2
    go_enter Tryz.func15, Tryz.ntmps15
    go_wp2_with fail
    refine HKF.out.mono ?_
    rintro e w1 ⟨rfl, hb1⟩
    go_wp2_with fail
    refine bodyPost_ret (v := .tuple #[.int .i64 0, .int .i64 E]) (by simp [results, Tryz.results15, go_sem]) rfl ⟨rfl, hb1⟩
end Go.Proofs.YtohhbkodfidfkaaGreat
