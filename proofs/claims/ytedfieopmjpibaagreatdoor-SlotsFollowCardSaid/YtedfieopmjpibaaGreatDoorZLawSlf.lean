/-
  SlotsFollow: the law's own walk.
-/
import Derived.Test.YtedfieopmjpibaaGreatDoorZStream
import Derived.Test.YtedfieopmjpibaaGreatDoorZSlotR
import Derived.Test.YtedfieopmjpibaaGreatDoorZSlot8
import Derived.Test.YtedfieopmjpibaaGreatDoorZReady
import Derived.Deep.DeepCutAuto
namespace Go.Proofs.YtedfieopmjpibaaGreatDoor
open Go Go.RowKit

theorem slts_ofR {w W : World} {b K n c h : Nat} {A : Option Addr} {xs : List Slt} {l : List Rsc} (hS : Sp w b K W (rOwn w.heap.size 66 5 (.slice A n c) n (xs.flatMap sltC) :: rAll (hostR w.heap.size) xs :: l)) (hz : SltZs h xs) (hh : h ≤ 1000) : Slts W b A n c xs := by
  have h0 : W.ownsRow w.heap.size 66 5 (.slice A n c) n (xs.flatMap sltC) := hS.head
  have h1 : ∀ x ∈ xs, (hostR w.heap.size x).P W := hS.tail.head
  exact ⟨Rd.own h0 hS.hb, fun x hx => ⟨Rd.own (h1 x hx) hS.hb, (hz x hx).hk, (hz x hx).hw, (hz x hx).hh, Nat.le_trans (hz x hx).hn hh, (hz x hx).hs, (hz x hx).hl⟩⟩
theorem toList_self (s : ByteArray) : (s.toList == s.toList) = true := by simp

set_option maxRecDepth 100000 in
set_option maxHeartbeats 4000000 in
theorem slf_walk (a0 : Option Addr) (len0 cap0 : Nat) (z0 : List Int) (w : World) (w0 : InRow w a0 len0 cap0 z0) (ht : Tab w) :
    Calls Tryz.prog 5 #[.slice a0 len0 cap0] w fun e w' => e = .returned (.bool true) ∧ Below w.heap.size w w' := by
  have hs0 := strm_start w0 25
  have hb0 : Bx w.heap.size w.heap.size w (w.alloc (.cells #[.slice a0 len0 cap0, .int .i64 0] 25)) := (Bx.refl _ _ _).alloc (Nat.le_refl _) _
  clear w0
  go_enter Tryz.func5, Tryz.ntmps5
  go_wp2_with fail
  refine (rightSlotsR_calls w.heap.size 0 5 _ hs0 (by omega) (by omega)).mono ?_
  rintro e w1 ⟨v, xs, rfl, hx5, hz, hR, hS⟩
  obtain ⟨n, hn⟩ : ∃ n, xs.length = n := ⟨_, rfl⟩
  rw [hn] at hS hx5
  obtain ⟨A, c, hv⟩ := own_form (show w1.ownsRow _ _ _ v n _ from hS.head)
  subst hv
  have hr1 := slts_ofR hS hz (by omega)
  have hs1 := hS.strm
  have hb1 := hb0.call hS.bx (Nat.le_refl _)
  have HR := Lib.hid hR
  have HN := Lib.hid hn
  clear hS hs0 hb0 hz hn hR
  go_wp2_with fail
  refine (range_calls w.heap.size _ 0 1000 _ (by omega) (by omega) (by omega) hs1 (by omega)).mono ?_
  rintro e w2 ⟨f, rfl, f0, f1, hs2, hc2⟩
  have hr2 := hr1.bx hc2
  have hb2 := hb1.call hc2 (Nat.le_refl _)
  have hlt2 := hs2.lt
  have HT := Lib.hid (timetableX_calls w.heap.size A n c xs f w2 hr2 (by omega) (by omega) hlt2)
  rw [rsl_tabE HR.out ⟨f0, f1⟩, rsl_tabL HR.out ⟨f0, f1⟩] at HT
  obtain ⟨L, hL⟩ : ∃ L, placesF f xs = L := ⟨_, rfl⟩
  have hLn : L.length = n := by rw [← hL]; unfold placesF; rw [placesTo_len f xs _ (Nat.le_refl _), HN.out]
  rw [hL] at HT
  have HL := Lib.hid hL
  clear hs1 hr1 hc2 hb1 hL
  go_wp2_with fail
  refine HT.out.mono ?_
  rintro e w3 ⟨v3, rfl, ho3, hb3⟩
  rw [hLn] at ho3
  obtain ⟨A3, c3, hv3⟩ := own_form ho3
  subst hv3
  have hr3 := hr2.below hb3
  have hs3 := hs2.below hb3
  have hx3 := hb2.callB hb3 (Nat.le_refl _)
  have hcap3 := own_cap ho3
  clear HT hr2 hs2 hb2 hb3
  go_wp2_with fail
  refine (range_calls w.heap.size _ 0 f _ (by omega) (by omega) (by omega) hs3 (by omega)).mono ?_
  rintro e w4 ⟨u, rfl, u0, u1, hs4, hc4⟩
  have hr4 := hr3.bx hc4
  have hx4 := hx3.call hc4 (Nat.le_refl _)
  have ho4 := own_bx ho3 hc4 hlt2
  have hlt4 := hs4.lt
  have HE := Lib.hid (expectedX_calls w.heap.size A none n c 0 0 xs [] f u w4 hr4 (by omega) (Rd.nil _ _ _) (by intro y hy; cases hy) hlt4)
  rw [rsl_knownE HR.out ⟨f0, f1⟩ ⟨u0, u1⟩, rsl_knownL HR.out ⟨f0, f1⟩ ⟨u0, u1⟩, HL.out] at HE
  clear hs3 hr3 hc4 hx3 ho3
  go_wp2_with fail
  refine HE.out.mono ?_
  rintro e w5 ⟨v5, rfl, ho5, hb5⟩
  rw [hLn] at ho5
  obtain ⟨A5, c5, hv5⟩ := own_form ho5
  subst hv5
  have hr5 := hr4.below hb5
  have hs5 := hs4.below hb5
  have hx5' := hx4.callB hb5 (Nat.le_refl _)
  have ho5' := own_below ho4 hb5
  have hcap5 := own_cap ho5
  clear HE hr4 hs4 hx4 hb5 ho4
  go_wp2_with fail
  refine (range_calls w.heap.size _ 0 f _ (by omega) (by omega) (by omega) hs5 (by omega)).mono ?_
  rintro e w6 ⟨q, rfl, q0, q1, hs6, hc6⟩
  have hr6 := hr5.bx hc6
  have hx6 := hx5'.call hc6 (Nat.le_refl _)
  have hp6 := own_bx ho5' hc6 hlt2
  have ho6 := own_bx ho5 hc6 hlt4
  have hlt6 := hs6.lt
  have HT := Lib.hid (late_calls w.heap.size A none n c 0 0 xs [] f q w6 hr6 (by omega) (Rd.nil _ _ _) (by intro y hy; cases hy) hlt6)
  rw [rsl_knownE HR.out ⟨f0, f1⟩ ⟨q0, q1⟩, rsl_late HR.out ⟨f0, f1⟩ ⟨q0, q1⟩] at HT
  clear hs5 hr5 hc6 hx5' ho5' ho5
  go_wp2_with fail
  refine HT.out.mono ?_
  rintro e w7 ⟨rfl, hb7⟩
  have hr7 := hr6.below hb7
  have hB7 := (hx6.callB hb7 (Nat.le_refl _)).below (Nat.le_refl _)
  have hp7 := own_below hp6 hb7
  have ho7 := own_below ho6 hb7
  have hlt7 : w.heap.size < w7.heap.size := by have := hb7.size; omega
  have HER := Lib.hid (errsK_calls w.heap.size _ 3 3 [0, 0, 0] _ (Rd.lit0 (w := w7) (cs := #[.int .i64 0, .int .i64 0, .int .i64 0]) (t := 31) (size := 1) (n := 3) hlt7 (by decide) rfl))
  have hB8 := hB7.alloc hB7.size (.cells #[.int .i64 0, .int .i64 0, .int .i64 0] 31)
  have hr8 := hr7.below ((Below.refl _ _).alloc (Nat.le_refl _) (.cells #[.int .i64 0, .int .i64 0, .int .i64 0] 31))
  have hp8 := hp7.alloc (.cells #[.int .i64 0, .int .i64 0, .int .i64 0] 31)
  have ho8 := ho7.alloc (.cells #[.int .i64 0, .int .i64 0, .int .i64 0] 31)
  clear HT hr6 hs6 hx6 hp6 ho6 hb7 hr7 hp7 ho7 hB7
  go_wp2_with fail
  refine HER.out.mono ?_
  rintro e w9 ⟨rfl, nq, rfl⟩
  obtain ⟨W8, hW8⟩ : ∃ W8, w7.alloc (.cells #[.int .i64 0, .int .i64 0, .int .i64 0] 31) = W8 := ⟨_, rfl⟩
  have hz8 : w7.heap.size + 1 = W8.heap.size := by rw [← hW8]; simp
  rw [hW8] at hB8 hr8 hp8 ho8 ⊢
  clear hW8 HER
  have hB9 := below_drewN hB8 nq
  have hr9 := hr8.below (below_drewN (Below.refl _ _) nq)
  have hp9 := own_drewN hp8 nq
  have ho9 := own_drewN ho8 nq
  have HQ := Lib.hid (equalPlc_calls w.heap.size A3 A5 n c3 c5 L _ (Rd.own hp9 hlt2) (Rd.own ho9 hlt4))
  clear hB8 hr8 hp8 ho8
  go_wp2_with fail
  refine HQ.out.mono ?_
  rintro e w10 ⟨rfl, nr, rfl⟩
  have hB10 := below_drewN hB9 nr
  have hr10 := hr9.below (below_drewN (Below.refl _ _) nr)
  have hp10 := own_drewN hp9 nr
  obtain ⟨W, hW⟩ : ∃ W, (W8.drewN nq).drewN nr = W := ⟨_, rfl⟩
  have hzW : W.heap.size = W8.heap.size := by rw [← hW]; rfl
  rw [hW] at hB10 hr10 hp10 ⊢
  have hltW : w.heap.size < W.heap.size := by omega
  have hS := Sq.start W
  have HRd := Lib.hid hr10
  have HP := Lib.hid hp10
  have HB := Lib.hid hB10
  have hat0 : Hid (fromAt f xs 0 = f) := rfl
  have hcx := (hr10.rd.cells sltC_len (by omega))
  have hcap := hcx.2.2.1
  have hncap := hcx.2.1
  unfold maxLen at hcap
  have HC := Lib.hid hcx.2.2.2
  clear hB9 hr9 hp9 ho9 HQ hW hB10 hr10 hp10 hcx
  go_wp2_with fail
  go_loopw [12, 72] (fun a i wr => ∃ k : Nat, k ≤ n ∧ i = .int .i64 k ∧ a = .int .i64 (fromAt f xs k) ∧ Sq W wr []) (fun _ i _ => n - (intOf i).toNat)
  case atStart => exact ⟨0, Nat.zero_le _, rfl, rfl, hS⟩
  case round =>
    clear hS hat0
    obtain ⟨k, hk, rfl, rfl, hS⟩ := hrel
    by_cases hlt : k < n
    · have hkx : k < xs.length := by rw [HN.out]; exact hlt
      have hkl : k < L.length := by omega
      obtain ⟨g, o, hA, hgb, hcs⟩ := HC.out (by omega)
      have hA' := hA
      subst hA'
      obtain ⟨g3, cp3, hv3, hg3, _⟩ := HP.out.form (by omega)
      injection hv3 with hA3 _ hc3
      subst hA3 hc3
      have hle : L[k] = plcOf (fromAt f xs k) xs[k] := by
        have hg := placesTo_get f xs xs.length (Nat.le_refl _) k hkx hkx
        have h2 : L[k]? = some L[k] := List.getElem?_eq_getElem hkl
        have h3 : L[k]? = some (plcOf (fromAt f xs k) xs[k]) := by rw [← HL.out]; exact hg
        have h4 := h2.symm.trans h3
        injection h4
      have hfs := fromAt_step f xs k hkx
      have hbd := rsl_from HR.out ⟨f0, f1⟩ k (by omega)
      have hrx := HR.out.all _ (List.getElem_mem hkx)
      have y0 := below_cell hS.below (own_cell plcC 4 plcC_len HP.out k 0 hkl hlt (by omega))
      have y1 := below_cell hS.below (own_cell plcC 4 plcC_len HP.out k 1 hkl hlt (by omega))
      have y2 := below_cell hS.below (own_cell plcC 4 plcC_len HP.out k 2 hkl hlt (by omega))
      have y3 := below_cell hS.below (own_cell plcC 4 plcC_len HP.out k 3 hkl hlt (by omega))
      have x0 := hcs k hkx 0 (by omega)
      have x3 := hcs k hkx 3 (by omega)
      have x4 := hcs k hkx 4 (by omega)
      rw [hle] at y0 y1 y2 y3
      have hgW := World.block_lt_of_cell? W _ (x0.trans (List.getElem?_eq_getElem (by rw [sltC_len]; omega)))
      have hg3W := (HP.out.lt g3 rfl).2
      obtain ⟨x, hx⟩ : ∃ x, xs[k] = x := ⟨_, rfl⟩
      obtain ⟨fk, hfk⟩ : ∃ fk, fromAt f xs k = fk := ⟨_, rfl⟩
      rw [hx] at x0 x3 x4 hfs hrx y0 y1 y2 y3
      rw [hfk] at hfs hbd y0 y1 y2 y3 ⊢
      obtain ⟨key, who, ha, hc, hh, sp, lg⟩ := x
      have hsu : 0 ≤ sp ∧ sp ≤ 20 := hrx.setup
      have hlo : 50 ≤ lg ∧ lg ≤ 200 := hrx.long
      obtain ⟨su0, su1⟩ := hsu
      obtain ⟨lo0, lo1⟩ := hlo
      obtain ⟨bd0, bd1⟩ := hbd
      replace x0 := below_cell hS.below (show W.cell? ⟨g, o + k * 5 + 0, none⟩ = some (.string key) from x0)
      replace x3 := below_cell hS.below (show W.cell? ⟨g, o + k * 5 + 3, none⟩ = some (.int .i64 sp) from x3)
      replace x4 := below_cell hS.below (show W.cell? ⟨g, o + k * 5 + 4, none⟩ = some (.int .i64 lg) from x4)
      rw [Nat.add_zero] at x0
      replace y0 : wr.cell? ⟨g3, k * 4, none⟩ = some (.string key) := y0
      replace y1 : wr.cell? ⟨g3, k * 4 + 1, none⟩ = some (.int .i64 fk) := y1
      replace y2 : wr.cell? ⟨g3, k * 4 + 2, none⟩ = some (.int .i64 (fk + sp)) := y2
      replace y3 : wr.cell? ⟨g3, k * 4 + 3, none⟩ = some (.int .i64 (fk + sp + lg)) := y3
      have HFS : Hid (fromAt f xs (k + 1) = fk + sp + lg) := hfs
      have hS2 := hS.add #[.string key, .int .i64 fk, .int .i64 (fk + sp), .int .i64 (fk + sp + lg)] 63
      have X0 := below_cell ((Below.refl wr.heap.size wr).alloc (Nat.le_refl _) (.cells #[.string key, .int .i64 fk, .int .i64 (fk + sp), .int .i64 (fk + sp + lg)] 63)) x0
      have X3 := below_cell ((Below.refl wr.heap.size wr).alloc (Nat.le_refl _) (.cells #[.string key, .int .i64 fk, .int .i64 (fk + sp), .int .i64 (fk + sp + lg)] 63)) x3
      have X4 := below_cell ((Below.refl wr.heap.size wr).alloc (Nat.le_refl _) (.cells #[.string key, .int .i64 fk, .int .i64 (fk + sp), .int .i64 (fk + sp + lg)] 63)) x4
      clear x0 x3 x4
      have hzz := hS.size
      have hne1 : g ≠ wr.heap.size := by simp only at hgW; omega
      have hne3 : g3 ≠ wr.heap.size := by omega
      have hkk := toList_self key
      clear hcs hle hfs hrx hx hfk hgW hA hgb hg3W
      go_wp2_with fail
      go_quiet (fail)
      go_wp2_with fail
      go_roundw
      case rel => exact ⟨k + 1, by omega, by go_num, by rw [HFS.out], (hS2.tail).drewN _⟩
      case measure => simp [intOf]; omega
    · obtain rfl : k = n := by omega
      have hRD := Lib.hid (ready_calls w.heap.size wr (by have := hS.size; omega) (ht.below (below_call HB.out hS.below (Nat.le_refl _))))
      go_wp2_with fail
      refine hRD.out.mono ?_
      rintro e w11 ⟨rfl, hb11⟩
      have hfin := below_call (below_call HB.out hS.below (Nat.le_refl _)) hb11 (Nat.le_refl _)
      go_wp2_with fail
      go_ret
      exact ⟨rfl, hfin⟩
end Go.Proofs.YtedfieopmjpibaaGreatDoor
