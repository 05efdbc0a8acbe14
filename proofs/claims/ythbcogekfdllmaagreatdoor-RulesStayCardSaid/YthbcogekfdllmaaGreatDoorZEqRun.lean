/-
  Slices.Equal of pairs, the reference's SameRun, and EqualFunc of runs with it: true of runs that say the same. (Printed by gen_eqrun.py.)
-/
import Derived.Test.YthbcogekfdllmaaGreatDoorZSlotPure
import Derived.Test.YthbcogekfdllmaaGreatDoorZRatMake4
import Derived.Deep.RegionLaw
import Derived.Deep.QuietTactic
import Derived.BigQuiet
namespace Go.Proofs.YthbcogekfdllmaaGreatDoor
open Go Go.RowKit
attribute [local go_sem ↓] Go.wp_at_zero Go.wp_at_succ

set_option maxRecDepth 100000 in
theorem equalPrR_calls (b : Nat) (A A2 : Option Addr) (n c c2 : Nat) (rs : List Pr) (w : World) (hr : Rd w b 2 (.slice A n c) n (rs.flatMap prC)) (hr2 : Rd w b 2 (.slice A2 n c2) n (rs.flatMap prC)) :
    Calls Tryz.prog 108 #[.slice A n c, .slice A2 n c2] w (QRet (.bool true) w) := by
  obtain ⟨hl, hnc, hcm, hcells⟩ := hr.cells prC_len (by omega)
  obtain ⟨_, _, hcm2, hcells2⟩ := hr2.cells prC_len (by omega)
  unfold maxLen at hcm hcm2
  have HL := Lib.hid hl
  have HC := Lib.hid hcells
  have HC2 := Lib.hid hcells2
  have hnn : ((n : Int) != (n : Int)) = false := by simp
  clear hcells hcells2 hl hr hr2
  go_enter Tryz.func108, Tryz.ntmps108
  go_wp2_with fail
  go_loopw [13] (fun i wr => ∃ k nq : Nat, k ≤ n ∧ i = .int .i64 k ∧ wr = w.drewN nq) (fun i _ => n - (intOf i).toNat)
  case atStart => exact ⟨0, 0, Nat.zero_le _, rfl, rfl⟩
  case round =>
    obtain ⟨k, nq, hk, rfl, rfl⟩ := hrel
    by_cases hlt : k < n
    · have hkr : k < rs.length := by rw [HL.out]; exact hlt
      obtain ⟨g, o, hA, _, hcs⟩ := HC.out (by omega)
      obtain ⟨g2, o2, hA2, _, hcs2⟩ := HC2.out (by omega)
      subst hA hA2
      have c0 := hcs k hkr 0 (by omega)
      have x0 := hcs2 k hkr 0 (by omega)
      have c1 := hcs k hkr 1 (by omega)
      have x1 := hcs2 k hkr 1 (by omega)
      simp only [prC, Nat.add_zero, List.getElem?_cons_zero, List.getElem?_cons_succ] at c0 x0 c1 x1
      have hk0 : (0 : Int) ≤ (k : Int) := by omega
      have hk1 : (k : Int) < (n : Int) := by omega
      clear hcs hcs2
      go_wp2_with fail
      go_quiet (fail)
      go_wp2_with fail
      go_roundw
      case rel => exact ⟨k + 1, _, by omega, by go_num, rfl⟩
      case measure => simp [intOf]; omega
    · obtain rfl : k = n := by omega
      go_wp2_with fail
      go_ret
      exact ⟨rfl, nq, rfl⟩
set_option maxRecDepth 100000 in
theorem sameRun_calls (b : Nat) (x y : Rn) (w : World) (hx : Rd w b 2 (.slice x.fa x.fs.length x.fc) x.fs.length (x.fs.flatMap prC)) (hy : Rd w b 2 (.slice y.fa y.fs.length y.fc) y.fs.length (y.fs.flatMap prC)) (he : cntR x = cntR y) :
    Calls Tryz.prog 42 #[.agg (rnL x), .agg (rnL y)] w (BRet (.bool true) w) := by
  obtain ⟨xk, xw, xs, xl, xa, xc, xh⟩ := x
  obtain ⟨yk, yw, ys, yl, ya, yc, yh⟩ := y
  simp only [cntR, Prod.mk.injEq] at he
  obtain ⟨rfl, rfl, rfl, rfl, rfl⟩ := he
  simp only at hx hy ⊢
  obtain ⟨n, hn⟩ : ∃ n, xh.length = n := ⟨_, rfl⟩
  rw [hn] at hx hy
  show Calls Tryz.prog 42 #[.agg #[.string xk, .string xw, .int .i64 xs, .int .i64 xl, .slice xa xh.length xc], .agg #[.string xk, .string xw, .int .i64 xs, .int .i64 xl, .slice ya xh.length yc]] w (BRet (.bool true) w)
  rw [hn]
  have hbw : Below w.heap.size w ((w.alloc (.cells #[.string xk, .string xw, .int .i64 xs, .int .i64 xl, .slice xa n xc] 101)).alloc (.cells #[.string xk, .string xw, .int .i64 xs, .int .i64 xl, .slice ya n yc] 101)) := ((Below.refl _ _).alloc (Nat.le_refl _) _).alloc (by simp) _
  have HE := Lib.hid (equalPrR_calls b xa ya n xc yc xh _ (hx.below hbw) (hy.below hbw))
  have HB := Lib.hid hbw
  clear hx hy hn hbw
  go_enter Tryz.func42, Tryz.ntmps42
  go_wp2_with fail
  refine HE.out.mono ?_
  rintro e w2 ⟨rfl, nq, rfl⟩
  have hb := below_drewN HB.out nq
  go_wp2_with fail
  go_ret
  exact ⟨rfl, hb⟩
set_option maxRecDepth 100000 in
set_option maxHeartbeats 1000000 in
theorem equalRn_calls (b : Nat) (A A2 : Option Addr) (n c c2 : Nat) (xs ys : List Rn) (w : World) (hr : Rd w b 5 (.slice A n c) n (xs.flatMap rnC)) (hr2 : Rd w b 5 (.slice A2 n c2) n (ys.flatMap rnC))
    (hx : ∀ x ∈ xs, Rd w b 2 (.slice x.fa x.fs.length x.fc) x.fs.length (x.fs.flatMap prC)) (hy : ∀ x ∈ ys, Rd w b 2 (.slice x.fa x.fs.length x.fc) x.fs.length (x.fs.flatMap prC)) (he : xs.map cntR = ys.map cntR) :
    Calls Tryz.prog 41 #[.slice A n c, .slice A2 n c2, .func (.func 42) #[] #[]] w (BRet (.bool true) w) := by
  obtain ⟨hl, hnc, hcm, hcells⟩ := hr.cells rnC_len (by omega)
  obtain ⟨hl2, _, hcm2, hcells2⟩ := hr2.cells rnC_len (by omega)
  unfold maxLen at hcm hcm2
  have HL := Lib.hid hl
  have HL2 := Lib.hid hl2
  have HC := Lib.hid hcells
  have HC2 := Lib.hid hcells2
  have HX := Lib.hid hx
  have HY := Lib.hid hy
  have HE := Lib.hid he
  have hnn : ((n : Int) != (n : Int)) = false := by simp
  clear hcells hcells2 hl hl2 hr hr2 hx hy he
  go_enter Tryz.func41, Tryz.ntmps41
  go_wp2_with fail
  clear hnn
  go_loopw [17] (fun i wr => ∃ k : Nat, k ≤ n ∧ i = .int .i64 k ∧ Below w.heap.size w wr) (fun i _ => n - (intOf i).toNat)
  case atStart => exact ⟨0, Nat.zero_le _, rfl, Below.refl _ _⟩
  case round =>
    obtain ⟨k, hk, rfl, hb⟩ := hrel
    by_cases hlt : k < n
    · have hkr : k < xs.length := by rw [HL.out]; exact hlt
      have hkr2 : k < ys.length := by rw [HL2.out]; exact hlt
      obtain ⟨g, o, hA, _, hcs⟩ := HC.out (by omega)
      obtain ⟨g2, o2, hA2, _, hcs2⟩ := HC2.out (by omega)
      subst hA hA2
      have c0 := below_cell hb (hcs k hkr 0 (by omega))
      have c1 := below_cell hb (hcs k hkr 1 (by omega))
      have c2 := below_cell hb (hcs k hkr 2 (by omega))
      have c3 := below_cell hb (hcs k hkr 3 (by omega))
      have c4 := below_cell hb (hcs k hkr 4 (by omega))
      have d0 := below_cell hb (hcs2 k hkr2 0 (by omega))
      have d1 := below_cell hb (hcs2 k hkr2 1 (by omega))
      have d2 := below_cell hb (hcs2 k hkr2 2 (by omega))
      have d3 := below_cell hb (hcs2 k hkr2 3 (by omega))
      have d4 := below_cell hb (hcs2 k hkr2 4 (by omega))
      have hxx := HX.out _ (List.getElem_mem hkr)
      have hyy := HY.out _ (List.getElem_mem hkr2)
      have hee : cntR xs[k] = cntR ys[k] := by
        have h1 : (xs.map cntR)[k]? = some (cntR xs[k]) := by rw [List.getElem?_map, List.getElem?_eq_getElem hkr]; rfl
        have h2 : (ys.map cntR)[k]? = some (cntR ys[k]) := by rw [List.getElem?_map, List.getElem?_eq_getElem hkr2]; rfl
        rw [HE.out] at h1
        exact Option.some.inj (h1.symm.trans h2)
      obtain ⟨x, hx⟩ : ∃ x, xs[k] = x := ⟨_, rfl⟩
      obtain ⟨y, hy⟩ : ∃ x, ys[k] = x := ⟨_, rfl⟩
      rw [hx] at c0 c1 c2 c3 c4 hxx hee
      rw [hy] at d0 d1 d2 d3 d4 hyy hee
      replace c0 : wr.cell? ⟨g, o + k * 5, none⟩ = some (.string x.id) := c0
      replace c1 : wr.cell? ⟨g, o + k * 5 + 1, none⟩ = some (.string x.who) := c1
      replace c2 : wr.cell? ⟨g, o + k * 5 + 2, none⟩ = some (.int .i64 x.time) := c2
      replace c3 : wr.cell? ⟨g, o + k * 5 + 3, none⟩ = some (.int .i64 x.date) := c3
      replace c4 : wr.cell? ⟨g, o + k * 5 + 4, none⟩ = some (.slice x.fa x.fs.length x.fc) := c4
      replace d0 : wr.cell? ⟨g2, o2 + k * 5, none⟩ = some (.string y.id) := d0
      replace d1 : wr.cell? ⟨g2, o2 + k * 5 + 1, none⟩ = some (.string y.who) := d1
      replace d2 : wr.cell? ⟨g2, o2 + k * 5 + 2, none⟩ = some (.int .i64 y.time) := d2
      replace d3 : wr.cell? ⟨g2, o2 + k * 5 + 3, none⟩ = some (.int .i64 y.date) := d3
      replace d4 : wr.cell? ⟨g2, o2 + k * 5 + 4, none⟩ = some (.slice y.fa y.fs.length y.fc) := d4
      have ha : ∀ p v, wr.cell? p = some v → (wr.alloc (.cells #[.string x.id, .string x.who, .int .i64 x.time, .int .i64 x.date, .slice x.fa x.fs.length x.fc] 101)).cell? p = some v := fun p v h => (World.cell?_alloc_lt wr _ p (World.block_lt_of_cell? wr p h)).trans h
      have d0 := ha _ _ d0
      have d1 := ha _ _ d1
      have d2 := ha _ _ d2
      have d3 := ha _ _ d3
      have d4 := ha _ _ d4
      clear ha
      have hb2 : Below w.heap.size w ((wr.alloc (.cells (rnL x) 101)).alloc (.cells (rnL y) 101)) := (hb.alloc (by have := hb.size; omega) _).alloc (by have := hb.size; simp; omega) _
      have HK := Lib.hid (sameRun_calls b x y _ (hxx.below hb2) (hyy.below hb2) hee)
      have HB2 := Lib.hid hb2
      have hk0 : (0 : Int) ≤ (k : Int) := by omega
      have hk1 : (k : Int) < (n : Int) := by omega
      clear hcs hcs2 hx hy hxx hyy hee hb2
      go_wp2_with fail
      refine HK.out.mono ?_
      rintro e w3 ⟨rfl, hb3⟩
      have hb4 := below_call HB2.out hb3 (Nat.le_refl _)
      go_wp2_with fail
      go_roundw
      case rel => exact ⟨k + 1, by omega, by go_num, hb4⟩
      case measure => simp [intOf]; omega
    · obtain rfl : k = n := by omega
      go_wp2_with fail
      go_ret
      exact ⟨rfl, hb⟩
end Go.Proofs.YthbcogekfdllmaaGreatDoor
