/-
  slices.Equal of strings, the reference's SameSlot, and EqualFunc of slots with it: true of slots that say the same.
-/
import Derived.Test.YthbcogekfdllmaaGreatDoorZBs
import Derived.Test.YthbcogekfdllmaaGreatDoorZSlot3
import Derived.Deep.RegionLaw
import Derived.Deep.QuietTactic
import Derived.BigQuiet
import Derived.Test.YthbcogekfdllmaaGreatDoorZBidX
namespace Go.Proofs.YthbcogekfdllmaaGreatDoor
open Go Go.RowKit
attribute [local go_sem ↓] Go.wp_at_zero Go.wp_at_succ

set_option maxRecDepth 100000 in
theorem equalStr_calls (b : Nat) (A A2 : Option Addr) (n c c2 : Nat) (hs : List ByteArray) (w : World) (hr : Rd w b 1 (.slice A n c) n (strsV hs)) (hr2 : Rd w b 1 (.slice A2 n c2) n (strsV hs)) :
    Calls Tryz.prog 29 #[.slice A n c, .slice A2 n c2] w (QRet (.bool true) w) := by
  obtain ⟨hl, hnc, hcm, hcells⟩ := strs_cells hr
  obtain ⟨_, _, hcm2, hcells2⟩ := strs_cells hr2
  unfold maxLen at hcm hcm2
  have HL := Lib.hid hl
  have HC := Lib.hid hcells
  have HC2 := Lib.hid hcells2
  have hnn : ((n : Int) != (n : Int)) = false := by simp
  clear hcells hcells2 hl hr hr2
  go_enter Tryz.func29, Tryz.ntmps29
  go_wp2_with fail
  go_loopw [13] (fun i wr => ∃ k nq : Nat, k ≤ n ∧ i = .int .i64 k ∧ wr = w.drewN nq) (fun i _ => n - (intOf i).toNat)
  case atStart => exact ⟨0, 0, Nat.zero_le _, rfl, rfl⟩
  case round =>
    obtain ⟨k, nq, hk, rfl, rfl⟩ := hrel
    by_cases hlt : k < n
    · have hkr : k < hs.length := by rw [HL.out]; exact hlt
      obtain ⟨g, o, hA, _, hcs⟩ := HC.out (by omega)
      obtain ⟨g2, o2, hA2, _, hcs2⟩ := HC2.out (by omega)
      subst hA hA2
      have c0 := hcs k hkr
      have x0 := hcs2 k hkr
      have hk0 : (0 : Int) ≤ (k : Int) := by omega
      have hk1 : (k : Int) < (n : Int) := by omega
      clear hcs hcs2
      go_wp2_with fail
      go_quiet (fail)
      go_wp2_with fail
      go_roundw
      case rel => exact ⟨k + 1, _, by omega, by go_num, rfl⟩
      case measure => simp [intOf]; omega
    · obtain rfl : k = n := by omega
      go_wp2_with fail
      go_ret
      exact ⟨rfl, nq, rfl⟩
set_option maxRecDepth 100000 in
theorem sameSlot_calls (b : Nat) (x y : Slt) (w : World) (hx : Rd w b 1 (.slice x.ha x.hosts.length x.hc) x.hosts.length (strsV x.hosts)) (hy : Rd w b 1 (.slice y.ha y.hosts.length y.hc) y.hosts.length (strsV y.hosts)) (he : cntS x = cntS y) :
    Calls Tryz.prog 31 #[.agg (sltL x), .agg (sltL y)] w (BRet (.bool true) w) := by
  obtain ⟨xk, xw, xa, xc, xh, xs, xl⟩ := x
  obtain ⟨yk, yw, ya, yc, yh, ys, yl⟩ := y
  simp only [cntS, Prod.mk.injEq] at he
  obtain ⟨rfl, rfl, rfl, rfl, rfl⟩ := he
  simp only at hx hy ⊢
  obtain ⟨n, hn⟩ : ∃ n, xh.length = n := ⟨_, rfl⟩
  rw [hn] at hx hy
  show Calls Tryz.prog 31 #[.agg #[.string xk, .string xw, .slice xa xh.length xc, .int .i64 xs, .int .i64 xl], .agg #[.string xk, .string xw, .slice ya xh.length yc, .int .i64 xs, .int .i64 xl]] w (BRet (.bool true) w)
  rw [hn]
  have hbw : Below w.heap.size w ((w.alloc (.cells #[.string xk, .string xw, .slice xa n xc, .int .i64 xs, .int .i64 xl] 64)).alloc (.cells #[.string xk, .string xw, .slice ya n yc, .int .i64 xs, .int .i64 xl] 64)) := ((Below.refl _ _).alloc (Nat.le_refl _) _).alloc (by simp) _
  have HE := Lib.hid (equalStr_calls b xa ya n xc yc xh _ (hx.below hbw) (hy.below hbw))
  have HB := Lib.hid hbw
  clear hx hy hn hbw
  go_enter Tryz.func31, Tryz.ntmps31
  go_wp2_with fail
  refine HE.out.mono ?_
  rintro e w2 ⟨rfl, nq, rfl⟩
  have hb := below_drewN HB.out nq
  go_wp2_with fail
  go_ret
  exact ⟨rfl, hb⟩
set_option maxRecDepth 100000 in
set_option maxHeartbeats 1000000 in
theorem equalSlt_calls (b : Nat) (A A2 : Option Addr) (n c c2 : Nat) (xs ys : List Slt) (w : World) (hr : Rd w b 5 (.slice A n c) n (xs.flatMap sltC)) (hr2 : Rd w b 5 (.slice A2 n c2) n (ys.flatMap sltC))
    (hx : ∀ x ∈ xs, Rd w b 1 (.slice x.ha x.hosts.length x.hc) x.hosts.length (strsV x.hosts)) (hy : ∀ x ∈ ys, Rd w b 1 (.slice x.ha x.hosts.length x.hc) x.hosts.length (strsV x.hosts)) (he : xs.map cntS = ys.map cntS) :
    Calls Tryz.prog 30 #[.slice A n c, .slice A2 n c2, .func (.func 31) #[] #[]] w (BRet (.bool true) w) := by
  obtain ⟨hl, hnc, hcm, hcells⟩ := hr.cells sltC_len (by omega)
  obtain ⟨hl2, _, hcm2, hcells2⟩ := hr2.cells sltC_len (by omega)
  unfold maxLen at hcm hcm2
  have HL := Lib.hid hl
  have HL2 := Lib.hid hl2
  have HC := Lib.hid hcells
  have HC2 := Lib.hid hcells2
  have HX := Lib.hid hx
  have HY := Lib.hid hy
  have HE := Lib.hid he
  have hnn : ((n : Int) != (n : Int)) = false := by simp
  clear hcells hcells2 hl hl2 hr hr2 hx hy he
  go_enter Tryz.func30, Tryz.ntmps30
  go_wp2_with fail
  clear hnn
  go_loopw [17] (fun i wr => ∃ k : Nat, k ≤ n ∧ i = .int .i64 k ∧ Below w.heap.size w wr) (fun i _ => n - (intOf i).toNat)
  case atStart => exact ⟨0, Nat.zero_le _, rfl, Below.refl _ _⟩
  case round =>
    obtain ⟨k, hk, rfl, hb⟩ := hrel
    by_cases hlt : k < n
    · have hkr : k < xs.length := by rw [HL.out]; exact hlt
      have hkr2 : k < ys.length := by rw [HL2.out]; exact hlt
      obtain ⟨g, o, hA, _, hcs⟩ := HC.out (by omega)
      obtain ⟨g2, o2, hA2, _, hcs2⟩ := HC2.out (by omega)
      subst hA hA2
      have c0 := below_cell hb (hcs k hkr 0 (by omega))
      have c1 := below_cell hb (hcs k hkr 1 (by omega))
      have c2 := below_cell hb (hcs k hkr 2 (by omega))
      have c3 := below_cell hb (hcs k hkr 3 (by omega))
      have c4 := below_cell hb (hcs k hkr 4 (by omega))
      have d0 := below_cell hb (hcs2 k hkr2 0 (by omega))
      have d1 := below_cell hb (hcs2 k hkr2 1 (by omega))
      have d2 := below_cell hb (hcs2 k hkr2 2 (by omega))
      have d3 := below_cell hb (hcs2 k hkr2 3 (by omega))
      have d4 := below_cell hb (hcs2 k hkr2 4 (by omega))
      have hxx := HX.out _ (List.getElem_mem hkr)
      have hyy := HY.out _ (List.getElem_mem hkr2)
      have hee : cntS xs[k] = cntS ys[k] := by
        have h1 : (xs.map cntS)[k]? = some (cntS xs[k]) := by rw [List.getElem?_map, List.getElem?_eq_getElem hkr]; rfl
        have h2 : (ys.map cntS)[k]? = some (cntS ys[k]) := by rw [List.getElem?_map, List.getElem?_eq_getElem hkr2]; rfl
        rw [HE.out] at h1
        exact Option.some.inj (h1.symm.trans h2)
      obtain ⟨x, hx⟩ : ∃ x, xs[k] = x := ⟨_, rfl⟩
      obtain ⟨y, hy⟩ : ∃ x, ys[k] = x := ⟨_, rfl⟩
      rw [hx] at c0 c1 c2 c3 c4 hxx hee
      rw [hy] at d0 d1 d2 d3 d4 hyy hee
      replace c0 : wr.cell? ⟨g, o + k * 5, none⟩ = some (.string x.key) := c0
      replace c1 : wr.cell? ⟨g, o + k * 5 + 1, none⟩ = some (.string x.who) := c1
      replace c2 : wr.cell? ⟨g, o + k * 5 + 2, none⟩ = some (.slice x.ha x.hosts.length x.hc) := c2
      replace c3 : wr.cell? ⟨g, o + k * 5 + 3, none⟩ = some (.int .i64 x.setup) := c3
      replace c4 : wr.cell? ⟨g, o + k * 5 + 4, none⟩ = some (.int .i64 x.long) := c4
      replace d0 : wr.cell? ⟨g2, o2 + k * 5, none⟩ = some (.string y.key) := d0
      replace d1 : wr.cell? ⟨g2, o2 + k * 5 + 1, none⟩ = some (.string y.who) := d1
      replace d2 : wr.cell? ⟨g2, o2 + k * 5 + 2, none⟩ = some (.slice y.ha y.hosts.length y.hc) := d2
      replace d3 : wr.cell? ⟨g2, o2 + k * 5 + 3, none⟩ = some (.int .i64 y.setup) := d3
      replace d4 : wr.cell? ⟨g2, o2 + k * 5 + 4, none⟩ = some (.int .i64 y.long) := d4
      have ha : ∀ p v, wr.cell? p = some v → (wr.alloc (.cells #[.string x.key, .string x.who, .slice x.ha x.hosts.length x.hc, .int .i64 x.setup, .int .i64 x.long] 64)).cell? p = some v := fun p v h => (World.cell?_alloc_lt wr _ p (World.block_lt_of_cell? wr p h)).trans h
      have d0 := ha _ _ d0
      have d1 := ha _ _ d1
      have d2 := ha _ _ d2
      have d3 := ha _ _ d3
      have d4 := ha _ _ d4
      clear ha
      have hb2 : Below w.heap.size w ((wr.alloc (.cells (sltL x) 64)).alloc (.cells (sltL y) 64)) := (hb.alloc (by have := hb.size; omega) _).alloc (by have := hb.size; simp; omega) _
      have HK := Lib.hid (sameSlot_calls b x y _ (hxx.below hb2) (hyy.below hb2) hee)
      have HB2 := Lib.hid hb2
      have hk0 : (0 : Int) ≤ (k : Int) := by omega
      have hk1 : (k : Int) < (n : Int) := by omega
      clear hcs hcs2 hx hy hxx hyy hee hb2
      go_wp2_with fail
      refine HK.out.mono ?_
      rintro e w3 ⟨rfl, hb3⟩
      have hb4 := below_call HB2.out hb3 (Nat.le_refl _)
      go_wp2_with fail
      go_roundw
      case rel => exact ⟨k + 1, by omega, by go_num, hb4⟩
      case measure => simp [intOf]; omega
    · obtain rfl : k = n := by omega
      go_wp2_with fail
      go_ret
      exact ⟨rfl, hb⟩
end Go.Proofs.YthbcogekfdllmaaGreatDoor
/-
  The closure that compares bids, and EqualFunc of bids with it: true of bids that say the same. (Turned out of XMov3.)
-/
namespace Go.Proofs.YthbcogekfdllmaaGreatDoor
open Go Go.RowKit
attribute [local go_sem ↓] Go.wp_at_zero Go.wp_at_succ

abbrev bdL (x : Bd) : Array Value := #[.string x.key, .string x.before, .int .i64 x.goal, .slice x.oa x.opts.length x.oc]
set_option maxRecDepth 100000 in
theorem sameBid_calls (b : Nat) (x y : Bd) (w : World) (hx : Rd w b 1 (.slice x.oa x.opts.length x.oc) x.opts.length (strsV x.opts)) (hy : Rd w b 1 (.slice y.oa y.opts.length y.oc) y.opts.length (strsV y.opts)) (he : cntB x = cntB y) :
    Calls Tryz.prog 28 #[.agg (bdL x), .agg (bdL y)] w (BRet (.bool true) w) := by
  obtain ⟨xk, xw, xs, xa, xc, xh⟩ := x
  obtain ⟨yk, yw, ys, ya, yc, yh⟩ := y
  simp only [cntB, Prod.mk.injEq] at he
  obtain ⟨rfl, rfl, rfl, rfl⟩ := he
  simp only at hx hy ⊢
  obtain ⟨n, hn⟩ : ∃ n, xh.length = n := ⟨_, rfl⟩
  rw [hn] at hx hy
  show Calls Tryz.prog 28 #[.agg #[.string xk, .string xw, .int .i64 xs, .slice xa xh.length xc], .agg #[.string xk, .string xw, .int .i64 xs, .slice ya xh.length yc]] w (BRet (.bool true) w)
  rw [hn]
  have hbw : Below w.heap.size w ((w.alloc (.cells #[.string xk, .string xw, .int .i64 xs, .slice xa n xc] 77)).alloc (.cells #[.string xk, .string xw, .int .i64 xs, .slice ya n yc] 77)) := ((Below.refl _ _).alloc (Nat.le_refl _) _).alloc (by simp) _
  have HE := Lib.hid (equalStr_calls b xa ya n xc yc xh _ (hx.below hbw) (hy.below hbw))
  have HB := Lib.hid hbw
  clear hx hy hn hbw
  go_enter Tryz.func28, Tryz.ntmps28
  go_wp2_with fail
  refine HE.out.mono ?_
  rintro e w2 ⟨rfl, nq, rfl⟩
  have hb := below_drewN HB.out nq
  go_wp2_with fail
  go_ret
  exact ⟨rfl, hb⟩
set_option maxRecDepth 100000 in
set_option maxHeartbeats 1000000 in
theorem equalBd_calls (b : Nat) (A A2 : Option Addr) (n c c2 : Nat) (xs ys : List Bd) (w : World) (hr : Rd w b 4 (.slice A n c) n (xs.flatMap bdC)) (hr2 : Rd w b 4 (.slice A2 n c2) n (ys.flatMap bdC))
    (hx : ∀ x ∈ xs, Rd w b 1 (.slice x.oa x.opts.length x.oc) x.opts.length (strsV x.opts)) (hy : ∀ x ∈ ys, Rd w b 1 (.slice x.oa x.opts.length x.oc) x.opts.length (strsV x.opts)) (he : xs.map cntB = ys.map cntB) :
    Calls Tryz.prog 33 #[.slice A n c, .slice A2 n c2, .func (.func 28) #[] #[]] w (BRet (.bool true) w) := by
  obtain ⟨hl, hnc, hcm, hcells⟩ := hr.cells bdC_len (by omega)
  obtain ⟨hl2, _, hcm2, hcells2⟩ := hr2.cells bdC_len (by omega)
  unfold maxLen at hcm hcm2
  have HL := Lib.hid hl
  have HL2 := Lib.hid hl2
  have HC := Lib.hid hcells
  have HC2 := Lib.hid hcells2
  have HX := Lib.hid hx
  have HY := Lib.hid hy
  have HE := Lib.hid he
  have hnn : ((n : Int) != (n : Int)) = false := by simp
  clear hcells hcells2 hl hl2 hr hr2 hx hy he
  go_enter Tryz.func33, Tryz.ntmps33
  go_wp2_with fail
  clear hnn
  go_loopw [17] (fun i wr => ∃ k : Nat, k ≤ n ∧ i = .int .i64 k ∧ Below w.heap.size w wr) (fun i _ => n - (intOf i).toNat)
  case atStart => exact ⟨0, Nat.zero_le _, rfl, Below.refl _ _⟩
  case round =>
    obtain ⟨k, hk, rfl, hb⟩ := hrel
    by_cases hlt : k < n
    · have hkr : k < xs.length := by rw [HL.out]; exact hlt
      have hkr2 : k < ys.length := by rw [HL2.out]; exact hlt
      obtain ⟨g, o, hA, _, hcs⟩ := HC.out (by omega)
      obtain ⟨g2, o2, hA2, _, hcs2⟩ := HC2.out (by omega)
      subst hA hA2
      have c0 := below_cell hb (hcs k hkr 0 (by omega))
      have c1 := below_cell hb (hcs k hkr 1 (by omega))
      have c2 := below_cell hb (hcs k hkr 2 (by omega))
      have c3 := below_cell hb (hcs k hkr 3 (by omega))
      have d0 := below_cell hb (hcs2 k hkr2 0 (by omega))
      have d1 := below_cell hb (hcs2 k hkr2 1 (by omega))
      have d2 := below_cell hb (hcs2 k hkr2 2 (by omega))
      have d3 := below_cell hb (hcs2 k hkr2 3 (by omega))
      have hxx := HX.out _ (List.getElem_mem hkr)
      have hyy := HY.out _ (List.getElem_mem hkr2)
      have hee : cntB xs[k] = cntB ys[k] := by
        have h1 : (xs.map cntB)[k]? = some (cntB xs[k]) := by rw [List.getElem?_map, List.getElem?_eq_getElem hkr]; rfl
        have h2 : (ys.map cntB)[k]? = some (cntB ys[k]) := by rw [List.getElem?_map, List.getElem?_eq_getElem hkr2]; rfl
        rw [HE.out] at h1
        exact Option.some.inj (h1.symm.trans h2)
      obtain ⟨x, hx⟩ : ∃ x, xs[k] = x := ⟨_, rfl⟩
      obtain ⟨y, hy⟩ : ∃ x, ys[k] = x := ⟨_, rfl⟩
      rw [hx] at c0 c1 c2 c3 hxx hee
      rw [hy] at d0 d1 d2 d3 hyy hee
      replace c0 : wr.cell? ⟨g, o + k * 4, none⟩ = some (.string x.key) := c0
      replace c1 : wr.cell? ⟨g, o + k * 4 + 1, none⟩ = some (.string x.before) := c1
      replace c2 : wr.cell? ⟨g, o + k * 4 + 2, none⟩ = some (.int .i64 x.goal) := c2
      replace c3 : wr.cell? ⟨g, o + k * 4 + 3, none⟩ = some (.slice x.oa x.opts.length x.oc) := c3
      replace d0 : wr.cell? ⟨g2, o2 + k * 4, none⟩ = some (.string y.key) := d0
      replace d1 : wr.cell? ⟨g2, o2 + k * 4 + 1, none⟩ = some (.string y.before) := d1
      replace d2 : wr.cell? ⟨g2, o2 + k * 4 + 2, none⟩ = some (.int .i64 y.goal) := d2
      replace d3 : wr.cell? ⟨g2, o2 + k * 4 + 3, none⟩ = some (.slice y.oa y.opts.length y.oc) := d3
      have ha : ∀ p v, wr.cell? p = some v → (wr.alloc (.cells #[.string x.key, .string x.before, .int .i64 x.goal, .slice x.oa x.opts.length x.oc] 77)).cell? p = some v := fun p v h => (World.cell?_alloc_lt wr _ p (World.block_lt_of_cell? wr p h)).trans h
      have d0 := ha _ _ d0
      have d1 := ha _ _ d1
      have d2 := ha _ _ d2
      have d3 := ha _ _ d3
      clear ha
      have hb2 : Below w.heap.size w ((wr.alloc (.cells (bdL x) 77)).alloc (.cells (bdL y) 77)) := (hb.alloc (by have := hb.size; omega) _).alloc (by have := hb.size; simp; omega) _
      have HK := Lib.hid (sameBid_calls b x y _ (hxx.below hb2) (hyy.below hb2) hee)
      have HB2 := Lib.hid hb2
      have hk0 : (0 : Int) ≤ (k : Int) := by omega
      have hk1 : (k : Int) < (n : Int) := by omega
      clear hcs hcs2 hx hy hxx hyy hee hb2
      go_wp2_with fail
      refine HK.out.mono ?_
      rintro e w3 ⟨rfl, hb3⟩
      have hb4 := below_call HB2.out hb3 (Nat.le_refl _)
      go_wp2_with fail
      go_roundw
      case rel => exact ⟨k + 1, by omega, by go_num, hb4⟩
      case measure => simp [intOf]; omega
    · obtain rfl : k = n := by omega
      go_wp2_with fail
      go_ret
      exact ⟨rfl, hb⟩
end Go.Proofs.YthbcogekfdllmaaGreatDoor
