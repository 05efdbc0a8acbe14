/-
  marathon.won by a contract. (Printed by gen_bid9.py.)
-/
import Derived.Test.YthbcogekfdllmaaGreatDoorZBid4
import Derived.Test.YthbcogekfdllmaaGreatDoorZBid1
import Derived.Test.YthbcogekfdllmaaGreatDoorZMap
import Derived.Deep.RegionHeld3
import Derived.Deep.DeepCutAuto
namespace Go.Proofs.YthbcogekfdllmaaGreatDoor
open Go Go.RowKit
attribute [local go_sem ↓] Go.wp_at_zero Go.wp_at_succ

/-- a map of numbers -/
def mapZ (C : ByteArray → Option Int) : ByteArray → Option Value := fun s => (C s).map (Value.int .i64)
theorem mapZ_get (C : ByteArray → Option Int) (s : ByteArray) : (mapZ C s).getD (.int .i64 0) = .int .i64 ((C s).getD 0) := by
  unfold mapZ
  cases C s <;> rfl
theorem mapZ_upd (C : ByteArray → Option Int) (s : ByteArray) (v : Int) : upd (mapZ C) s (.int .i64 v) = mapZ (updZ C s v) := by
  funext t
  unfold upd mapZ updZ
  split <;> rfl
theorem zero_int (w : World) : (zeroValue 3).run Tryz.prog w = .ok (.int .i64 0) w := by kernel_rfl
theorem z_look {W : World} {g N : Nat} {C : ByteArray → Option Int} (h : MapS W 9 g N (mapZ C)) {s : ByteArray} (hs : s.size ≤ 1000) :
    (Instr.lookup 169 (.map (some g)) (.string s) false).run Tryz.prog W = .ok (.int .i64 ((C s).getD 0)) W := by
  have := h.look Tryz.underlying9 Tryz.underlying169 (zero_int W) (s := s) (by unfold maxLen; omega)
  rw [mapZ_get] at this
  exact this
theorem z_put {w W : World} {l : List Rsc} {g N : Nat} {C : ByteArray → Option Int} (hS : Sq w W (rMap 9 g N (mapZ C) :: l)) (hN : N ≤ 200000) {s : ByteArray} (hs : s.size ≤ 1000) (v : Int) :
    ∃ W', (Instr.mapUpdate 169 (.map (some g)) (.string s) (.int .i64 v)).run Tryz.prog W = .ok () W' ∧ Sq w W' (rMap 9 g (N + 1) (mapZ (updZ C s v)) :: l) := by
  have h : MapS W 9 g N (mapZ C) := hS.head
  obtain ⟨W', h1, h2, h3⟩ := h.update Tryz.underlying9 Tryz.underlying169 (by unfold maxLen; omega) (s := s) (by unfold maxLen; omega) (.int .i64 v)
  rw [mapZ_upd] at h2
  exact ⟨W', h1, hS.mapSet h2 h3⟩
theorem Sq.mapMore {w W : World} {l : List Rsc} {kt : TypeId} {g n n' : Nat} {f : ByteArray → Option Value} (h : Sq w W (rMap kt g n f :: l)) (hn : n ≤ n') : Sq w W (rMap kt g n' f :: l) :=
  ⟨h.below, h.hp.tail.cons (MapS.mono h.head hn) (rMap_ok _ _ _ _) (fun k hk => h.hp.new _ (List.mem_cons_self ..) k hk) (fun s hs k hk hk2 => (List.pairwise_cons.1 h.hp.apart).1 s hs k hk hk2)⟩
/-- the sums are bounded -/
theorem wonC_bd (key : ByteArray) (before : Int) {gs : List Gf} (hg : ∀ x ∈ gs, GfOk x) : ∀ (k : Nat) (s : ByteArray), -2199023255552 * (k : Int) ≤ (wonC key before gs k s).getD 0 ∧ (wonC key before gs k s).getD 0 ≤ 2199023255552 * (k : Int)
  | 0, s => by simp [wonC]
  | k + 1, s => by
    have ih := wonC_bd key before hg k
    by_cases hk : k < gs.length
    · have hx := (hg _ (List.getElem_mem hk)).hc
      rw [wonC_step key before gs k hk]
      split
      · unfold updZ
        split
        · have := ih gs[k].option
          simp only [Option.getD_some]
          omega
        · have := ih s
          omega
      · have := ih s
        omega
    · rw [wonC, List.getElem?_eq_none (by omega)]
      have := ih s
      simp only
      omega
theorem bestTo_ok (C L : ByteArray → Int) (opts : List ByteArray) (h : ∀ s ∈ opts, s.size ≤ 1000) : ∀ k, k ≤ opts.length → (bestTo C L opts k).size ≤ 1000
  | 0, _ => by show (⟨#[]⟩ : ByteArray).size ≤ 1000; decide
  | k + 1, hk => by
    rw [bestTo_step C L opts k (by omega)]
    split
    · exact h _ (List.getElem_mem (by omega))
    · exact bestTo_ok C L opts h k (by omega)

set_option maxRecDepth 100000 in
set_option maxHeartbeats 4000000 in
theorem won_calls (b : Nat) (x : Bd) (A : Option Addr) (n c : Nat) (gs : List Gf) (before : Int) (w : World) (hx : BdOk w b x) (hr : Rd w b 5 (.slice A n c) n (gs.flatMap gfC)) (hgs : ∀ x ∈ gs, GfOk x) (hn : n ≤ 100000) (hbf : -4611686018427387904 ≤ before ∧ before ≤ 4611686018427387904) :
    Calls Tryz.prog 84 #[.agg #[.string x.key, .string x.before, .int .i64 x.goal, .slice x.oa x.opts.length x.oc], .slice A n c, .int .i64 before] w (BRet (.tuple #[.string (wonP x gs before).1, .int .i64 (wonP x gs before).2.1, .bool (wonP x gs before).2.2]) w) := by
  obtain ⟨hl, hnc, hcm, hcells⟩ := hr.cells gfC_len (by omega)
  unfold maxLen at hcm
  obtain ⟨key, bef, go, oa, oc, opts⟩ := x
  obtain ⟨h1, h2, h3, h4, h5, h6⟩ := hx
  simp only at h1 h2 h3 h4 h5 h6 ⊢
  obtain ⟨m, hm⟩ : ∃ m, opts.length = m := ⟨_, rfl⟩
  rw [hm] at h1 h5 ⊢
  obtain ⟨hol, honc, hocm, hoc⟩ := strs_cells h1
  unfold maxLen at hocm
  have hS0 : Sq w (((w.alloc (.cells #[.string key, .string bef, .int .i64 go, .slice oa m oc] 77)).alloc (.map #[] 0)).alloc (.map #[] 0)) [rMap 9 (w.heap.size + 1) 0 (mapZ (wonC key before gs 0)), rMap 9 (w.heap.size + 1 + 1) 0 (mapZ (wonL key before gs 0)), rBlk w.heap.size 77 #[.string key, .string bef, .int .i64 go, .slice oa m oc]] := by
    have h := ((((Sq.start w).add #[.string key, .string bef, .int .i64 go, .slice oa m oc] 77).addMap 9).addMap 9)
    simp only [World.size_alloc] at h
    exact h.front 1 rfl rfl
  have HL := Lib.hid hl
  have HC := Lib.hid hcells
  have HGS := Lib.hid hgs
  have HOL := Lib.hid hol
  have HOC := Lib.hid hoc
  have HHS := Lib.hid h4
  have hmm := @run_makeMap Tryz.prog
  obtain ⟨hb0, hb1⟩ := hbf
  obtain ⟨go0, go1⟩ := h6
  clear hcells hl hr hgs h1 h2 h3 h4 hm hol hoc
  go_enter Tryz.func84, Tryz.ntmps84
  go_wp2_with fail
  clear hmm
  go_loopw [20] (fun i wr => ∃ k : Nat, k ≤ n ∧ i = .int .i64 k ∧ Sq w wr [rMap 9 (w.heap.size + 1) k (mapZ (wonC key before gs k)), rMap 9 (w.heap.size + 1 + 1) k (mapZ (wonL key before gs k)), rBlk w.heap.size 77 #[.string key, .string bef, .int .i64 go, .slice oa m oc]]) (fun i _ => n - (intOf i).toNat)
  case atStart => exact ⟨0, Nat.zero_le _, rfl, hS0⟩
  case round =>
    clear hS0
    obtain ⟨k, hk, rfl, hS⟩ := hrel
    by_cases hlt : k < n
    · have hkr : k < gs.length := by rw [HL.out]; exact hlt
      obtain ⟨g, o, hA, _, hcs⟩ := HC.out (by omega)
      subst hA
      have hok := HGS.out _ (List.getElem_mem hkr)
      have hbd := wonC_bd key before HGS.out k
      have hsc := wonC_step key before gs k hkr
      have hsl := wonL_step key before gs k hkr
      have c0 := below_cell hS.below (hcs k hkr 0 (by omega))
      have c1 := below_cell hS.below (hcs k hkr 1 (by omega))
      have c2 := below_cell hS.below (hcs k hkr 2 (by omega))
      have c3 := below_cell hS.below (hcs k hkr 3 (by omega))
      have c4 := below_cell hS.below (hcs k hkr 4 (by omega))
      obtain ⟨x, hx⟩ : ∃ x, gs[k] = x := ⟨_, rfl⟩
      rw [hx] at c0 c1 c2 c3 c4 hok hsc hsl
      obtain ⟨xi, xa, xc, xb, xo⟩ := x
      have hoz : xo.size ≤ 1000 := hok.ho
      have hxc : -2199023255552 ≤ xc ∧ xc ≤ 2199023255552 := hok.hc
      have hxa : -2199023255552 ≤ xa ∧ xa ≤ 2199023255552 := hok.ha
      simp only at hsc hsl
      replace c0 : wr.cell? ⟨g, o + k * 5, none⟩ = some (.string xi) := c0
      replace c1 : wr.cell? ⟨g, o + k * 5 + 1, none⟩ = some (.int .i64 xa) := c1
      replace c2 : wr.cell? ⟨g, o + k * 5 + 2, none⟩ = some (.int .i64 xc) := c2
      replace c3 : wr.cell? ⟨g, o + k * 5 + 3, none⟩ = some (.string xb) := c3
      replace c4 : wr.cell? ⟨g, o + k * 5 + 4, none⟩ = some (.string xo) := c4
      have hSa := (((hS.add #[.string xi, .int .i64 xa, .int .i64 xc, .string xb, .string xo] 88).front 2 rfl rfl).front 2 rfl rfl)
      obtain ⟨gx, hgx⟩ : ∃ gx, wr.heap.size = gx := ⟨_, rfl⟩
      obtain ⟨wa, hwa⟩ : ∃ wa, wr.alloc (.cells #[.string xi, .int .i64 xa, .int .i64 xc, .string xb, .string xo] 88) = wa := ⟨_, rfl⟩
      rw [hwa, hgx] at hSa
      have hzb := hbd xo
      obtain ⟨CV, hCV⟩ : ∃ z, (wonC key before gs k xo).getD 0 = z := ⟨_, rfl⟩
      rw [hCV] at hzb hsc
      have hlk := z_look (show MapS wa 9 (w.heap.size + 1) k (mapZ (wonC key before gs k)) from hSa.head) hoz
      rw [hCV] at hlk
      obtain ⟨y0, y1, y2, y3, y4⟩ := blk5 (show Blk wa gx 88 #[.string xi, .int .i64 xa, .int .i64 xc, .string xb, .string xo] from hSa.nth 2 rfl)
      obtain ⟨z0, z1, z2, z3⟩ := blk4 (show Blk wa w.heap.size 77 #[.string key, .string bef, .int .i64 go, .slice oa m oc] from hSa.nth 3 rfl)
      obtain ⟨hxc0, hxc1⟩ := hxc
      obtain ⟨hxa0, hxa1⟩ := hxa
      obtain ⟨hzb0, hzb1⟩ := hzb
      have hsum : -9223372036854775808 ≤ CV + xc ∧ CV + xc ≤ 9223372036854775807 := by omega
      obtain ⟨hsum0, hsum1⟩ := hsum
      have hHB : hitB key before ⟨xi, xa, xc, xb, xo⟩ = ((xb.toList == key.toList) && decide (xa < before)) := rfl
      rw [hHB] at hsc hsl
      have hSno : ((xb.toList == key.toList) && decide (xa < before)) = false → Sq w wa [rMap 9 (w.heap.size + 1) (k + 1) (mapZ (wonC key before gs (k + 1))), rMap 9 (w.heap.size + 1 + 1) (k + 1) (mapZ (wonL key before gs (k + 1))), rBlk w.heap.size 77 #[.string key, .string bef, .int .i64 go, .slice oa m oc]] := fun h => by
        rw [h, if_neg (by decide)] at hsc hsl
        rw [hsc, hsl]
        exact (((hSa.mapMore (n' := k + 1) (by omega)).front 1 rfl rfl).mapMore (n' := k + 1) (by omega)).front 1 rfl rfl |>.drop 2 rfl rfl
      have HNO := Lib.hid hSno
      have HSC := Lib.hid hsc
      have HSL := Lib.hid hsl
      clear hcs hok hx hbd hCV hHB hSno hsc hsl hS
      cases he : (xb.toList == key.toList)
      · have hN := Lib.hid (HNO.out (by rw [he]; rfl))
        clear hSa HNO HSC HSL hlk
        go_wp2_with fail
        go_roundw
        case rel => exact ⟨k + 1, by omega, by go_num, hN.out⟩
        case measure => simp [intOf]; omega
      · by_cases hlt3 : xa < before
        · have hh : ((xb.toList == key.toList) && decide (xa < before)) = true := by rw [he]; simpa using hlt3
          have hsc := HSC.out
          have hsl := HSL.out
          rw [hh, if_pos rfl] at hsc hsl
          obtain ⟨w5, hput, hS5⟩ := z_put hSa (by omega) hoz (CV + xc)
          have hS5b := hS5.front 1 rfl rfl
          obtain ⟨w6, hput2, hS6⟩ := z_put hS5b (by omega) hoz (k : Int)
          obtain ⟨v0, v1, v2, v3, v4⟩ := blk5 (show Blk w5 gx 88 #[.string xi, .int .i64 xa, .int .i64 xc, .string xb, .string xo] from hS5.nth 2 rfl)
          have hS7 : Sq w w6 [rMap 9 (w.heap.size + 1) (k + 1) (mapZ (wonC key before gs (k + 1))), rMap 9 (w.heap.size + 1 + 1) (k + 1) (mapZ (wonL key before gs (k + 1))), rBlk w.heap.size 77 #[.string key, .string bef, .int .i64 go, .slice oa m oc]] := by
            rw [hsc, hsl]
            exact (hS6.front 1 rfl rfl).drop 2 rfl rfl
          have H7 := Lib.hid hS7
          clear hSa hS5 hS5b hS6 hS7 hsc hsl hh HNO HSC HSL
          go_wp2_with fail
          go_roundw
          case rel => exact ⟨k + 1, by omega, by go_num, H7.out⟩
          case measure => simp [intOf]; omega
        · have hN := Lib.hid (HNO.out (by rw [he]; simpa using hlt3))
          clear hSa HNO HSC HSL hlk
          go_wp2_with fail
          go_roundw
          case rel => exact ⟨k + 1, by omega, by go_num, hN.out⟩
          case measure => simp [intOf]; omega
    · obtain rfl : k = n := by omega
      obtain ⟨C, hC⟩ : ∃ C : ByteArray → Int, (fun s => (wonC key before gs k s).getD 0) = C := ⟨_, rfl⟩
      obtain ⟨L, hL⟩ : ∃ L : ByteArray → Int, (fun s => (wonL key before gs k s).getD 0) = L := ⟨_, rfl⟩
      have HLC : Hid (∀ s : ByteArray, s.size ≤ 1000 → (Instr.lookup 169 (.map (some (w.heap.size + 1))) (.string s) false).run Tryz.prog wr = .ok (.int .i64 (C s)) wr) := fun s hs => by
        have h := z_look (show MapS wr 9 (w.heap.size + 1) k (mapZ (wonC key before gs k)) from hS.head) hs
        have e : (wonC key before gs k s).getD 0 = C s := congrFun hC s
        rw [e] at h
        exact h
      have HLD : Hid (∀ s : ByteArray, s.size ≤ 1000 → (Instr.lookup 169 (.map (some (w.heap.size + 1))) (.string s) false).run Tryz.prog wr.drew = .ok (.int .i64 (C s)) wr.drew) := fun s hs => by
        have h := z_look (MapS.below (show MapS wr 9 (w.heap.size + 1) k (mapZ (wonC key before gs k)) from hS.head) (below_drewN (Below.refl _ _) 1)) hs
        have e : (wonC key before gs k s).getD 0 = C s := congrFun hC s
        rw [e] at h
        exact h
      have HLL : Hid (∀ s : ByteArray, s.size ≤ 1000 → (Instr.lookup 169 (.map (some (w.heap.size + 1 + 1))) (.string s) false).run Tryz.prog wr = .ok (.int .i64 (L s)) wr) := fun s hs => by
        have h := z_look (show MapS wr 9 (w.heap.size + 1 + 1) k (mapZ (wonL key before gs k)) from hS.nth 1 rfl) hs
        have e : (wonL key before gs k s).getD 0 = L s := congrFun hL s
        rw [e] at h
        exact h
      have hW : wonP ⟨key, bef, go, oa, oc, opts⟩ gs before = if opts = [] then (⟨#[]⟩, C ⟨#[]⟩, decide (go ≤ C ⟨#[]⟩)) else (bestTo C L opts opts.length, C (bestTo C L opts opts.length), !eqS (bestTo C L opts opts.length) ⟨#[]⟩) := by
        rw [← hC, ← hL]
        unfold wonP
        rw [HL.out]
      obtain ⟨z0, z1, z2, z3⟩ := blk4 (show Blk wr w.heap.size 77 #[.string key, .string bef, .int .i64 go, .slice oa m oc] from hS.nth 2 rfl)
      have hbb := hS.below
      clear hS hC hL
      by_cases hm0 : m = 0
      · subst hm0
        have ho : opts = [] := List.eq_nil_of_length_eq_zero HOL.out
        rw [if_pos ho] at hW
        have hlk := HLC.out ⟨#[]⟩ (by decide)
        obtain ⟨Z, hZ⟩ : ∃ Z, C ⟨#[]⟩ = Z := ⟨_, rfl⟩
        have hld := HLD.out ⟨#[]⟩ (by decide)
        rw [hZ] at hlk hW hld
        have HW := Lib.hid hW
        have HKD : Hid (wr.drew.cell? ⟨w.heap.size, 2, none⟩ = some (.int .i64 go) ∧ (Instr.lookup 169 (.map (some (w.heap.size + 1))) (.string ⟨#[]⟩) false).run Tryz.prog wr.drew = .ok (.int .i64 Z) wr.drew) := ⟨z2, hld⟩
        clear hW ho hZ hld
        go_wp2_with fail
        go_region_held3 (fun W => W.cell? ⟨w.heap.size, 2, none⟩ = some (.int .i64 go) ∧ (Instr.lookup 169 (.map (some (w.heap.size + 1))) (.string ⟨#[]⟩) false).run Tryz.prog W = .ok (.int .i64 Z) W) (first | exact HKD.out | go_keep) (fail)
        all_goals
          go_wp2_with fail
          go_ret3
          rw [HW.out]
          exact ⟨rfl, below_drewN hbb _⟩
      · have hne : opts ≠ [] := by intro e; rw [e] at HOL; exact hm0 HOL.out.symm
        rw [if_neg hne, HOL.out] at hW
        have HW := Lib.hid hW
        have hmp : 0 < m := by omega
        have hmz : ((m : Int) == 0) = false := by rw [beq_eq_false_iff_ne]; omega
        have hb0 : Hid (bestTo C L opts 0 = ⟨#[]⟩) := rfl
        obtain ⟨g, o, hA, _, hcs⟩ := HOC.out hmp
        subst hA
        have HCS := Lib.hid hcs
        clear hW hne hcs hm0
        go_wp2_with fail
        go_loopw [13, 62] (fun be i w3 => ∃ j : Nat, j ≤ m ∧ i = .int .i64 j ∧ be = .string (bestTo C L opts j) ∧ w3 = wr) (fun _ i _ => m - (intOf i).toNat)
        case atStart => exact ⟨0, Nat.zero_le _, rfl, rfl, rfl⟩
        case round =>
          clear hb0
          obtain ⟨j, hj, rfl, rfl, rfl⟩ := hrel
          have hBz := bestTo_ok C L opts HHS.out j (by rw [HOL.out]; exact hj)
          by_cases hlt2 : j < m
          · have hjr : j < opts.length := by rw [HOL.out]; exact hlt2
            have hsz := HHS.out _ (List.getElem_mem hjr)
            have hst := bestTo_step C L opts j hjr
            have c0 := below_cell hbb (HCS.out j hjr)
            obtain ⟨s, hs'⟩ : ∃ s, opts[j] = s := ⟨_, rfl⟩
            rw [hs'] at hsz hst c0
            obtain ⟨B, hB⟩ : ∃ B, bestTo C L opts j = B := ⟨_, rfl⟩
            rw [hB] at hBz hst ⊢
            have l1 := HLC.out s hsz
            have l2 := HLC.out B hBz
            have l3 := HLL.out s hsz
            have l4 := HLL.out B hBz
            have hbe : betB C L B s = (decide (C B < C s) || (decide (0 < C s) && (decide (C s = C B) && decide (L s < L B)))) := rfl
            rw [hbe] at hst
            obtain ⟨cs, hcs⟩ : ∃ z, C s = z := ⟨_, rfl⟩
            obtain ⟨cb, hcb⟩ : ∃ z, C B = z := ⟨_, rfl⟩
            obtain ⟨ls, hls⟩ : ∃ z, L s = z := ⟨_, rfl⟩
            obtain ⟨lb, hlb⟩ : ∃ z, L B = z := ⟨_, rfl⟩
            rw [hcs] at l1 hst
            rw [hcb] at l2 hst
            rw [hls] at l3 hst
            rw [hlb] at l4 hst
            have HST := Lib.hid hst
            clear hs' hB hbe hst hcs hcb hls hlb
            by_cases q1 : cb < cs
            · have HSS := Lib.hid (HST.out.trans (if_pos (by simp [q1])))
              clear HST
              go_wp2_with fail
              go_roundw
              case rel => exact ⟨j + 1, by omega, by go_num, by rw [HSS.out], trivial⟩
              case measure => simp [intOf]; omega
            · by_cases q2 : 0 < cs
              · by_cases q3 : cs = cb
                · subst q3
                  by_cases q4 : ls < lb
                  · have HSS := Lib.hid (HST.out.trans (if_pos (by simp [q2, q4])))
                    clear HST q1
                    go_wp2_with fail
                    go_roundw
                    case rel => exact ⟨j + 1, by omega, by go_num, by rw [HSS.out], trivial⟩
                    case measure => simp [intOf]; omega
                  · have HSS := Lib.hid (HST.out.trans (if_neg (by simp [q4])))
                    clear HST q1
                    go_wp2_with fail
                    go_roundw
                    case rel => exact ⟨j + 1, by omega, by go_num, by rw [HSS.out], trivial⟩
                    case measure => simp [intOf]; omega
                · have HSS := Lib.hid (HST.out.trans (if_neg (by simp [q1, q3])))
                  have q5 : (cs == cb) = false := by simpa using q3
                  clear HST q3
                  go_wp2_with fail
                  go_roundw
                  case rel => exact ⟨j + 1, by omega, by go_num, by rw [HSS.out], trivial⟩
                  case measure => simp [intOf]; omega
              · have HSS := Lib.hid (HST.out.trans (if_neg (by simp [q1, q2])))
                clear HST
                go_wp2_with fail
                go_roundw
                case rel => exact ⟨j + 1, by omega, by go_num, by rw [HSS.out], trivial⟩
                case measure => simp [intOf]; omega
          · obtain rfl : j = m := by omega
            obtain ⟨B, hB⟩ : ∃ B, bestTo C L opts j = B := ⟨_, rfl⟩
            rw [hB] at hBz HW ⊢
            have l2 := HLC.out B hBz
            obtain ⟨cb, hcb⟩ : ∃ z, C B = z := ⟨_, rfl⟩
            have hld := HLD.out B hBz
            rw [hcb] at l2 HW hld
            have HE := Lib.hid (eqS_nil B)
            have HKD := Lib.hid hld
            clear hB hcb hld
            go_wp2_with fail
            go_region_held3 (fun W => (Instr.lookup 169 (.map (some (w.heap.size + 1))) (.string B) false).run Tryz.prog W = .ok (.int .i64 cb) W) (first | exact HKD.out | go_keep) (fail)
            all_goals
              go_wp2_with fail
              go_ret3
              rw [HW.out, HE.out]
              exact ⟨rfl, below_drewN hbb _⟩
end Go.Proofs.YthbcogekfdllmaaGreatDoor
