/-
  marathon.clashes and splitref2.ClashesOf by contracts: both answer clF. (Printed by gen_slot9.py.)
-/
import Derived.Test.YthbcogekfdllmaaGreatDoorZSlot7
import Derived.Deep.RegionHeld3
import Derived.Deep.LoopGhost
import Derived.Deep.DeepCutAuto
import Derived.Test.YthbcogekfdllmaaGreatDoorZOwnSet
import Derived.Test.YthbcogekfdllmaaGreatDoorZLow
import Derived.RegionTactic
import Derived.ChangeAlike
import Derived.BigRegion
namespace Go.Proofs.YthbcogekfdllmaaGreatDoor
open Go Go.RowKit
attribute [local go_sem ↓] Go.wp_at_zero Go.wp_at_succ

theorem info_pr : (Tryz.prog.info? 75).map (fun i => (i.zero, i.size, i.bytes)) = some (some (.agg #[.string ⟨#[]⟩, .string ⟨#[]⟩]), 2, 32) := by kernel_rfl
theorem one2 {x y : Value} (hx : x.oneCell' = true) (hy : y.oneCell' = true) : ∀ v ∈ [x, y], v.oneCell' = true := by
  intro v hv
  simp at hv
  rcases hv with rfl | rfl <;> assumption
/-- pairs in new memory -/
def PrsS (l : List Pr) (w : World) (e : Ending) (w' : World) : Prop :=
  ∃ v, e = .returned v ∧ w'.ownsRow w.heap.size 75 2 v l.length (l.flatMap prC) ∧ Below w.heap.size w w'
theorem clN (a b n : Nat) (ha : a ≤ n * n) (hb : b ≤ n) (hn : n ≤ 1000) : a + b + 1 ≤ 1001001 := by
  have : n * n ≤ 1000 * 1000 := Nat.mul_le_mul hn hn
  omega
theorem clTo_le (xs : List Slt) (rest : Int) (k n : Nat) (hk : k ≤ n) (hl : xs.length = n) : (clTo xs rest k).length ≤ n * n := by
  have := clTo_len xs rest k
  rw [hl] at this
  exact Nat.le_trans this (Nat.mul_le_mul_right _ hk)

set_option maxRecDepth 100000 in
set_option maxHeartbeats 2000000 in
theorem clashes_calls (b : Nat) (A : Option Addr) (n c : Nat) (xs : List Slt) (rest : Int) (w : World) (hr : Slts w b A n c xs) (hn : n ≤ 1000) (hb : b < w.heap.size) (hrest : -4398046511104 ≤ rest ∧ rest ≤ 4398046511104) :
    Calls Tryz.prog 73 #[.slice A n c, .int .i64 rest] w (PrsS (clF xs rest) w) := by
  obtain ⟨hl, hnc, hcm, hcells⟩ := hr.rd.cells sltC_len (by omega)
  obtain ⟨i0, hi, hz0, hz1, hz2⟩ := info_parts info_pr
  unfold maxLen at hcm
  have HSM : Hid (∀ k, k ≤ xs.length → -4398046511104 * ((k : Int) + 1) ≤ fromAt 0 xs k ∧ fromAt 0 xs k ≤ 4398046511104 * ((k : Int) + 1)) := fromAt_bd hr.sml (by omega)
  have HL := Lib.hid hl
  have HC := Lib.hid hcells
  have HR := Lib.hid hr
  obtain ⟨r0, r1⟩ := hrest
  clear hcells hl hr
  go_enter Tryz.func73, Tryz.ntmps73
  go_wp2_with fail
  refine (timetable_calls b A n c xs 0 _ HR.out hn (by omega)).mono ?_
  rintro e w1 ⟨v, rfl, hown, hb1⟩
  have HR1 := Lib.hid (HR.out.below hb1)
  have hW1 : Below w.heap.size w w1 := hb1
  have hbb : b < w1.heap.size := by have := hb1.size; omega
  have hrp := Rd.own (b := b) hown hb
  have hpl : (placesF 0 xs).length = n := by unfold placesF; rw [placesTo_len 0 xs _ (Nat.le_refl _)]; exact HL.out
  rw [hpl] at hrp hown
  obtain ⟨Ap, cp, hvp⟩ := own_form hown
  subst hvp
  obtain ⟨_, hpnc, hpcm, hpcells⟩ := hrp.cells plcC_len (by omega)
  unfold maxLen at hpcm
  have HPC := Lib.hid hpcells
  have HPL := Lib.hid hpl
  have HX := Lib.hid hown
  have HW1 := Lib.hid hW1
  have hw1z := hW1.size
  clear hpcells hpl hown hb1 hrp hW1
  go_wp2_with fail
  go_loopw [6, 15] (fun v i wr => ∃ k : Nat, k ≤ n ∧ i = .int .i64 k ∧ Os 75 2 w1 wr v (clTo xs rest k).length ((clTo xs rest k).flatMap prC) []) (fun _ i _ => n - (intOf i).toNat)
  case atStart => exact ⟨0, Nat.zero_le _, rfl, Os.start (Bs.start w1)⟩
  case round =>
    obtain ⟨k, hk, rfl, hO⟩ := hrel
    have hbr := hO.2.1.1
    obtain ⟨wo, hwo⟩ : ∃ wo : World, wo = wr := ⟨_, rfl⟩
    subst hwo
    by_cases hlt : k < n
    · have hkr : k < xs.length := by rw [HL.out]; exact hlt
      obtain ⟨g, o, hA, _, hcs⟩ := HC.out (by omega)
      obtain ⟨gp, op, hAp, _, hps⟩ := HPC.out (by omega)
      subst hA
      subst hAp
      obtain ⟨x, hx⟩ : ∃ x, xs[k] = x := ⟨_, rfl⟩
      have HCO : Hid (∀ W, Below w1.heap.size w1 W → ∀ i (hi : i < xs.length) j, j < 5 → W.cell? ⟨g, o + i * 5 + j, none⟩ = (sltC xs[i])[j]?) := fun W hW i hi j hj => by
        have := hcs i hi j hj
        have hlt : j < (sltC xs[i]).length := by rw [sltC_len]; exact hj
        rw [List.getElem?_eq_getElem hlt] at this ⊢
        exact below_cell hW (below_cell HW1.out this)
      have HPO : Hid (∀ W, Below w1.heap.size w1 W → ∀ i (hi : i < xs.length) j, j < 4 → W.cell? ⟨gp, op + i * 4 + j, none⟩ = (plcC (plcOf (fromAt 0 xs i) xs[i]))[j]?) := fun W hW i hi j hj => by
        have hi' : i < (placesF 0 xs).length := by rw [HPL.out, ← HL.out]; exact hi
        have := hps i hi' j hj
        have hg : (placesF 0 xs)[i] = plcOf (fromAt 0 xs i) xs[i] := by
          have := placesTo_get 0 xs xs.length (Nat.le_refl _) i hi hi
          exact Option.some.inj ((List.getElem?_eq_getElem hi').symm.trans this)
        rw [hg] at this
        have hlt : j < (plcC (plcOf (fromAt 0 xs i) xs[i])).length := by rw [plcC_len]; exact hj
        rw [List.getElem?_eq_getElem hlt] at this ⊢
        exact below_cell hW this
      have c0 := HCO.out wo hbr k hkr 0 (by omega)
      have c1 := HCO.out wo hbr k hkr 1 (by omega)
      have c2 := HCO.out wo hbr k hkr 2 (by omega)
      have c3 := HCO.out wo hbr k hkr 3 (by omega)
      have c4 := HCO.out wo hbr k hkr 4 (by omega)
      have HFS : Hid (fromAt 0 xs (k + 1) = fromAt 0 xs k + x.setup + x.long) := by rw [fromAt_step 0 xs k hkr, hx]; exact Lib.hid rfl
      rw [hx] at c0 c1 c2 c3 c4
      replace c0 : wo.cell? ⟨g, o + k * 5, none⟩ = some (.string x.key) := c0
      replace c1 : wo.cell? ⟨g, o + k * 5 + 1, none⟩ = some (.string x.who) := c1
      replace c2 : wo.cell? ⟨g, o + k * 5 + 2, none⟩ = some (.slice x.ha x.hosts.length x.hc) := c2
      replace c3 : wo.cell? ⟨g, o + k * 5 + 3, none⟩ = some (.int .i64 x.setup) := c3
      replace c4 : wo.cell? ⟨g, o + k * 5 + 4, none⟩ = some (.int .i64 x.long) := c4
      have hokx := HR1.out.ok _ (List.getElem_mem hkr)
      rw [hx] at hokx
      have HOX := Lib.hid hokx
      have HXK := Lib.hid hx
      have hlz := hbr.size
      have HTL := Lib.hid (clTo_le xs rest k n hk HL.out)
      have HOO := Lib.hid hO
      clear hcs hps hx hokx hO
      go_wp2_with fail
      have HO1 := HOO.out.add #[.string x.key, .string x.who, .slice x.ha x.hosts.length x.hc, .int .i64 x.setup, .int .i64 x.long] 64
      go_loopw [6, 9] (fun v i wr => ∃ q : Nat, k < q ∧ q ≤ n ∧ i = .int .i64 q ∧ Os 75 2 w1 wr v (clTo xs rest k ++ clR xs rest k q).length ((clTo xs rest k ++ clR xs rest k q).flatMap prC) [(wo.heap.size, 64, #[.string x.key, .string x.who, .slice x.ha x.hosts.length x.hc, .int .i64 x.setup, .int .i64 x.long])]) (fun _ i _ => n - (intOf i).toNat)
      case atStart => exact ⟨k + 1, by omega, by omega, by go_num, by rw [clR_start, List.append_nil]; exact HO1⟩
      case round =>
        obtain ⟨q, hkq, hqn, rfl, hO⟩ := hrel
        obtain ⟨L, hL⟩ : ∃ L, clTo xs rest k ++ clR xs rest k q = L := ⟨_, rfl⟩
        rw [hL] at hO
        have HLE := Lib.hid hL
        clear hL
        have hbr2 := hO.2.1.1
        have hox : Blk wr wo.heap.size 64 #[.string x.key, .string x.who, .slice x.ha x.hosts.length x.hc, .int .i64 x.setup, .int .i64 x.long] := hO.head
        have hlz2 := hbr2.size
        have hbw : b < wr.heap.size := by omega
        by_cases hqlt : q < n
        · have hqr : q < xs.length := by rw [HL.out]; exact hqlt
          obtain ⟨y, hy⟩ : ∃ y, xs[q] = y := ⟨_, rfl⟩
          have d0 := HCO.out wr hbr2 q hqr 0 (by omega)
          have d1 := HCO.out wr hbr2 q hqr 1 (by omega)
          have d2 := HCO.out wr hbr2 q hqr 2 (by omega)
          have d3 := HCO.out wr hbr2 q hqr 3 (by omega)
          have d4 := HCO.out wr hbr2 q hqr 4 (by omega)
          rw [hy] at d0 d1 d2 d3 d4
          replace d0 : wr.cell? ⟨g, o + q * 5, none⟩ = some (.string y.key) := d0
          replace d1 : wr.cell? ⟨g, o + q * 5 + 1, none⟩ = some (.string y.who) := d1
          replace d2 : wr.cell? ⟨g, o + q * 5 + 2, none⟩ = some (.slice y.ha y.hosts.length y.hc) := d2
          replace d3 : wr.cell? ⟨g, o + q * 5 + 3, none⟩ = some (.int .i64 y.setup) := d3
          replace d4 : wr.cell? ⟨g, o + q * 5 + 4, none⟩ = some (.int .i64 y.long) := d4
          have hoky := HR1.out.ok _ (List.getElem_mem hqr)
          rw [hy] at hoky
          have hoky2 := hoky.below hbr2
          have hokx2 := HOX.out.below hbr2
          have HAT : Hid (clOne xs rest k q = if (common x y && decide (fromAt 0 xs q - fromAt 0 xs (k + 1) < rest)) = true then [(x.key, y.key)] else []) := by
            rw [clOne_at xs rest k q (by omega) hqr, hy, HXK.out]
            exact Lib.hid rfl
          have HST : Hid (clTo xs rest k ++ clR xs rest k (q + 1) = L ++ clOne xs rest k q) := by rw [clR_step xs rest k q hkq, ← List.append_assoc, HLE.out]; exact Lib.hid rfl
          have HOK2 := Lib.hid hO
          have HBX := Lib.hid hox
          have HND := Lib.hid (needed_calls b y wr hoky2)
          have x0 := hox.cell 0
          clear hoky hoky2 hO hox
          go_wp2_with fail
          refine HND.out.mono ?_
          rintro e w3 ⟨v3, rfl, hown3, hb3⟩
          obtain ⟨A3, c3', hv3⟩ := own_form hown3
          subst hv3
          have hclo : ∀ (W : World) (s : ByteArray), Below w3.heap.size w3 W → Calls Tryz.prog 132 #[.string s, .pointer (some ⟨wo.heap.size, 0, none⟩)] W (BRet (.bool (memS (needL x) s)) W) := fun W s hW =>
            cloP_calls b wo.heap.size x s W ((hokx2.below hb3).below hW) ((HBX.out.below hb3).below hW) (by have := hb3.size; have := hW.size; omega)
          have HCT := Lib.hid (contP_calls b wo.heap.size A3 _ c3' (needL y) (memS (needL x)) w3 (Rd.own hown3 hbw) hclo)
          have HCM : Hid ((needL y).any (memS (needL x)) = common x y) := rfl
          have HB3 := Lib.hid hb3
          have HPE := HPO
          clear hown3 hb3 hclo
          go_wp2_with fail
          refine HCT.out.mono ?_
          rintro e w4 ⟨rfl, hb4⟩
          rw [HCM.out]
          have hb34 := below_call HB3.out hb4 (Nat.le_refl _)
          have hO4 := HOK2.out.below hb34
          have hbr4 := hO4.2.1.1
          obtain ⟨B, hB⟩ : ∃ B, common x y = B := ⟨_, rfl⟩
          rw [hB] at HAT ⊢
          have HO4 := Lib.hid hO4
          clear hB HCT HCM hb4
          cases B
          · have HE : Hid (clOne xs rest k q = []) := HAT.out
            clear HAT
            go_wp2_with fail
            go_quiet (fail)
            have HO6 : Os 75 2 w1 w4 u6 (clTo xs rest k ++ clR xs rest k (q + 1)).length ((clTo xs rest k ++ clR xs rest k (q + 1)).flatMap prC) [(wo.heap.size, 64, #[.string x.key, .string x.who, .slice x.ha x.hosts.length x.hc, .int .i64 x.setup, .int .i64 x.long])] := by rw [HST.out, HE.out, List.append_nil]; exact HO4.out

            go_wp2_with fail
            have HO6 := HO6.drewN nq

            go_roundw
            case rel => exact ⟨q + 1, by omega, by omega, by go_num, HO6⟩
            case measure => simp [intOf]; omega
          · have f1 := HPO.out w4 hbr4 q hqr 1 (by omega)
            have f3 := HPO.out w4 hbr4 k hkr 3 (by omega)
            rw [hy] at f1
            rw [HXK.out] at f3
            obtain ⟨F, hF⟩ : ∃ F, fromAt 0 xs q = F := ⟨_, rfl⟩
            obtain ⟨G, hG⟩ : ∃ G, fromAt 0 xs k + x.setup + x.long = G := ⟨_, rfl⟩
            have HG2 : Hid (fromAt 0 xs (k + 1) = G) := HFS.out.trans hG
            have bF := HSM.out q (by omega)
            have bG := HSM.out (k + 1) (by omega)
            rw [hF] at bF
            rw [HG2.out] at bG
            replace f1 : w4.cell? ⟨gp, op + q * 4 + 1, none⟩ = some (.int .i64 F) := by rw [f1, ← hF]; rfl
            replace f3 : w4.cell? ⟨gp, op + k * 4 + 3, none⟩ = some (.int .i64 G) := by rw [f3, ← hG]; rfl
            have HAT2 : Hid (clOne xs rest k q = if F - G < rest then [(x.key, y.key)] else []) := by
              have := HAT.out
              rw [hF, HG2.out] at this
              rw [this]
              by_cases hd : F - G < rest
              · exact Lib.hid (by simp [hd])
              · exact Lib.hid (by simp [hd])
            obtain ⟨bF0, bF1⟩ := bF
            obtain ⟨bG0, bG1⟩ := bG
            have hq0 : (0 : Int) ≤ (q : Int) := by omega
            have hk0 : (0 : Int) ≤ (k : Int) := by omega
            have hqi : (q : Int) < (n : Int) := by omega
            have hki : (k : Int) < (n : Int) := by omega


            clear hF hG HAT
            by_cases hd : F - G < rest
            · have HE : Hid (clOne xs rest k q = [(x.key, y.key)]) := HAT2.out.trans (if_pos hd)
              clear HAT2
              go_wp2_with fail
              go_quiet (fail)
              clear hd f1 f3 bF0 bF1 bG0 bG1
              have e0 : w4.cell? ⟨wo.heap.size, 0, none⟩ = some (.string x.key) := HO4.out.head.cell 0
              have e1 := HCO.out w4 hbr4 q hqr 0 (by omega)
              rw [hy] at e1
              replace e1 : w4.cell? ⟨g, o + q * 5, none⟩ = some (.string y.key) := e1
              have hlen : L.length + 1 ≤ 1001001 := by rw [← HLE.out, List.length_append]; exact clN _ _ n HTL.out (Nat.le_trans (clR_len _ _ _ _) hqn) hn
              have h63 : L.length + 1 ≤ maxLen := by unfold maxLen; omega
              have hby : (L.length + 1) * 32 ≤ 140737488355328 := by omega
              have hbz : w1.heap.size ≤ w4.heap.size := hbr4.size
              have HOd := Lib.hid ((HO4.out.drewN nq).drew)
              have HSW : Hid (∀ W v m l, Os 75 2 w1 W v m l [(wo.heap.size, 64, #[.string x.key, .string x.who, .slice x.ha x.hosts.length x.hc, .int .i64 x.setup, .int .i64 x.long])] → W.cell? ⟨wo.heap.size, 0, none⟩ = some (.string x.key) ∧ W.cell? ⟨g, o + q * 5, none⟩ = some (.string y.key)) := fun W v m l h => by
                have h1 := HCO.out W h.2.1.1 q hqr 0 (by omega)
                rw [hy] at h1
                exact ⟨h.head.cell 0, h1⟩
              clear hlen hy
              go_wp2_with fail
              go_region_held3 (fun W => W.cell? ⟨wo.heap.size, 0, none⟩ = some (.string x.key) ∧ W.cell? ⟨g, o + q * 5, none⟩ = some (.string y.key))
                (first | go_keep | exact HSW.out _ _ _ _ hO2)
                ((refine step_append_lies _ (by rfl) _ _ _ (by rfl) w1.heap.size 75 i0 (.agg #[.string ⟨#[]⟩, .string ⟨#[]⟩]) 2 32 Tryz.underlying45 hi hz0 hz1 hz2 rfl (by omega) u6 _ _ (by rfl) (HOd.out.alloc _).1 ⟨w4.heap.size, 0, none⟩ 1 1 [.string x.key, .string y.key] (by rfl) (by rfl) (news_new _ _ _ _ (by simp)) (one2 rfl rfl) (by omega) h63 hby (base1 (by simpa using hbz) _) _ rfl ?_; intro g2 cap2 w5 hown' hgrow hblk hlt5; have hO2 := (HOd.out.alloc _).append hown' hgrow (own_at hblk); clear hown' hgrow hblk))
              have HO6 : Os 75 2 w1 w5 (.slice (some ⟨g2, 0, none⟩) (L.length + 1) cap2) (clTo xs rest k ++ clR xs rest k (q + 1)).length ((clTo xs rest k ++ clR xs rest k (q + 1)).flatMap prC) [(wo.heap.size, 64, #[.string x.key, .string x.who, .slice x.ha x.hosts.length x.hc, .int .i64 x.setup, .int .i64 x.long])] := by
                rw [HST.out, HE.out, flat_snoc, List.length_append]
                exact hO2
              clear hO2


              go_wp2_with fail
              go_roundw
              case rel => exact ⟨q + 1, by omega, by omega, by go_num, HO6⟩
              case measure => simp [intOf]; omega

            · have HE : Hid (clOne xs rest k q = []) := HAT2.out.trans (if_neg hd)
              clear HAT2
              go_wp2_with fail
              go_quiet (fail)
              have HO6 : Os 75 2 w1 w4 u6 (clTo xs rest k ++ clR xs rest k (q + 1)).length ((clTo xs rest k ++ clR xs rest k (q + 1)).flatMap prC) [(wo.heap.size, 64, #[.string x.key, .string x.who, .slice x.ha x.hosts.length x.hc, .int .i64 x.setup, .int .i64 x.long])] := by rw [HST.out, HE.out, List.append_nil]; exact HO4.out
              go_wp2_with fail
              have HO6 := HO6.drewN nq

              go_roundw
              case rel => exact ⟨q + 1, by omega, by omega, by go_num, HO6⟩
              case measure => simp [intOf]; omega
        · obtain rfl : q = n := by omega
          have HOn : Os 75 2 w1 wr u6 (clTo xs rest (k + 1)).length ((clTo xs rest (k + 1)).flatMap prC) [] := by
            rw [clTo_step, HL.out, HLE.out]
            exact hO.tail
          go_wp2_with fail
          go_roundw
          case rel => exact ⟨k + 1, by omega, by go_num, HOn⟩
          case measure => simp [intOf]; omega
    · obtain rfl : k = n := by omega
      have HS : Hid (clF xs rest = clTo xs rest k) := by unfold clF; rw [HL.out]; exact Lib.hid rfl
      have hw := below_call HW1.out hbr (Nat.le_refl _)
      go_wp2_with fail
      go_ret
      exact ⟨_, rfl, by rw [HS.out]; exact own_base hO.1 hw1z, hw⟩
end Go.Proofs.YthbcogekfdllmaaGreatDoor
/-
  marathon.orders by a contract: the closure that keeps the best order, and the recursion.
-/
namespace Go.Proofs.YthbcogekfdllmaaGreatDoor
open Go Go.RowKit
attribute [local go_sem ↓] Go.wp_at_zero Go.wp_at_succ

/-- the best order so far, as the closure keeps it -/
def StO (w0 : World) (gr gf gb : Nat) (rest : Int) (s : List Slt × Int) (W : World) (l : List Rsc) : Prop :=
  ∃ A c, Sq w0 W (rBlk gf 3 #[.int .i64 s.2] :: rBlk gb 49 #[.slice A s.1.length c] :: rSl w0.heap.size A s.1.length c s.1 :: rBlk gr 3 #[.int .i64 rest] :: l)
theorem StO.callB {w0 W W' : World} {gr gf gb : Nat} {rest : Int} {s : List Slt × Int} {l : List Rsc} (h : StO w0 gr gf gb rest s W l) (k : Below W.heap.size W W') : StO w0 gr gf gb rest s W' l := by
  obtain ⟨A, c, h⟩ := h
  exact ⟨A, c, h.callB k⟩
/-- slots that lie in old memory, but for their row -/
def OkS (w0 : World) (b : Nat) (xs : List Slt) : Prop := ∀ x ∈ xs, SltOk w0 b x
theorem OkS.slts {w0 W : World} {b n c : Nat} {A : Option Addr} {xs : List Slt} {l : List Rsc} (h : OkS w0 b xs) (hS : Sq w0 W l) (hr : Rd W b 5 (.slice A n c) n (xs.flatMap sltC)) : Slts W b A n c xs := ⟨hr, fun x hx => (h x hx).below hS.below⟩
theorem clF_len_bd (rest : Int) (p : List Slt) (hn : p.length ≤ 1000) : clN_ rest p ≤ 1000000 := by
  unfold clN_
  have h := clTo_le p rest p.length p.length (Nat.le_refl _) rfl
  have : p.length * p.length ≤ 1000 * 1000 := Nat.mul_le_mul hn hn
  unfold clF
  omega

set_option maxRecDepth 100000 in
set_option maxHeartbeats 1000000 in
theorem ordF_calls (b : Nat) (w0 W : World) (gr gf gb : Nat) (rest : Int) (s : List Slt × Int) (l : List Rsc) (A : Option Addr) (n c : Nat) (p : List Slt) (hb : b < w0.heap.size) (hrest : 0 ≤ rest ∧ rest ≤ 86400000) (hs2 : -1 ≤ s.2 ∧ s.2 ≤ 1000000) (hS : StO w0 gr gf gb rest s W l) (hok : OkS w0 b p) (hr : Rd W b 5 (.slice A n c) n (p.flatMap sltC)) (hn : n ≤ 1000) :
    Calls Tryz.prog 72 #[.slice A n c, .pointer (some ⟨gr, 0, none⟩), .pointer (some ⟨gf, 0, none⟩), .pointer (some ⟨gb, 0, none⟩)] W fun e W' => e = .returned (.tuple #[]) ∧ StO w0 gr gf gb rest (stepO rest s p) W' l := by
  obtain ⟨Ab, cb, hS⟩ := hS
  obtain ⟨bs, f⟩ := s
  simp only at hS hs2
  have hsz := hS.size
  have hl : p.length = n := (hr.cells sltC_len (by omega)).1
  have HCL := Lib.hid (clashes_calls b A n c p rest W (hok.slts hS hr) hn (by omega) (by omega))
  have HCB := Lib.hid (clF_len_bd rest p (by omega))
  have HR := Lib.hid hr
  have HS := Lib.hid hS
  obtain ⟨N, hN⟩ : ∃ N : Nat, (clF p rest).length = N := ⟨_, rfl⟩
  have HN : Hid (clN_ rest p = (N : Int)) := Lib.hid (by unfold clN_; rw [hN])
  have hNb : (N : Int) ≤ 1000000 := by rw [← HN.out]; exact HCB.out
  have HNL := Lib.hid hN
  obtain ⟨f0, f1⟩ := hs2
  have hgr : W.cell? ⟨gr, 0, none⟩ = some (.int .i64 rest) := (show Blk W gr _ _ from hS.nth 3 rfl).cell 0
  have HL := Lib.hid hl
  clear hS hN HCB hr hl
  by_cases hc : f < 0
  · have HST : Hid (stepO rest (bs, f) p = (p, (N : Int))) := Lib.hid (by unfold stepO; rw [if_pos (.inl hc), HN.out])
    rw [HST.out]
    go_enter Tryz.func72, Tryz.ntmps72
    go_wp2_with fail
    refine HCL.out.mono ?_
    rintro e w1 ⟨v, rfl, hown, hb1⟩
    rw [HNL.out] at hown
    obtain ⟨vA, vc, rfl⟩ := own_form hown
    have hS1 := HS.out.callB hb1
    have bf : Blk w1 gf 3 #[.int .i64 f] := hS1.nth 0 rfl
    have kf := bf.cell 0
    replace kf : w1.cell? ⟨gf, 0, none⟩ = some (.int .i64 f) := kf
    have HCN := Lib.hid (cloneSlt_calls b A n c (p.flatMap sltC) w1 (HR.out.below hb1) (sltC_one p) (by omega))
    have HS1 := Lib.hid hS1
    clear hS1 hown hb1 bf
    go_wp2_with fail
    refine HCN.out.mono ?_
    rintro e w2 ⟨v2, rfl, hown2, hb2⟩
    obtain ⟨A2, c2, rfl⟩ := own_form hown2
    have hS2 := HS1.out.ownB hb2 hown2
    have b2f : Blk w2 gf 3 #[.int .i64 f] := hS2.nth 1 rfl
    have b2b : Blk w2 gb 49 #[.slice Ab bs.length cb] := hS2.nth 2 rfl
    have z0 := b2f.cell 0
    have z1 := b2f.frozen 0
    have z2 := b2b.cell 0
    have z3 := b2b.frozen 0
    have hS3 := ((hS2.front 2 rfl rfl).set_ 0 (.slice A2 n c2))
    have hS4 := ((hS3.front 2 rfl rfl).set_ 0 (.int .i64 N))
    have hS5 := (((hS4.drop 3 rfl rfl).front 1 rfl rfl).front 1 rfl rfl)
    have hne : gf ≠ gb := by
      have hap := hS2.hp.apart
      simp only [List.pairwise_cons] at hap
      intro he
      exact hap.2.1 _ (List.mem_cons_self ..) gf rfl he
    have HF : Hid (StO w0 gr gf gb rest (p, (N : Int)) ((w2.setCell ⟨gb, 0, none⟩ (.slice A2 n c2)).setCell ⟨gf, 0, none⟩ (.int .i64 N)) l) := Lib.hid ⟨A2, c2, by
      have := HL.out
      subst this
      exact hS5⟩
    clear hS2 hS3 hS4 hS5 b2f b2b hown2 hb2
    go_wp2_with fail
    go_end0
    exact ⟨rfl, HF.out⟩
  by_cases hd : (N : Int) < f
  · have HST : Hid (stepO rest (bs, f) p = (p, (N : Int))) := Lib.hid (by unfold stepO; rw [if_pos (.inr (by rw [HN.out]; exact hd)), HN.out])
    rw [HST.out]
    go_enter Tryz.func72, Tryz.ntmps72
    go_wp2_with fail
    refine HCL.out.mono ?_
    rintro e w1 ⟨v, rfl, hown, hb1⟩
    rw [HNL.out] at hown
    obtain ⟨vA, vc, rfl⟩ := own_form hown
    have hS1 := HS.out.callB hb1
    have bf : Blk w1 gf 3 #[.int .i64 f] := hS1.nth 0 rfl
    have kf := bf.cell 0
    replace kf : w1.cell? ⟨gf, 0, none⟩ = some (.int .i64 f) := kf
    have HCN := Lib.hid (cloneSlt_calls b A n c (p.flatMap sltC) w1 (HR.out.below hb1) (sltC_one p) (by omega))
    have HS1 := Lib.hid hS1
    clear hS1 hown hb1 bf
    go_wp2_with fail
    refine HCN.out.mono ?_
    rintro e w2 ⟨v2, rfl, hown2, hb2⟩
    obtain ⟨A2, c2, rfl⟩ := own_form hown2
    have hS2 := HS1.out.ownB hb2 hown2
    have b2f : Blk w2 gf 3 #[.int .i64 f] := hS2.nth 1 rfl
    have b2b : Blk w2 gb 49 #[.slice Ab bs.length cb] := hS2.nth 2 rfl
    have z0 := b2f.cell 0
    have z1 := b2f.frozen 0
    have z2 := b2b.cell 0
    have z3 := b2b.frozen 0
    have hS3 := ((hS2.front 2 rfl rfl).set_ 0 (.slice A2 n c2))
    have hS4 := ((hS3.front 2 rfl rfl).set_ 0 (.int .i64 N))
    have hS5 := (((hS4.drop 3 rfl rfl).front 1 rfl rfl).front 1 rfl rfl)
    have hne : gf ≠ gb := by
      have hap := hS2.hp.apart
      simp only [List.pairwise_cons] at hap
      intro he
      exact hap.2.1 _ (List.mem_cons_self ..) gf rfl he
    have HF : Hid (StO w0 gr gf gb rest (p, (N : Int)) ((w2.setCell ⟨gb, 0, none⟩ (.slice A2 n c2)).setCell ⟨gf, 0, none⟩ (.int .i64 N)) l) := Lib.hid ⟨A2, c2, by
      have := HL.out
      subst this
      exact hS5⟩
    clear hS2 hS3 hS4 hS5 b2f b2b hown2 hb2
    go_wp2_with fail
    go_end0
    exact ⟨rfl, HF.out⟩
  · have HST : Hid (stepO rest (bs, f) p = (bs, f)) := Lib.hid (by unfold stepO; rw [if_neg (by rw [HN.out]; rintro (h | h); exact hc h; exact hd h)])
    rw [HST.out]
    go_enter Tryz.func72, Tryz.ntmps72
    go_wp2_with fail
    refine HCL.out.mono ?_
    rintro e w1 ⟨v, rfl, hown, hb1⟩
    rw [HNL.out] at hown
    obtain ⟨vA, vc, rfl⟩ := own_form hown
    have hS1 := HS.out.callB hb1
    have bf : Blk w1 gf 3 #[.int .i64 f] := hS1.nth 0 rfl
    have kf := bf.cell 0
    replace kf : w1.cell? ⟨gf, 0, none⟩ = some (.int .i64 f) := kf
    have HF : Hid (StO w0 gr gf gb rest (bs, f) w1 l) := Lib.hid ⟨Ab, cb, hS1⟩
    clear hS1 hown hb1 bf
    go_wp2_with fail
    go_end0
    exact ⟨rfl, HF.out⟩
end Go.Proofs.YthbcogekfdllmaaGreatDoor
