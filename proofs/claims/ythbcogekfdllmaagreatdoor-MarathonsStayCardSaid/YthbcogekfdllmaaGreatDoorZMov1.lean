/-
  marathon.Moved by a contract.
-/
import Derived.Test.YthbcogekfdllmaaGreatDoorZOwnSet
import Derived.Test.YthbcogekfdllmaaGreatDoorZOrdPure2
import Derived.Test.YthbcogekfdllmaaGreatDoorZSlotPure
import Derived.Test.YthbcogekfdllmaaGreatDoorZSlot3
import Derived.Test.YthbcogekfdllmaaGreatDoorZLow
import Derived.Test.YthbcogekfdllmaaGreatDoorZBs
import Derived.Deep.DeepCutAuto
import Derived.Test.YthbcogekfdllmaaGreatDoorZOrd3
import Derived.Test.YthbcogekfdllmaaGreatDoorZSlot9
import Derived.Deep.RegionHeld3
import Derived.Deep.LoopGhost
import Derived.Test.YthbcogekfdllmaaGreatDoorZBase
import Derived.RegionTactic
import Derived.Test.YthbcogekfdllmaaGreatDoorZMov3
namespace Go.Proofs.YthbcogekfdllmaaGreatDoor
open Go Go.RowKit
attribute [local go_sem ↓] Go.wp_at_zero Go.wp_at_succ

theorem strs_take {w : World} {b n c m : Nat} {A : Option Addr} {hs : List ByteArray} (h : Rd w b 1 (.slice A n c) n (strsV hs)) (hm : m ≤ n) : Rd w b 1 (.slice A m c) m (strsV (hs.take m)) := by
  have e : ∀ l : List ByteArray, strsV l = l.flatMap (fun s => [Value.string s]) := fun l => by
    induction l with
    | nil => rfl
    | cons a l ih =>
      simp [strsV] at ih ⊢
      exact ih
  rw [e] at h ⊢
  exact h.take (fun _ => rfl) (by decide) hm
theorem movL_snoc (xs : List Slt) (os : List ByteArray) (k j : Nat) (hk : k < os.length) (hf : findL xs os[k] = (j : Int)) (hj : j < xs.length) : movL xs (os.take (k + 1)) = movL xs (os.take k) ++ [xs[j]] := by
  unfold movL
  rw [List.take_succ_eq_append_getElem hk, List.filterMap_append]
  simp [hf, List.getElem?_eq_getElem hj]
/-- what Moved answers -/
def MovdS (xs : List Slt) (os : List ByteArray) (E : Int) (w : World) (e : Ending) (w' : World) : Prop :=
  ∃ v ys, e = .returned (.tuple #[v, .int .i64 E]) ∧ (E = 0 → ys.map cntS = (movL xs os).map cntS) ∧ (E ≠ 0 → ys = []) ∧ Sq w w' [rOwn w.heap.size 64 5 v ys.length (ys.flatMap sltC), rAll (hostR w.heap.size) ys]
theorem MovdS.bad {xs : List Slt} {os : List ByteArray} {E : Int} {w w' : World} (hE : E ≠ 0) (h : Below w.heap.size w w') : MovdS xs os E w (.returned (.tuple #[.slice none 0 0, .int .i64 E])) w' :=
  ⟨_, [], rfl, fun h => absurd h hE, fun _ => rfl, (((Sq.start w).callB h).allNil (hostR w.heap.size) (hostR_ok _)).nil w.heap.size 64 5⟩
/-- what is wrong with what Moved is asked -/
def movdE (xs : List Slt) (os : List ByteArray) : Int := if slotsF xs = 0 then movE xs os else slotsF xs

set_option maxRecDepth 100000 in
set_option maxHeartbeats 4000000 in
theorem moved_calls (b : Nat) (A A2 : Option Addr) (n c m c2 : Nat) (xs : List Slt) (os : List ByteArray) (w : World) (hr : Slts w b A n c xs) (hr2 : Rd w b 1 (.slice A2 m c2) m (strsV os)) (hb : b < w.heap.size) :
    Calls Tryz.prog 21 #[.slice A n c, .slice A2 m c2] w (MovdS xs os (movdE xs os) w) := by
  obtain ⟨i0, hi, hz0, hz1, hz2⟩ := info_parts info_slt
  obtain ⟨hl, hnc, hcm, hcells⟩ := hr.rd.cells sltC_len (by omega)
  obtain ⟨hl2, hnc2, hcm2, hcells2⟩ := strs_cells hr2
  unfold maxLen at hcm hcm2
  have HCS := Lib.hid (checkSlots_calls b A n c xs w hr hb)
  by_cases h0 : slotsF xs = 0
  · have hE0 : movdE xs os = movE xs os := by unfold movdE; rw [if_pos h0]
    have hn200 : n ≤ 200 := by rw [← hl]; exact slots_max h0
    rw [h0] at HCS
    by_cases h1 : m = n
    · subst h1
      have hE1 : movdE xs os = movG xs [] os := by rw [hE0]; unfold movE; rw [if_neg (by rw [hl, hl2]; simp)]
      rw [hE1]
      have HR := Lib.hid hr
      have HR2 := Lib.hid hr2
      have HL := Lib.hid hl
      have HL2 := Lib.hid hl2
      have HC := Lib.hid hcells
      have HC2 := Lib.hid hcells2
      have hS0 : Sq w w [rOwn w.heap.size 64 5 (.slice none 0 0) 0 [], rAll (hostR w.heap.size) []] := ((Sq.start w).allNil (hostR w.heap.size) (hostR_ok _)).nil w.heap.size 64 5
      have HS0 := Lib.hid hS0
      have hnn : ((m : Int) != (m : Int)) = false := by simp
      clear hr hr2 hl hl2 hcells hcells2 hE0 hE1 h0 hS0
      go_enter Tryz.func21, Tryz.ntmps21
      go_wp2_with fail
      refine HCS.out.mono ?_
      rintro e w1 ⟨rfl, hb1⟩
      have hS1 := HS0.out.callB hb1
      clear hb1
      go_wp2_with fail
      clear hnn
      go_loopw [7, 24] (fun v i wr => ∃ (k : Nat) (ys : List Slt), k ≤ m ∧ i = .int .i64 k ∧ ys.length = k ∧ Hid (movG xs [] os = movG xs (os.take k) (os.drop k)) ∧ Hid (ys.map cntS = (movL xs (os.take k)).map cntS) ∧ Sq w wr [rOwn w.heap.size 64 5 v k (ys.flatMap sltC), rAll (hostR w.heap.size) ys]) (fun _ i _ => m - (intOf i).toNat)
      case atStart => exact ⟨0, [], Nat.zero_le _, rfl, rfl, Lib.hid rfl, Lib.hid rfl, hS1⟩
      case round =>
        clear hS1
        obtain ⟨k, ys, hk, rfl, hyl, HG, HY, hS⟩ := hrel
        by_cases hlt : k < m
        · have hkr : k < os.length := by rw [HL2.out]; exact hlt
          obtain ⟨g2, o2, hA2, hg2b, hcs2⟩ := HC2.out (by omega)
          subst hA2
          have d0 := below_cell hS.below (hcs2 k hkr)
          have hst := HG.out.trans (movG_step xs os k hkr)
          obtain ⟨F, hF⟩ : ∃ F, findL xs os[k] = F := ⟨_, rfl⟩
          obtain ⟨M, hM⟩ : ∃ M, memS (os.take k) os[k] = M := ⟨_, rfl⟩
          have hFb := findL_bd xs os[k]
          have hml : ∀ j : Nat, F = (j : Int) → ∀ hj : j < xs.length, movL xs (os.take (k + 1)) = movL xs (os.take k) ++ [xs[j]] := fun j h hj => movL_snoc xs os k j hkr (by rw [hF, h]) hj
          have HML := Lib.hid hml
          have HFN := Lib.hid (findL_calls b A m c xs os[k] wr (HR.out.below hS.below).rd)
          have hrt : ∀ W, Below wr.heap.size wr W → Rd W b 1 (.slice (some ⟨g2, o2, none⟩) k c2) k (strsV (os.take k)) := fun W hW => strs_take (HR2.out.below (hS.callB hW).below) (by omega)
          have HCT : Hid (∀ W, Below wr.heap.size wr W → Calls Tryz.prog 75 #[.slice (some ⟨g2, o2, none⟩) k c2, .string os[k]] W (QRet (.bool M) W)) := Lib.hid (fun W hW => by
            have h := containsS_calls b (some ⟨g2, o2, none⟩) k c2 (os.take k) os[k] W (hrt W hW)
            rw [hM] at h
            exact h)
          rw [hF] at hst hFb HFN
          rw [hM] at hst
          obtain ⟨key, hkey⟩ : ∃ x, os[k] = x := ⟨_, rfl⟩
          rw [hkey] at d0 HFN HCT
          have HS := Lib.hid hS
          have hk0 : (0 : Int) ≤ (k : Int) := by omega
          have hk1 : (k : Int) < (m : Int) := by omega
          have hkc : k ≤ c2 := by omega
          obtain ⟨hF0, hF1⟩ := hFb
          rw [HL.out] at hF1
          clear hcs2 hF hM hml hrt hkey hS
          by_cases hneg : F < 0
          · rw [if_pos hneg] at hst
            have HST := Lib.hid hst
            clear hst
            go_wp2_with fail
            refine HFN.out.mono ?_
            rintro e w2 ⟨rfl, hb2⟩
            have hw := (HS.out.callB hb2).below
            go_wp2_with fail
            refine bodyPost_ret (v := .tuple #[.slice none 0 0, .int .i64 8]) (by simp [results, Tryz.results21, go_sem]) rfl (by rw [HST.out]; exact MovdS.bad (by decide) hw)
          · rw [if_neg hneg] at hst
            obtain ⟨j, rfl⟩ : ∃ j : Nat, F = (j : Int) := ⟨F.toNat, by omega⟩
            have hjm : j < m := by omega
            have hjr : j < xs.length := by rw [HL.out]; exact hjm
            cases M
            · have HST := Lib.hid (hst.trans (if_neg (by decide)))
              clear hst hneg
              go_wp2_with fail
              refine HFN.out.mono ?_
              rintro e w2 ⟨rfl, hb2⟩
              have HK := Lib.hid (HCT.out w2 hb2)
              have hS2 := HS.out.callB hb2
              have HS2 := Lib.hid hS2
              clear hb2 hS2
              go_wp2_with fail
              refine HK.out.mono ?_
              rintro e w3 ⟨rfl, nq, rfl⟩
              obtain ⟨w3, hw3⟩ : ∃ W, w2.drewN nq = W := ⟨_, rfl⟩
              have hS3 := HS2.out.drewN nq
              rw [hw3] at hS3 ⊢
              obtain ⟨g, o, hA, hgb, hcs⟩ := HC.out (by omega)
              subst hA
              have x0 := below_cell hS3.below (hcs j hjr 0 (by omega))
              have x1 := below_cell hS3.below (hcs j hjr 1 (by omega))
              have x2 := below_cell hS3.below (hcs j hjr 2 (by omega))
              have x3 := below_cell hS3.below (hcs j hjr 3 (by omega))
              have x4 := below_cell hS3.below (hcs j hjr 4 (by omega))
              have hokx := (HR.out.ok _ (List.getElem_mem hjr)).below hS3.below
              have hML := HML.out j rfl hjr
              obtain ⟨x, hx⟩ : ∃ x, xs[j] = x := ⟨_, rfl⟩
              rw [hx] at x0 x1 x2 x3 x4 hokx hML
              replace x0 : w3.cell? ⟨g, o + j * 5, none⟩ = some (.string x.key) := x0
              replace x1 : w3.cell? ⟨g, o + j * 5 + 1, none⟩ = some (.string x.who) := x1
              replace x2 : w3.cell? ⟨g, o + j * 5 + 2, none⟩ = some (.slice x.ha x.hosts.length x.hc) := x2
              replace x3 : w3.cell? ⟨g, o + j * 5 + 3, none⟩ = some (.int .i64 x.setup) := x3
              replace x4 : w3.cell? ⟨g, o + j * 5 + 4, none⟩ = some (.int .i64 x.long) := x4
              have hSx := hS3.add (sltL x) 64
              have hj0 : (0 : Int) ≤ (j : Int) := by omega
              have hj1 : (j : Int) < (m : Int) := by omega
              have hbx : Below w3.heap.size w3 (w3.alloc (.cells (sltL x) 64)) := (Below.refl _ _).alloc (Nat.le_refl _) _
              have HCN := Lib.hid (cloneS_calls b x.ha x.hosts.length x.hc (strsV x.hosts) (w3.alloc (.cells (sltL x) 64)) (hokx.rd.below hbx) (fun u hu => by unfold strsV at hu; obtain ⟨s, _, rfl⟩ := List.mem_map.1 hu; rfl) (by have := hokx.hn; omega))
              obtain ⟨gx, hgx⟩ : ∃ q, w3.heap.size = q := ⟨_, rfl⟩
              rw [hgx] at hSx
              have HSX := Lib.hid hSx
              have HMLL := Lib.hid hML
              clear hcs hx hML hS3 hSx hw3 HS2 HS HK hbx hokx
              go_wp2_with fail
              refine HCN.out.mono ?_
              rintro e w4 ⟨v4, rfl, hown4, hb4⟩
              have hS4 := HSX.out.ownB hb4 hown4
              obtain ⟨A4, c4, hv4⟩ := own_form hown4
              subst hv4
              have b4 : Blk w4 gx 64 (sltL x) := hS4.nth 1 rfl
              have y0 : w4.cell? ⟨gx, 0, none⟩ = some (.string x.key) := b4.cell 0
              have y1 : w4.cell? ⟨gx, 1, none⟩ = some (.string x.who) := b4.cell 1
              have y2 : w4.cell? ⟨gx, 2, none⟩ = some (.slice x.ha x.hosts.length x.hc) := b4.cell 2
              have y3 : w4.cell? ⟨gx, 3, none⟩ = some (.int .i64 x.setup) := b4.cell 3
              have y4 : w4.cell? ⟨gx, 4, none⟩ = some (.int .i64 x.long) := b4.cell 4
              have yf := b4.frozen 2
              have hS5 := (hS4.front 1 rfl rfl).set_ 2 (.slice A4 x.hosts.length c4)
              obtain ⟨w5, hw5⟩ : ∃ W, w4.setCell ⟨gx, 2, none⟩ (.slice A4 x.hosts.length c4) = W := ⟨_, rfl⟩
              rw [hw5] at hS5
              have HS5 := Lib.hid hS5
              have HW5 := Lib.hid hw5
              clear hS5 hS4 b4 hown4 hb4 hw5
              go_upto_region 17 with (fail)
              rw [HW5.out]
              clear y0 y1 y2 y3 y4 yf
              have b5 : Blk w5 gx 64 #[.string x.key, .string x.who, .slice A4 x.hosts.length c4, .int .i64 x.setup, .int .i64 x.long] := HS5.out.nth 0 rfl
              have y0 : w5.cell? ⟨gx, 0, none⟩ = some (.string x.key) := b5.cell 0
              have y1 : w5.cell? ⟨gx, 1, none⟩ = some (.string x.who) := b5.cell 1
              have y2 : w5.cell? ⟨gx, 2, none⟩ = some (.slice A4 x.hosts.length c4) := b5.cell 2
              have y3 : w5.cell? ⟨gx, 3, none⟩ = some (.int .i64 x.setup) := b5.cell 3
              have y4 : w5.cell? ⟨gx, 4, none⟩ = some (.int .i64 x.long) := b5.cell 4
              have hSy := (HS5.out.add #[.string x.key, .string x.who, .slice A4 x.hosts.length c4, .int .i64 x.setup, .int .i64 x.long] 64).front 3 rfl rfl
              have hown : (w5.alloc (.cells #[.string x.key, .string x.who, .slice A4 x.hosts.length c4, .int .i64 x.setup, .int .i64 x.long] 64)).ownsRow w.heap.size 64 5 u7 k (ys.flatMap sltC) := hSy.head
              have hsz := HS5.out.size
              have HYY : Hid ((ys ++ [(Slt.mk x.key x.who A4 c4 x.hosts x.setup x.long)]).map cntS = (movL xs (os.take (k + 1))).map cntS) := Lib.hid (by rw [HMLL.out, List.map_append, List.map_append, HY.out]; rfl)
              clear b5
              go_wp2_with (first
                | (at_builtin; refine wpList_append_own_at _ rfl (.tmp 49) (.tmp 51) 49 rfl w.heap.size 64 i0 (.agg #[.string ⟨#[]⟩, .string ⟨#[]⟩, .slice none 0 0, .int .i64 0, .int .i64 0]) 5 72 Tryz.underlying49 hi hz0 hz1 hz2 rfl (by decide) u7 _ _ rfl hown ⟨w5.heap.size, 0, none⟩ 1 1 [.string x.key, .string x.who, .slice A4 x.hosts.length c4, .int .i64 x.setup, .int .i64 x.long] rfl rfl (World.news_of_block (heap_alloc_new _ _)) (one5 rfl rfl rfl rfl rfl) (by unfold maxLen; omega) (by omega) (by simp; omega) ?_; intro v' w8 hown' hgrow _ hblk; have hS8 := hSy.append hown' hgrow hblk; clear hown' hgrow hblk))
              have hS9 : Sq w w8 [rOwn w.heap.size 64 5 v' (k + 1) ((ys ++ [(Slt.mk x.key x.who A4 c4 x.hosts x.setup x.long)]).flatMap sltC), rAll (hostR w.heap.size) (ys ++ [(Slt.mk x.key x.who A4 c4 x.hosts x.setup x.long)])] := by
                have h1 := (((hS8.drop 1 rfl rfl).drop 1 rfl rfl))
                have h2 := h1.front 1 rfl rfl
                have h3 : Sq w w8 (hostR w.heap.size (Slt.mk x.key x.who A4 c4 x.hosts x.setup x.long) :: rAll (hostR w.heap.size) ys :: rOwn w.heap.size 64 5 v' (k + 1) (ys.flatMap sltC ++ [.string x.key, .string x.who, .slice A4 x.hosts.length c4, .int .i64 x.setup, .int .i64 x.long]) :: []) := (h2.front 2 rfl rfl).front 1 rfl rfl
                have h4 := (h3.snocR (hostR_ok _)).front 1 rfl rfl
                have he : ys.flatMap sltC ++ [.string x.key, .string x.who, .slice A4 x.hosts.length c4, .int .i64 x.setup, .int .i64 x.long] = (ys ++ [(Slt.mk x.key x.who A4 c4 x.hosts x.setup x.long)]).flatMap sltC := by simp [sltC]
                rw [he] at h4
                exact h4
              go_roundw
              case rel => exact ⟨k + 1, _, by omega, by go_num, by simp [hyl], HST, HYY, hS9⟩
              case measure => simp [intOf]; omega
            · have HST := Lib.hid (hst.trans (if_pos rfl))
              clear hst
              go_wp2_with fail
              refine HFN.out.mono ?_
              rintro e w2 ⟨rfl, hb2⟩
              have HK := Lib.hid (HCT.out w2 hb2)
              have hS2 := HS.out.callB hb2
              have HS2 := Lib.hid hS2
              clear hb2 hS2
              go_wp2_with fail
              refine HK.out.mono ?_
              rintro e w3 ⟨rfl, nq, rfl⟩
              have hw := (HS2.out.drewN nq).below
              go_wp2_with fail
              refine bodyPost_ret (v := .tuple #[.slice none 0 0, .int .i64 6]) (by simp [results, Tryz.results21, go_sem]) rfl (by rw [HST.out]; exact MovdS.bad (by decide) hw)
        · obtain rfl : k = m := by omega
          have HE : Hid (movG xs [] os = 0) := Lib.hid (by rw [HG.out, List.drop_of_length_le (by rw [HL2.out]; exact Nat.le_refl _)]; rfl)
          have HF : Hid (MovdS xs os (movG xs [] os) w (.returned (.tuple #[u7, .int .i64 0])) wr) := Lib.hid (by
            rw [HE.out]
            exact ⟨u7, ys, rfl, fun _ => by rw [HY.out, List.take_of_length_le (by rw [HL2.out]; exact Nat.le_refl _)], fun h => absurd rfl h, by rw [hyl]; exact hS⟩)
          clear hS
          go_wp2_with fail
          refine bodyPost_ret (by simp [results, Tryz.results21, go_sem]) rfl HF.out
    · have hE1 : movdE xs os = 3 := by rw [hE0]; unfold movE; rw [if_pos (by rw [hl, hl2]; exact h1)]
      rw [hE1]
      have hnn : ((m : Int) != (n : Int)) = true := by rw [bne_iff_ne]; omega
      clear hr hr2 hl hl2 hcells hcells2 hE0 hE1 h0 h1
      go_enter Tryz.func21, Tryz.ntmps21
      go_wp2_with fail
      refine HCS.out.mono ?_
      rintro e w1 ⟨rfl, hb1⟩
      go_wp2_with fail
      refine bodyPost_ret (v := .tuple #[.slice none 0 0, .int .i64 3]) (by simp [results, Tryz.results21, go_sem]) rfl (MovdS.bad (by decide) hb1)
  · have hE0 : movdE xs os = slotsF xs := by unfold movdE; rw [if_neg h0]
    rw [hE0]
    obtain ⟨E, hE⟩ : ∃ E, slotsF xs = E := ⟨_, rfl⟩
    rw [hE] at HCS h0 ⊢
    have hx : (E != 0) = true := by rw [bne_iff_ne]; exact h0
    have HNE := Lib.hid h0
    clear hr hr2 hl hl2 hcells hcells2 hE0 hE h0
    go_enter Tryz.func21, Tryz.ntmps21
    go_wp2_with fail
    refine HCS.out.mono ?_
    rintro e w1 ⟨rfl, hb1⟩
    go_wp2_with fail
    refine bodyPost_ret (v := .tuple #[.slice none 0 0, .int .i64 E]) (by simp [results, Tryz.results21, go_sem]) rfl (MovdS.bad HNE.out hb1)
end Go.Proofs.YthbcogekfdllmaaGreatDoor
/-
  SlotsOrdered: Order and Drop by one contract each; the faults; a slice without its first.
-/
namespace Go.Proofs.YthbcogekfdllmaaGreatDoor
open Go Go.RowKit

def ordL (xs : List Slt) (rest : Int) : List ByteArray := if ordE xs rest = 0 then (bestR rest xs).1 else []
def ordN (xs : List Slt) (rest : Int) : Int := if ordE xs rest = 0 then (bestR rest xs).2 else 0
theorem order_all (b : Nat) (A : Option Addr) (n c : Nat) (xs : List Slt) (rest : Int) (w : World) (hr : Slts w b A n c xs) (hb : b < w.heap.size) :
    Calls Tryz.prog 20 #[.slice A n c, .int .i64 rest] w (OrderR (ordL xs rest) (ordN xs rest) (ordE xs rest) w) := by
  by_cases h : ordE xs rest = 0
  · have hSF : slotsF xs = 0 := by
      unfold ordE at h
      by_cases h2 : slotsF xs = 0
      · exact h2
      · rw [if_neg h2] at h; exact absurd h h2
    refine (order1s_calls b A n c xs rest w hr hb h).mono ?_
    rintro e w' ⟨srt, hp, hu, hR⟩
    obtain ⟨h1, h2⟩ := best_alike_ rest xs srt (slots_one hSF) hp hu
    rw [h1, h2] at hR
    unfold ordL ordN
    rw [if_pos h, if_pos h, h]
    exact hR
  · unfold ordL ordN
    rw [if_neg h, if_neg h]
    exact order0_calls b A n c xs rest w hr hb h
end Go.Proofs.YthbcogekfdllmaaGreatDoor
