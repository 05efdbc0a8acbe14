/-
  Presses as the stream makes them, to the letter. (Printed by gen_tst1.py out of XPrs13.)
-/
import Derived.Test.YtohjapfjkilmoaaGreatDoorZPrs13
import Derived.Test.YtohjapfjkilmoaaGreatDoorZSep
import Derived.Test.YtohjapfjkilmoaaGreatDoorZCutMake
import Derived.Test.YtohjapfjkilmoaaGreatDoorZSlot4
import Derived.Test.YtohjapfjkilmoaaGreatDoorZFrmMake
import Derived.Test.YtohjapfjkilmoaaGreatDoorZCutEq
namespace Go.Proofs.YtohjapfjkilmoaaGreatDoor
open Go Go.RowKit
attribute [local go_sem ↓] Go.wp_at_zero Go.wp_at_succ

abbrev prA : List Int := [0, 1, 5, 10, 30]
abbrev prB : List Int := [1, 2, 2, 2, 2, 3, 4, 4, 5, 6, 6, 7, 8, 8, 9]
/-- the presses after k rounds, and the moment -/
def prL (zs : List Int) (p : Nat) : Nat → List Pz × Int
  | 0 => ([], 0)
  | k + 1 => ((prL zs p k).1 ++ [((prL zs p k).2 + pkX zs (p + 2 * k) prA, pkX zs (p + 2 * k + 1) prB)], (prL zs p k).2 + pkX zs (p + 2 * k) prA)
theorem prL_succ {zs : List Int} {p k : Nat} {l : List Pz} {z d kd : Int} (h : prL zs p k = (l, z)) (hd : pkX zs (p + 2 * k) prA = d) (hk : pkX zs (p + 2 * k + 1) prB = kd) : prL zs p (k + 1) = (l ++ [(z + d, kd)], z + d) := by
  subst hd hk
  show ((prL zs p k).1 ++ _, _) = _
  rw [h]
def prX1 (zs : List Int) (p m : Nat) : List Pz := if nxX zs (p + 2 * m) 8 = 0 then (prL zs p m).1 else (prL zs p m).1.set 0 (((prL zs p m).1[0]?.getD (0, 0)).1, 1)
def bumpF (l : List Pz) : List Pz := l.mapIdx (fun j x => if 2 ≤ j then (x.1 + 864000000, x.2) else x)
/-- RightPresses to the letter -/
def prX (zs : List Int) (p m : Nat) : List Pz := if nxX zs (p + 2 * m + 1) 12 = 0 then bumpF (prX1 zs p m) else prX1 zs p m
theorem prX1_set {zs : List Int} {p k : Nat} {l : List Pz} {z : Int} (h : prL zs p k = (l, z)) (hf : (nxX zs (p + 2 * k) 8 == 0) = false) (hl : 0 < l.length) : prX1 zs p k = l.set 0 (l[0].1, 1) := by
  have hf : ¬ nxX zs (p + 2 * k) 8 = 0 := by simpa using hf
  unfold prX1
  rw [if_neg hf, h]
  simp only
  rw [List.getElem?_eq_getElem hl]
  rfl
theorem prX1_same {zs : List Int} {p k : Nat} {l : List Pz} {z : Int} (h : prL zs p k = (l, z)) (hf : (nxX zs (p + 2 * k) 8 == 0) = true) : prX1 zs p k = l := by
  have hf : nxX zs (p + 2 * k) 8 = 0 := by simpa using hf
  unfold prX1
  rw [if_pos hf, h]
theorem prX_same {zs : List Int} {p k : Nat} {l : List Pz} (h : prX1 zs p k = l) (hf : (nxX zs (p + 2 * k + 1) 12 == 0) = false) : prX zs p k = l := by
  have hf : ¬ nxX zs (p + 2 * k + 1) 12 = 0 := by simpa using hf
  unfold prX
  rw [if_neg hf, h]
theorem prX_bump {zs : List Int} {p k : Nat} {l l3 : List Pz} (h : prX1 zs p k = l) (hf : (nxX zs (p + 2 * k + 1) 12 == 0) = true) (hl : l.length = k) (hb : bumpL l l3 (k - 2)) : prX zs p k = l3 := by
  have hf : nxX zs (p + 2 * k + 1) 12 = 0 := by simpa using hf
  unfold prX
  rw [if_pos hf, h]
  unfold bumpF
  refine List.ext_getElem (by simp [hb.1]) (fun j h1 h2 => ?_)
  have hj : j < l.length := by simpa using h1
  rw [hb.2 j hj h2]
  simp only [List.getElem_mapIdx]
  by_cases hc : 2 ≤ j
  · rw [if_pos hc, if_pos (by omega)]
  · rw [if_neg hc, if_neg (by omega)]
/-- right presses in new memory, to the letter -/
def RPrX (zs : List Int) (b p m : Nat) (w : World) (e : Ending) (w' : World) : Prop :=
  ∃ (v : Value) (l : List Pz), e = .returned v ∧ l = prX zs p m ∧ l.length = m ∧ RPr l 864001000 ∧ SpX zs w b (p + 2 * m + 1 + 1) w' [rOwn w.heap.size 50 2 v m (l.flatMap pzC)]
set_option maxRecDepth 100000 in
set_option maxHeartbeats 2000000 in
theorem rightPressesX_calls (b p m : Nat) (zs : List Int) (w : World) (hs : StrmX w b zs p) (hp : p ≤ 900000) (hm4 : 4 ≤ m) (hm : m ≤ 24) :
    Calls Tryz.prog 4 #[.pointer (some ⟨b, 0, none⟩), .int .i64 m] w (RPrX zs b p m w) := by
  obtain ⟨i0, hi, hi0, hi1, hi2⟩ := info_parts info_press
  have hS0 := (SpX.start hs).nil w.heap.size 50 2
  go_enter Tryz.func4, Tryz.ntmps4
  go_wp2_with fail
  go_loopw [5, 6, 9] (fun v a i wr => ∃ (k : Nat) (l : List Pz) (z : Int), k ≤ m ∧ i = .int .i64 k ∧ a = .int .i64 z ∧ 0 ≤ z ∧ z ≤ 30 * (k : Int) ∧ l.length = k ∧ Hid (RPr l z) ∧ Hid (prL zs p k = (l, z)) ∧ SpX zs w b (p + 2 * k) wr [rOwn w.heap.size 50 2 v l.length (l.flatMap pzC)]) (fun _ _ i _ => m - (intOf i).toNat)
  case atStart => exact ⟨0, [], 0, Nat.zero_le _, rfl, rfl, by omega, by omega, rfl, Lib.hid (RPr.nil 0), Lib.hid rfl, hS0⟩
  case round =>
    clear hS0
    obtain ⟨k, l, z, hk, rfl, rfl, hz0, hz1, hlk, HR, HP, hS⟩ := hrel
    by_cases hlt : k < m
    · go_wp2_with fail
      refine (spx_pickL hS prA #[.int .i64 0, .int .i64 1, .int .i64 5, .int .i64 10, .int .i64 30] 3 5 rfl (by decide) (by decide) rfl (by omega)).mono ?_
      rintro e w1 ⟨rfl, hS1⟩
      obtain ⟨hd0, hd1⟩ := pkX_bd zs (p + 2 * k) prA 0 30 (by decide) (by decide)
      obtain ⟨d, hd⟩ : ∃ d, pkX zs (p + 2 * k) prA = d := ⟨_, rfl⟩
      rw [hd] at hd0 hd1 ⊢
      have HD := Lib.hid hd
      clear hd
      clear hS
      go_wp2_with fail
      refine (spx_pickL hS1 prB #[.int .i64 1, .int .i64 2, .int .i64 2, .int .i64 2, .int .i64 2, .int .i64 3, .int .i64 4, .int .i64 4, .int .i64 5, .int .i64 6, .int .i64 6, .int .i64 7, .int .i64 8, .int .i64 8, .int .i64 9] 3 15 rfl (by decide) (by decide) rfl (by omega)).mono ?_
      rintro e w2 ⟨rfl, hS2⟩
      obtain ⟨hk0, hk1⟩ := pkX_bd zs (p + 2 * k + 1) prB 1 9 (by decide) (by decide)
      obtain ⟨kd, hkd⟩ : ∃ d, pkX zs (p + 2 * k + 1) prB = d := ⟨_, rfl⟩
      rw [hkd] at hk0 hk1 ⊢
      have HP2 : Hid (prL zs p (k + 1) = (l ++ [(z + d, kd)], z + d)) := prL_succ HP.out HD.out hkd
      clear hkd
      clear hS1
      have HO := hS2.head
      have hz2 := hS2.size
      have HR2 : Hid (RPr (l ++ [(z + d, kd)]) (z + d)) := HR.out.snoc hz0 hd0 ⟨hk0, hk1⟩
      go_wp2_with (first
        | (at_builtin; refine wpList_append_own_at _ rfl _ _ 26 rfl w.heap.size 50 i0 (.agg #[.int .i64 0, .int .i64 0]) 2 16 Tryz.underlying26 hi hi0 hi1 hi2 rfl (by decide) _ _ _ rfl (HO.alloc _) ⟨w2.heap.size, 0, none⟩ 1 1 [.int .i64 (z + d), .int .i64 kd] rfl rfl (World.news_of_block (heap_alloc_new _ _)) (one2p rfl rfl) (by unfold maxLen; omega) (by omega) (by simp; omega) ?_; intro v' w8 hown' hgrow _ hblk; have hS8 := (hS2.alloc _).append hown' hgrow hblk; clear hown' hgrow hblk HO))
      have hS9 : SpX zs w b (p + 2 * k + 1 + 1) w8 [rOwn w.heap.size 50 2 v' (l ++ [(z + d, kd)]).length ((l ++ [(z + d, kd)]).flatMap pzC)] := by
        rw [flat_pz, List.length_append]
        exact hS8
      go_roundw
      case rel => exact ⟨k + 1, _, z + d, by omega, by go_num, rfl, by omega, by omega, by simp; omega, HR2, HP2, hS9.at_ (by omega)⟩
      case measure => simp [intOf]; omega
    · obtain rfl : k = m := by omega
      · have HO : wr.ownsRow w.heap.size 50 2 u5 l.length (l.flatMap pzC) := hS.head
        obtain ⟨g, cap, hv, _, _⟩ := HO.form (by omega)
        subst hv
        have hcap := own_cap HO
        rw [hlk] at hS hcap ⊢
        have HLK := Lib.hid hlk
        have hkp : 0 < k := by omega
        clear HO
        go_wp2_with fail
        refine (spx_flip hS 8 (by omega) (by omega) (by omega)).mono ?_
        rintro e w1 ⟨rfl, hS1⟩
        obtain ⟨fv, hfv⟩ : ∃ fv, (nxX zs (p + 2 * k) 8 == 0) = fv := ⟨_, rfl⟩
        rw [hfv]
        have HFV := Lib.hid hfv
        clear hfv
        clear hS
        go_upto_if 32 with (fail)
        go_cut [] (fun W => ∃ l2 : List Pz, Hid (l2.length = k) ∧ Hid (RPr l2 z) ∧ Hid (prX1 zs p k = l2) ∧ SpX zs w b (p + 2 * k + 1) W [rOwn w.heap.size 50 2 (.slice (some ⟨g, 0, none⟩) k cap) k (l2.flatMap pzC)])
        case first =>
          cases fv
          · have hlp : 0 < l.length := by omega
            have hS2 := SpX.field pzC 2 pzC_len (rs := l) (by rw [hlk]; exact hS1) 0 1 hlp (by omega) (.int .i64 1) (l[0].1, 1) rfl
            rw [List.length_set, hlk] at hS2
            have HO2 : w1.ownsRow w.heap.size 50 2 (.slice (some ⟨g, 0, none⟩) k cap) k (l.flatMap pzC) := hS1.head
            have x1 := own_cell pzC 2 pzC_len HO2 0 1 hlp hkp (by omega)
            have f1 := HO2.frozenAt 1
            replace x1 : w1.cell? ⟨g, 1, none⟩ = some (.int .i64 l[0].2) := x1
            have HR3 : Hid (RPr (l.set 0 (l[0].1, 1)) z) := HR.out.first hlp
            have HX3 : Hid (prX1 zs p k = l.set 0 (l[0].1, 1)) := prX1_set HP.out HFV.out hlp
            have HL3 : Hid ((l.set 0 (l[0].1, 1)).length = k) := by show _ = _; rw [List.length_set, hlk]
            clear HO2
            go_wp2_with fail
            go_meet
            exact ⟨_, HL3, HR3, HX3, hS2⟩
          · go_wp2_with fail
            go_meet
            exact ⟨l, HLK, HR, prX1_same HP.out HFV.out, hS1⟩
        case rest =>
          obtain ⟨l2, HL2, HR2, HX2, hS2⟩ := hcut
          clear hS1
          · have e3 : 3 < k := by omega
            go_wp2_with fail
            refine (spx_flip hS2 12 (by omega) (by omega) (by omega)).mono ?_
            rintro e w2 ⟨rfl, hS3⟩
            obtain ⟨fv2, hfv2⟩ : ∃ fv, (nxX zs (p + 2 * k + 1) 12 == 0) = fv := ⟨_, rfl⟩
            rw [hfv2]
            have HFV2 := Lib.hid hfv2
            clear hfv2
            clear hS2
            cases fv2
            · go_wp2_with fail
              go_ret
              exact ⟨_, l2, rfl, (prX_same HX2.out HFV2.out).symm, HL2.out, HR2.out.more (by omega), hS3⟩
            · have hc2 : ¬ cap = 2 := by omega
              have hB0 : Hid (bumpL l2 l2 0) := bump0 l2
              go_wp2_with fail
              go_loopw [46] (fun i wr => ∃ (q : Nat) (l3 : List Pz), q ≤ k - 2 ∧ i = .int .i64 q ∧ Hid (bumpL l2 l3 q) ∧ SpX zs w b (p + 2 * k + 1 + 1) wr [rOwn w.heap.size 50 2 (.slice (some ⟨g, 0, none⟩) k cap) k (l3.flatMap pzC)]) (fun i _ => k - (intOf i).toNat)
              case atStart => exact ⟨0, l2, Nat.zero_le _, rfl, hB0, hS3⟩
              case round =>
                clear hS3 hB0
                obtain ⟨q, l3, hq, rfl, HB, hS⟩ := hrel
                by_cases hlt : q < k - 2
                · have hl3 : l3.length = k := HB.out.1.trans HL2.out
                  have hl3' : 2 + q < l3.length := by omega
                  have hl2' : 2 + q < l2.length := by rw [HL2.out]; omega
                  have HN := Lib.hid (bump_step HB.out hl2' hl3')
                  have hv := HB.out.2 (2 + q) hl2' hl3'
                  rw [if_neg (by omega)] at hv
                  have hbd := HR2.out.at_ _ (List.getElem_mem hl2')
                  rw [← hv] at hbd
                  have HO3 : wr.ownsRow w.heap.size 50 2 (.slice (some ⟨g, 0, none⟩) k cap) k (l3.flatMap pzC) := hS.head
                  have x0 := own_cell pzC 2 pzC_len HO3 (2 + q) 0 hl3' (by omega) (by omega)
                  have f0 := HO3.frozenAt ((2 + q) * 2)
                  have hS4 := SpX.field pzC 2 pzC_len (rs := l3) (by rw [hl3]; exact hS) (2 + q) 0 hl3' (by omega) (.int .i64 (l3[2 + q].1 + 864000000)) (l3[2 + q].1 + 864000000, l3[2 + q].2) rfl
                  rw [List.length_set, hl3] at hS4
                  obtain ⟨y, hy⟩ : ∃ y, l3[2 + q].1 = y := ⟨_, rfl⟩
                  replace x0 : wr.cell? ⟨g, (2 + q) * 2, none⟩ = some (.int .i64 y) := by rw [← hy]; exact x0
                  rw [hy] at hbd hS4 HN
                  have ix : (2 : Int) + (q : Int) < (k : Int) := by omega
                  clear hv HO3 hS hy
                  go_wp2_with fail
                  go_roundw
                  case rel => exact ⟨q + 1, _, by omega, by go_num, HN, hS4⟩
                  case measure => simp [intOf]; omega
                · obtain rfl : q = k - 2 := by omega
                  have hl3 : l3.length = k := HB.out.1.trans HL2.out
                  have HN : Hid (RPr l3 (z + 864000000)) := bump_RPr HR2.out hz0 (by rw [HL2.out]; exact HB.out) (by rw [HL2.out]; omega)
                  go_wp2_with fail
                  go_ret
                  exact ⟨_, l3, rfl, (prX_bump HX2.out HFV2.out HL2.out HB.out).symm, hl3, HN.out.more (by omega), hS⟩
end Go.Proofs.YtohjapfjkilmoaaGreatDoor
/-
  Cuts as the stream makes them, to the letter.
-/
namespace Go.Proofs.YtohjapfjkilmoaaGreatDoor
open Go Go.RowKit

abbrev ctA : List Int := [0, 10, 50, 1000]
/-- the cuts after k rounds, both times, and how many numbers were taken -/
def ctX (zs : List Int) (p : Nat) : Nat → List Cut × Int × Int × Nat
  | 0 => ([], 0, 0, p)
  | k + 1 =>
    if nxX zs (ctX zs p k).2.2.2 4 = 0 then ((ctX zs p k).1 ++ [(0, 0, true)], (ctX zs p k).2.1, (ctX zs p k).2.2.1, (ctX zs p k).2.2.2 + 1)
    else ((ctX zs p k).1 ++ [((ctX zs p k).2.1 + pkX zs ((ctX zs p k).2.2.2 + 1) ctA, (ctX zs p k).2.2.1 + (0 + nxX zs ((ctX zs p k).2.2.2 + 1 + 1) (pkX zs ((ctX zs p k).2.2.2 + 1) ctA - 0 + 1)), false)],
      (ctX zs p k).2.1 + pkX zs ((ctX zs p k).2.2.2 + 1) ctA, (ctX zs p k).2.2.1 + (0 + nxX zs ((ctX zs p k).2.2.2 + 1 + 1) (pkX zs ((ctX zs p k).2.2.2 + 1) ctA - 0 + 1)), (ctX zs p k).2.2.2 + 1 + 1 + 1)
theorem ctX_skip {zs : List Int} {p k q : Nat} {l : List Cut} {r g : Int} (h : ctX zs p k = (l, r, g, q)) (hf : (nxX zs q 4 == 0) = true) : ctX zs p (k + 1) = (l ++ [(0, 0, true)], r, g, q + 1) := by
  have hf : nxX zs q 4 = 0 := by simpa using hf
  unfold ctX
  rw [h]
  simp only
  rw [if_pos hf]
theorem ctX_take {zs : List Int} {p k q : Nat} {l : List Cut} {r g d y : Int} (h : ctX zs p k = (l, r, g, q)) (hf : (nxX zs q 4 == 0) = false) (hd : pkX zs (q + 1) ctA = d) (hy : 0 + nxX zs (q + 1 + 1) (d - 0 + 1) = y) :
    ctX zs p (k + 1) = (l ++ [(r + d, g + y, false)], r + d, g + y, q + 1 + 1 + 1) := by
  have hf : ¬ nxX zs q 4 = 0 := by simpa using hf
  subst hd hy
  rw [ctX, h]
  simp only
  rw [if_neg hf]
/-- right cuts in new memory, to the letter -/
def CutsX (zs : List Int) (b p m : Nat) (w : World) (e : Ending) (w' : World) : Prop :=
  ∃ (v : Value) (l : List Cut) (q : Nat), e = .returned v ∧ l = (ctX zs p m).1 ∧ q = (ctX zs p m).2.2.2 ∧ q ≤ p + 3 * m ∧ l.length = m ∧ cutF l = 0 ∧ SpX zs w b q w' [rOwn w.heap.size 40 3 v m (l.flatMap cutC)]
set_option maxRecDepth 100000 in
set_option maxHeartbeats 1000000 in
theorem rightCutsX_calls (b p m : Nat) (zs : List Int) (w : World) (hs : StrmX w b zs p) (hp : p ≤ 800000) (hm : m ≤ 24) :
    Calls Tryz.prog 5 #[.pointer (some ⟨b, 0, none⟩), .int .i64 m] w (CutsX zs b p m w) := by
  obtain ⟨i0, hi, hz0, hz1, hz2⟩ := info_parts info_cut
  have hS0 := (SpX.start hs).nil w.heap.size 40 3
  go_enter Tryz.func5, Tryz.ntmps5
  go_wp2_with fail
  go_loopw [5, 6, 7, 10] (fun v r g i wr => ∃ (k : Nat) (l : List Cut) (real game : Int) (q : Nat), k ≤ m ∧ l.length = k ∧ i = .int .i64 k ∧ r = .int .i64 real ∧ g = .int .i64 game ∧ 0 ≤ game ∧ game ≤ real ∧ real ≤ 1000 * k ∧ q ≤ p + 3 * k ∧ Hid (CutR l real game) ∧
      Hid (ctX zs p k = (l, real, game, q)) ∧ SpX zs w b q wr [rOwn w.heap.size 40 3 v l.length (l.flatMap cutC)]) (fun _ _ _ i _ => m - (intOf i).toNat)
  case atStart => exact ⟨0, [], 0, 0, p, Nat.zero_le _, rfl, rfl, rfl, rfl, by omega, by omega, by omega, by omega, CutR.nil, Lib.hid rfl, hS0⟩
  case round =>
    clear hS0
    obtain ⟨k, l, real, game, q, hk, hlk, rfl, rfl, rfl, hg0, hgr, hrk, hq, HC, HX, hS⟩ := hrel
    by_cases hltk : k < m
    · have hlk0 : l.length ≤ k := by omega
      have hlk1 : k ≤ l.length := by omega
      clear hlk
      go_wp2_with fail
      refine (spx_flip hS 4 (by omega) (by omega) (by omega)).mono ?_
      rintro e w1 ⟨rfl, hS1⟩
      obtain ⟨fv, hfv⟩ : ∃ fv, (nxX zs q 4 == 0) = fv := ⟨_, rfl⟩
      rw [hfv]
      have HF := Lib.hid hfv
      clear hS hfv
      cases fv
      · go_wp2_with fail
        refine (spx_pickL hS1 ctA #[.int .i64 0, .int .i64 10, .int .i64 50, .int .i64 1000] 3 4 rfl (by decide) (by decide) rfl (by omega)).mono ?_
        rintro e w2 ⟨rfl, hS2⟩
        obtain ⟨hd0, hd1⟩ := pkX_bd zs (q + 1) ctA 0 1000 (by decide) (by decide)
        obtain ⟨d, hd⟩ : ∃ d, pkX zs (q + 1) ctA = d := ⟨_, rfl⟩
        rw [hd] at hd0 hd1 ⊢
        have HD := Lib.hid hd
        clear hS1 hd
        go_wp2_with fail
        refine (spx_range hS2 0 d (by omega) (by omega) (by omega) (by omega)).mono ?_
        rintro e w3 ⟨rfl, hS3⟩
        obtain ⟨q1, q2⟩ := nxX_bd zs (q + 1 + 1) (n := d - 0 + 1) (by omega)
        obtain ⟨y, hy⟩ : ∃ y, 0 + nxX zs (q + 1 + 1) (d - 0 + 1) = y := ⟨_, rfl⟩
        rw [hy]
        have hy0 : 0 ≤ y := by omega
        have hy1 : y ≤ d := by omega
        have HX1 : Hid (ctX zs p (k + 1) = (l ++ [(real + d, game + y, false)], real + d, game + y, q + 1 + 1 + 1)) := ctX_take HX.out HF.out HD.out hy
        have hC := HC.out.take (r := real + d) (g := game + y) (by omega) (by omega) (by omega) (by omega) (by omega)
        have HC1 := Lib.hid hC
        have HO := hS3.head
        have hz3 := hS3.size
        clear hS2 hC HC hy q1 q2 HX HF HD
        go_wp2_with (first
          | (at_builtin; refine wpList_append_own_at _ rfl _ _ 28 rfl w.heap.size 40 i0 (.agg #[.int .i64 0, .int .i64 0, .bool false]) 3 24 Tryz.underlying28 hi hz0 hz1 hz2 rfl (by decide) _ _ _ rfl (HO.alloc _) ⟨w3.heap.size, 0, none⟩ 1 1 [.int .i64 (real + d), .int .i64 (game + y), .bool false] rfl rfl (World.news_of_block (heap_alloc_new _ _)) (by simp [Value.oneCell']) (by unfold maxLen; omega) (by omega) (by simp; omega) ?_; intro v' w8 hown' hgrow _ hblk; have hS8 := (hS3.alloc _).append hown' hgrow hblk; clear hown' hgrow hblk HO))
        have hS9 : SpX zs w b (q + 1 + 1 + 1) w8 [rOwn w.heap.size 40 3 v' (l ++ [(real + d, game + y, false)]).length ((l ++ [(real + d, game + y, false)]).flatMap cutC)] := by
          rw [flat_cut, List.length_append]
          exact hS8
        have hle : (l ++ [(real + d, game + y, false)]).length = k + 1 := by simp; omega
        have HLE := Lib.hid hle
        clear hS8 hS3 hle
        go_wp2
        go_roundw
        case rel => exact ⟨k + 1, _, real + d, game + y, q + 1 + 1 + 1, by omega, HLE.out, by go_num, rfl, rfl, by omega, by omega, by omega, by omega, HC1, HX1, hS9⟩
        case measure => simp [intOf]; omega
      · have hC := HC.out.skip
        have HC1 := Lib.hid hC
        have HX1 : Hid (ctX zs p (k + 1) = (l ++ [(0, 0, true)], real, game, q + 1)) := ctX_skip HX.out HF.out
        have HO := hS1.head
        have hz3 := hS1.size
        clear hC HC HX HF
        go_wp2_with (first
          | (at_builtin; refine wpList_append_own_at _ rfl _ _ 28 rfl w.heap.size 40 i0 (.agg #[.int .i64 0, .int .i64 0, .bool false]) 3 24 Tryz.underlying28 hi hz0 hz1 hz2 rfl (by decide) _ _ _ rfl (HO.alloc _) ⟨w1.heap.size, 0, none⟩ 1 1 [.int .i64 0, .int .i64 0, .bool true] rfl rfl (World.news_of_block (heap_alloc_new _ _)) (by simp [Value.oneCell']) (by unfold maxLen; omega) (by omega) (by simp; omega) ?_; intro v' w8 hown' hgrow _ hblk; have hS8 := (hS1.alloc _).append hown' hgrow hblk; clear hown' hgrow hblk HO))
        have hS9 : SpX zs w b (q + 1) w8 [rOwn w.heap.size 40 3 v' (l ++ [(0, 0, true)]).length ((l ++ [(0, 0, true)]).flatMap cutC)] := by
          rw [flat_cut, List.length_append]
          exact hS8
        have hle : (l ++ [((0 : Int), (0 : Int), true)]).length = k + 1 := by simp; omega
        have HLE := Lib.hid hle
        clear hS8 hS1 hle
        go_wp2
        go_roundw
        case rel => exact ⟨k + 1, _, real, game, q + 1, by omega, HLE.out, by go_num, rfl, rfl, by omega, by omega, by omega, by omega, HC1, HX1, hS9⟩
        case measure => simp [intOf]; omega
    · obtain rfl : k = m := by omega
      have hX := HX.out
      rw [hlk] at hS
      go_wp2
      go_ret
      exact ⟨_, l, q, rfl, by rw [hX], by rw [hX], hq, hlk, HC.out.ok (by omega), hS⟩
end Go.Proofs.YtohjapfjkilmoaaGreatDoor
/-
  Parts as the stream makes them, to the letter.
-/
namespace Go.Proofs.YtohjapfjkilmoaaGreatDoor
open Go Go.RowKit

abbrev ptA : List Int := [0, 5, 20]
abbrev ptB : List Int := [0, 10, 40]
/-- the parts after k rounds, the moment, and how many numbers were taken -/
def ptX (zs : List Int) (p : Nat) : Nat → List FrmP.Part × Int × Nat
  | 0 => ([], 0, p)
  | k + 1 =>
    let a := (ptX zs p k).2.1 + pkX zs (ptX zs p k).2.2 ptA
    let c := a + pkX zs ((ptX zs p k).2.2 + 1) ptB
    if nxX zs ((ptX zs p k).2.2 + 1 + 1) 50 = 0 then ((ptX zs p k).1 ++ [(oddX zs ((ptX zs p k).2.2 + 1 + 1 + 1) 0 100, oddX zs ((ptX zs p k).2.2 + 1 + 1 + 1 + 2) 0 10000000)], c, (ptX zs p k).2.2 + 1 + 1 + 1 + 2 + 2)
    else ((ptX zs p k).1 ++ [(a, c)], c, (ptX zs p k).2.2 + 1 + 1 + 1)
theorem ptX_plain {zs : List Int} {p k q : Nat} {l : List FrmP.Part} {a d d2 : Int} (h : ptX zs p k = (l, a, q)) (hd : pkX zs q ptA = d) (hd2 : pkX zs (q + 1) ptB = d2) (hf : (nxX zs (q + 1 + 1) 50 == 0) = false) :
    ptX zs p (k + 1) = (l ++ [(a + d, a + d + d2)], a + d + d2, q + 1 + 1 + 1) := by
  have hf : ¬ nxX zs (q + 1 + 1) 50 = 0 := by simpa using hf
  subst hd hd2
  rw [ptX, h]
  simp only
  rw [if_neg hf]
theorem ptX_odd {zs : List Int} {p k q : Nat} {l : List FrmP.Part} {a d d2 x y : Int} (h : ptX zs p k = (l, a, q)) (hd : pkX zs q ptA = d) (hd2 : pkX zs (q + 1) ptB = d2) (hf : (nxX zs (q + 1 + 1) 50 == 0) = true) (hx : oddX zs (q + 1 + 1 + 1) 0 100 = x) (hy : oddX zs (q + 1 + 1 + 1 + 2) 0 10000000 = y) :
    ptX zs p (k + 1) = (l ++ [(x, y)], a + d + d2, q + 1 + 1 + 1 + 2 + 2) := by
  have hf : nxX zs (q + 1 + 1) 50 = 0 := by simpa using hf
  subst hd hd2 hx hy
  rw [ptX, h]
  simp only
  rw [if_pos hf]
/-- parts in new memory, to the letter -/
def PartsX (zs : List Int) (b p m : Nat) (w : World) (e : Ending) (w' : World) : Prop :=
  ∃ (v : Value) (l : List FrmP.Part) (q : Nat), e = .returned v ∧ l = (ptX zs p m).1 ∧ q = (ptX zs p m).2.2 ∧ q ≤ p + 7 * m ∧ l.length = m ∧ PartI l ∧ SpX zs w b q w' [rOwn w.heap.size 45 2 v m (l.flatMap partC)]
set_option maxRecDepth 100000 in
set_option maxHeartbeats 1000000 in
theorem partsX_calls (b p m : Nat) (zs : List Int) (w : World) (hs : StrmX w b zs p) (hp : p ≤ 800000) (hm : m ≤ 24) :
    Calls Tryz.prog 6 #[.pointer (some ⟨b, 0, none⟩), .int .i64 m] w (PartsX zs b p m w) := by
  obtain ⟨i0, hi, hz0, hz1, hz2⟩ := info_parts info_part
  have hS0 := (SpX.start hs).nil w.heap.size 45 2
  go_enter Tryz.func6, Tryz.ntmps6
  go_wp2_with fail
  go_loopw [5, 6, 9] (fun v a i wr => ∃ (k : Nat) (l : List FrmP.Part) (at0 : Int) (q : Nat), k ≤ m ∧ l.length = k ∧ i = .int .i64 k ∧ a = .int .i64 at0 ∧ 0 ≤ at0 ∧ at0 ≤ 100 * k ∧ q ≤ p + 7 * k ∧ PartI l ∧
      Hid (ptX zs p k = (l, at0, q)) ∧ SpX zs w b q wr [rOwn w.heap.size 45 2 v l.length (l.flatMap partC)]) (fun _ _ i _ => m - (intOf i).toNat)
  case atStart => exact ⟨0, [], 0, p, Nat.zero_le _, rfl, rfl, rfl, by omega, by omega, by omega, (by intro x hx; cases hx), Lib.hid rfl, hS0⟩
  case round =>
    clear hS0
    obtain ⟨k, l, at0, q, hk, hlk, rfl, rfl, ha0, ha1, hq, hI, HX, hS⟩ := hrel
    by_cases hltk : k < m
    · have hlk0 : l.length ≤ k := by omega
      have hlk1 : k ≤ l.length := by omega
      clear hlk
      go_wp2_with fail
      refine (spx_pickL hS ptA #[.int .i64 0, .int .i64 5, .int .i64 20] 3 3 rfl (by decide) (by decide) rfl (by omega)).mono ?_
      rintro e w1 ⟨rfl, hS1⟩
      obtain ⟨hd0, hd1⟩ := pkX_bd zs q ptA 0 20 (by decide) (by decide)
      obtain ⟨d, hd⟩ : ∃ d, pkX zs q ptA = d := ⟨_, rfl⟩
      rw [hd] at hd0 hd1 ⊢
      have HD := Lib.hid hd
      clear hS hd
      go_wp2_with fail
      refine (spx_pickL hS1 ptB #[.int .i64 0, .int .i64 10, .int .i64 40] 3 3 rfl (by decide) (by decide) rfl (by omega)).mono ?_
      rintro e w2 ⟨rfl, hS2⟩
      obtain ⟨hd2, hd3⟩ := pkX_bd zs (q + 1) ptB 0 40 (by decide) (by decide)
      obtain ⟨d2, hdd⟩ : ∃ d, pkX zs (q + 1) ptB = d := ⟨_, rfl⟩
      rw [hdd] at hd2 hd3 ⊢
      have HD2 := Lib.hid hdd
      have hS2a := hS2.add #[.int .i64 (at0 + d), .int .i64 (at0 + d + d2)] 45
      have hz2s := hS2.size
      clear hS1 hdd hS2
      go_wp2_with fail
      refine (spx_flip hS2a 50 (by omega) (by omega) (by omega)).mono ?_
      rintro e w3 ⟨rfl, hS3⟩
      obtain ⟨fv, hfv⟩ : ∃ fv, (nxX zs (q + 1 + 1) 50 == 0) = fv := ⟨_, rfl⟩
      rw [hfv]
      have HF := Lib.hid hfv
      have B3 : Blk w3 w2.heap.size 45 #[.int .i64 (at0 + d), .int .i64 (at0 + d + d2)] := hS3.head
      have hz3 := hS3.size
      clear hS2a hfv
      cases fv
      · obtain ⟨k0, k1, k2, k3⟩ := B3.two
        have hS4 := hS3.front 1 rfl rfl
        have HO := hS4.head
        have HX1 : Hid (ptX zs p (k + 1) = (l ++ [(at0 + d, at0 + d + d2)], at0 + d + d2, q + 1 + 1 + 1)) := ptX_plain HX.out HD.out HD2.out HF.out
        clear hS3 HX HD HD2 HF
        go_wp2_with (first
          | (at_builtin; refine wpList_append_own_at _ rfl _ _ 30 rfl w.heap.size 45 i0 (.agg #[.int .i64 0, .int .i64 0]) 2 16 Tryz.underlying30 hi hz0 hz1 hz2 rfl (by decide) _ _ _ rfl (HO.alloc _) ⟨w3.heap.size, 0, none⟩ 1 1 [.int .i64 (at0 + d), .int .i64 (at0 + d + d2)] rfl rfl (World.news_of_block (heap_alloc_new _ _)) (by simp [Value.oneCell']) (by unfold maxLen; omega) (by omega) (by simp; omega) ?_; intro v' w9 hown' hgrow _ hblk; have hS8 := ((hS4.alloc _).append hown' hgrow hblk).drop 1 rfl rfl; clear hown' hgrow hblk HO))
        have hS9 : SpX zs w b (q + 1 + 1 + 1) w9 [rOwn w.heap.size 45 2 v' (l ++ [(at0 + d, at0 + d + d2)]).length ((l ++ [(at0 + d, at0 + d + d2)]).flatMap partC)] := by
          rw [flat_snoc, List.length_append]
          exact hS8
        have hI9 := hI.snoc (p := ((at0 + d), (at0 + d + d2))) ⟨⟨by simp only; omega, by simp only; omega⟩, by simp only; omega, by simp only; omega⟩
        have hle : (l ++ [((at0 + d), (at0 + d + d2))]).length = k + 1 := by simp; omega
        have HLE := Lib.hid hle
        clear hle hS8 hS4 B3 k0 k1 k2 k3
        go_wp2
        go_roundw
        case rel => exact ⟨k + 1, _, at0 + d + d2, _, by omega, HLE.out, by go_num, rfl, by omega, by omega, by omega, hI9, HX1, hS9⟩
        case measure => simp [intOf]; omega
      · go_wp2_with fail
        refine (spx_odd hS3 0 100 (by omega) (by omega) (by omega) (by omega)).mono ?_
        rintro e w4 ⟨rfl, hS4⟩
        obtain ⟨p1, p2⟩ := oddX_bd zs (q + 1 + 1 + 1) 0 100 (by omega) (by omega) (by omega)
        obtain ⟨x, hx⟩ : ∃ x, oddX zs (q + 1 + 1 + 1) 0 100 = x := ⟨_, rfl⟩
        rw [hx] at p1 p2 ⊢
        have HXX := Lib.hid hx
        clear hx hS3
        go_wp2_with fail
        refine (spx_odd hS4 0 10000000 (by omega) (by omega) (by omega) (by omega)).mono ?_
        rintro e w5 ⟨rfl, hS5⟩
        obtain ⟨q1, q2⟩ := oddX_bd zs (q + 1 + 1 + 1 + 2) 0 10000000 (by omega) (by omega) (by omega)
        obtain ⟨y, hy⟩ : ∃ y, oddX zs (q + 1 + 1 + 1 + 2) 0 10000000 = y := ⟨_, rfl⟩
        rw [hy] at q1 q2 ⊢
        have HX1 : Hid (ptX zs p (k + 1) = (l ++ [(x, y)], at0 + d + d2, q + 1 + 1 + 1 + 2 + 2)) := ptX_odd HX.out HD.out HD2.out HF.out HXX.out hy
        have B5 : Blk w5 w2.heap.size 45 #[.int .i64 (at0 + d), .int .i64 (at0 + d + d2)] := hS5.head
        obtain ⟨k0, k1, k2, k3⟩ := B5.two
        have hS6 := ((hS5.set_ 0 (.int .i64 x)).set_ 1 (.int .i64 y)).front 1 rfl rfl
        have HO := hS6.head
        have hz5 := hS5.size
        clear hS4 hS5 HX HD HD2 HF HXX hy B3
        go_wp2_with (first
          | (at_builtin; refine wpList_append_own_at _ rfl _ _ 30 rfl w.heap.size 45 i0 (.agg #[.int .i64 0, .int .i64 0]) 2 16 Tryz.underlying30 hi hz0 hz1 hz2 rfl (by decide) _ _ _ rfl (HO.alloc _) ⟨w5.heap.size, 0, none⟩ 1 1 [.int .i64 x, .int .i64 y] rfl rfl (World.news_of_block (heap_new_s2 _ _ _ _ _ _)) (by simp [Value.oneCell']) (by unfold maxLen; omega) (by omega) (by simp; omega) ?_; intro v' w9 hown' hgrow _ hblk; have hS8 := ((hS6.alloc _).append hown' hgrow hblk).drop 1 rfl rfl; clear hown' hgrow hblk HO))
        have hS9 : SpX zs w b (q + 1 + 1 + 1 + 2 + 2) w9 [rOwn w.heap.size 45 2 v' (l ++ [(x, y)]).length ((l ++ [(x, y)]).flatMap partC)] := by
          rw [flat_snoc, List.length_append]
          exact hS8
        have hI9 := hI.snoc (p := (x, y)) ⟨⟨by simp only; omega, by simp only; omega⟩, by simp only; omega, by simp only; omega⟩
        have hle : (l ++ [(x, y)]).length = k + 1 := by simp; omega
        have HLE := Lib.hid hle
        clear hle hS8 hS6 B5 k0 k1 k2 k3
        go_wp2
        go_roundw
        case rel => exact ⟨k + 1, _, at0 + d + d2, _, by omega, HLE.out, by go_num, rfl, by omega, by omega, by omega, hI9, HX1, hS9⟩
        case measure => simp [intOf]; omega
    · obtain rfl : k = m := by omega
      have hX := HX.out
      rw [hlk] at hS
      go_wp2
      go_ret
      exact ⟨_, l, q, rfl, by rw [hX], by rw [hX], hq, hlk, hI, hS⟩
end Go.Proofs.YtohjapfjkilmoaaGreatDoor
/-
  spoil of ints and of cuts by contracts: it turns its row alone; slices.Equal of presses and of parts. (Printed by gen_tst4.py.)
-/
namespace Go.Proofs.YtohjapfjkilmoaaGreatDoor
open Go Go.RowKit
attribute [local go_sem ↓] Go.wp_at_zero Go.wp_at_succ

def SpoilS (base : Nat) (w : World) (e : Ending) (w' : World) : Prop := e = .returned (.tuple #[]) ∧ Below base w w'
theorem below_set {B : Nat} {w w' : World} (h : Below B w w') {g i : Nat} (hg : B ≤ g) (u : Value) : Below B w (w'.setCell ⟨g, i, none⟩ u) :=
  ⟨h.os, h.tape, h.output, by have := h.size; simpa [World.setCell] using this, fun k hk => (Below.heap_setCell w' ⟨g, i, none⟩ u k (by show k ≠ g; omega)).trans (h.block k hk)⟩
theorem map_flat1 (l : List Int) : l.flatMap (fun x => [Value.int .i64 x]) = l.map (Value.int .i64) := by
  induction l with
  | nil => rfl
  | cons a t ih => rw [List.flatMap_cons, List.map_cons, ih]; rfl
set_option maxRecDepth 100000 in
theorem spoilI_calls (base n : Nat) (A : Option Addr) (c : Nat) (l : List Int) (w : World) (ho : w.ownsRow base 3 1 (.slice A n c) n (l.map (Value.int .i64))) (hl : l.length = n) :
    Calls Tryz.prog 8 #[.slice A n c] w (SpoilS base w) := by
  have hcap := own_cap ho
  unfold maxLen at hcap
  have ho' : w.ownsRow base 3 1 (.slice A n c) n (l.flatMap (fun x => [Value.int .i64 x])) := by
    rw [map_flat1]
    exact ho
  have hF := Lib.hid hl
  clear ho hl
  go_enter Tryz.func8, Tryz.ntmps8
  go_wp2_with fail
  go_loopw [6] (fun i wr => ∃ (k : Nat) (ys : List Int), k ≤ n ∧ i = .int .i64 k ∧ Hid (ys.length = n) ∧ Hid (Below base w wr) ∧ wr.ownsRow base 3 1 (.slice A n c) n (ys.flatMap (fun x => [Value.int .i64 x]))) (fun i _ => n - (intOf i).toNat)
  case atStart => exact ⟨0, l, Nat.zero_le _, rfl, hF, Lib.hid (Below.refl _ _), ho'⟩
  case round =>
    clear ho'
    obtain ⟨k, ys, hk, rfl, HL, HB, ho⟩ := hrel
    by_cases hlt : k < n
    · obtain ⟨g, cap, hv, hg, _⟩ := ho.form (by omega)
      injection hv with hA _ hc
      subst hA hc
      have hky : k < ys.length := by rw [HL.out]; exact hlt
      have x0 := own_cell (fun x => [Value.int .i64 x]) 1 (fun _ => rfl) ho k 0 hky (by omega) (by omega)
      rw [Nat.mul_one, Nat.add_zero] at x0
      replace x0 : wr.cell? ⟨g, k, none⟩ = some (.int .i64 ys[k]) := x0
      have f0 := ho.frozenAt k
      have hst := own_store (fun x => [Value.int .i64 x]) 1 (fun _ => rfl) (by rw [HL.out]; exact ho) k 0 hky (by omega) (.int .i64 0) 0 rfl
      rw [List.length_set, HL.out, Nat.mul_one, Nat.add_zero] at hst
      have HB2 : Hid (Below base w (wr.setCell ⟨g, k, none⟩ (.int .i64 0))) := below_set HB.out hg _
      have HL2 : Hid ((ys.set k 0).length = n) := by show _ = _; rw [List.length_set]; exact HL.out
      have hk0 : (0 : Int) ≤ (k : Int) := by omega
      have hk1 : (k : Int) < (n : Int) := by omega
      clear ho HB
      go_wp2_with fail
      go_roundw
      case rel => exact ⟨k + 1, _, by omega, by go_num, HL2, HB2, hst⟩
      case measure => simp [intOf]; omega
    · obtain rfl : k = n := by omega
      go_wp2_with fail
      go_end0
      exact ⟨rfl, HB.out⟩
set_option maxRecDepth 100000 in
theorem spoilC_calls (base n : Nat) (A : Option Addr) (c : Nat) (l : List Cut) (w : World) (ho : w.ownsRow base 40 3 (.slice A n c) n (l.flatMap cutC)) (hl : l.length = n) (hb : base ≤ w.heap.size) :
    Calls Tryz.prog 10 #[.slice A n c] w (SpoilS base w) := by
  have hcap := own_cap ho
  unfold maxLen at hcap
  have hz := (Blk.new w 40 #[.int .i64 0, .int .i64 0, .bool false])
  have hB0 : Below base w (w.alloc (.cells #[.int .i64 0, .int .i64 0, .bool false] 40)) := (Below.refl _ _).alloc hb _
  have hgz : ∀ g, (Value.slice A n c).ownBlock = some g → g < w.heap.size := fun g hg => (ho.lt g hg).2
  have ho' := ho.alloc (.cells #[.int .i64 0, .int .i64 0, .bool false] 40)
  obtain ⟨gz, hgz2⟩ : ∃ gz, w.heap.size = gz := ⟨_, rfl⟩
  rw [hgz2] at hz hgz
  have hF := Lib.hid hl
  have HB0 := Lib.hid hB0
  clear hl ho hB0 hb
  go_enter Tryz.func10, Tryz.ntmps10
  go_wp2_with fail
  go_loopw [6] (fun i wr => ∃ (k : Nat) (ys : List Cut), k ≤ n ∧ i = .int .i64 k ∧ Hid (ys.length = n) ∧ Hid (Below base w wr) ∧ Blk wr gz 40 #[.int .i64 0, .int .i64 0, .bool false] ∧ wr.ownsRow base 40 3 (.slice A n c) n (ys.flatMap cutC)) (fun i _ => n - (intOf i).toNat)
  case atStart => exact ⟨0, l, Nat.zero_le _, rfl, hF, HB0, hz, ho'⟩
  case round =>
    clear ho' hz hgz2
    obtain ⟨k, ys, hk, rfl, HL, HB, B, ho⟩ := hrel
    by_cases hlt : k < n
    · obtain ⟨g, cap, hv, hg, _⟩ := ho.form (by omega)
      injection hv with hA _ hc
      subst hA hc
      have hne : gz ≠ g := by have := hgz g rfl; omega
      have hky : k < ys.length := by rw [HL.out]; exact hlt
      have x0 := own_cell cutC 3 cutC_len ho k 0 hky (by omega) (by omega)
      have x1 := own_cell cutC 3 cutC_len ho k 1 hky (by omega) (by omega)
      have x2 := own_cell cutC 3 cutC_len ho k 2 hky (by omega) (by omega)
      replace x0 : wr.cell? ⟨g, k * 3, none⟩ = some (.int .i64 ys[k].1) := x0
      replace x1 : wr.cell? ⟨g, k * 3 + 1, none⟩ = some (.int .i64 ys[k].2.1) := x1
      replace x2 : wr.cell? ⟨g, k * 3 + 2, none⟩ = some (.bool ys[k].2.2) := x2
      have f0 := ho.frozenAt (k * 3)
      have f1 := ho.frozenAt (k * 3 + 1)
      have f2 := ho.frozenAt (k * 3 + 2)
      have z0 := B.cell 0
      have z1 := B.cell 1
      have z2 := B.cell 2
      have hk0 : (0 : Int) ≤ (k : Int) := by omega
      have hk1 : (k : Int) < (n : Int) := by omega
      have s0 := own_store cutC 3 cutC_len (by rw [HL.out]; exact ho) k 0 hky (by omega) (.int .i64 0) (0, ys[k].2) rfl
      have hk2 : k < (ys.set k (0, ys[k].2)).length := by rw [List.length_set]; exact hky
      have s1 := own_store cutC 3 cutC_len s0 k 1 hk2 (by omega) (.int .i64 0) (0, 0, ys[k].2.2) (by simp [cutC])
      have hk3 : k < ((ys.set k (0, ys[k].2)).set k (0, 0, ys[k].2.2)).length := by rw [List.length_set]; exact hk2
      have s2 := own_store cutC 3 cutC_len s1 k 2 hk3 (by omega) (.bool false) (0, 0, false) (by simp [cutC])
      have HL2 : Hid ((((ys.set k (0, ys[k].2)).set k (0, 0, ys[k].2.2)).set k (0, 0, false)).length = n) := by show _ = _; rw [List.length_set, List.length_set, List.length_set]; exact HL.out
      rw [HL2.out] at s2
      have HB2 : Hid (Below base w (((wr.setCell ⟨g, k * 3 + 0, none⟩ (.int .i64 0)).setCell ⟨g, k * 3 + 1, none⟩ (.int .i64 0)).setCell ⟨g, k * 3 + 2, none⟩ (.bool false))) := below_set (below_set (below_set HB.out hg _) hg _) hg _
      have B2 := ((B.far (p := ⟨g, k * 3 + 0, none⟩) hne (.int .i64 0)).far (p := ⟨g, k * 3 + 1, none⟩) hne (.int .i64 0)).far (p := ⟨g, k * 3 + 2, none⟩) hne (.bool false)
      clear ho HB s0 s1 B
      go_wp2_with fail
      go_roundw
      case rel => exact ⟨k + 1, _, by omega, by go_num, HL2, HB2, B2, s2⟩
      case measure => simp [intOf]; omega
    · obtain rfl : k = n := by omega
      go_wp2_with fail
      go_end0
      exact ⟨rfl, HB.out⟩

set_option maxRecDepth 100000 in
theorem equalPz_calls (b : Nat) (A A2 : Option Addr) (n c c2 : Nat) (rs : List Pz) (w : World) (hr : Rd w b 2 (.slice A n c) n (rs.flatMap pzC)) (hr2 : Rd w b 2 (.slice A2 n c2) n (rs.flatMap pzC)) :
    Calls Tryz.prog 13 #[.slice A n c, .slice A2 n c2] w (QRet (.bool true) w) := by
  obtain ⟨hl, hnc, hcm, hcells⟩ := hr.cells pzC_len (by omega)
  obtain ⟨_, _, hcm2, hcells2⟩ := hr2.cells pzC_len (by omega)
  unfold maxLen at hcm hcm2
  have HL := Lib.hid hl
  have HC := Lib.hid hcells
  have HC2 := Lib.hid hcells2
  have hnn : ((n : Int) != (n : Int)) = false := by simp
  clear hcells hcells2 hl hr hr2
  go_enter Tryz.func13, Tryz.ntmps13
  go_wp2_with fail
  go_loopw [13] (fun i wr => ∃ k nq : Nat, k ≤ n ∧ i = .int .i64 k ∧ wr = w.drewN nq) (fun i _ => n - (intOf i).toNat)
  case atStart => exact ⟨0, 0, Nat.zero_le _, rfl, rfl⟩
  case round =>
    obtain ⟨k, nq, hk, rfl, rfl⟩ := hrel
    by_cases hlt : k < n
    · have hkr : k < rs.length := by rw [HL.out]; exact hlt
      obtain ⟨g, o, hA, _, hcs⟩ := HC.out (by omega)
      obtain ⟨g2, o2, hA2, _, hcs2⟩ := HC2.out (by omega)
      subst hA hA2
      have c0 := hcs k hkr 0 (by omega)
      have c1 := hcs k hkr 1 (by omega)
      have x0 := hcs2 k hkr 0 (by omega)
      have x1 := hcs2 k hkr 1 (by omega)
      simp only [pzC, Nat.add_zero, List.getElem?_cons_zero, List.getElem?_cons_succ] at c0 c1 x0 x1
      have hk0 : (0 : Int) ≤ (k : Int) := by omega
      have hk1 : (k : Int) < (n : Int) := by omega
      clear hcs hcs2
      go_wp2_with fail
      go_quiet (fail)
      go_wp2_with fail
      go_roundw
      case rel => exact ⟨k + 1, _, by omega, by go_num, rfl⟩
      case measure => simp [intOf]; omega
    · obtain rfl : k = n := by omega
      go_wp2_with fail
      go_ret
      exact ⟨rfl, nq, rfl⟩
set_option maxRecDepth 100000 in
theorem equalPart_calls (b : Nat) (A A2 : Option Addr) (n c c2 : Nat) (rs : List FrmP.Part) (w : World) (hr : Rd w b 2 (.slice A n c) n (rs.flatMap partC)) (hr2 : Rd w b 2 (.slice A2 n c2) n (rs.flatMap partC)) :
    Calls Tryz.prog 15 #[.slice A n c, .slice A2 n c2] w (QRet (.bool true) w) := by
  obtain ⟨hl, hnc, hcm, hcells⟩ := hr.cells partC_len (by omega)
  obtain ⟨_, _, hcm2, hcells2⟩ := hr2.cells partC_len (by omega)
  unfold maxLen at hcm hcm2
  have HL := Lib.hid hl
  have HC := Lib.hid hcells
  have HC2 := Lib.hid hcells2
  have hnn : ((n : Int) != (n : Int)) = false := by simp
  clear hcells hcells2 hl hr hr2
  go_enter Tryz.func15, Tryz.ntmps15
  go_wp2_with fail
  go_loopw [13] (fun i wr => ∃ k nq : Nat, k ≤ n ∧ i = .int .i64 k ∧ wr = w.drewN nq) (fun i _ => n - (intOf i).toNat)
  case atStart => exact ⟨0, 0, Nat.zero_le _, rfl, rfl⟩
  case round =>
    obtain ⟨k, nq, hk, rfl, rfl⟩ := hrel
    by_cases hlt : k < n
    · have hkr : k < rs.length := by rw [HL.out]; exact hlt
      obtain ⟨g, o, hA, _, hcs⟩ := HC.out (by omega)
      obtain ⟨g2, o2, hA2, _, hcs2⟩ := HC2.out (by omega)
      subst hA hA2
      have c0 := hcs k hkr 0 (by omega)
      have c1 := hcs k hkr 1 (by omega)
      have x0 := hcs2 k hkr 0 (by omega)
      have x1 := hcs2 k hkr 1 (by omega)
      simp only [partC, Nat.add_zero, List.getElem?_cons_zero, List.getElem?_cons_succ] at c0 c1 x0 x1
      have hk0 : (0 : Int) ≤ (k : Int) := by omega
      have hk1 : (k : Int) < (n : Int) := by omega
      clear hcs hcs2
      go_wp2_with fail
      go_quiet (fail)
      go_wp2_with fail
      go_roundw
      case rel => exact ⟨k + 1, _, by omega, by go_num, rfl⟩
      case measure => simp [intOf]; omega
    · obtain rfl : k = n := by omega
      go_wp2_with fail
      go_ret
      exact ⟨rfl, nq, rfl⟩
end Go.Proofs.YtohjapfjkilmoaaGreatDoor
