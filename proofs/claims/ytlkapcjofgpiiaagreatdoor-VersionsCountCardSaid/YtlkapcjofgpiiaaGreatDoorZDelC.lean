/-
  slices.IndexFunc and DeleteFunc of strings at CountsFor's closure by contracts. (Printed by gen_dels.py.)
-/
import Derived.Test.YtlkapcjofgpiiaaGreatDoorZLow
import Derived.Deep.RegionHeld3
import Derived.BigRegion
import Derived.Deep.DrawnRows
import Derived.Test.YtlkapcjofgpiiaaGreatDoorZVer2
import Derived.Test.YtlkapcjofgpiiaaGreatDoorZSrt
import Derived.Test.YtlkapcjofgpiiaaGreatDoorZRule6
import Derived.Test.YtlkapcjofgpiiaaGreatDoorZSlot1
namespace Go.Proofs.YtlkapcjofgpiiaaGreatDoor
open Go Go.RowKit
attribute [local go_sem ↓] Go.wp_at_zero Go.wp_at_succ

set_option maxRecDepth 100000 in
theorem indexFC_calls (b : Nat) (gl gr : Nat) (p : ByteArray → Bool) (A2 : Option Addr) (n c2 : Nat) (hs : List ByteArray) (w : World) (HCC0 : ∀ W (x : ByteArray), x ∈ hs → Below w.heap.size w W → Calls Tryz.prog 65 #[.string x, .pointer (some ⟨gl, 0, none⟩), .pointer (some ⟨gr, 0, none⟩)] W (BRet (.bool (p x)) W)) (hr2 : Rd w b 1 (.slice A2 n c2) n (strsV hs)) :
    Calls Tryz.prog 89 #[.slice A2 n c2, .func (.func 65) #[] #[.pointer (some ⟨gl, 0, none⟩), .pointer (some ⟨gr, 0, none⟩)]] w (BRet (.int .i64 (ixOf p hs)) w) := by
  obtain ⟨hl, hnc, hcm, hcells⟩ := strs_cells hr2
  unfold maxLen at hcm
  have HCC := Lib.hid HCC0
  have HL := Lib.hid hl
  have HCL := Lib.hid hcells
  clear hcells hl hr2 HCC0
  go_enter Tryz.func89, Tryz.ntmps89
  go_wp2
  go_loopw [8] (fun i wr => ∃ k : Nat, k ≤ n ∧ i = .int .i64 k ∧ Hid (∀ i (_ : i < k) (hi' : i < hs.length), p hs[i] = false) ∧ Below w.heap.size w wr) (fun i _ => n - (intOf i).toNat)
  case atStart => exact ⟨0, Nat.zero_le _, rfl, (fun i hi => absurd hi (by omega)), Below.refl _ _⟩
  case round =>
    obtain ⟨k, hk, rfl, HF, hbr⟩ := hrel
    by_cases hlt : k < n
    · have hkr : k < hs.length := by rw [HL.out]; exact hlt
      obtain ⟨g, o, hA, _, hcs⟩ := HCL.out (by omega)
      subst hA
      have c0 := below_cell hbr (hcs k hkr)
      have HK0 := HCC.out wr hs[k] (List.getElem_mem hkr) hbr
      obtain ⟨s, hs'⟩ : ∃ s, hs[k] = s := ⟨_, rfl⟩
      rw [hs'] at c0 HK0
      have HK := Lib.hid HK0
      clear hcs HK0
      cases hp : p s
      · rw [hp] at HK
        have HF2 : Hid (∀ i (_ : i < k + 1) (hi' : i < hs.length), p hs[i] = false) := by
          intro i hi hi'
          by_cases hik : i = k
          · subst hik; rw [hs']; exact hp
          · exact HF.out i (by omega) hi'
        clear hp hs'
        go_wp2_with (go_at_call 65; refine HK.out.mono ?_; rintro e w2 ⟨rfl, hb2⟩)
        have hb3 := below_call hbr hb2 (Nat.le_refl _)
        go_roundw
        case rel => exact ⟨k + 1, by omega, by go_num, HF2, hb3⟩
        case measure => simp [intOf]; omega
      · rw [hp] at HK
        have HR : Hid (ixOf p hs = k) := ixOf_at _ hs k hkr (fun i hi => HF.out i hi (by omega)) (by rw [hs']; exact hp)
        clear hp hs'
        go_wp2_with (go_at_call 65; refine HK.out.mono ?_; rintro e w2 ⟨rfl, hb2⟩)
        have hb3 := below_call hbr hb2 (Nat.le_refl _)
        go_ret
        exact ⟨ret_int HR.out.symm, hb3⟩
    · obtain rfl : k = n := by omega
      have HR : Hid (ixOf p hs = -1) := ixOf_no _ hs (fun i hi => HF.out i (by rw [← HL.out]; exact hi) hi)
      go_wp2
      go_ret
      exact ⟨ret_int HR.out.symm, hbr⟩
set_option maxRecDepth 100000 in
set_option maxHeartbeats 2000000 in
theorem deleteC_calls (w0 : World) (b : Nat) (gl gr : Nat) (p : ByteArray → Bool) (A : Option Addr) (n c : Nat) (ys : List ByteArray) (L : List Rsc) (w : World) (hS : Sq w0 w (rOwn w0.heap.size 9 1 (.slice A n c) n (strsV ys) :: L)) (HCC0 : ∀ W (x : ByteArray), x ∈ ys → Below w0.heap.size w0 W → Calls Tryz.prog 65 #[.string x, .pointer (some ⟨gl, 0, none⟩), .pointer (some ⟨gr, 0, none⟩)] W (BRet (.bool (p x)) W)) (hb : ∀ k, (Value.slice A n c).ownBlock = some k → k ≠ b) (hn : n ≤ 100000) :
    Calls Tryz.prog 63 #[.slice A n c, .func (.func 65) #[] #[.pointer (some ⟨gl, 0, none⟩), .pointer (some ⟨gr, 0, none⟩)]] w (DelSq w0 b (kptS p ys) L) := by
  have hrd : Rd w b 1 (.slice A n c) n (strsV ys) := Rd.of_own hS.head hb
  have HIX := Lib.hid (indexFC_calls b gl gr p A n c ys w (fun W x hx hW => HCC0 W x hx (below_call hS.below hW (Nat.le_refl _))) hrd)
  rw [strsV_flat] at hS
  have hown : w.ownsRow w0.heap.size 9 1 (.slice A n c) n (ys.flatMap s1C) := hS.head
  have hl : ys.length = n := (strs_cells hrd).1
  have hcap := own_cap hown
  obtain ⟨hc1, hc2⟩ := hcap
  unfold maxLen at hc2
  have HL := Lib.hid hl
  rcases ixOf_split p ys with ⟨h1, h2⟩ | ⟨k, hk, h1, h2, h3⟩
  · have hall : kptS p ys = ys := by
      have := kptS_all (p := p) (ys := ys) ys.length (Nat.le_refl _) (fun i _ hi => h2 i hi)
      rwa [List.take_length] at this
    rw [h1] at HIX
    rw [hall]
    have HS := Lib.hid hS
    have HR := Lib.hid hrd
    clear h1 h2 hall hS HCC0 hown hrd hl hb
    go_enter Tryz.func63, Tryz.ntmps63
    go_wp2_with fail
    refine HIX.out.mono ?_
    rintro e w1 ⟨rfl, hb1⟩
    go_wp2_with fail
    go_ret
    exact ⟨_, _, _, rfl, HL.out.symm, HR.out.below hb1, (HS.out.callB hb1).tail⟩
  · rw [h1] at HIX
    have hkn : k < n := by rw [← hl]; exact hk
    obtain ⟨g, cap, hv, hg0, _⟩ := hown.form (by omega)
    injection hv with hA _ hcc
    subst hA hcc
    have hdl : DlS p ys k (k + 1) ys := by
      have e1 : kptS p (ys.take k) = ys.take k := kptS_all k (by omega) (fun i hi hi' => h3 i hi)
      have e2 : kptS p (ys.take (k + 1)) = ys.take k := by rw [kptS_step p ys k hk, if_pos h2, e1]
      refine ⟨rfl, by rw [e2, List.length_take]; omega, fun t ht => by rw [e2, List.getElem?_take_of_lt ht], fun _ _ => rfl⟩
    have HD := Lib.hid hdl
    have HCC := Lib.hid HCC0
    have HS := Lib.hid hS
    have hgg : w0.heap.size ≤ g := hg0
    have hgb : g ≠ b := hb g rfl
    clear h1 h2 h3 hS HCC0 hown hrd hl hdl hk hg0 hb
    go_enter Tryz.func63, Tryz.ntmps63
    go_wp2_with fail
    refine HIX.out.mono ?_
    rintro e w1 ⟨rfl, hb1⟩
    have hS1 := HS.out.callB hb1
    have hkk : ((k : Int) == -1) = false := by rw [beq_eq_false_iff_ne]; omega
    clear hb1
    go_wp2_with fail
    clear hkk
    go_loopw [5, 6] (fun s5 s6 wr => ∃ (i j : Nat) (zs : List ByteArray), s5 = .int .i64 i ∧ s6 = .int .i64 j ∧ i < j ∧ j ≤ n ∧ Hid (DlS p ys i j zs) ∧ Sq w0 wr (rOwn w0.heap.size 9 1 (.slice (some ⟨g, 0, none⟩) n c) n (zs.flatMap s1C) :: L)) (fun _ s6 _ => n - (intOf s6).toNat)
    case atStart => exact ⟨k, k + 1, ys, rfl, by go_num, by omega, by omega, HD, hS1⟩
    case round =>
      clear hS1 HD
      obtain ⟨i, j, zs, rfl, rfl, hij, hjn, HD, hS⟩ := hrel
      have hzl : zs.length = n := by rw [HD.out.len]; exact HL.out
      have hown : wr.ownsRow w0.heap.size 9 1 (.slice (some ⟨g, 0, none⟩) n c) n (zs.flatMap s1C) := hS.head
      have hgl : g < wr.heap.size := (hown.lt g rfl).2
      by_cases hlt : j < n
      · have hjr : j < ys.length := by rw [HL.out]; exact hlt
        have hjz : j < zs.length := by omega
        have hzy : zs[j] = ys[j] := by
          have := HD.out.hi j (Nat.le_refl _)
          rw [List.getElem?_eq_getElem hjz, List.getElem?_eq_getElem hjr] at this
          exact Option.some.inj this
        have hmem : ys[j] ∈ ys := List.getElem_mem hjr
        obtain ⟨y, hy⟩ : ∃ y, ys[j] = y := ⟨_, rfl⟩
        have c0 := own_cell s1C 1 s1C_len hown j 0 hjz hlt (by omega)
        rw [hzy, hy, Nat.mul_one, Nat.add_zero] at c0
        replace c0 : wr.cell? ⟨g, j, none⟩ = some (.string y) := c0
        rw [hy] at hmem
        have HK := Lib.hid (HCC.out _ y hmem hS.below)
        have hj0 : (0 : Int) ≤ (j : Int) := by omega
        have hj1 : (j : Int) < (n : Int) := by omega
        have hi0 : (0 : Int) ≤ (i : Int) := by omega
        have hi1 : (i : Int) < (n : Int) := by omega
        have HY : Hid (ys[j] = y) := hy
        cases hp : p y
        · have HD2 := Lib.hid (HD.out.keep hjr (by rw [hy]; exact hp) hij)
          rw [hp] at HK
          have hiz : i < zs.length := by omega
          have HSS := Lib.hid hS
          clear hzy hown hS hp HD hmem
          go_wp2_with fail
          refine HK.out.mono ?_
          rintro e w2 ⟨rfl, hb2⟩
          have hS2 := HSS.out.callB hb2
          have o2 : w2.ownsRow w0.heap.size 9 1 (.slice (some ⟨g, 0, none⟩) n c) n (zs.flatMap s1C) := hS2.head
          have k0 := own_cell s1C 1 s1C_len o2 i 0 hiz (by omega) (by omega)
          rw [Nat.mul_one, Nat.add_zero] at k0
          replace k0 : w2.cell? ⟨g, i, none⟩ = some (.string zs[i]) := k0
          have q0 : w2.frozen? ⟨g, i, none⟩ = false := o2.frozenAt _
          have hS3 := s_store y hS2 hzl (show i < n by omega)
          rw [hy] at HD2
          clear o2 hb2 hy HSS hS2
          go_wp2_with fail
          go_roundw
          case rel => exact ⟨i + 1, j + 1, _, by go_num, by go_num, by omega, by omega, HD2, hS3⟩
          case measure => simp [intOf]; omega
        · have HD2 := Lib.hid (HD.out.skip hjr (by rw [hy]; exact hp))
          rw [hp] at HK
          have HSS := Lib.hid hS
          clear hzy hy hown hS hp HD hmem
          go_wp2_with fail
          refine HK.out.mono ?_
          rintro e w2 ⟨rfl, hb2⟩
          have hS2 := HSS.out.callB hb2
          go_wp2_with fail
          go_roundw
          case rel => exact ⟨i, j + 1, zs, rfl, by go_num, by omega, by omega, HD2, hS2⟩
          case measure => simp [intOf]; omega
      · obtain rfl : j = n := by omega
        obtain ⟨vs, hcl, hvl⟩ := run_clear_s wr g i (j - i) (c - i) (by omega) (fun t ht => by
          rw [hown.cellAt (i + t) (by omega)]
          have : i + t < (zs.flatMap s1C).length := by rw [flat_len s1C 1 s1C_len]; omega
          rw [List.getElem?_eq_getElem this]; rfl) (fun t ht => hown.frozenAt _)
        have hbf : Sq w0 (wr.setCells g i vs) L := hS.clear_ (grown_setCells g vs i wr)
        have hT : kptS p (ys.take j) = kptS p ys := by rw [List.take_of_length_le (by rw [HL.out]; exact Nat.le_refl _)]
        have hlo := HD.out.lo
        have hcn := HD.out.cnt
        rw [hT] at hlo hcn
        have hrd : Rd (wr.setCells g i vs) b 1 (.slice (some ⟨g, 0, none⟩) i c) i (strsV (kptS p ys)) := by
          rw [strsV_flat]
          refine ⟨_, c, rfl, by omega, by unfold maxLen; omega, by rw [flat_len s1C 1 s1C_len, hcn], (fun e => by cases e), fun _ => ⟨g, 0, rfl, hgb, fun t u hu => ?_⟩⟩
          have htl : t < i := by
            have := (List.getElem?_eq_some_iff.1 hu).1
            rw [flat_len s1C 1 s1C_len, hcn] at this
            omega
          rw [Nat.zero_add, World.cell?_setCells_out g vs i wr ⟨g, t, none⟩ (fun _ _ => Or.inl htl)]
          have hqz : t < zs.length := by omega
          have hqu : t < (kptS p ys).length := by omega
          have hz := hlo t htl
          rw [List.getElem?_eq_getElem hqz, List.getElem?_eq_getElem hqu] at hz
          have hf := flat_get s1C 1 s1C_len (kptS p ys) t 0 hqu (by omega)
          have ho := own_cell s1C 1 s1C_len hown t 0 hqz (by omega) (by omega)
          rw [Nat.mul_one, Nat.add_zero] at hf ho
          rw [hf] at hu
          rw [ho, Option.some.inj hz]
          exact hu
        have HF : Hid (DelSq w0 b (kptS p ys) L (.returned (.slice (some ⟨g, 0, none⟩) i c)) (wr.setCells g i vs)) := ⟨_, _, _, rfl, hcn.symm, hrd, hbf⟩
        have hic : (i : Int) ≤ (j : Int) := by omega
        have hicc : (i : Int) ≤ (c : Int) := by omega
        have hi0 : (0 : Int) ≤ (i : Int) := by omega
        clear hT hlo hcn hrd hbf hown hS hvl
        go_wp2_with fail
        go_ret
        exact HF.out
end Go.Proofs.YtlkapcjofgpiiaaGreatDoor
/-
  The categories of versions, and those of them that a run counts for, as the reference says it: CategoriesOf, CountsFor by contracts.
-/
namespace Go.Proofs.YtlkapcjofgpiiaaGreatDoor
open Go Go.RowKit TxtP
attribute [local go_sem ↓] Go.wp_at_zero Go.wp_at_succ

theorem svB_cs (vs : List Vr) : svB (vs.map fun v => v.c.toList) = strsV (vs.map fun v => v.c) := by
  unfold svB strsV
  rw [List.map_map, List.map_map]
  refine List.map_congr_left (fun v _ => ?_)
  exact congrArg Value.string (mkB_toList v.c)
theorem svB_cat (vs : List Vr) : svB (catA vs) = strsV (catL vs) := by
  rw [svB_strs]
  rfl
set_option maxRecDepth 100000 in
set_option maxHeartbeats 4000000 in
theorem categoriesOf_calls (b : Nat) (A : Option Addr) (n c : Nat) (vs : List Vr) (w : World) (hr : Vrs w b A n c vs) (hn : n ≤ 200) :
    Calls Tryz.prog 64 #[.slice A n c] w (fun e w' => ∃ A' c', e = .returned (.slice A' (catL vs).length c') ∧ Sq w w' [rOwn w.heap.size 9 1 (.slice A' (catL vs).length c') (catL vs).length (strsV (catL vs))]) := by
  obtain ⟨i0, hi, hy0, hy1, hy2⟩ := info_parts info_str
  obtain ⟨hl, hnc, hcm, hcells⟩ := hr.rd.cells vrC_len (by omega)
  unfold maxLen at hcm
  have HL := Lib.hid hl
  have HC := Lib.hid hcells
  have hS0 := (Sq.start w).nil w.heap.size 9 1
  have HCL : Hid (svB (catA vs) = strsV (catL vs) ∧ (Lib.compact (vs.map fun v => v.c.toList)).length = (catL vs).length ∧ Lib.compact (vs.map fun v => v.c.toList) = catA vs) := Lib.hid ⟨svB_cat vs, by unfold catL catA; rw [List.length_map], rfl⟩
  have HCO : Hid (∀ W B d, Sq w W [rOwn w.heap.size 9 1 (.slice B n d) n (strsV (vs.map fun v => v.c))] → Calls Tryz.prog 90 #[.slice B n d] W (fun e w' => ∃ A' c', e = .returned (.slice A' (catL vs).length c') ∧ Sq w w' [rOwn w.heap.size 9 1 (.slice A' (catL vs).length c') (catL vs).length (strsV (catL vs))])) := Lib.hid (fun W B d h => by
    refine (compS_calls w W [] B n d (vs.map fun v => v.c.toList) (by omega) (by rw [svB_cs]; exact h)).mono ?_
    rintro e w' ⟨rfl, h2⟩
    rw [HCL.out.2.1] at h2 ⊢
    rw [HCL.out.2.2, HCL.out.1] at h2
    exact ⟨_, _, rfl, h2⟩)
  clear hcells hl hr HCL
  go_enter Tryz.func64, Tryz.ntmps64
  go_wp2_with fail
  go_loopw [3, 8] (fun v i wr => ∃ (k : Nat) (B : Option Addr) (d : Nat), k ≤ n ∧ v = .slice B k d ∧ i = .int .i64 k ∧ Sq w wr [rOwn w.heap.size 9 1 (.slice B k d) k (strsV ((vs.take k).map fun v => v.c))]) (fun _ i _ => n - (intOf i).toNat)
  case atStart => exact ⟨0, none, 0, Nat.zero_le _, rfl, rfl, hS0⟩
  case round =>
    clear hS0
    obtain ⟨k, B, d, hk, rfl, rfl, hT⟩ := hrel
    by_cases hlt : k < n
    · have hkr : k < vs.length := by rw [HL.out]; exact hlt
      obtain ⟨g, o, hA, _, hcs⟩ := HC.out (by omega)
      subst hA
      have c0 := below_cell hT.below (hcs k hkr 0 (by omega))
      have c1 := below_cell hT.below (hcs k hkr 1 (by omega))
      have c2 := below_cell hT.below (hcs k hkr 2 (by omega))
      have htk : strsV ((vs.take (k + 1)).map fun v => v.c) = strsV ((vs.take k).map fun v => v.c) ++ [.string vs[k].c] := by
        rw [List.take_succ_eq_append_getElem hkr, List.map_append]
        simp [strsV]
      obtain ⟨y, hy⟩ : ∃ y, vs[k] = y := ⟨_, rfl⟩
      rw [hy] at c0 c1 c2 htk
      obtain ⟨vc, vf, vr⟩ := y
      replace c0 : wr.cell? ⟨g, o + k * 3, none⟩ = some (.string vc) := c0
      replace c1 : wr.cell? ⟨g, o + k * 3 + 1, none⟩ = some (.int .i64 vf) := c1
      replace c2 : wr.cell? ⟨g, o + k * 3 + 2, none⟩ = some (.string vr) := c2
      have hT1 := (hT.add #[.string vc, .int .i64 vf, .string vr] 59).front 1 rfl rfl
      have hvb : Blk _ _ _ _ := hT1.nth 1 rfl
      have z0 := hvb.cell 0
      have z1 := hvb.cell 1
      have z2 := hvb.cell 2
      have hk0 : (0 : Int) ≤ (k : Int) := by omega
      have hkn : (k : Int) < (n : Int) := by omega
      have HTK := Lib.hid htk
      clear hcs hvb hy htk
      go_upto_region 5 with (fail)
      obtain ⟨W1, hW1⟩ : ∃ W, wr.alloc (.cells #[.string vc, .int .i64 vf, .string vr] 59) = W := ⟨_, rfl⟩
      rw [hW1] at hT1 z0 z1 z2 ⊢
      clear c0 c1 c2 hW1
      have HO5 : W1.ownsRow w.heap.size 9 1 (.slice B k d) k (strsV ((vs.take k).map fun v => v.c)) := hT1.head
      have hsz3 := hT1.size
      go_wp2_with (first
        | (at_builtin; refine wpList_append_own_at _ rfl _ _ 37 rfl w.heap.size 9 i0 (.string ⟨#[]⟩) 1 16 Tryz.underlying37 hi hy0 hy1 hy2 rfl (by decide) _ _ _ rfl (HO5.alloc _) ⟨W1.heap.size, 0, none⟩ 1 1 [.string vc] rfl rfl (World.news_of_block (heap_alloc_new _ _)) (one1 rfl) (by unfold maxLen; omega) (by omega) (by simp; omega) ?_; intro v' w8 hown' hgrow _ hblk; obtain ⟨A8, c8, hv8⟩ := own_form hown'; subst hv8; have hT8 := (hT1.alloc _).append hown' hgrow hblk; clear hown' hgrow hblk))
      go_roundw
      case rel => exact ⟨k + 1, A8, c8, by omega, rfl, by go_num, by rw [HTK.out]; exact hT8.drop 1 rfl rfl⟩
      case measure => simp [intOf]; omega
    · obtain rfl : k = n := by omega
      have hTT : (vs.take k).map (fun v => v.c) = vs.map fun v => v.c := by rw [List.take_of_length_le (by rw [HL.out]; exact Nat.le_refl _)]
      rw [hTT] at hT
      have HC2 := Lib.hid (HCO.out _ _ _ hT)
      clear hTT HCO hT
      go_wp2_with fail
      refine HC2.out.mono ?_
      rintro e w2 ⟨A', c', rfl, h2⟩
      have H2 := Lib.hid h2
      clear h2
      go_wp2_with fail
      go_ret
      exact ⟨A', c', rfl, H2.out⟩
set_option maxRecDepth 100000 in
set_option maxHeartbeats 4000000 in
theorem countsFor1_calls (b b2 gl gr : Nat) (A : Option Addr) (n c : Nat) (vs : List Vr) (cat : ByteArray) (x : Rn) (w : World) (hr : Vrs w b A n c vs) (hx : RunB w b2 gr x) (hc : w.cell? ⟨gl, 0, none⟩ = some (.slice A n c)) (hv : versF vs = 0) (h0 : runF x = 0) (hm : MxL w) :
    Calls Tryz.prog 65 #[.string cat, .pointer (some ⟨gl, 0, none⟩), .pointer (some ⟨gr, 0, none⟩)] w (BRet (.bool (!cntV vs cat x)) w) := by
  have hV : cntV vs cat x = (!isE (rulAt vs cat x.date) && hldV numF (rulAt vs cat x.date) x) := rfl
  have hsz := rulAt_size hr.ok cat x.date
  have hrg := rulAt_rgt (versF_rules hv) cat x.date
  have HI := Lib.hid (ruleFor_calls b A n c vs cat x.date w hr)
  have c0 : w.cell? ⟨gr, 0, none⟩ = some (.string x.id) := hx.1.cell 0
  have c1 : w.cell? ⟨gr, 1, none⟩ = some (.string x.who) := hx.1.cell 1
  have c2 : w.cell? ⟨gr, 2, none⟩ = some (.int .i64 x.time) := hx.1.cell 2
  have c3 : w.cell? ⟨gr, 3, none⟩ = some (.int .i64 x.date) := hx.1.cell 3
  have c4 : w.cell? ⟨gr, 4, none⟩ = some (.slice x.fa x.fs.length x.fc) := hx.1.cell 4
  have HH : Hid (isE (rulAt vs cat x.date) = false → ∀ W, Below w.heap.size w W → Calls Tryz.prog 66 #[.string (rulAt vs cat x.date), .agg #[.string x.id, .string x.who, .int .i64 x.time, .int .i64 x.date, .slice x.fa x.fs.length x.fc]] W (BRet (.bool (hldV numF (rulAt vs cat x.date) x)) W)) :=
    Lib.hid (fun he W hW => holdsForV_calls _ b2 x W hsz (by unfold rulE; rw [if_pos (hrg he), h0]) (hx.2.below hW) (hm.below hW))
  obtain ⟨xd, hxd⟩ : ∃ z, x.date = z := ⟨_, rfl⟩
  rw [hxd] at HI hV HH c3
  obtain ⟨R, hR⟩ : ∃ z, rulAt vs cat xd = z := ⟨_, rfl⟩
  rw [hR] at HI hV HH
  obtain ⟨V, hVV⟩ : ∃ z, cntV vs cat x = z := ⟨_, rfl⟩
  rw [hVV] at hV ⊢
  obtain ⟨hd, hhd⟩ : ∃ z, hldV numF R x = z := ⟨_, rfl⟩
  rw [hhd] at hV HH
  have HCE : Hid (∀ W, Below w.heap.size w W → W.cell? ⟨gr, 0, none⟩ = some (.string x.id) ∧ W.cell? ⟨gr, 1, none⟩ = some (.string x.who) ∧ W.cell? ⟨gr, 2, none⟩ = some (.int .i64 x.time) ∧ W.cell? ⟨gr, 3, none⟩ = some (.int .i64 xd) ∧ W.cell? ⟨gr, 4, none⟩ = some (.slice x.fa x.fs.length x.fc)) := Lib.hid (fun W h => ⟨below_cell h c0, below_cell h c1, below_cell h c2, below_cell h c3, below_cell h c4⟩)
  obtain ⟨fl, hfl⟩ : ∃ z, x.fs.length = z := ⟨_, rfl⟩
  rw [hfl] at HH HCE
  obtain ⟨xid, xwho, xt, xd2, xfa, xfc, xfs⟩ := x
  simp only at HH HCE hxd c3
  subst hxd
  clear hr hx hv h0 hm hVV hR hhd hsz hrg hfl c0 c1 c2 c4
  cases hE : isE R
  · rw [hE] at HI hV
    replace hV : V = hd := hV
    subst hV
    have HH2 := Lib.hid (HH.out hE)
    clear HH hE
    go_enter Tryz.func65, Tryz.ntmps65
    go_wp2_with fail
    refine HI.out.mono ?_
    rintro e w1 ⟨rfl, hb1⟩
    obtain ⟨k0, k1, k2, k3, k4⟩ := HCE.out _ hb1
    clear HI c3 hc
    go_wp2_with fail
    refine (HH2.out _ hb1).mono ?_
    rintro e w2 ⟨rfl, hb2⟩
    go_wp2_with fail
    go_ret
    exact ⟨rfl, below_call hb1 hb2 (Nat.le_refl _)⟩
  · rw [hE] at HI hV
    replace hV : V = false := hV
    subst hV
    clear HH hE
    go_enter Tryz.func65, Tryz.ntmps65
    go_wp2_with fail
    refine HI.out.mono ?_
    rintro e w1 ⟨rfl, hb1⟩
    clear HI c3 hc
    go_wp2_with fail
    go_ret
    exact ⟨rfl, hb1⟩
/-- what CountsFor answers -/
def CfR (vs : List Vr) (x : Rn) (b : Nat) (w : World) (e : Ending) (w' : World) : Prop :=
  ∃ A' c', e = .returned (.slice A' (cntL vs x).length c') ∧ Rd w' b 1 (.slice A' (cntL vs x).length c') (cntL vs x).length (strsV (cntL vs x)) ∧ Below w.heap.size w w'
set_option maxRecDepth 100000 in
set_option maxHeartbeats 4000000 in
theorem countsFor_calls (b : Nat) (A : Option Addr) (n c : Nat) (vs : List Vr) (x : Rn) (w : World) (hr : Vrs w b A n c vs) (hx : RnW w b x) (hv : versF vs = 0) (h0 : runF x = 0) (hm : MxL w) (hlt : b < w.heap.size) :
    Calls Tryz.prog 28 #[.slice A n c, .agg #[.string x.id, .string x.who, .int .i64 x.time, .int .i64 x.date, .slice x.fa x.fs.length x.fc]] w (CfR vs x b w) := by
  have hn : n ≤ 200 := by have := (versF_rgt hv).1; have := (hr.rd.cells vrC_len (by omega)).1; omega
  have hS1 := ((Sq.start w).add #[.slice A n c] 26).add (rnC x).toArray 36
  have hrn0 : (rnC x).toArray = #[.string x.id, .string x.who, .int .i64 x.time, .int .i64 x.date, .slice x.fa x.fs.length x.fc] := rfl
  obtain ⟨W2, hW2, hS⟩ : ∃ W2, W2 = (w.alloc (.cells #[.slice A n c] 26)).alloc (.cells (rnC x).toArray 36) ∧ Sq w W2 [rBlk (w.alloc (.cells #[.slice A n c] 26)).heap.size 36 (rnC x).toArray, rBlk w.heap.size 26 #[.slice A n c]] := ⟨_, rfl, hS1⟩
  have hsz1 : (w.alloc (.cells #[.slice A n c] 26)).heap.size = w.heap.size + 1 := by simp only [size1]
  rw [hsz1] at hS
  have hgr : Blk W2 (w.heap.size + 1) 36 (rnC x).toArray := hS.head
  have hgl : Blk W2 w.heap.size 26 #[.slice A n c] := hS.nth 1 rfl
  have hr2 := hr.below hS.below
  have hx2 : RunB W2 b (w.heap.size + 1) x := ⟨hgr, hx.below hS.below⟩
  have hm2 := hm.below hS.below
  have HCA := Lib.hid (categoriesOf_calls b A n c vs W2 hr2 hn)
  have hcn := cnt_cat vs x
  have hln : (catL vs).length ≤ 200 := by
    have := cat_len vs
    have := (versF_rgt hv).1
    omega
  have hlt2 := Nat.lt_of_lt_of_le hlt hS.size
  have HDE : Hid (∀ W A' c', Sq W2 W [rOwn W2.heap.size 9 1 (.slice A' (catL vs).length c') (catL vs).length (strsV (catL vs))] →
      Calls Tryz.prog 63 #[.slice A' (catL vs).length c', .func (.func 65) #[] #[.pointer (some ⟨w.heap.size, 0, none⟩), .pointer (some ⟨w.heap.size + 1, 0, none⟩)]] W (CfR vs x b W2)) := Lib.hid (fun W A' c' h => by
    have h9 : ∀ k, (Value.slice A' (catL vs).length c').ownBlock = some k → k ≠ b := fun k hk => by
      have ho : W.ownsRow W2.heap.size 9 1 (.slice A' (catL vs).length c') (catL vs).length (strsV (catL vs)) := h.head
      have := (ho.lt k hk).1
      omega
    refine (deleteC_calls W2 b w.heap.size (w.heap.size + 1) (fun y => !cntV vs y x) A' _ c' (catL vs) [] W h (fun V y _ hV => countsFor1_calls b b w.heap.size (w.heap.size + 1) A n c vs y x V (hr2.below hV) (hx2.below hV) ((hgl.below hV).cell 0) hv h0 (hm2.below hV)) h9 (by omega)).mono ?_
    rintro e w' ⟨A3, m, c3, rfl, rfl, h3, h4⟩
    rw [← hcn] at h3 ⊢
    exact ⟨A3, c3, rfl, h3, h4.below⟩)
  have HS := Lib.hid hS
  have hd0 := hgl.cell 0
  rw [hrn0] at hW2
  have HW2 : Hid (∀ W e, CfR vs x b W2 e W → CfR vs x b w e W) := Lib.hid (by
    rintro W e ⟨A3, c3, he, h3, h4⟩
    exact ⟨A3, c3, he, h3, below_call HS.out.below h4 (Nat.le_refl _)⟩)
  have hd0 : W2.cell? ⟨w.heap.size, 0, none⟩ = some (.slice A n c) := hd0
  clear hS1 hsz1 hgr hgl hr2 hx2 hm2 hr hx hm hcn hS hrn0 HS
  obtain ⟨CL, hCL⟩ : ∃ f, CfR vs x b w = f := ⟨_, rfl⟩
  rw [hCL] at HW2 ⊢
  clear hCL
  obtain ⟨xid, xwho, xt, xd, xfa, xfc, xfs⟩ := x
  simp only at hW2 ⊢
  obtain ⟨fl, hfl⟩ : ∃ z, xfs.length = z := ⟨_, rfl⟩
  rw [hfl] at hW2 ⊢
  have HWE := Lib.hid hW2.symm
  clear hW2 hfl
  go_enter Tryz.func28, Tryz.ntmps28
  go_upto_region 1 with (fail)
  rw [HWE.out]
  clear HWE
  go_wp2_with fail
  refine HCA.out.mono ?_
  rintro e w3 ⟨A', c', rfl, hS3⟩
  have HD := Lib.hid (HDE.out _ _ _ hS3)
  clear HCA HDE hS3 hd0
  go_wp2_with fail
  refine HD.out.mono ?_
  rintro e w4 ⟨A3, c3, rfl, hr3⟩
  have HF := Lib.hid (HW2.out _ _ ⟨A3, c3, rfl, hr3⟩)
  clear hr3 HW2 HD
  go_wp2_with fail
  exact HF.out
end Go.Proofs.YtlkapcjofgpiiaaGreatDoor
