/-
  slices.IndexFunc and DeleteFunc of strings at never's closure by contracts. (Printed by gen_dels.py.)
-/
import Derived.Test.YtfhdknppldobiaaGreatDoorZLow
import Derived.Deep.RegionHeld3
import Derived.BigRegion
import Derived.Deep.DrawnRows
namespace Go.Proofs.YtfhdknppldobiaaGreatDoor
open Go Go.RowKit
attribute [local go_sem ↓] Go.wp_at_zero Go.wp_at_succ

set_option maxRecDepth 100000 in
theorem indexFN_calls (b : Nat) (p : ByteArray → Bool) (A2 : Option Addr) (n c2 : Nat) (hs : List ByteArray) (w : World) (HCC0 : ∀ W (x : ByteArray), x ∈ hs → Below w.heap.size w W → Calls Tryz.prog 145 #[.string x] W (BRet (.bool (p x)) W)) (hr2 : Rd w b 1 (.slice A2 n c2) n (strsV hs)) :
    Calls Tryz.prog 144 #[.slice A2 n c2, .func (.func 145) #[] #[]] w (BRet (.int .i64 (ixOf p hs)) w) := by
  obtain ⟨hl, hnc, hcm, hcells⟩ := strs_cells hr2
  unfold maxLen at hcm
  have HCC := Lib.hid HCC0
  have HL := Lib.hid hl
  have HCL := Lib.hid hcells
  clear hcells hl hr2 HCC0
  go_enter Tryz.func144, Tryz.ntmps144
  go_wp2
  go_loopw [8] (fun i wr => ∃ k : Nat, k ≤ n ∧ i = .int .i64 k ∧ Hid (∀ i (_ : i < k) (hi' : i < hs.length), p hs[i] = false) ∧ Below w.heap.size w wr) (fun i _ => n - (intOf i).toNat)
  case atStart => exact ⟨0, Nat.zero_le _, rfl, (fun i hi => absurd hi (by omega)), Below.refl _ _⟩
  case round =>
    obtain ⟨k, hk, rfl, HF, hbr⟩ := hrel
    by_cases hlt : k < n
    · have hkr : k < hs.length := by rw [HL.out]; exact hlt
      obtain ⟨g, o, hA, _, hcs⟩ := HCL.out (by omega)
      subst hA
      have c0 := below_cell hbr (hcs k hkr)
      have HK0 := HCC.out wr hs[k] (List.getElem_mem hkr) hbr
      obtain ⟨s, hs'⟩ : ∃ s, hs[k] = s := ⟨_, rfl⟩
      rw [hs'] at c0 HK0
      have HK := Lib.hid HK0
      clear hcs HK0
      cases hp : p s
      · rw [hp] at HK
        have HF2 : Hid (∀ i (_ : i < k + 1) (hi' : i < hs.length), p hs[i] = false) := by
          intro i hi hi'
          by_cases hik : i = k
          · subst hik; rw [hs']; exact hp
          · exact HF.out i (by omega) hi'
        clear hp hs'
        go_wp2_with (go_at_call 145; refine HK.out.mono ?_; rintro e w2 ⟨rfl, hb2⟩)
        have hb3 := below_call hbr hb2 (Nat.le_refl _)
        go_roundw
        case rel => exact ⟨k + 1, by omega, by go_num, HF2, hb3⟩
        case measure => simp [intOf]; omega
      · rw [hp] at HK
        have HR : Hid (ixOf p hs = k) := ixOf_at _ hs k hkr (fun i hi => HF.out i hi (by omega)) (by rw [hs']; exact hp)
        clear hp hs'
        go_wp2_with (go_at_call 145; refine HK.out.mono ?_; rintro e w2 ⟨rfl, hb2⟩)
        have hb3 := below_call hbr hb2 (Nat.le_refl _)
        go_ret
        exact ⟨ret_int HR.out.symm, hb3⟩
    · obtain rfl : k = n := by omega
      have HR : Hid (ixOf p hs = -1) := ixOf_no _ hs (fun i hi => HF.out i (by rw [← HL.out]; exact hi) hi)
      go_wp2
      go_ret
      exact ⟨ret_int HR.out.symm, hbr⟩
set_option maxRecDepth 100000 in
set_option maxHeartbeats 2000000 in
theorem deleteN_calls (w0 : World) (b : Nat) (p : ByteArray → Bool) (A : Option Addr) (n c : Nat) (ys : List ByteArray) (L : List Rsc) (w : World) (hS : Sq w0 w (rOwn w0.heap.size 9 1 (.slice A n c) n (strsV ys) :: L)) (HCC0 : ∀ W (x : ByteArray), x ∈ ys → Below w0.heap.size w0 W → Calls Tryz.prog 145 #[.string x] W (BRet (.bool (p x)) W)) (hb : ∀ k, (Value.slice A n c).ownBlock = some k → k ≠ b) (hn : n ≤ 100000) :
    Calls Tryz.prog 90 #[.slice A n c, .func (.func 145) #[] #[]] w (DelSq w0 b (kptS p ys) L) := by
  have hrd : Rd w b 1 (.slice A n c) n (strsV ys) := Rd.of_own hS.head hb
  have HIX := Lib.hid (indexFN_calls b p A n c ys w (fun W x hx hW => HCC0 W x hx (below_call hS.below hW (Nat.le_refl _))) hrd)
  rw [strsV_flat] at hS
  have hown : w.ownsRow w0.heap.size 9 1 (.slice A n c) n (ys.flatMap s1C) := hS.head
  have hl : ys.length = n := (strs_cells hrd).1
  have hcap := own_cap hown
  obtain ⟨hc1, hc2⟩ := hcap
  unfold maxLen at hc2
  have HL := Lib.hid hl
  rcases ixOf_split p ys with ⟨h1, h2⟩ | ⟨k, hk, h1, h2, h3⟩
  · have hall : kptS p ys = ys := by
      have := kptS_all (p := p) (ys := ys) ys.length (Nat.le_refl _) (fun i _ hi => h2 i hi)
      rwa [List.take_length] at this
    rw [h1] at HIX
    rw [hall]
    have HS := Lib.hid hS
    have HR := Lib.hid hrd
    clear h1 h2 hall hS HCC0 hown hrd hl hb
    go_enter Tryz.func90, Tryz.ntmps90
    go_wp2_with fail
    refine HIX.out.mono ?_
    rintro e w1 ⟨rfl, hb1⟩
    go_wp2_with fail
    go_ret
    exact ⟨_, _, _, rfl, HL.out.symm, HR.out.below hb1, (HS.out.callB hb1).tail⟩
  · rw [h1] at HIX
    have hkn : k < n := by rw [← hl]; exact hk
    obtain ⟨g, cap, hv, hg0, _⟩ := hown.form (by omega)
    injection hv with hA _ hcc
    subst hA hcc
    have hdl : DlS p ys k (k + 1) ys := by
      have e1 : kptS p (ys.take k) = ys.take k := kptS_all k (by omega) (fun i hi hi' => h3 i hi)
      have e2 : kptS p (ys.take (k + 1)) = ys.take k := by rw [kptS_step p ys k hk, if_pos h2, e1]
      refine ⟨rfl, by rw [e2, List.length_take]; omega, fun t ht => by rw [e2, List.getElem?_take_of_lt ht], fun _ _ => rfl⟩
    have HD := Lib.hid hdl
    have HCC := Lib.hid HCC0
    have HS := Lib.hid hS
    have hgg : w0.heap.size ≤ g := hg0
    have hgb : g ≠ b := hb g rfl
    clear h1 h2 h3 hS HCC0 hown hrd hl hdl hk hg0 hb
    go_enter Tryz.func90, Tryz.ntmps90
    go_wp2_with fail
    refine HIX.out.mono ?_
    rintro e w1 ⟨rfl, hb1⟩
    have hS1 := HS.out.callB hb1
    have hkk : ((k : Int) == -1) = false := by rw [beq_eq_false_iff_ne]; omega
    clear hb1
    go_wp2_with fail
    clear hkk
    go_loopw [5, 6] (fun s5 s6 wr => ∃ (i j : Nat) (zs : List ByteArray), s5 = .int .i64 i ∧ s6 = .int .i64 j ∧ i < j ∧ j ≤ n ∧ Hid (DlS p ys i j zs) ∧ Sq w0 wr (rOwn w0.heap.size 9 1 (.slice (some ⟨g, 0, none⟩) n c) n (zs.flatMap s1C) :: L)) (fun _ s6 _ => n - (intOf s6).toNat)
    case atStart => exact ⟨k, k + 1, ys, rfl, by go_num, by omega, by omega, HD, hS1⟩
    case round =>
      clear hS1 HD
      obtain ⟨i, j, zs, rfl, rfl, hij, hjn, HD, hS⟩ := hrel
      have hzl : zs.length = n := by rw [HD.out.len]; exact HL.out
      have hown : wr.ownsRow w0.heap.size 9 1 (.slice (some ⟨g, 0, none⟩) n c) n (zs.flatMap s1C) := hS.head
      have hgl : g < wr.heap.size := (hown.lt g rfl).2
      by_cases hlt : j < n
      · have hjr : j < ys.length := by rw [HL.out]; exact hlt
        have hjz : j < zs.length := by omega
        have hzy : zs[j] = ys[j] := by
          have := HD.out.hi j (Nat.le_refl _)
          rw [List.getElem?_eq_getElem hjz, List.getElem?_eq_getElem hjr] at this
          exact Option.some.inj this
        have hmem : ys[j] ∈ ys := List.getElem_mem hjr
        obtain ⟨y, hy⟩ : ∃ y, ys[j] = y := ⟨_, rfl⟩
        have c0 := own_cell s1C 1 s1C_len hown j 0 hjz hlt (by omega)
        rw [hzy, hy, Nat.mul_one, Nat.add_zero] at c0
        replace c0 : wr.cell? ⟨g, j, none⟩ = some (.string y) := c0
        rw [hy] at hmem
        have HK := Lib.hid (HCC.out _ y hmem hS.below)
        have hj0 : (0 : Int) ≤ (j : Int) := by omega
        have hj1 : (j : Int) < (n : Int) := by omega
        have hi0 : (0 : Int) ≤ (i : Int) := by omega
        have hi1 : (i : Int) < (n : Int) := by omega
        have HY : Hid (ys[j] = y) := hy
        cases hp : p y
        · have HD2 := Lib.hid (HD.out.keep hjr (by rw [hy]; exact hp) hij)
          rw [hp] at HK
          have hiz : i < zs.length := by omega
          have HSS := Lib.hid hS
          clear hzy hown hS hp HD hmem
          go_wp2_with fail
          refine HK.out.mono ?_
          rintro e w2 ⟨rfl, hb2⟩
          have hS2 := HSS.out.callB hb2
          have o2 : w2.ownsRow w0.heap.size 9 1 (.slice (some ⟨g, 0, none⟩) n c) n (zs.flatMap s1C) := hS2.head
          have k0 := own_cell s1C 1 s1C_len o2 i 0 hiz (by omega) (by omega)
          rw [Nat.mul_one, Nat.add_zero] at k0
          replace k0 : w2.cell? ⟨g, i, none⟩ = some (.string zs[i]) := k0
          have q0 : w2.frozen? ⟨g, i, none⟩ = false := o2.frozenAt _
          have hS3 := s_store y hS2 hzl (show i < n by omega)
          rw [hy] at HD2
          clear o2 hb2 hy HSS hS2
          go_wp2_with fail
          go_roundw
          case rel => exact ⟨i + 1, j + 1, _, by go_num, by go_num, by omega, by omega, HD2, hS3⟩
          case measure => simp [intOf]; omega
        · have HD2 := Lib.hid (HD.out.skip hjr (by rw [hy]; exact hp))
          rw [hp] at HK
          have HSS := Lib.hid hS
          clear hzy hy hown hS hp HD hmem
          go_wp2_with fail
          refine HK.out.mono ?_
          rintro e w2 ⟨rfl, hb2⟩
          have hS2 := HSS.out.callB hb2
          go_wp2_with fail
          go_roundw
          case rel => exact ⟨i, j + 1, zs, rfl, by go_num, by omega, by omega, HD2, hS2⟩
          case measure => simp [intOf]; omega
      · obtain rfl : j = n := by omega
        obtain ⟨vs, hcl, hvl⟩ := run_clear_s wr g i (j - i) (c - i) (by omega) (fun t ht => by
          rw [hown.cellAt (i + t) (by omega)]
          have : i + t < (zs.flatMap s1C).length := by rw [flat_len s1C 1 s1C_len]; omega
          rw [List.getElem?_eq_getElem this]; rfl) (fun t ht => hown.frozenAt _)
        have hbf : Sq w0 (wr.setCells g i vs) L := hS.clear_ (grown_setCells g vs i wr)
        have hT : kptS p (ys.take j) = kptS p ys := by rw [List.take_of_length_le (by rw [HL.out]; exact Nat.le_refl _)]
        have hlo := HD.out.lo
        have hcn := HD.out.cnt
        rw [hT] at hlo hcn
        have hrd : Rd (wr.setCells g i vs) b 1 (.slice (some ⟨g, 0, none⟩) i c) i (strsV (kptS p ys)) := by
          rw [strsV_flat]
          refine ⟨_, c, rfl, by omega, by unfold maxLen; omega, by rw [flat_len s1C 1 s1C_len, hcn], (fun e => by cases e), fun _ => ⟨g, 0, rfl, hgb, fun t u hu => ?_⟩⟩
          have htl : t < i := by
            have := (List.getElem?_eq_some_iff.1 hu).1
            rw [flat_len s1C 1 s1C_len, hcn] at this
            omega
          rw [Nat.zero_add, World.cell?_setCells_out g vs i wr ⟨g, t, none⟩ (fun _ _ => Or.inl htl)]
          have hqz : t < zs.length := by omega
          have hqu : t < (kptS p ys).length := by omega
          have hz := hlo t htl
          rw [List.getElem?_eq_getElem hqz, List.getElem?_eq_getElem hqu] at hz
          have hf := flat_get s1C 1 s1C_len (kptS p ys) t 0 hqu (by omega)
          have ho := own_cell s1C 1 s1C_len hown t 0 hqz (by omega) (by omega)
          rw [Nat.mul_one, Nat.add_zero] at hf ho
          rw [hf] at hu
          rw [ho, Option.some.inj hz]
          exact hu
        have HF : Hid (DelSq w0 b (kptS p ys) L (.returned (.slice (some ⟨g, 0, none⟩) i c)) (wr.setCells g i vs)) := ⟨_, _, _, rfl, hcn.symm, hrd, hbf⟩
        have hic : (i : Int) ≤ (j : Int) := by omega
        have hicc : (i : Int) ≤ (c : Int) := by omega
        have hi0 : (0 : Int) ≤ (i : Int) := by omega
        clear hT hlo hcn hrd hbf hown hS hvl
        go_wp2_with fail
        go_ret
        exact HF.out
end Go.Proofs.YtfhdknppldobiaaGreatDoor
