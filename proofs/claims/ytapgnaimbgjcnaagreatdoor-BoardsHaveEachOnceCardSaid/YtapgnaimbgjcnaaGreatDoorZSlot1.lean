/-
  base.Rising, splitref2.rising, slices.Index and slices.Contains of strings by contracts. (Printed by gen_slot1.py.)
-/
import Derived.Test.YtapgnaimbgjcnaaGreatDoorZSlotPure
import Derived.Test.YtapgnaimbgjcnaaGreatDoorZFlat
namespace Go.Proofs.YtapgnaimbgjcnaaGreatDoor
open Go Go.RowKit
set_option maxRecDepth 100000 in
theorem rising_calls (b : Nat) (A : Option Addr) (n c : Nat) (hs : List ByteArray) (w : World) (hr : Rd w b 1 (.slice A n c) n (strsV hs)) (hsz : ∀ s ∈ hs, s.size ≤ 1000000) :
 Calls Tryz.prog 251 #[.slice A n c] w (QRet (.int .i64 (riseF hs)) w) := by
 obtain ⟨hl, hnc, hcm, hcells⟩ := strs_cells hr
 unfold maxLen at hcm
 have HF := Lib.hid (show riseF hs = riseG (lastS hs 0) (hs.drop 0) from rfl)
 have HL := Lib.hid hl
 have HC := Lib.hid hcells
 clear hcells hl hr
 go_enter Tryz.func251, Tryz.ntmps251
 go_wp2_with fail
 go_loopw [7] (fun i wr => ∃ k : Nat, k ≤ n ∧ i = .int .i64 k ∧ Hid (riseF hs = riseG (lastS hs k) (hs.drop k)) ∧ wr = w) (fun i _ => n - (intOf i).toNat)
 case atStart => exact ⟨0, Nat.zero_le _, rfl, HF, rfl⟩
 case round =>
  clear HF
  obtain ⟨k, hk, rfl, HF, rfl⟩ := hrel
  by_cases hlt : k < n
  · have hkr : k < hs.length := by rw [HL.out]; exact hlt
    obtain ⟨g, o, hA, _, hcs⟩ := HC.out (by omega)
    subst hA
    have c0 := hcs k hkr
    have hri := hsz _ (List.getElem_mem hkr)
    have hst := HF.out.trans (riseG_step hs k hkr)
    obtain ⟨s, hs'⟩ : ∃ s, hs[k] = s := ⟨_, rfl⟩
    rw [hs'] at c0 hri hst
    clear hs'
    have HCS := Lib.hid hcs
    clear hcs
    cases hkey : keyB s.data.toList
    · rw [if_pos hkey] at hst
      have HS := Lib.hid hst
      have HK := Lib.hid hkey
      clear hst hkey
      go_wp2_with fail
      refine (key_calls s _ (by unfold maxLen; omega)).mono ?_
      rintro e w1 ⟨rfl, rfl⟩
      rw [HK.out]
      go_wp2_with fail
      go_ret
      exact ⟨ret_int HS.out.symm, 0, rfl⟩
    · rw [if_neg (by rw [hkey]; simp)] at hst
      have HK := Lib.hid hkey
      by_cases h0 : k = 0
      · subst h0
        simp only [Nat.add_zero] at c0
        rw [show lastS hs 0 = ⟨#[]⟩ from rfl, le_nil hkey, if_neg (by simp)] at hst
        have HS := Lib.hid hst
        clear hkey hst
        go_wp2_with fail
        refine (key_calls s _ (by unfold maxLen; omega)).mono ?_
        rintro e w1 ⟨rfl, rfl⟩
        rw [HK.out]
        go_wp2_with fail
        go_roundw
        case rel => exact ⟨1, by omega, by go_num, HS, trivial⟩
        case measure => simp [intOf]; omega
      · obtain ⟨q, rfl⟩ : ∃ q, k = q + 1 := ⟨k - 1, by omega⟩
        have hqr : q < hs.length := by omega
        have p0 := HCS.out q hqr
        have hla : lastS hs (q + 1) = hs[q] := by simp [lastS, hqr]
        rw [hla] at hst
        obtain ⟨t, ht⟩ : ∃ t, hs[q] = t := ⟨_, rfl⟩
        rw [ht] at hst p0
        clear ht hla hkey
        have hg : (0 : Int) < (((q + 1 : Nat)) : Int) := by omega
        have hq0 : (0 : Int) ≤ (q : Int) := by omega
        have hqn : (q : Int) < (n : Int) := by omega
        cases hle : leS s t
        · rw [hle, if_neg (by simp)] at hst
          have hle' : (Op.bytesLess s.toList t.toList || s.toList == t.toList) = false := hle
          have HS := Lib.hid hst
          clear hle hst
          go_wp2_with fail
          refine (key_calls s _ (by unfold maxLen; omega)).mono ?_
          rintro e w1 ⟨rfl, rfl⟩
          rw [HK.out]
          go_wp2_with fail
          go_roundw
          case rel => exact ⟨q + 1 + 1, by omega, by go_num, HS, trivial⟩
          case measure => simp [intOf]; omega
        · rw [hle, if_pos rfl] at hst
          have hle' : (Op.bytesLess s.toList t.toList || s.toList == t.toList) = true := hle
          have HS := Lib.hid hst
          clear hle hst
          go_wp2_with fail
          refine (key_calls s _ (by unfold maxLen; omega)).mono ?_
          rintro e w1 ⟨rfl, rfl⟩
          rw [HK.out]
          go_wp2_with fail
          go_ret
          exact ⟨ret_int HS.out.symm, 0, rfl⟩
  · obtain rfl : k = n := by omega
    have HS := Lib.hid (HF.out.trans (by rw [List.drop_of_length_le (by rw [HL.out]; exact Nat.le_refl _)]; rfl : _ = (0 : Int)))
    go_wp2_with fail
    go_ret
    exact ⟨ret_int HS.out.symm, 0, rfl⟩
set_option maxRecDepth 100000 in
theorem indexS_calls (b : Nat) (A : Option Addr) (n c : Nat) (hs : List ByteArray) (x : ByteArray) (w : World) (hr : Rd w b 1 (.slice A n c) n (strsV hs)) :
 Calls Tryz.prog 137 #[.slice A n c, .string x] w (QRet (.int .i64 (ixOf (eqS x) hs)) w) := by
 obtain ⟨hl, hnc, hcm, hcells⟩ := strs_cells hr
 unfold maxLen at hcm
 have HL := Lib.hid hl
 have HC := Lib.hid hcells
 clear hcells hl hr
 go_enter Tryz.func137, Tryz.ntmps137
 go_wp2_with fail
 go_loopw [8] (fun i wr => ∃ k : Nat, k ≤ n ∧ i = .int .i64 k ∧ Hid (∀ i (hi : i < k) (hi' : i < hs.length), eqS x hs[i] = false) ∧ wr = w) (fun i _ => n - (intOf i).toNat)
 case atStart => exact ⟨0, Nat.zero_le _, rfl, (fun i hi => absurd hi (by omega)), rfl⟩
 case round =>
  obtain ⟨k, hk, rfl, HF, rfl⟩ := hrel
  by_cases hlt : k < n
  · have hkr : k < hs.length := by rw [HL.out]; exact hlt
    obtain ⟨g, o, hA, _, hcs⟩ := HC.out (by omega)
    subst hA
    have c0 := hcs k hkr
    obtain ⟨s, hs'⟩ : ∃ s, hs[k] = s := ⟨_, rfl⟩
    rw [hs'] at c0
    clear hcs
    cases he : eqS x s
    · have he' : (x.toList == s.toList) = false := he
      have HF2 : Hid (∀ i (hi : i < k + 1) (hi' : i < hs.length), eqS x hs[i] = false) := by
       intro i hi hi'
       by_cases hik : i = k
       · subst hik; rw [hs']; exact he
       · exact HF.out i (by omega) hi'
      clear he hs'
      go_wp2_with fail
      go_roundw
      case rel => exact ⟨k + 1, by omega, by go_num, HF2, trivial⟩
      case measure => simp [intOf]; omega
    · have he' : (x.toList == s.toList) = true := he
      have HR : Hid (ixOf (eqS x) hs = k) := ixOf_at _ hs k hkr (fun i hi => HF.out i hi (by omega)) (by rw [hs']; exact he)
      clear he hs'
      go_wp2_with fail
      go_ret
      exact ⟨ret_int HR.out.symm, 0, rfl⟩
  · obtain rfl : k = n := by omega
    have HR : Hid (ixOf (eqS x) hs = -1) := ixOf_no _ hs (fun i hi => HF.out i (by rw [← HL.out]; exact hi) hi)
    go_wp2_with fail
    go_ret
    exact ⟨ret_int HR.out.symm, 0, rfl⟩
set_option maxRecDepth 100000 in
theorem containsS_calls (b : Nat) (A : Option Addr) (n c : Nat) (hs : List ByteArray) (x : ByteArray) (w : World) (hr : Rd w b 1 (.slice A n c) n (strsV hs)) :
 Calls Tryz.prog 85 #[.slice A n c, .string x] w (QRet (.bool (memS hs x)) w) := by
 have HM := Lib.hid (ixOf_mem (eqS x) hs)
 go_enter Tryz.func85, Tryz.ntmps85
 go_wp2_with fail
 refine (indexS_calls b A n c hs x _ hr).mono ?_
 rintro e w1 ⟨rfl, nq, rfl⟩
 go_wp2_with fail
 go_ret
 exact ⟨ret_bool HM.out, nq, rfl⟩
end Go.Proofs.YtapgnaimbgjcnaaGreatDoor
/-
  marathon.find, splitref2.SlotAt and marathon.slotFault by contracts. (Printed by gen_slot2.py.)
-/
namespace Go.Proofs.YtapgnaimbgjcnaaGreatDoor
open Go Go.RowKit
set_option maxRecDepth 100000 in
theorem findL_calls (b : Nat) (A : Option Addr) (n c : Nat) (rs : List Slt) (key : ByteArray) (w : World) (hr : Rd w b 5 (.slice A n c) n (rs.flatMap sltC)) :
 Calls Tryz.prog 201 #[.slice A n c, .string key] w (BRet (.int .i64 (findL rs key)) w) := by
 obtain ⟨hl, hnc, hcm, hcells⟩ := hr.cells sltC_len (by omega)
 unfold maxLen at hcm
 have HL := Lib.hid hl
 have HC := Lib.hid hcells
 clear hcells hl hr
 go_enter Tryz.func201, Tryz.ntmps201
 go_wp2
 go_loopw [8] (fun i wr => ∃ k : Nat, k ≤ n ∧ i = .int .i64 k ∧ Hid (∀ i (_ : i < k) (hi' : i < rs.length), eqS rs[i].key key = false) ∧ Below w.heap.size w wr ∧ Blk wr w.heap.size 9 #[.string key]) (fun i _ => n - (intOf i).toNat)
 case atStart => exact ⟨0, Nat.zero_le _, rfl, (fun i hi => absurd hi (by omega)), (Below.refl _ _).alloc (Nat.le_refl _) _, Blk.new _ _ _⟩
 case round =>
  obtain ⟨k, hk, rfl, HF, hbr, hblk⟩ := hrel
  by_cases hlt : k < n
  · have hkr : k < rs.length := by rw [HL.out]; exact hlt
    obtain ⟨g, o, hA, _, hcs⟩ := HC.out (by omega)
    subst hA
    obtain ⟨x, hx⟩ : ∃ x, rs[k] = x := ⟨_, rfl⟩
    have c0 := below_cell hbr (hcs k hkr 0 (by omega))
    have c1 := below_cell hbr (hcs k hkr 1 (by omega))
    have c2 := below_cell hbr (hcs k hkr 2 (by omega))
    have c3 := below_cell hbr (hcs k hkr 3 (by omega))
    have c4 := below_cell hbr (hcs k hkr 4 (by omega))
    rw [hx] at c0 c1 c2 c3 c4
    obtain ⟨s, s2, ha, hc, hh, s3, s4⟩ := x
    simp only [Nat.add_zero] at c0
    have hlz := hbr.size
    have hbb := hblk.lt
    have bw := (hblk.alloc (.cells #[.string s, .string s2, .slice ha hh.length hc, .int .i64 s3, .int .i64 s4] 156)).one.1
    clear hcs
    cases he : eqS s key
    · have he' : (s.toList == key.toList) = false := he
      have HF2 : Hid (∀ i (_ : i < k + 1) (hi' : i < rs.length), eqS rs[i].key key = false) := by
       intro i hi hi'
       by_cases hik : i = k
       · subst hik; rw [hx]; exact he
       · exact HF.out i (by omega) hi'
      clear he hx
      go_wp2
      go_roundw
      case rel => exact ⟨k + 1, by omega, by go_num, HF2, hbr.alloc hbr.size _, hblk.alloc _⟩
      case measure => simp [intOf]; omega
    · have he' : (s.toList == key.toList) = true := he
      have HR : Hid (findL rs key = k) := ixOf_at _ rs k hkr (fun i hi => HF.out i hi (by omega)) (by show eqS rs[k].key key = true; rw [hx]; exact he)
      clear he hx
      go_wp2
      go_ret
      exact ⟨ret_int HR.out.symm, hbr.alloc hbr.size _⟩
  · obtain rfl : k = n := by omega
    have HR : Hid (findL rs key = -1) := ixOf_no _ rs (fun i hi => HF.out i (by rw [← HL.out]; exact hi) hi)
    go_wp2
    go_ret
    exact ⟨ret_int HR.out.symm, hbr⟩
set_option maxRecDepth 100000 in
theorem slotFault_calls (b : Nat) (x : Slt) (w : World) (hx : SltW w b x) (_hb : b < w.heap.size) :
 Calls Tryz.prog 202 #[.agg #[.string x.key, .string x.who, .slice x.ha x.hosts.length x.hc, .int .i64 x.setup, .int .i64 x.long]] w (BRet (.int .i64 (slotF x)) w) := by
 obtain ⟨h1, h2, h3, h4, h5, h6, h7⟩ := hx
 obtain ⟨key, who, ha, hc, hosts, su, lo⟩ := x
 simp only at h1 h2 h3 h4 h5 h6 h7
 obtain ⟨n, hn⟩ : ∃ n, hosts.length = n := ⟨_, rfl⟩
 have hS : slotF ⟨key, who, ha, hc, hosts, su, lo⟩ = (if 10 < n then 2 else if riseF hosts = 0 then if memS hosts who = true then 6 else if (outB su 0 86400000 || outB lo 1 86400000) = true then 1 else 0 else riseF hosts) := by
  subst hn; rfl
 obtain ⟨F, hF⟩ : ∃ F, slotF ⟨key, who, ha, hc, hosts, su, lo⟩ = F := ⟨_, rfl⟩
 rw [hF] at hS ⊢
 simp only [hn]
 rw [hn] at h1 h5
 obtain ⟨_, hnc, hcm, _⟩ := strs_cells h1
 unfold maxLen at hcm
 have hA : ∀ o : Obj, Below w.heap.size w (w.alloc o) := fun o => (Below.refl _ _).alloc (Nat.le_refl _) o
 have HR := Lib.hid (h1.below (hA (.cells #[.string key, .string who, .slice ha n hc, .int .i64 su, .int .i64 lo] 156)))
 have H4 := Lib.hid h4
 have HN := Lib.hid hn
 obtain ⟨E, hE⟩ : ∃ E, riseF hosts = E := ⟨_, rfl⟩
 rw [hE] at hS
 have HE := Lib.hid hE
 obtain ⟨M, hM⟩ : ∃ M, memS hosts who = M := ⟨_, rfl⟩
 rw [hM] at hS
 have HM := Lib.hid hM
 obtain ⟨O1, hO1⟩ : ∃ M, outB su 0 86400000 = M := ⟨_, rfl⟩
 obtain ⟨O2, hO2⟩ : ∃ M, outB lo 1 86400000 = M := ⟨_, rfl⟩
 rw [hO1, hO2] at hS
 have HO1 := Lib.hid hO1
 have HO2 := Lib.hid hO2
 clear h1 h4 hE hM hO1 hO2 hF hn
 by_cases hbig : 10 < n
 · rw [if_pos hbig] at hS
   have HS := Lib.hid hS
   clear hS
   go_enter Tryz.func202, Tryz.ntmps202
   go_wp2_with fail
   go_ret
   exact ⟨ret_int HS.out.symm, hA _⟩
 rw [if_neg hbig] at hS
 by_cases hz : E = 0
 · subst hz
   rw [if_pos rfl] at hS
   have H0 := Lib.hid hS
   clear hS
   go_enter Tryz.func202, Tryz.ntmps202
   go_wp2_with fail
   refine (rising_calls b ha n hc hosts _ HR.out H4.out).mono ?_
   rintro e w1 ⟨rfl, nq, rfl⟩
   rw [HE.out]
   have B0 : Blk ((w.alloc (.cells #[.string key, .string who, .slice ha n hc, .int .i64 su, .int .i64 lo] 156)).drewN nq) w.heap.size 156 #[.string key, .string who, .slice ha n hc, .int .i64 su, .int .i64 lo] := Blk.new w _ _
   have b1 := B0.cell 1
   have b2 := B0.cell 2
   have b3 := B0.cell 3
   have b4 := B0.cell 4
   go_wp2_with fail
   refine (containsS_calls b ha n hc hosts who _ (HR.out.below (below_drewN (Below.refl _ _) _))).mono ?_
   rintro e w2 ⟨rfl, nq2, rfl⟩
   rw [HM.out]
   clear b1 b2
   have d3 : (((w.alloc (.cells #[.string key, .string who, .slice ha n hc, .int .i64 su, .int .i64 lo] 156)).drewN nq).drewN nq2).cell? ⟨w.heap.size, 3, none⟩ = some (.int .i64 su) := b3
   have d4 : (((w.alloc (.cells #[.string key, .string who, .slice ha n hc, .int .i64 su, .int .i64 lo] 156)).drewN nq).drewN nq2).cell? ⟨w.heap.size, 4, none⟩ = some (.int .i64 lo) := b4
   clear b3 b4
   cases M
   · rw [if_neg (by simp)] at H0
     go_wp2_with fail
     refine (out_calls _ _ _ _).mono ?_
     rintro e w3 ⟨rfl, rfl⟩
     rw [HO1.out]
     cases O1
     · go_wp2_with fail
       refine (out_calls _ _ _ _).mono ?_
       rintro e w3 ⟨rfl, rfl⟩
       rw [HO2.out]
       cases O2
       · have HS := Lib.hid (H0.out.trans (if_neg (by simp)))
         clear H0
         go_wp2_with fail
         go_ret
         exact ⟨ret_int HS.out.symm, below_drewN (hA _) _⟩
       · have HS := Lib.hid (H0.out.trans (if_pos (by simp)))
         clear H0
         go_wp2_with fail
         go_ret
         exact ⟨ret_int HS.out.symm, below_drewN (hA _) _⟩
     · have HS := Lib.hid (H0.out.trans (if_pos (by simp)))
       clear H0
       go_wp2_with fail
       go_ret
       exact ⟨ret_int HS.out.symm, below_drewN (hA _) _⟩
   · rw [if_pos rfl] at H0
     go_wp2_with fail
     go_ret
     exact ⟨ret_int H0.out.symm, below_drewN (hA _) _⟩
 · rw [if_neg hz] at hS
   have HS := Lib.hid hS
   have hz' : (E != 0) = true := by rw [bne_iff_ne]; exact hz
   clear hS
   go_enter Tryz.func202, Tryz.ntmps202
   go_wp2_with fail
   refine (rising_calls b ha n hc hosts _ HR.out H4.out).mono ?_
   rintro e w1 ⟨rfl, nq, rfl⟩
   rw [HE.out]
   go_wp2_with fail
   go_ret
   exact ⟨ret_int HS.out.symm, below_drewN (hA _) _⟩
end Go.Proofs.YtapgnaimbgjcnaaGreatDoor
