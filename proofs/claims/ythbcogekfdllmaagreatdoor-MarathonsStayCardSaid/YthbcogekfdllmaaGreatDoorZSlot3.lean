/-
  marathon.CheckSlots and splitref2.SlotsFault by contracts: both answer slotsF. (Printed by gen_slot3.py.)
-/
import Derived.Test.YthbcogekfdllmaaGreatDoorZSlotPure
import Derived.Deep.RegionLaw
import Derived.Deep.RegionWith
import Derived.Deep.DrawnRows
import Derived.Test.YthbcogekfdllmaaGreatDoorZFlat
import Derived.Deep.DeepMust
import Derived.Lib.SliceRun
import Derived.Laws.AppendOwnNone
namespace Go.Proofs.YthbcogekfdllmaaGreatDoor
open Go Go.RowKit
attribute [local go_sem ↓] Go.wp_at_zero Go.wp_at_succ

set_option maxRecDepth 100000 in
theorem checkSlotsW_calls (b : Nat) (A : Option Addr) (n c : Nat) (xs : List Slt) (w : World) (hr : SltsW w b A n c xs) (hb : b < w.heap.size) :
    Calls Tryz.prog 65 #[.slice A n c] w (BRet (.int .i64 (slotsF xs)) w) := by
  obtain ⟨hl, hnc, hcm, hcells⟩ := hr.rd.cells sltC_len (by omega)
  unfold maxLen at hcm
  by_cases hbig : 200 < n
  · have HF := Lib.hid (show slotsF xs = 2 by unfold slotsF; rw [if_pos (by omega)])
    clear hcells hl
    go_enter Tryz.func65, Tryz.ntmps65
    go_wp2_with fail
    go_ret
    exact ⟨ret_int HF.out.symm, Below.refl _ _⟩
  have HF := Lib.hid (show slotsF xs = slotsG (xs.take 0) (xs.drop 0) by unfold slotsF; rw [if_neg (by omega)]; rfl)
  have HL := Lib.hid hl
  have HC := Lib.hid hcells
  have HR := Lib.hid hr
  clear hcells hl hr
  go_enter Tryz.func65, Tryz.ntmps65
  go_wp2_with fail
  go_loopw [11] (fun i wr => ∃ k : Nat, k ≤ n ∧ i = .int .i64 k ∧ Hid (slotsF xs = slotsG (xs.take k) (xs.drop k)) ∧ Below w.heap.size w wr) (fun i _ => n - (intOf i).toNat)
  case atStart => exact ⟨0, Nat.zero_le _, rfl, HF, Below.refl _ _⟩
  case round =>
    clear HF
    obtain ⟨k, hk, rfl, HF, hbr⟩ := hrel
    by_cases hlt : k < n
    · have hkr : k < xs.length := by rw [HL.out]; exact hlt
      obtain ⟨g, o, hA, _, hcs⟩ := HC.out (by omega)
      subst hA
      have hst := HF.out.trans (slotsG_step xs k hkr)
      have hok := (HR.out.ok _ (List.getElem_mem hkr)).below hbr
      have htk := (HR.out.rd.take sltC_len (by omega) hk).below hbr
      obtain ⟨x, hx⟩ : ∃ x, xs[k] = x := ⟨_, rfl⟩
      have c0 := below_cell hbr (hcs k hkr 0 (by omega))
      have c1 := below_cell hbr (hcs k hkr 1 (by omega))
      have c2 := below_cell hbr (hcs k hkr 2 (by omega))
      have c3 := below_cell hbr (hcs k hkr 3 (by omega))
      have c4 := below_cell hbr (hcs k hkr 4 (by omega))
      rw [hx] at c0 c1 c2 c3 c4 hst hok
      obtain ⟨s, t, ha, hc, hh, s3, s4⟩ := x
      obtain ⟨m, hm⟩ : ∃ m, hh.length = m := ⟨_, rfl⟩
      simp only [Nat.add_zero] at c0
      simp only [hm] at c2
      have hlz := hbr.size
      have hsz : s.size ≤ 1000000 := hok.hk
      have htz : t.size ≤ 1000000 := hok.hw
      obtain ⟨F1, hF1⟩ : ∃ F, findL (xs.take k) s = F := ⟨_, rfl⟩
      obtain ⟨KS, hKS⟩ : ∃ B, keyB s.data.toList = B := ⟨_, rfl⟩
      obtain ⟨KT, hKT⟩ : ∃ B, keyB t.data.toList = B := ⟨_, rfl⟩
      simp only [hF1, hKS, hKT] at hst
      have HKS := Lib.hid hKS
      have HKT := Lib.hid hKT
      have HST := Lib.hid hst
      have HOK := Lib.hid (show SltW (wr.alloc (.cells #[.string s, .string t, .slice ha m hc, .int .i64 s3, .int .i64 s4] 64)) b ⟨s, t, ha, hc, hh, s3, s4⟩ from hok.below ((Below.refl _ _).alloc (Nat.le_refl _) _))
      have HA : Hid (∀ W, W = (wr.alloc (.cells #[.string s, .string t, .slice ha m hc, .int .i64 s3, .int .i64 s4] 64)).drew → Calls Tryz.prog 74 #[.slice (some ⟨g, o, none⟩) k c, .string s] W (BRet (.int .i64 F1) W)) := by
        rintro W rfl
        have := findL_calls b _ k c (xs.take k) s ((wr.alloc (.cells #[.string s, .string t, .slice ha m hc, .int .i64 s3, .int .i64 s4] 64)).drew) ((htk.below ((Below.refl _ _).alloc (Nat.le_refl _) _)).below (below_drewN (Below.refl _ _) 1))
        rw [hF1] at this
        exact this
      have HM := Lib.hid hm
      have hbr1 : Below w.heap.size w (wr.alloc (.cells #[.string s, .string t, .slice ha m hc, .int .i64 s3, .int .i64 s4] 64)) := hbr.alloc hlz _
      have hbr2 := below_drewN hbr1 1
      have B0 : Blk (wr.alloc (.cells #[.string s, .string t, .slice ha m hc, .int .i64 s3, .int .i64 s4] 64)) wr.heap.size 64 #[.string s, .string t, .slice ha m hc, .int .i64 s3, .int .i64 s4] := Blk.new wr _ _
      have b0 := B0.cell 0
      have b1 := B0.cell 1
      clear hcs hst hok htk hx hm hF1 hKS hKT
      cases KS
      · have HS := Lib.hid (HST.out.trans (if_pos (by simp)))
        clear HST
        go_wp2_with fail
        refine (key_calls s _ (by unfold maxLen; omega)).mono ?_
        rintro e w1 ⟨rfl, rfl⟩
        rw [HKS.out]
        go_wp2_with fail
        go_ret
        exact ⟨ret_int HS.out.symm, hbr1⟩
      cases KT
      · have HS := Lib.hid (HST.out.trans (if_pos (by simp)))
        clear HST
        go_wp2_with fail
        refine (key_calls s _ (by unfold maxLen; omega)).mono ?_
        rintro e w1 ⟨rfl, rfl⟩
        rw [HKS.out]
        go_wp2_with fail
        refine (key_calls t _ (by unfold maxLen; omega)).mono ?_
        rintro e w1 ⟨rfl, rfl⟩
        rw [HKT.out]
        go_wp2_with fail
        go_ret
        exact ⟨ret_int HS.out.symm, hbr1⟩
      have HST2 := Lib.hid (HST.out.trans (if_neg (by simp)))
      clear HST
      have hk0 : (0 : Int) ≤ (k : Int) := by omega
      have hkc : (k : Int) ≤ (c : Int) := by omega
      by_cases hF0 : 0 ≤ F1
      · have HS := Lib.hid (HST2.out.trans (if_pos hF0))
        clear HST2
        go_wp2_with fail
        refine (key_calls s _ (by unfold maxLen; omega)).mono ?_
        rintro e w1 ⟨rfl, rfl⟩
        rw [HKS.out]
        go_wp2_with fail
        refine (key_calls t _ (by unfold maxLen; omega)).mono ?_
        rintro e w1 ⟨rfl, rfl⟩
        rw [HKT.out]
        go_wp2_with fail
        go_region_law (first
          | (go_simp; go_at_call 74; ((with_reducible refine (HA.out _ rfl).mono ?_); rintro e w3 ⟨rfl, hb3⟩)))
        have hb4 := below_call hbr2 hb3 (Nat.le_refl _)
        clear b0 b1
        go_wp2_with fail
        go_ret
        exact ⟨ret_int HS.out.symm, hb4⟩
      have HST3 := Lib.hid (HST2.out.trans (if_neg hF0))
      clear HST2
      go_wp2_with fail
      refine (key_calls s _ (by unfold maxLen; omega)).mono ?_
      rintro e w1 ⟨rfl, rfl⟩
      rw [HKS.out]
      go_wp2_with fail
      refine (key_calls t _ (by unfold maxLen; omega)).mono ?_
      rintro e w1 ⟨rfl, rfl⟩
      rw [HKT.out]
      go_wp2_with fail
      go_region_law (first
        | (go_simp; go_at_call 74; ((with_reducible refine (HA.out _ rfl).mono ?_); rintro e w3 ⟨rfl, hb3⟩)))
      have hb4 := below_call hbr2 hb3 (Nat.le_refl _)
      have hz4 := hb4.size
      have B3 : Blk w3 wr.heap.size 64 #[.string s, .string t, .slice ha m hc, .int .i64 s3, .int .i64 s4] := Blk.below (w := (wr.alloc (.cells #[.string s, .string t, .slice ha m hc, .int .i64 s3, .int .i64 s4] 64)).drew) (Blk.new wr _ _) hb3
      have HOK3 := Lib.hid (SltW.below (w := (wr.alloc (.cells #[.string s, .string t, .slice ha m hc, .int .i64 s3, .int .i64 s4] 64)).drew) (HOK.out.below (below_drewN (Below.refl _ _) 1)) hb3)
      clear B0 b0 b1 HOK
      have d0 := B3.cell 0
      have d1 := B3.cell 1
      have d2 := B3.cell 2
      have d3 := B3.cell 3
      have d4 := B3.cell 4
      have HB := Lib.hid (Nat.lt_of_lt_of_le hb hz4)
      obtain ⟨SF, hSF⟩ : ∃ F, slotF ⟨s, t, ha, hc, hh, s3, s4⟩ = F := ⟨_, rfl⟩
      have hst := HST3.out
      rw [hSF] at hst
      have HCF : Hid (Calls Tryz.prog 125 #[.agg #[.string s, .string t, .slice ha m hc, .int .i64 s3, .int .i64 s4]] w3 (BRet (.int .i64 SF) w3)) := by
        have := slotFault_calls b ⟨s, t, ha, hc, hh, s3, s4⟩ w3 HOK3.out HB.out
        rw [hSF] at this
        simp only [HM.out] at this
        exact this
      clear HST3 B3 hSF
      by_cases hz : SF = 0
      · rw [if_pos hz] at hst
        have HS := Lib.hid hst
        subst hz
        clear hst
        go_wp2_with fail
        refine HCF.out.mono ?_
        rintro e w5 ⟨rfl, hb5⟩
        have hb6 := below_call hb4 hb5 (Nat.le_refl _)
        clear d0 d1 d2 d3 d4
        go_wp2_with fail
        go_roundw
        case rel => exact ⟨k + 1, by omega, by go_num, HS, hb6⟩
        case measure => simp [intOf]; omega
      · rw [if_neg hz] at hst
        have HS := Lib.hid hst
        have hz' : (SF != 0) = true := by rw [bne_iff_ne]; exact hz
        clear hst
        go_wp2_with fail
        refine HCF.out.mono ?_
        rintro e w5 ⟨rfl, hb5⟩
        have hb6 := below_call hb4 hb5 (Nat.le_refl _)
        clear d0 d1 d2 d3 d4
        go_wp2_with fail
        go_ret
        exact ⟨ret_int HS.out.symm, hb6⟩
    · obtain rfl : k = n := by omega
      have HS := Lib.hid (HF.out.trans (by rw [List.drop_of_length_le (by rw [HL.out]; exact Nat.le_refl _)]; rfl : _ = (0 : Int)))
      go_wp2_with fail
      go_ret
      exact ⟨ret_int HS.out.symm, hbr⟩

theorem checkSlots_calls (b : Nat) (A : Option Addr) (n c : Nat) (xs : List Slt) (w : World) (hr : Slts w b A n c xs) (hb : b < w.heap.size) :
    Calls Tryz.prog 65 #[.slice A n c] w (BRet (.int .i64 (slotsF xs)) w) := checkSlotsW_calls b A n c xs w hr.wide hb
end Go.Proofs.YthbcogekfdllmaaGreatDoor
/-
  Ranks as the stream makes them, by a contract.
-/
namespace Go.Proofs.YthbcogekfdllmaaGreatDoor
open Go Go.RowKit
attribute [local go_sem ↓] Go.wp_at_zero Go.wp_at_succ

theorem news_new (w : World) (cs : Array Value) (t : TypeId) (B : Nat) (hB : w.heap.size = B) : ∀ j u, cs.toList[j]? = some u → (w.alloc (.cells cs t)).cell? ((⟨B, 0, none⟩ : Addr).add j) = some u := by
  subst hB
  exact World.news_of_block (heap_alloc_new w _)

theorem base1 {w : World} {B : Nat} (h : B ≤ w.heap.size) (o : Obj) : B ≤ (w.alloc o).heap.size := by simp; omega
theorem size1 (w : World) (o : Obj) : (w.alloc o).heap.size = w.heap.size + 1 := by simp
end Go.Proofs.YthbcogekfdllmaaGreatDoor
/-
  slices.Clone of strings, marathon.needed and splitref2.people by contracts. (Printed by gen_slot4.py.)
-/
namespace Go.Proofs.YthbcogekfdllmaaGreatDoor
open Go Go.RowKit
attribute [local go_sem ↓] Go.wp_at_zero Go.wp_at_succ

theorem info_str : (Tryz.prog.info? 9).map (fun i => (i.zero, i.size, i.bytes)) = some (some (.string ⟨#[]⟩), 1, 16) := by kernel_rfl
theorem strsV_one (l : List ByteArray) : ∀ u ∈ strsV l, u.oneCell' = true := by
  intro u hu
  obtain ⟨s, _, rfl⟩ := List.mem_map.1 hu
  rfl
theorem one1 {x : Value} (hx : x.oneCell' = true) : ∀ u ∈ [x], u.oneCell' = true := by
  intro u hu
  simp at hu
  subst hu
  exact hx
set_option maxRecDepth 100000 in
theorem cloneS_calls (b : Nat) (A : Option Addr) (n c : Nat) (xs : List Value) (w : World) (hr : Rd w b 1 (.slice A n c) n xs) (h1 : ∀ u ∈ xs, u.oneCell' = true) (hn : n ≤ 100000) :
    Calls Tryz.prog 64 #[.slice A n c] w fun e w' => ∃ v, e = .returned v ∧ w'.ownsRow w.heap.size 9 1 v n xs ∧ Below w.heap.size w w' := by
  obtain ⟨i0, hi, hz0, hz1, hz2⟩ := info_parts info_str
  have q29 : ∀ (w : World) (a : Option Addr) (n c n' c' : Nat), (binOp .eql 57 (.slice a n c) (.slice none n' c')).run Tryz.prog w = .ok (.bool a.isNone) w := fun w a n c n' c' => Lib.run_eql_slice_nil w _ _ a n c n' c' Tryz.underlying57
  obtain ⟨A', c', e1, e2, e3, e4, e5, e6⟩ := hr
  injection e1 with ea eb ec
  subst ea ec
  cases A with
  | none =>
    obtain ⟨rfl, rfl⟩ := e5 rfl
    have hx : xs = [] := List.eq_nil_of_length_eq_zero (by simpa using e4)
    subst hx
    clear e6
    go_enter Tryz.func64, Tryz.ntmps64
    go_wp2
    go_ret
    exact ⟨_, rfl, World.ownsRow_nil _ _ _ _, Below.refl _ _⟩
  | some a =>
    have hcells : ∀ j u, xs[j]? = some u → w.cell? (a.add j) = some u := by
      intro j u hu
      have hpos : 0 < n := by
        rcases Nat.eq_zero_or_pos n with h | h
        · subst h
          have hx : xs = [] := List.eq_nil_of_length_eq_zero (by simpa using e4)
          subst hx
          simp at hu
        · exact h
      obtain ⟨g, o, f1, _, f3⟩ := e6 hpos
      injection f1 with f1
      subst f1
      have hadd : (⟨g, o, none⟩ : Addr).add j = ⟨g, o + j, none⟩ := by unfold Addr.add; split <;> simp_all
      rw [hadd]
      exact f3 j u hu
    have hcells2 : ∀ ob : Obj, ∀ j u, xs[j]? = some u → (w.alloc ob).cell? (a.add j) = some u := fun ob j u hu =>
      (World.cell?_alloc_lt w ob (a.add j) (World.block_lt_of_cell? w _ (hcells j u hu))).trans (hcells j u hu)
    clear e6 hcells
    go_enter Tryz.func64, Tryz.ntmps64
    go_wp2_with (first
      | (at_builtin; refine wpList_append_own _ rfl _ _ 57 rfl w.heap.size 9 i0 (.string ⟨#[]⟩) 1 16 Tryz.underlying57 hi hz0 hz1 hz2 rfl (by decide) _ 0 [] rfl (World.ownsRow_lit (base := w.heap.size) w #[] 0 (Nat.le_refl _) (by decide) rfl) a n c xs rfl (by omega) (hcells2 _) h1 (by unfold maxLen; omega) (by omega) (by simp) ?_; intro v' w1 hown' hgrow hnil))
    go_ret
    refine ⟨_, rfl, by simpa using hown', ((Below.refl _ _).alloc (Nat.le_refl _) _).grown hgrow (by simp) (fun q hq => ?_)⟩
    have h2 : some w.heap.size = some q := hq
    injection h2 with h2
    omega

/-- names in new memory -/
def StrsS (l : List ByteArray) (w : World) (e : Ending) (w' : World) : Prop :=
  ∃ v, e = .returned v ∧ w'.ownsRow w.heap.size 9 1 v l.length (strsV l) ∧ Below w.heap.size w w'
theorem own_strs {w : World} {base n : Nat} {v : Value} {l : List ByteArray} {xs : List Value} (h : w.ownsRow base 9 1 v n xs) (hn : n = l.length) (hx : xs = strsV l) : w.ownsRow base 9 1 v l.length (strsV l) := by subst hn hx; exact h

set_option maxRecDepth 100000 in
theorem needed_calls (b : Nat) (x : Slt) (w : World) (hx : SltOk w b x) :
    Calls Tryz.prog 131 #[.agg #[.string x.key, .string x.who, .slice x.ha x.hosts.length x.hc, .int .i64 x.setup, .int .i64 x.long]] w (StrsS (x.who :: x.hosts) w) := by
  obtain ⟨h1, h2, h3, h4, h5, h6, h7⟩ := hx
  obtain ⟨key, who, ha, hc, hosts, su, lo⟩ := x
  simp only at h1 h2 h3 h4 h5 h6 h7
  obtain ⟨i0, hi, hz0, hz1, hz2⟩ := info_parts info_str
  obtain ⟨n, hn⟩ : ∃ n, hosts.length = n := ⟨_, rfl⟩
  simp only [hn]
  rw [hn] at h1 h5
  have HN := Lib.hid hn
  have hA : Below w.heap.size w ((w.alloc (.cells #[.string key, .string who, .slice ha n hc, .int .i64 su, .int .i64 lo] 64)).alloc (.cells #[.string who] 9)) := ((Below.refl _ _).alloc (Nat.le_refl _) _).alloc (by simp) _
  have h1' := ((h1.below ((Below.refl _ _).alloc (Nat.le_refl _) (.cells #[.string key, .string who, .slice ha n hc, .int .i64 su, .int .i64 lo] 64))).below ((Below.refl _ _).alloc (Nat.le_refl _) (.cells #[.string who] 9)))
  have hlit : ((w.alloc (.cells #[.string key, .string who, .slice ha n hc, .int .i64 su, .int .i64 lo] 64)).alloc (.cells #[.string who] 9)).ownsRow w.heap.size 9 1 (.slice (some ⟨w.heap.size + 1, 0, none⟩) 1 1) 1 [.string who] := by
    have := World.ownsRow_lit (base := w.heap.size) (size := 1) (e := 9) (w.alloc (.cells #[.string key, .string who, .slice ha n hc, .int .i64 su, .int .i64 lo] 64)) #[.string who] 1 (by simp) (by decide) rfl
    simpa using this
  obtain ⟨A', c', e1, e2, e3, e4, e5, e6⟩ := h1'
  injection e1 with ea eb ec
  subst ea ec
  cases ha with
  | none =>
    obtain ⟨rfl, rfl⟩ := e5 rfl
    have hx : hosts = [] := List.eq_nil_of_length_eq_zero hn
    subst hx
    clear e6
    go_enter Tryz.func131, Tryz.ntmps131
    go_wp2_with fail
    go_ret
    exact ⟨_, rfl, own_strs hlit rfl rfl, hA⟩
  | some a =>
    have hcells : ∀ j u, (strsV hosts)[j]? = some u → ((w.alloc (.cells #[.string key, .string who, .slice (some a) n hc, .int .i64 su, .int .i64 lo] 64)).alloc (.cells #[.string who] 9)).cell? (a.add j) = some u := by
      intro j u hu
      have hpos : 0 < n := by
        rcases Nat.eq_zero_or_pos n with h | h
        · subst h
          have hx : hosts = [] := List.eq_nil_of_length_eq_zero hn
          subst hx
          simp [strsV] at hu
        · exact h
      obtain ⟨g, o, f1, _, f3⟩ := e6 hpos
      injection f1 with f1
      subst f1
      have hadd : (⟨g, o, none⟩ : Addr).add j = ⟨g, o + j, none⟩ := by unfold Addr.add; split <;> simp_all
      rw [hadd]
      exact f3 j u hu
    clear e6
    go_enter Tryz.func131, Tryz.ntmps131
    go_wp2_with (first
      | (at_builtin; refine wpList_append_own _ rfl _ _ 57 rfl w.heap.size 9 i0 (.string ⟨#[]⟩) 1 16 Tryz.underlying57 hi hz0 hz1 hz2 rfl (by decide) _ 1 [.string who] rfl hlit a n hc (strsV hosts) rfl (by simpa using e4) hcells (strsV_one _) (by unfold maxLen; omega) (by omega) (by simp; omega) ?_; intro v' w1 hown' hgrow hnil))
    go_ret
    refine ⟨_, rfl, own_strs hown' (by simp [hn]; omega) rfl, hA.grown hgrow (by simp; omega) (fun q hq => ?_)⟩
    have h2 : some (w.heap.size + 1) = some q := hq
    injection h2 with h2
    omega

end Go.Proofs.YthbcogekfdllmaaGreatDoor
