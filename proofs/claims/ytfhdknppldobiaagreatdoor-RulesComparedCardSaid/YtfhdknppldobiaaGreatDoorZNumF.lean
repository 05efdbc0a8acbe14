/-
  How numbers of rules are read: base.Number and the reference's Number as one function.
-/
import Derived.Test.YtfhdknppldobiaaGreatDoorZTxt1
import Derived.Test.YtfhdknppldobiaaGreatDoorZClk
import Derived.Test.YtfhdknppldobiaaGreatDoorZTidPure
import Derived.Test.YtfhdknppldobiaaGreatDoorZSjoin
import Derived.Test.YtfhdknppldobiaaGreatDoorZLow
import Derived.Test.YtfhdknppldobiaaGreatDoorZAppAny
namespace Go.Proofs.YtfhdknppldobiaaGreatDoor
open Go Go.RowKit TxtP

def numF (x : ByteArray) : Int × Bool := (if numB x.data.toList 9 = true then numI x.data.toList else 0, numB x.data.toList 9)
theorem numF_c : NumC numF := fun x W hx => number_calls x 9 (by decide) W (by unfold maxLen; omega)
theorem numF_qc : NumQC numF := fun x W hx ht => (numberQ_calls x 9 (by decide) W (by unfold maxLen; omega) ht).mono (fun e w' ⟨v, he, hv, hb⟩ => by
  obtain ⟨z, _, _, rfl, hz⟩ := hv
  exact ⟨z, he, fun h => by
    have h : numB x.data.toList 9 = true := h
    show z = if numB x.data.toList 9 = true then numI x.data.toList else 0
    rw [if_pos h]
    exact hz h, hb⟩)
theorem numF_body {x : ByteArray} (h : (numF x).2 = true) : body x.data.toList ≠ [] ∧ (body x.data.toList).length ≤ 9 ∧ (body x.data.toList).all isDig = true := by
  have h : numB x.data.toList 9 = true := h
  obtain ⟨a, b, c, _⟩ := numB_iff.1 h
  exact ⟨a, b, c⟩
theorem numF_ok : NumOk numF := by
  intro x h
  obtain ⟨a, b, c⟩ := numF_body h
  refine ⟨fun e => ?_, fun e => ?_, fun e => ?_⟩
  · rw [ba_nil e] at a; exact a rfl
  · rw [e] at c; exact absurd c (by decide)
  · rw [e] at c; exact absurd c (by decide)
theorem numF_z : NumZ numF := by
  intro x h
  obtain ⟨a, b, c⟩ := numF_body h
  have := (body_len x.data.toList).2
  have e : x.data.toList.length = x.size := by simp
  omega
end Go.Proofs.YtfhdknppldobiaaGreatDoor
/-
  The reference's free and FreeFault by contracts.
-/
namespace Go.Proofs.YtfhdknppldobiaaGreatDoor
open Go Go.RowKit TxtP
attribute [local go_sem ↓] Go.wp_at_zero Go.wp_at_succ

def mkS (x : BL) : ByteArray := ⟨x.toArray⟩
theorem svB_mk (ls : List BL) : svB ls = strsV (ls.map mkS) := by
  unfold svB strsV
  rw [List.map_map]
  rfl
/-- is it the atom that always holds? -/
def isT (s : ByteArray) : Bool := decide (s = sTrue)
/-- the atoms of rules that can hold or not -/
def frL (ls : List BL) : List ByteArray := kptS isT ((Lib.compact (srtL ls)).map mkS)
def atS1 (s : ByteArray) : List BL := atsQ (flat (parseT numF s).1)
def frS (ss : List ByteArray) : List ByteArray := frL (ss.flatMap atS1)
theorem atS1_le {s : ByteArray} (h : (parseE numF s).2 = 0) : (atS1 s).length ≤ 2001 := by
  obtain ⟨hok, hcn, _⟩ := (check_parse numF numF_ok s).2 h
  have h1 := atsQ_len (flat_qok numF_z hok)
  have h2 := cnt_flat hok
  have h3 : s.size ≤ 2000 := by
    unfold parseE at h
    split at h
    · exact absurd (show (2 : Int) = 0 from h) (by decide)
    · omega
  unfold atS1
  omega
theorem flat_le (f : ByteArray → List BL) (m : Nat) : ∀ ss : List ByteArray, (∀ s ∈ ss, (f s).length ≤ m) → (ss.flatMap f).length ≤ ss.length * m
  | [], _ => by simp
  | s :: ss, h => by
    have h1 := h s (List.mem_cons_self ..)
    have h2 := flat_le f m ss (fun x hx => h x (List.mem_cons_of_mem _ hx))
    rw [List.flatMap_cons, List.length_append, List.length_cons, Nat.succ_mul]
    omega
theorem flat_step (f : ByteArray → List BL) (ss : List ByteArray) (k : Nat) (hk : k < ss.length) : (ss.take (k + 1)).flatMap f = (ss.take k).flatMap f ++ f ss[k] := by
  rw [List.take_succ_eq_append_getElem hk, List.flatMap_append]
  simp
set_option maxRecDepth 100000 in
theorem free1_calls (x : ByteArray) (w : World) : Calls Tryz.prog 150 #[.string x] w (BRet (.bool (isT x)) w) := by
  have h : (x.toList == [116, 114, 117, 101]) = isT x := tokB x [116, 114, 117, 101] sTrue rfl
  obtain ⟨q, hq⟩ : ∃ q, isT x = q := ⟨_, rfl⟩
  rw [hq] at h ⊢
  clear hq
  go_enter Tryz.func150, Tryz.ntmps150
  go_wp2_with fail
  go_ret
  exact ⟨rfl, Below.refl _ _⟩
set_option maxRecDepth 100000 in
set_option maxHeartbeats 1000000 in
theorem free_calls (b : Nat) (A : Option Addr) (n c : Nat) (ss : List ByteArray) (w : World) (hr : Rd w b 1 (.slice A n c) n (strsV ss)) (hok : ∀ s ∈ ss, s.size ≤ 90000 ∧ (parseE numF s).2 = 0) (hn : n ≤ 10) (hb : b < w.heap.size) :
    Calls Tryz.prog 97 #[.slice A n c] w (DelSt w b (frS ss)) := by
  obtain ⟨j0, hj, hy0, hy1, hy2⟩ := info_parts info_str
  obtain ⟨hl, hnc, hcm, hcells⟩ := strs_cells hr
  unfold maxLen at hcm
  have hall : ((ss.flatMap atS1).length ≤ 20010) := by
    have h1 := flat_le atS1 2001 ss (fun s hs => atS1_le (hok s hs).2)
    rw [hl] at h1
    omega
  have hpre : ∀ k, ((ss.take k).flatMap atS1).length ≤ 20010 := fun k => by
    have h1 := flat_le atS1 2001 (ss.take k) (fun s hs => atS1_le (hok s (List.mem_of_mem_take hs)).2)
    rw [List.length_take] at h1
    have : min k ss.length ≤ 10 := by omega
    have h2 := Nat.mul_le_mul_right 2001 this
    omega
  have HPRE := Lib.hid hpre
  have HL := Lib.hid hl
  have HCE := Lib.hid hcells
  have HAT : Hid (∀ k (hk : k < ss.length) W, Calls Tryz.prog 149 #[.string ss[k]] W (AtqS (atS1 ss[k]) W)) := Lib.hid (fun k hk W => by
    have h := hok _ (List.getElem_mem hk)
    exact atomsOf_calls numF numF_ok numF_z _ W h.1 h.2)
  have HSO := Lib.hid (fun W rs A n c ls h1 h2 => sortS_calls w W rs A n c ls h1 h2)
  have HCO := Lib.hid (fun W rs A n c ls h1 h2 => compS_calls w W rs A n c ls h1 h2)
  have HDL : Hid (∀ (A : Option Addr) (n c : Nat) (ys : List ByteArray) (W : World), Sq w W [rOwn w.heap.size 9 1 (.slice A n c) n (strsV ys)] → n ≤ 100000 → Calls Tryz.prog 90 #[.slice A n c, .func (.func 150) #[] #[]] W (DelSt w b (kptS isT ys))) := Lib.hid (fun A n c ys W h1 h2 => (deleteF_calls w b isT A n c ys [] W h1 (fun V x _ _ => free1_calls x V) (fun k hk => by have := ((h1.head : W.ownsRow _ _ _ _ _ _).lt k hk).1; omega) h2).mono (fun e w' h => h.st))
  have HBB := Lib.hid hb
  have HRS : Hid (frS ss = kptS isT ((Lib.compact (srtL (ss.flatMap atS1))).map mkS)) := Lib.hid rfl
  have hS0 := (Sq.start w).nil w.heap.size 9 1
  clear hr hok hpre hl hcells hall hb
  go_enter Tryz.func97, Tryz.ntmps97
  go_wp2_with fail
  go_loopw [3, 8] (fun s3 i wr => ∃ (k : Nat) (lv : List BL) (A4 : Option Addr) (c4 : Nat), k ≤ n ∧ i = .int .i64 k ∧ s3 = .slice A4 lv.length c4 ∧ Hid (lv = (ss.take k).flatMap atS1) ∧ Sq w wr [rOwn w.heap.size 9 1 (.slice A4 lv.length c4) lv.length (svB lv)]) (fun _ i _ => n - (intOf i).toNat)
  case atStart => exact ⟨0, [], none, 0, Nat.zero_le _, rfl, rfl, Lib.hid (by simp), hS0⟩
  case round =>
    clear hS0
    obtain ⟨k, lv, A4, c4, hk, rfl, rfl, HLV, hS⟩ := hrel
    obtain ⟨m, hm⟩ : ∃ m, lv.length = m := ⟨_, rfl⟩
    have HM := Lib.hid hm
    have hmb : m ≤ 20010 := by
      rw [← hm, HLV.out]
      exact HPRE.out k
    rw [hm] at hS ⊢
    clear hm
    by_cases hlt : k < n
    · have hkp : k < ss.length := by rw [HL.out]; exact hlt
      obtain ⟨g, o, hA, _, hcs⟩ := HCE.out (by omega)
      subst hA
      have d0 := below_cell hS.below (hcs k hkp)
      have HC := Lib.hid (HAT.out k hkp)
      have HSN : Hid ((ss.take (k + 1)).flatMap atS1 = (ss.take k).flatMap atS1 ++ atS1 ss[k]) := Lib.hid (flat_step _ _ _ hkp)
      have hxb0 := HPRE.out (k + 1)
      rw [HSN.out, List.length_append, ← HLV.out, HM.out] at hxb0
      obtain ⟨s, hs⟩ : ∃ s, ss[k] = s := ⟨_, rfl⟩
      rw [hs] at d0 HC HSN hxb0
      obtain ⟨x, hx⟩ : ∃ x, atS1 s = x := ⟨_, rfl⟩
      rw [hx] at HC HSN hxb0
      have HC1 := Lib.hid (HC.out wr)
      unfold AtqS at HC1
      obtain ⟨q, hq⟩ : ∃ q, x.length = q := ⟨_, rfl⟩
      rw [hq] at HC1 hxb0
      have HXL := Lib.hid hq
      have HS := Lib.hid hS
      clear hcs hs hx HC hS hq
      go_wp2_with fail
      refine HC1.out.mono ?_
      rintro e w2 ⟨A7, c7, rfl, ho7, hb2⟩
      have hS2 := HS.out.callB hb2
      have hsz2 := hS2.size
      have hrd : Rd w2 b 1 (.slice A7 q c7) q (svB x) := Rd.own ho7 (Nat.lt_of_lt_of_le HBB.out HS.out.size)
      have HO : w2.ownsRow w.heap.size 9 1 (.slice A4 m c4) m (svB lv) := hS2.head
      clear d0 HC1 hb2 ho7
      go_wp2_with (first
        | (at_builtin; refine wpList_app_rd _ rfl _ _ 37 rfl w.heap.size 9 j0 (.string ⟨#[]⟩) 1 16 Tryz.underlying37 hj hy0 hy1 hy2 rfl (by decide) _ _ _ rfl HO b _ q c7 (svB x) rfl hrd (svB_cells _) (by unfold maxLen; omega) (by omega) hsz2 ?_; intro v' w8 hown' hgrow hblk; have hS8 := hS2.append hown' hgrow hblk; obtain ⟨A8, c8, hv8⟩ := own_form hown'; subst hv8; clear hown' hgrow hblk HO))
      go_roundw
      case rel => exact ⟨k + 1, lv ++ x, A8, c8, hlt, by go_num, by rw [List.length_append, HM.out, HXL.out], by rw [HSN.out, ← HLV.out]; exact Lib.hid rfl, by rw [List.length_append, HM.out, HXL.out, svB_app]; exact hS8⟩
      case measure => simp [intOf]; omega
    · obtain rfl : k = n := by omega
      have ht : ss.take k = ss := List.take_of_length_le (by rw [HL.out]; exact Nat.le_refl _)
      rw [ht] at HLV
      have HS1 := Lib.hid (HSO.out wr [] A4 m c4 lv (by omega) hS)
      have HTT : Hid (frS ss = kptS isT ((Lib.compact (srtL lv)).map mkS)) := Lib.hid (by rw [HRS.out, HLV.out])
      have hcl : (Lib.compact (srtL lv)).length ≤ m := by
        have h1 := compact_le (srtL lv)
        rw [srtL_len, HM.out] at h1
        exact h1
      clear hS ht
      go_wp2_with fail
      refine HS1.out.mono ?_
      rintro e w3 ⟨rfl, hS3⟩
      have HS2 := Lib.hid (HCO.out w3 [] A4 m c4 (srtL lv) (by omega) hS3)
      clear hS3
      go_wp2_with fail
      refine HS2.out.mono ?_
      rintro e w4 ⟨rfl, hS4⟩
      obtain ⟨L, hL⟩ : ∃ L, Lib.compact (srtL lv) = L := ⟨_, rfl⟩
      rw [hL] at hS4 hcl HTT
      rw [svB_mk] at hS4
      have HS3 := Lib.hid (HDL.out _ _ _ _ _ hS4 (by omega))
      unfold DelSt at HS3
      rw [hL]
      clear hS4 hL
      go_wp2_with fail
      refine HS3.out.mono ?_
      rintro e w5 ⟨A5, m5, c5, rfl, rfl, hr5, hb5⟩
      go_wp2_with fail
      go_ret
      exact ⟨A5, _, c5, rfl, by rw [HTT.out], by rw [HTT.out]; exact hr5, hb5⟩
/-- the error of rules with too many atoms -/
def freE (ss : List ByteArray) : Int := if 12 < (frS ss).length then 12 else 0
set_option maxRecDepth 100000 in
theorem freeFault_calls (b : Nat) (A : Option Addr) (n c : Nat) (ss : List ByteArray) (w : World) (hr : Rd w b 1 (.slice A n c) n (strsV ss)) (hok : ∀ s ∈ ss, s.size ≤ 90000 ∧ (parseE numF s).2 = 0) (hn : n ≤ 10) (hb : b < w.heap.size) :
    Calls Tryz.prog 47 #[.slice A n c] w (BRet (.int .i64 (freE ss)) w) := by
  have HC := Lib.hid (free_calls b A n c ss w hr hok hn hb)
  unfold DelSt at HC
  have HE : Hid (freE ss = if 12 < (frS ss).length then 12 else 0) := Lib.hid rfl
  clear hr hok
  go_enter Tryz.func47, Tryz.ntmps47
  go_wp2_with fail
  refine HC.out.mono ?_
  rintro e w2 ⟨A2, m, c2, rfl, hm, _, hb2⟩
  by_cases h : 12 < m
  · have HR : Hid (freE ss = 12) := Lib.hid (by rw [HE.out, if_pos (by omega)])
    clear hm
    go_wp2_with fail
    go_ret
    exact ⟨ret_int HR.out.symm, hb2⟩
  · have HR : Hid (freE ss = 0) := Lib.hid (by rw [HE.out, if_neg (by omega)])
    clear hm
    go_wp2_with fail
    go_ret
    exact ⟨ret_int HR.out.symm, hb2⟩
end Go.Proofs.YtfhdknppldobiaaGreatDoor
