/-
  How numbers of rules are read: base.Number and the reference's Number as one function.
-/
import Derived.Test.YtfhdknppldobiaaGreatDoorZTxt1
import Derived.Test.YtfhdknppldobiaaGreatDoorZClk
import Derived.Test.YtfhdknppldobiaaGreatDoorZTidPure
import Derived.Test.YtfhdknppldobiaaGreatDoorZHfq
import Derived.Test.YtfhdknppldobiaaGreatDoorZHld1
import Derived.Deep.RegionHeld3
import Derived.Deep.DeepCutAuto
namespace Go.Proofs.YtfhdknppldobiaaGreatDoor
open Go Go.RowKit TxtP

def numF (x : ByteArray) : Int × Bool := (if numB x.data.toList 9 = true then numI x.data.toList else 0, numB x.data.toList 9)
theorem numF_c : NumC numF := fun x W hx => number_calls x 9 (by decide) W (by unfold maxLen; omega)
theorem numF_qc : NumQC numF := fun x W hx ht => (numberQ_calls x 9 (by decide) W (by unfold maxLen; omega) ht).mono (fun e w' ⟨v, he, hv, hb⟩ => by
  obtain ⟨z, _, _, rfl, hz⟩ := hv
  exact ⟨z, he, fun h => by
    have h : numB x.data.toList 9 = true := h
    show z = if numB x.data.toList 9 = true then numI x.data.toList else 0
    rw [if_pos h]
    exact hz h, hb⟩)
theorem numF_body {x : ByteArray} (h : (numF x).2 = true) : body x.data.toList ≠ [] ∧ (body x.data.toList).length ≤ 9 ∧ (body x.data.toList).all isDig = true := by
  have h : numB x.data.toList 9 = true := h
  obtain ⟨a, b, c, _⟩ := numB_iff.1 h
  exact ⟨a, b, c⟩
theorem numF_ok : NumOk numF := by
  intro x h
  obtain ⟨a, b, c⟩ := numF_body h
  refine ⟨fun e => ?_, fun e => ?_, fun e => ?_⟩
  · rw [ba_nil e] at a; exact a rfl
  · rw [e] at c; exact absurd c (by decide)
  · rw [e] at c; exact absurd c (by decide)
theorem numF_z : NumZ numF := by
  intro x h
  obtain ⟨a, b, c⟩ := numF_body h
  have := (body_len x.data.toList).2
  have e : x.data.toList.length = x.size := by simp
  omega
end Go.Proofs.YtfhdknppldobiaaGreatDoor
/-
  What splitref2.holds answers of an atom's text, in plain words, and that it is what the program answers of the atom. No Go text is named here.
-/
namespace Go.Proofs.YtfhdknppldobiaaGreatDoor
open Go Go.RowKit TxtP

def isH (tm : Int) (fs : List Pr) (l : ByteArray) : Bool :=
  if l = sTrue then true else
  match pcs 32 l with
  | [_, b] => fs.any (fun y => decide (y.1 = b))
  | [a, b, c] => if a = sTime then (if b = sLt then decide (tm ≠ 0) && decide (tm < numI c.data.toList) else decide (numI c.data.toList < tm)) else fs.any (fun y => decide (y.1 = a) && decide (y.2 = c))
  | _ => false
theorem numF_noBl {x : ByteArray} (h : (numF x).2 = true) : (32 : UInt8) ∉ x.data.toList := by
  obtain ⟨_, _, c⟩ := numF_body h
  intro hm
  cases hl : x.data.toList with
  | nil => rw [hl] at hm; cases hm
  | cons b r =>
    rw [hl] at hm c
    have e : body (b :: r) = if b = 45 then r else b :: r := rfl
    rw [e] at c
    by_cases hb : b = 45
    · rw [if_pos hb] at c
      rcases List.mem_cons.1 hm with e | e
      · subst e; exact absurd hb (by decide)
      · exact absurd (List.all_eq_true.1 c 32 e) (by decide)
    · rw [if_neg hb] at c
      exact absurd (List.all_eq_true.1 c 32 hm) (by decide)
theorem num_val {x : ByteArray} (h : (numF x).2 = true) : (numF x).1 = numI x.data.toList := by
  have h : numB x.data.toList 9 = true := h
  show (if numB x.data.toList 9 = true then numI x.data.toList else 0) = _
  rw [if_pos h]
theorem has_ne (x : ByteArray) : hasQ x ≠ sTrue := fun e => by
  have e := congrArg (fun z : ByteArray => z.data.toList.head?) e
  unfold hasQ at e
  simp only [data_app] at e
  exact absurd (show some (104 : UInt8) = some 116 from e) (by decide)
theorem tri_ne (a b c : ByteArray) : triQ a b c ≠ sTrue := fun e => by
  have h : (32 : UInt8) ∈ (triQ a b c).data.toList := by
    unfold triQ
    rw [data_app, data_app, data_app, data_app]
    have : (32 : UInt8) ∈ sBl.data.toList := by decide
    simp [this]
  rw [e] at h
  exact absurd h (by decide)
/-- the answer at each kind of atom -/
theorem isH_true (tm : Int) (fs : List Pr) : isH tm fs sTrue = true := by unfold isH; rw [if_pos rfl]
theorem isH_has (tm : Int) (fs : List Pr) {x : ByteArray} (h : (32 : UInt8) ∉ x.data.toList) : isH tm fs (hasQ x) = fs.any (fun y => decide (y.1 = x)) := by
  unfold isH
  rw [if_neg (has_ne x), pcs_has h]
theorem isH_eq (tm : Int) (fs : List Pr) {a c : ByteArray} (ha : (32 : UInt8) ∉ a.data.toList) (hc : (32 : UInt8) ∉ c.data.toList) (hn : a ≠ sTime) : isH tm fs (triQ a sEq c) = fs.any (fun y => decide (y.1 = a) && decide (y.2 = c)) := by
  unfold isH
  rw [if_neg (tri_ne _ _ _), pcs_tri ha (by decide) hc]
  show (if a = sTime then _ else _) = _
  rw [if_neg hn]
theorem isH_time (tm : Int) (fs : List Pr) {b c : ByteArray} (hb : (32 : UInt8) ∉ b.data.toList) (hc : (32 : UInt8) ∉ c.data.toList) : isH tm fs (triQ sTime b c) = if b = sLt then decide (tm ≠ 0) && decide (tm < numI c.data.toList) else decide (numI c.data.toList < tm) := by
  unfold isH
  rw [if_neg (tri_ne _ _ _), pcs_tri (by decide) hb hc]
  show (if sTime = sTime then _ else _) = _
  rw [if_pos rfl]
theorem isH_atP {tm : Int} {fs : List Pr} {a : Atm} (h : AtmOk numF a) (hf : fldG ⟨#[]⟩ fs = 0) : isH tm fs (txtA a) = atP tm fs a := by
  obtain ⟨wd, nm, vl, n⟩ := a
  unfold txtA atP
  rcases h with ⟨h, _⟩ | ⟨h, h1, _⟩ | ⟨h, h1, h2⟩ | ⟨h, _, h1, h2, _⟩ <;> simp only at *
  · rw [if_pos h, if_pos h, isH_true]
  · subst h
    rw [if_neg (by decide), if_pos rfl, if_neg (by decide), if_pos rfl, isH_has _ _ (name_noBl h1), fieldH_any]
  · subst h
    rw [if_neg (by decide), if_neg (by decide), if_pos rfl, if_neg (by decide), if_neg (by decide), if_pos rfl, isH_eq _ _ (name_noBl h1) (value_noBl h2) (name_ne h1).1]
    have := field_mem nm vl fs ⟨#[]⟩ hf
    have hmem : (fs.any (fun y => decide (y.1 = nm) && decide (y.2 = vl)) = true) ↔ (nm, vl) ∈ fs := by
      rw [List.any_eq_true]
      constructor
      · rintro ⟨y, hy, h⟩
        rw [Bool.and_eq_true, decide_eq_true_eq, decide_eq_true_eq] at h
        rw [← h.1, ← h.2]
        exact hy
      · exact fun h => ⟨_, h, by simp⟩
    rw [← hmem] at this
    cases hb : (fieldH nm fs && decide (fieldV nm fs = vl)) <;> cases hc : fs.any (fun y => decide (y.1 = nm) && decide (y.2 = vl)) <;> simp_all
  · rw [num_val h1] at h2
    rcases h with rfl | rfl
    · rw [if_neg (by decide), if_neg (by decide), if_neg (by decide), if_neg (by decide), if_neg (by decide), if_neg (by decide), if_pos rfl, isH_time _ _ (by decide) (numF_noBl h1), if_pos rfl, h2]
    · rw [if_neg (by decide), if_neg (by decide), if_neg (by decide), if_neg (by decide), if_neg (by decide), if_neg (by decide), if_neg (by decide), isH_time _ _ (by decide) (numF_noBl h1), if_neg (by decide), h2]
theorem runF_fld0 {x : Rn} (h : runF x = 0) : fldG ⟨#[]⟩ x.fs = 0 := by
  unfold runF at h
  split at h
  · split at h
    · cases h
    · split at h
      · cases h
      · exact h
  · cases h
end Go.Proofs.YtfhdknppldobiaaGreatDoor
/-
  The program's and the reference's answers are one, given that they agree on atoms. No walk here.
-/
namespace Go.Proofs.YtfhdknppldobiaaGreatDoor
open Go Go.RowKit

theorem hld_both {num : ByteArray → Int × Bool} (hnum : NumOk num) (hz : NumZ num) {s : ByteArray} {x : Rn} (isQ : ByteArray → Bool) (h0 : rulE num s x = 0) (hp : (parseE num s).2 = 0) (ha : ∀ a ∈ atsF (parseT num s).1, isQ (txtA a) = atP x.time x.fs a) :
    hldV num s x = truQ isQ (flat (parseT num s).1) := by
  unfold hldV
  rw [if_pos h0, tru_flat hz (atP x.time x.fs) isQ ((check_parse num hnum s).2 hp).1 ha]
theorem why_both {num : ByteArray → Int × Bool} (hnum : NumOk num) (hz : NumZ num) {s : ByteArray} {x : Rn} (isQ : ByteArray → Bool) (h0 : rulE num s x = 0) (hp : (parseE num s).2 = 0) (ha : ∀ a ∈ atsF (parseT num s).1, isQ (txtA a) = atP x.time x.fs a) :
    whyL num s x = Lib.compact (srtL (blmQ isQ true (flat (parseT num s).1))) := by
  have hok := ((check_parse num hnum s).2 hp).1
  have hb := hld_both hnum hz isQ h0 hp ha
  unfold whyL
  rw [if_pos h0]
  by_cases hh : hldV num s x = true
  · rw [if_pos hh, blmQ_nil (hb.symm.trans hh)]
    have h1 : (Lib.compact (srtL ([] : List BL))).length ≤ ([] : List BL).length := by
      have := compact_le (srtL ([] : List BL))
      rw [srtL_len] at this
      exact this
    exact (List.eq_nil_of_length_eq_zero (Nat.le_zero.1 h1)).symm
  · rw [if_neg hh]
    refine comp_one (fun y => ?_)
    rw [blm_flat hz (atP x.time x.fs) isQ hok true ha (fun e => hh (by unfold hldV; rw [if_pos h0]; exact e)) y]
end Go.Proofs.YtfhdknppldobiaaGreatDoor
/-
  slices.Contains of pairs, and splitref2.holds by contracts.
-/
namespace Go.Proofs.YtfhdknppldobiaaGreatDoor
open Go Go.RowKit TxtP
attribute [local go_sem ↓] Go.wp_at_zero Go.wp_at_succ

theorem eqS_dec (a b : ByteArray) : (a.toList == b.toList) = decide (a = b) := by
  by_cases hh : a = b
  · subst hh; simp
  · rw [decide_eq_false hh, beq_eq_false_iff_ne]
    intro e; exact hh (by rw [Lib.toList_data, Lib.toList_data] at e; exact ba_inj e)
theorem eql_pr (a b e f : ByteArray) (w : World) : (binOp .eql 86 (.agg #[.string a, .string b]) (.agg #[.string e, .string f])).run Tryz.prog w = .ok (.bool (decide (e = a) && decide (f = b))) w := by
  rw [show decide (e = a) = (a.toList == e.toList) by rw [eqS_dec]; exact decide_eq_decide.2 eq_comm, show decide (f = b) = (b.toList == f.toList) by rw [eqS_dec]; exact decide_eq_decide.2 eq_comm]
  cases h1 : (a.toList == e.toList) <;> cases h2 : (b.toList == f.toList) <;> go_simp
attribute [local go_sem ↓ high] eql_pr
set_option maxRecDepth 100000 in
theorem indexPr_calls (b : Nat) (A : Option Addr) (n c : Nat) (hs : List Pr) (x : Pr) (w : World) (hr : Rd w b 2 (.slice A n c) n (hs.flatMap prC)) :
    Calls Tryz.prog 207 #[.slice A n c, .agg #[.string x.1, .string x.2]] w (BRet (.int .i64 (ixOf (fun y : Pr => decide (y.1 = x.1) && decide (y.2 = x.2)) hs)) w) := by
  obtain ⟨hl, hnc, hcm, hcells⟩ := hr.cells prC_len (by omega)
  unfold maxLen at hcm
  obtain ⟨p, hpp⟩ : ∃ p : Pr → Bool, (fun y : Pr => decide (y.1 = x.1) && decide (y.2 = x.2)) = p := ⟨_, rfl⟩
  rw [hpp]
  have HPP : Hid (∀ y : Pr, (decide (y.1 = x.1) && decide (y.2 = x.2)) = p y) := Lib.hid (fun y => by rw [← hpp])
  have hS := (Sq.start w).add #[.string x.1, .string x.2] 86
  have HB := Lib.hid (And.intro (Blk.cell hS.head 0) (And.intro (Blk.cell hS.head 1) hS.below))
  have HL := Lib.hid hl
  have HCL := Lib.hid hcells
  obtain ⟨x1, x2⟩ := x
  simp only at HPP HB ⊢
  clear hcells hl hr hpp hS
  go_enter Tryz.func207, Tryz.ntmps207
  go_wp2_with fail
  go_loopw [8] (fun i wr => ∃ k : Nat, k ≤ n ∧ i = .int .i64 k ∧ Hid (∀ i (_ : i < k) (hi' : i < hs.length), p hs[i] = false) ∧ Below (w.alloc (.cells #[.string x1, .string x2] 86)).heap.size (w.alloc (.cells #[.string x1, .string x2] 86)) wr) (fun i _ => n - (intOf i).toNat)
  case atStart => exact ⟨0, Nat.zero_le _, rfl, (fun i hi => absurd hi (by omega)), Below.refl _ _⟩
  case round =>
    obtain ⟨k, hk, rfl, HF, hbr⟩ := hrel
    have b0 := below_cell hbr HB.out.1
    have b1 := below_cell hbr HB.out.2.1
    have hbw := below_call HB.out.2.2 hbr (Nat.le_refl _)
    by_cases hlt : k < n
    · have hkr : k < hs.length := by rw [HL.out]; exact hlt
      obtain ⟨g, o, hA, _, hcs⟩ := HCL.out (by omega)
      subst hA
      have c0 := below_cell hbw (hcs k hkr 0 (by omega))
      have c1 := below_cell hbw (hcs k hkr 1 (by omega))
      obtain ⟨s, hs'⟩ : ∃ s, hs[k] = s := ⟨_, rfl⟩
      rw [hs'] at c0 c1
      obtain ⟨s1, s2⟩ := s
      replace c0 : wr.cell? ⟨g, o + k * 2, none⟩ = some (.string s1) := c0
      replace c1 : wr.cell? ⟨g, o + k * 2 + 1, none⟩ = some (.string s2) := c1
      have HPK := HPP.out (s1, s2)
      simp only at HPK
      have hk0 : (0 : Int) ≤ (k : Int) := by omega
      have hk1 : (k : Int) < (n : Int) := by omega
      clear hcs
      cases hp : p (s1, s2)
      · rw [hp] at HPK
        have HF2 : Hid (∀ i (_ : i < k + 1) (hi' : i < hs.length), p hs[i] = false) := by
          intro i hi hi'
          by_cases hik : i = k
          · subst hik; rw [hs']; exact hp
          · exact HF.out i (by omega) hi'
        clear hp hs'
        go_wp2_with fail
        go_quiet (fail)
        all_goals
          go_wp2_with fail
          go_roundw
          case rel => exact ⟨k + 1, by omega, by go_num, HF2, below_drewN hbr _⟩
          case measure => simp [intOf]; omega
      · rw [hp] at HPK
        have HR : Hid (ixOf p hs = k) := ixOf_at _ hs k hkr (fun i hi => HF.out i hi (by omega)) (by rw [hs']; exact hp)
        clear hp hs'
        go_wp2_with fail
        go_quiet (fail)
        all_goals
          go_wp2_with fail
          go_ret
          exact ⟨ret_int HR.out.symm, below_drewN hbw _⟩
    · obtain rfl : k = n := by omega
      have HR : Hid (ixOf p hs = -1) := ixOf_no _ hs (fun i hi => HF.out i (by rw [← HL.out]; exact hi) hi)
      go_wp2_with fail
      go_ret
      exact ⟨ret_int HR.out.symm, hbw⟩
set_option maxRecDepth 100000 in
theorem containsPr_calls (b : Nat) (A : Option Addr) (n c : Nat) (hs : List Pr) (x : Pr) (w : World) (hr : Rd w b 2 (.slice A n c) n (hs.flatMap prC)) :
    Calls Tryz.prog 163 #[.slice A n c, .agg #[.string x.1, .string x.2]] w (BRet (.bool (hs.any (fun y : Pr => decide (y.1 = x.1) && decide (y.2 = x.2)))) w) := by
  have HM := Lib.hid (ixOf_mem (fun y : Pr => decide (y.1 = x.1) && decide (y.2 = x.2)) hs)
  have hS := (Sq.start w).add #[.string x.1, .string x.2] 86
  have HB := Lib.hid hS.below
  have HC := Lib.hid (indexPr_calls b A n c hs x _ (hr.below hS.below))
  clear hS hr
  obtain ⟨x1, x2⟩ := x
  simp only at HB HC HM ⊢
  obtain ⟨q, hq⟩ : ∃ q : Int, ixOf (fun y : Pr => decide (y.1 = x1) && decide (y.2 = x2)) hs = q := ⟨_, rfl⟩
  rw [hq] at HC HM
  clear hq
  go_enter Tryz.func163, Tryz.ntmps163
  go_wp2_with fail
  refine HC.out.mono ?_
  rintro e w1 ⟨rfl, hb1⟩
  go_wp2_with fail
  go_ret
  exact ⟨ret_bool HM.out, below_call HB.out hb1 (Nat.le_refl _)⟩
end Go.Proofs.YtfhdknppldobiaaGreatDoor
