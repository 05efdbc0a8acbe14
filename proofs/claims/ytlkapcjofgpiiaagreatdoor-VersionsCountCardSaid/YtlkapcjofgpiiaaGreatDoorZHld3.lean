/-
  rule.ruled, rule.Holds, rule.Why by contracts.
-/
import Derived.Test.YtlkapcjofgpiiaaGreatDoorZHld1
import Derived.Test.YtlkapcjofgpiiaaGreatDoorZRun1
import Derived.Test.YtlkapcjofgpiiaaGreatDoorZSrt
import Derived.Test.YtlkapcjofgpiiaaGreatDoorZPsd
import Derived.Test.YtlkapcjofgpiiaaGreatDoorZTidPure
import Derived.Test.YtlkapcjofgpiiaaGreatDoorZTxt1
import Derived.Test.YtlkapcjofgpiiaaGreatDoorZRule6
import Derived.Test.YtlkapcjofgpiiaaGreatDoorZSlotPure
import Derived.Test.YtlkapcjofgpiiaaGreatDoorZClk
import Derived.Deep.RegionHeld3
import Derived.Deep.DeepCutAuto
namespace Go.Proofs.YtlkapcjofgpiiaaGreatDoor
open Go Go.RowKit
attribute [local go_sem ↓] Go.wp_at_zero Go.wp_at_succ

def rulE (num : ByteArray → Int × Bool) (s : ByteArray) (x : Rn) : Int := if (parseE num s).2 = 0 then runF x else (parseE num s).2
/-- a run as a block -/
def RunB (w : World) (b g : Nat) (x : Rn) : Prop := Blk w g 36 (rnC x).toArray ∧ RnW w b x
theorem RunB.below {w W : World} {b g : Nat} {x : Rn} (h : RunB w b g x) (hb : Below w.heap.size w W) : RunB W b g x := ⟨h.1.below hb, h.2.below hb⟩
def hldV (num : ByteArray → Int × Bool) (s : ByteArray) (x : Rn) : Bool := if rulE num s x = 0 then holF (atP x.time x.fs) (parseT num s).1 else false
end Go.Proofs.YtlkapcjofgpiiaaGreatDoor
/-
  The closures of HoldsFor and WhyOf, given what splitref2.holds answers; HoldsFor and WhyOf by contracts.
-/
namespace Go.Proofs.YtlkapcjofgpiiaaGreatDoor
open Go Go.RowKit
attribute [local go_sem ↓] Go.wp_at_zero Go.wp_at_succ

/-- what splitref2.holds answers for an atom's text -/
def HdqH (G : ByteArray → Prop) (isQ : ByteArray → Bool) (b : Nat) (x : Rn) (w0 : World) : Prop := ∀ l W, G l → Below w0.heap.size w0 W → RnW W b x →
  Calls Tryz.prog 94 #[.string l, .agg #[.string x.id, .string x.who, .int .i64 x.time, .int .i64 x.date, .slice x.fa x.fs.length x.fc]] W (BRet (.bool (isQ l)) W)
theorem hfh1_calls (G : ByteArray → Prop) (isQ : ByteArray → Bool) (b g : Nat) (x : Rn) (w0 : World) (hx : RunB w0 b g x) (hh : HdqH G isQ b x w0) : IsQ G isQ 93 g w0 := by
  intro l W hl hW
  have hX := hx.below hW
  have c0 : W.cell? ⟨g, 0, none⟩ = some (.string x.id) := hX.1.cell 0
  have c1 : W.cell? ⟨g, 1, none⟩ = some (.string x.who) := hX.1.cell 1
  have c2 : W.cell? ⟨g, 2, none⟩ = some (.int .i64 x.time) := hX.1.cell 2
  have c3 : W.cell? ⟨g, 3, none⟩ = some (.int .i64 x.date) := hX.1.cell 3
  have c4 : W.cell? ⟨g, 4, none⟩ = some (.slice x.fa x.fs.length x.fc) := hX.1.cell 4
  have HC := Lib.hid (hh l W hl hW hX.2)
  obtain ⟨fl, hfl⟩ : ∃ z, x.fs.length = z := ⟨_, rfl⟩
  rw [hfl] at HC c4
  obtain ⟨v9, hv9⟩ : ∃ z, isQ l = z := ⟨_, rfl⟩
  rw [hv9] at HC ⊢
  obtain ⟨xid, xwho, xt, xd, xfa, xfc, xfs⟩ := x
  simp only at HC c0 c1 c2 c3 c4
  clear hX hx hh hl hW hfl hv9
  go_enter Tryz.func93, Tryz.ntmps93
  go_wp2_with fail
  refine HC.out.mono ?_
  rintro e w2 ⟨rfl, hb2⟩
  go_wp2_with fail
  go_ret
  exact ⟨rfl, hb2⟩
set_option maxRecDepth 100000 in
set_option maxHeartbeats 1000000 in
theorem holdsFor_calls (num : ByteArray → Int × Bool) (hnum : NumOk num) (s : ByteArray) (b : Nat) (x : Rn) (w : World) (hs : s.size ≤ 90000) (h0 : (parseE num s).2 = 0) (hx : RnW w b x) (isQ : ByteArray → Bool)
    (hH : ∀ w0, Below w.heap.size w w0 → HdqH (fun l => ∃ a ∈ atsF (parseT num s).1, txtA a = l) isQ b x w0) :
    Calls Tryz.prog 66 #[.string s, .agg #[.string x.id, .string x.who, .int .i64 x.time, .int .i64 x.date, .slice x.fa x.fs.length x.fc]] w (BRet (.bool (truQ isQ (flat (parseT num s).1))) w) := by
  obtain ⟨hok, hcn, l', hor⟩ := (check_parse num hnum s).2 h0
  have hc := cnt_flat hok
  have hS := (Sq.start w).add (rnC x).toArray 36
  have hX1 : RunB (w.alloc (.cells (rnC x).toArray 36)) b w.heap.size x := ⟨hS.head, hx.below hS.below⟩
  have hbw := Lib.hid hS.below
  have HP := Lib.hid (parsed_calls s (flat (parseT num s).1) l' (s.size + 1) (w.alloc (.cells (rnC x).toArray 36)) hs hor)
  have HT : Hid (∀ (w2 : World) (A : Option Addr) (c : Nat) (P : Nat → Prop), Below (w.alloc (.cells (rnC x).toArray 36)).heap.size (w.alloc (.cells (rnC x).toArray 36)) w2 → NqV w2 P (A, c) (flat (parseT num s).1) → (∀ k, P k → k < w2.heap.size) →
      Calls Tryz.prog 92 #[.agg #[.string (flat (parseT num s).1).op, .string (flat (parseT num s).1).atom, .slice A (flat (parseT num s).1).kids.length c], .func (.func 93) #[] #[.pointer (some ⟨w.heap.size, 0, none⟩)]] w2 (BRet (.bool (truQ isQ (flat (parseT num s).1))) w2)) :=
    Lib.hid (fun w2 A c P hb hN hP => tru_calls isQ (flat_all hok) (by omega) w2 _ w.heap.size A c P hN hP (hfh1_calls _ isQ b _ x w2 (hX1.below hb) (hH w2 (below_call hS.below hb (Nat.le_refl _)))) FidT.hold)
  obtain ⟨u, hu⟩ : ∃ u, flat (parseT num s).1 = u := ⟨_, rfl⟩
  rw [hu] at HP HT ⊢
  unfold PsdS at HP
  obtain ⟨v9, hv9⟩ : ∃ z, truQ isQ u = z := ⟨_, rfl⟩
  rw [hv9] at HT ⊢
  obtain ⟨fl, hfl⟩ : ∃ z, x.fs.length = z := ⟨_, rfl⟩
  have hrn : (rnC x).toArray = #[.string x.id, .string x.who, .int .i64 x.time, .int .i64 x.date, .slice x.fa fl x.fc] := by rw [← hfl]; rfl
  rw [hrn] at HP HT hbw
  rw [hfl]
  clear hX1 hS hx hrn hfl hor hok hcn hc h0 hu hH hv9
  go_enter Tryz.func66, Tryz.ntmps66
  go_wp2_with fail
  refine HP.out.mono ?_
  rintro e w2 ⟨A, c, P, rfl, hN, hP, hb2⟩
  have HC := Lib.hid (HT.out w2 A c P hb2 hN (fun k hk => (hP k hk).2))
  have HB := Lib.hid (below_call hbw.out hb2 (Nat.le_refl _))
  clear hN hP hb2 HT
  go_wp2_with fail
  refine HC.out.mono ?_
  rintro e w3 ⟨rfl, hb3⟩
  go_wp2_with fail
  go_ret
  exact ⟨rfl, below_call HB.out hb3 (Nat.le_refl _)⟩
end Go.Proofs.YtlkapcjofgpiiaaGreatDoor
/-
  The words of an atom's text, in plain words. No Go text is named here.
-/
namespace Go.Proofs.YtlkapcjofgpiiaaGreatDoor
open Go Go.RowKit TxtP

theorem pcs_of {c : UInt8} {s : ByteArray} {l : List ByteArray} (h : spl c s.data.toList = l.map (·.data.toList)) : pcs c s = l := by
  have h2 := pcs_data c s
  rw [h] at h2
  exact (List.map_inj_right (fun a b h => ba_inj h)).1 h2
theorem data_app (a b : ByteArray) : (a ++ b).data.toList = a.data.toList ++ b.data.toList := by
  rw [ByteArray.data_append, Array.toList_append]
theorem pcs_has {x : ByteArray} (h : (32 : UInt8) ∉ x.data.toList) : pcs 32 (hasQ x) = [sHas, x] := by
  refine pcs_of ?_
  have e : (hasQ x).data.toList = [104, 97, 115] ++ 32 :: x.data.toList := by unfold hasQ; rw [data_app]; rfl
  rw [e, spl_app _ (by decide), spl_no h]
  rfl
theorem pcs_tri {a b c : ByteArray} (ha : (32 : UInt8) ∉ a.data.toList) (hb : (32 : UInt8) ∉ b.data.toList) (hc : (32 : UInt8) ∉ c.data.toList) : pcs 32 (triQ a b c) = [a, b, c] := by
  refine pcs_of ?_
  have e : (triQ a b c).data.toList = a.data.toList ++ 32 :: (b.data.toList ++ 32 :: c.data.toList) := by
    unfold triQ
    rw [data_app, data_app, data_app, data_app]
    show ((a.data.toList ++ [32]) ++ b.data.toList ++ [32]) ++ c.data.toList = _
    simp
  rw [e, spl_app _ ha, spl_app _ hb, spl_no hc]
  rfl
theorem pcs_true : pcs 32 sTrue = [sTrue] := pcs_of (by show spl 32 [116, 114, 117, 101] = _; rw [spl_no (by decide)]; rfl)
theorem word_noBl {l : List UInt8} (h : l.all wordB = true) : (32 : UInt8) ∉ l := fun hm => by
  have := List.all_eq_true.1 h 32 hm
  exact absurd this (by decide)
theorem value_noBl {x : ByteArray} (h : valueB x = true) : (32 : UInt8) ∉ x.data.toList := by
  unfold valueB at h
  rw [Bool.and_eq_true] at h
  exact word_noBl h.2
theorem name_noBl {x : ByteArray} (h : nameB x = true) : (32 : UInt8) ∉ x.data.toList := by
  unfold nameB at h
  rw [Bool.and_eq_true] at h
  have h1 := h.1
  unfold keyB at h1
  rw [Bool.and_eq_true] at h1
  intro hm
  have := List.all_eq_true.1 h1.2 32 hm
  exact absurd this (by decide)
theorem name_ne {x : ByteArray} (h : nameB x = true) : x ≠ sTime ∧ x ≠ sHas ∧ x ≠ sTrue := by
  unfold nameB at h
  rw [Bool.and_eq_true] at h
  have h2 := h.2
  refine ⟨fun e => ?_, fun e => ?_, fun e => ?_⟩ <;> (subst e; simp at h2)
theorem fieldH_any (f : ByteArray) : ∀ ps : List Pr, fieldH f ps = ps.any fun p => decide (p.1 = f)
  | [] => rfl
  | p :: ps => by
    rw [fieldH, List.any_cons, fieldH_any f ps]
    by_cases h : p.1 = f
    · rw [if_pos h]; simp [h]
    · rw [if_neg h]; simp [h]
/-- in a right run each name comes once -/
theorem field_mem (f v : ByteArray) : ∀ (ps : List Pr) (last : ByteArray), fldG last ps = 0 → ((fieldH f ps && decide (fieldV f ps = v)) = true ↔ (f, v) ∈ ps)
  | [], _, _ => by simp [fieldH]
  | p :: ps, last, h => by
    have hg := fldG_gt (p :: ps) last h
    rw [fldG] at h
    split at h
    · cases h
    · split at h
      · cases h
      · split at h
        · cases h
        · have ih := field_mem f v ps p.1 h
          have hn : ∀ q ∈ ps, q.1 ≠ p.1 := fun q hq e => by
            have h1 := fldG_gt ps p.1 h q hq
            rw [e] at h1
            unfold gtS at h1
            rw [leS_self] at h1
            cases h1
          rw [fieldH, fieldV]
          by_cases he : p.1 = f
          · rw [if_pos he, if_pos he, Bool.true_and, decide_eq_true_eq]
            constructor
            · intro hv
              rw [← he, ← hv]
              exact List.mem_cons_self ..
            · intro hm
              rcases List.mem_cons.1 hm with hm | hm
              · rw [← hm]
              · exact absurd he.symm (hn _ hm)
          · rw [if_neg he, if_neg he, ih]
            constructor
            · exact fun hm => List.mem_cons_of_mem _ hm
            · intro hm
              rcases List.mem_cons.1 hm with hm | hm
              · exact absurd (by rw [← hm]) he
              · exact hm
end Go.Proofs.YtlkapcjofgpiiaaGreatDoor
/-
  splitref2.holds by contract: its closure.
-/
namespace Go.Proofs.YtlkapcjofgpiiaaGreatDoor
open Go Go.RowKit
attribute [local go_sem ↓] Go.wp_at_zero Go.wp_at_succ

set_option maxRecDepth 100000 in
theorem hdq1_calls (bx gw : Nat) (c : Nat) (nm p1 p2 : ByteArray) (W : World) (h0 : W.cell? ⟨bx, 0, none⟩ = some (.slice (some ⟨gw, 0, none⟩) 2 c)) (h1 : W.cell? ⟨gw, 1, none⟩ = some (.string nm)) :
    Calls Tryz.prog 115 #[.agg #[.string p1, .string p2], .pointer (some ⟨bx, 0, none⟩)] W (BRet (.bool (decide (p1 = nm))) W) := by
  have hS := (Sq.start W).add #[.string p1, .string p2] 99
  have b0 : (W.alloc (.cells #[.string p1, .string p2] 99)).cell? ⟨W.heap.size, 0, none⟩ = some (.string p1) := Blk.cell hS.head 0
  have d0 := below_cell hS.below h0
  have d1 := below_cell hS.below h1
  have HB := Lib.hid hS.below
  obtain ⟨q, hq⟩ : ∃ z : Bool, (p1.toList == nm.toList) = z := ⟨_, rfl⟩
  have HQ : Hid (decide (p1 = nm) = q) := Lib.hid (by
    rw [← hq]
    by_cases hh : p1 = nm
    · subst hh; simp
    · rw [decide_eq_false hh, eq_comm, beq_eq_false_iff_ne]
      intro e; exact hh (by rw [Lib.toList_data, Lib.toList_data] at e; exact ba_inj e))
  rw [HQ.out]
  clear hS h0 h1
  go_enter Tryz.func115, Tryz.ntmps115
  go_wp2_with fail
  go_quiet (fail)
  all_goals
    go_wp2_with fail
    go_ret
    exact ⟨rfl, below_drewN HB.out _⟩
set_option maxRecDepth 100000 in
theorem contPr_calls (b bx gw c : Nat) (nm : ByteArray) (A2 : Option Addr) (m c2 : Nat) (hs : List Pr) (w : World) (g0 : w.cell? ⟨bx, 0, none⟩ = some (.slice (some ⟨gw, 0, none⟩) 2 c)) (g1 : w.cell? ⟨gw, 1, none⟩ = some (.string nm)) (hr2 : Rd w b 2 (.slice A2 m c2) m (hs.flatMap prC)) :
    Calls Tryz.prog 114 #[.slice A2 m c2, .func (.func 115) #[] #[.pointer (some ⟨bx, 0, none⟩)]] w (BRet (.bool (hs.any (fun y => decide (y.1 = nm)))) w) := by
  obtain ⟨hl, hnc, hcm, hcells⟩ := hr2.cells prC_len (by omega)
  unfold maxLen at hcm
  obtain ⟨p, hpp⟩ : ∃ p : Pr → Bool, (fun y : Pr => decide (y.1 = nm)) = p := ⟨_, rfl⟩
  have HCC : Hid (∀ W x, Below w.heap.size w W → Calls Tryz.prog 115 #[.agg #[.string x.1, .string x.2], .pointer (some ⟨bx, 0, none⟩)] W (BRet (.bool (p x)) W)) := fun W x hW => by
    rw [← hpp]
    exact hdq1_calls bx gw c nm x.1 x.2 W (below_cell hW g0) (below_cell hW g1)
  have HL := Lib.hid hl
  have HCL := Lib.hid hcells
  rw [hpp]
  have HM := Lib.hid (ixOf_mem p hs)
  clear hcells hl hr2 g0 g1 hpp
  go_enter Tryz.func114, Tryz.ntmps114
  go_wp2
  go_loopw [8] (fun i wr => ∃ k : Nat, k ≤ m ∧ i = .int .i64 k ∧ Hid (∀ i (_ : i < k) (hi' : i < hs.length), p hs[i] = false) ∧ Below w.heap.size w wr) (fun i _ => m - (intOf i).toNat)
  case atStart => exact ⟨0, Nat.zero_le _, rfl, (fun i hi => absurd hi (by omega)), Below.refl _ _⟩
  case round =>
    obtain ⟨k, hk, rfl, HF, hbr⟩ := hrel
    by_cases hlt : k < m
    · have hkr : k < hs.length := by rw [HL.out]; exact hlt
      obtain ⟨g, o, hA, _, hcs⟩ := HCL.out (by omega)
      subst hA
      have c0 := below_cell hbr (hcs k hkr 0 (by omega))
      have c1 := below_cell hbr (hcs k hkr 1 (by omega))
      obtain ⟨s, hs'⟩ : ∃ s, hs[k] = s := ⟨_, rfl⟩
      rw [hs'] at c0 c1
      replace c0 : wr.cell? ⟨g, o + k * 2, none⟩ = some (.string s.1) := c0
      replace c1 : wr.cell? ⟨g, o + k * 2 + 1, none⟩ = some (.string s.2) := c1
      have HK := Lib.hid (HCC.out wr s hbr)
      clear hcs
      cases hp : p s
      · rw [hp] at HK
        have HF2 : Hid (∀ i (_ : i < k + 1) (hi' : i < hs.length), p hs[i] = false) := by
          intro i hi hi'
          by_cases hik : i = k
          · subst hik; rw [hs']; exact hp
          · exact HF.out i (by omega) hi'
        clear hp hs'
        go_wp2_with (go_at_call 115; refine HK.out.mono ?_; rintro e w2 ⟨rfl, hb2⟩)
        have hb3 := below_call hbr hb2 (Nat.le_refl _)
        go_roundw
        case rel => exact ⟨k + 1, by omega, by go_num, HF2, hb3⟩
        case measure => simp [intOf]; omega
      · rw [hp] at HK
        have HR : Hid (ixOf p hs = k) := ixOf_at _ hs k hkr (fun i hi => HF.out i hi (by omega)) (by rw [hs']; exact hp)
        have HA : Hid (hs.any p = true) := by
          have := HM.out
          rw [HR.out] at this
          rw [← this]
          exact Lib.hid (decide_eq_true (by omega))
        clear hp hs'
        go_wp2_with (go_at_call 115; refine HK.out.mono ?_; rintro e w2 ⟨rfl, hb2⟩)
        have hb3 := below_call hbr hb2 (Nat.le_refl _)
        go_ret
        exact ⟨ret_bool HA.out.symm, hb3⟩
    · obtain rfl : k = m := by omega
      have HR : Hid (ixOf p hs = -1) := ixOf_no _ hs (fun i hi => HF.out i (by rw [← HL.out]; exact hi) hi)
      have HA : Hid (hs.any p = false) := by
        have := HM.out
        rw [HR.out] at this
        rw [← this]
        exact Lib.hid rfl
      go_wp2
      go_ret
      exact ⟨ret_bool HA.out.symm, hbr⟩
end Go.Proofs.YtlkapcjofgpiiaaGreatDoor
/-
  How numbers of rules are read: base.Number and the reference's Number as one function.
-/
namespace Go.Proofs.YtlkapcjofgpiiaaGreatDoor
open Go Go.RowKit TxtP

def numF (x : ByteArray) : Int × Bool := (if numB x.data.toList 9 = true then numI x.data.toList else 0, numB x.data.toList 9)
theorem numF_c : NumC numF := fun x W hx => number_calls x 9 (by decide) W (by unfold maxLen; omega)
theorem numF_qc : NumQC numF := fun x W hx ht => (numberQ_calls x 9 (by decide) W (by unfold maxLen; omega) ht).mono (fun e w' ⟨v, he, hv, hb⟩ => by
  obtain ⟨z, _, _, rfl, hz⟩ := hv
  exact ⟨z, he, fun h => by
    have h : numB x.data.toList 9 = true := h
    show z = if numB x.data.toList 9 = true then numI x.data.toList else 0
    rw [if_pos h]
    exact hz h, hb⟩)
theorem numF_body {x : ByteArray} (h : (numF x).2 = true) : body x.data.toList ≠ [] ∧ (body x.data.toList).length ≤ 9 ∧ (body x.data.toList).all isDig = true := by
  have h : numB x.data.toList 9 = true := h
  obtain ⟨a, b, c, _⟩ := numB_iff.1 h
  exact ⟨a, b, c⟩
theorem numF_ok : NumOk numF := by
  intro x h
  obtain ⟨a, b, c⟩ := numF_body h
  refine ⟨fun e => ?_, fun e => ?_, fun e => ?_⟩
  · rw [ba_nil e] at a; exact a rfl
  · rw [e] at c; exact absurd c (by decide)
  · rw [e] at c; exact absurd c (by decide)
theorem numF_z : NumZ numF := by
  intro x h
  obtain ⟨a, b, c⟩ := numF_body h
  have := (body_len x.data.toList).2
  have e : x.data.toList.length = x.size := by simp
  omega
end Go.Proofs.YtlkapcjofgpiiaaGreatDoor
/-
  What splitref2.holds answers of an atom's text, in plain words, and that it is what the program answers of the atom. No Go text is named here.
-/
namespace Go.Proofs.YtlkapcjofgpiiaaGreatDoor
open Go Go.RowKit TxtP

def isH (tm : Int) (fs : List Pr) (l : ByteArray) : Bool :=
  if l = sTrue then true else
  match pcs 32 l with
  | [_, b] => fs.any (fun y => decide (y.1 = b))
  | [a, b, c] => if a = sTime then (if b = sLt then decide (tm ≠ 0) && decide (tm < numI c.data.toList) else decide (numI c.data.toList < tm)) else fs.any (fun y => decide (y.1 = a) && decide (y.2 = c))
  | _ => false
theorem numF_noBl {x : ByteArray} (h : (numF x).2 = true) : (32 : UInt8) ∉ x.data.toList := by
  obtain ⟨_, _, c⟩ := numF_body h
  intro hm
  cases hl : x.data.toList with
  | nil => rw [hl] at hm; cases hm
  | cons b r =>
    rw [hl] at hm c
    have e : body (b :: r) = if b = 45 then r else b :: r := rfl
    rw [e] at c
    by_cases hb : b = 45
    · rw [if_pos hb] at c
      rcases List.mem_cons.1 hm with e | e
      · subst e; exact absurd hb (by decide)
      · exact absurd (List.all_eq_true.1 c 32 e) (by decide)
    · rw [if_neg hb] at c
      exact absurd (List.all_eq_true.1 c 32 hm) (by decide)
theorem num_val {x : ByteArray} (h : (numF x).2 = true) : (numF x).1 = numI x.data.toList := by
  have h : numB x.data.toList 9 = true := h
  show (if numB x.data.toList 9 = true then numI x.data.toList else 0) = _
  rw [if_pos h]
theorem has_ne (x : ByteArray) : hasQ x ≠ sTrue := fun e => by
  have e := congrArg (fun z : ByteArray => z.data.toList.head?) e
  unfold hasQ at e
  simp only [data_app] at e
  exact absurd (show some (104 : UInt8) = some 116 from e) (by decide)
theorem tri_ne (a b c : ByteArray) : triQ a b c ≠ sTrue := fun e => by
  have h : (32 : UInt8) ∈ (triQ a b c).data.toList := by
    unfold triQ
    rw [data_app, data_app, data_app, data_app]
    have : (32 : UInt8) ∈ sBl.data.toList := by decide
    simp [this]
  rw [e] at h
  exact absurd h (by decide)
/-- the answer at each kind of atom -/
theorem isH_true (tm : Int) (fs : List Pr) : isH tm fs sTrue = true := by unfold isH; rw [if_pos rfl]
theorem isH_has (tm : Int) (fs : List Pr) {x : ByteArray} (h : (32 : UInt8) ∉ x.data.toList) : isH tm fs (hasQ x) = fs.any (fun y => decide (y.1 = x)) := by
  unfold isH
  rw [if_neg (has_ne x), pcs_has h]
theorem isH_eq (tm : Int) (fs : List Pr) {a c : ByteArray} (ha : (32 : UInt8) ∉ a.data.toList) (hc : (32 : UInt8) ∉ c.data.toList) (hn : a ≠ sTime) : isH tm fs (triQ a sEq c) = fs.any (fun y => decide (y.1 = a) && decide (y.2 = c)) := by
  unfold isH
  rw [if_neg (tri_ne _ _ _), pcs_tri ha (by decide) hc]
  show (if a = sTime then _ else _) = _
  rw [if_neg hn]
theorem isH_time (tm : Int) (fs : List Pr) {b c : ByteArray} (hb : (32 : UInt8) ∉ b.data.toList) (hc : (32 : UInt8) ∉ c.data.toList) : isH tm fs (triQ sTime b c) = if b = sLt then decide (tm ≠ 0) && decide (tm < numI c.data.toList) else decide (numI c.data.toList < tm) := by
  unfold isH
  rw [if_neg (tri_ne _ _ _), pcs_tri (by decide) hb hc]
  show (if sTime = sTime then _ else _) = _
  rw [if_pos rfl]
theorem isH_atP {tm : Int} {fs : List Pr} {a : Atm} (h : AtmOk numF a) (hf : fldG ⟨#[]⟩ fs = 0) : isH tm fs (txtA a) = atP tm fs a := by
  obtain ⟨wd, nm, vl, n⟩ := a
  unfold txtA atP
  rcases h with ⟨h, _⟩ | ⟨h, h1, _⟩ | ⟨h, h1, h2⟩ | ⟨h, _, h1, h2, _⟩ <;> simp only at *
  · rw [if_pos h, if_pos h, isH_true]
  · subst h
    rw [if_neg (by decide), if_pos rfl, if_neg (by decide), if_pos rfl, isH_has _ _ (name_noBl h1), fieldH_any]
  · subst h
    rw [if_neg (by decide), if_neg (by decide), if_pos rfl, if_neg (by decide), if_neg (by decide), if_pos rfl, isH_eq _ _ (name_noBl h1) (value_noBl h2) (name_ne h1).1]
    have := field_mem nm vl fs ⟨#[]⟩ hf
    have hmem : (fs.any (fun y => decide (y.1 = nm) && decide (y.2 = vl)) = true) ↔ (nm, vl) ∈ fs := by
      rw [List.any_eq_true]
      constructor
      · rintro ⟨y, hy, h⟩
        rw [Bool.and_eq_true, decide_eq_true_eq, decide_eq_true_eq] at h
        rw [← h.1, ← h.2]
        exact hy
      · exact fun h => ⟨_, h, by simp⟩
    rw [← hmem] at this
    cases hb : (fieldH nm fs && decide (fieldV nm fs = vl)) <;> cases hc : fs.any (fun y => decide (y.1 = nm) && decide (y.2 = vl)) <;> simp_all
  · rw [num_val h1] at h2
    rcases h with rfl | rfl
    · rw [if_neg (by decide), if_neg (by decide), if_neg (by decide), if_neg (by decide), if_neg (by decide), if_neg (by decide), if_pos rfl, isH_time _ _ (by decide) (numF_noBl h1), if_pos rfl, h2]
    · rw [if_neg (by decide), if_neg (by decide), if_neg (by decide), if_neg (by decide), if_neg (by decide), if_neg (by decide), if_neg (by decide), isH_time _ _ (by decide) (numF_noBl h1), if_neg (by decide), h2]
theorem runF_fld0 {x : Rn} (h : runF x = 0) : fldG ⟨#[]⟩ x.fs = 0 := by
  unfold runF at h
  split at h
  · split at h
    · cases h
    · split at h
      · cases h
      · exact h
  · cases h
end Go.Proofs.YtlkapcjofgpiiaaGreatDoor
/-
  The program's and the reference's answers are one, given that they agree on atoms. No walk here.
-/
namespace Go.Proofs.YtlkapcjofgpiiaaGreatDoor
open Go Go.RowKit

theorem hld_both {num : ByteArray → Int × Bool} (hnum : NumOk num) (hz : NumZ num) {s : ByteArray} {x : Rn} (isQ : ByteArray → Bool) (h0 : rulE num s x = 0) (hp : (parseE num s).2 = 0) (ha : ∀ a ∈ atsF (parseT num s).1, isQ (txtA a) = atP x.time x.fs a) :
    hldV num s x = truQ isQ (flat (parseT num s).1) := by
  unfold hldV
  rw [if_pos h0, tru_flat hz (atP x.time x.fs) isQ ((check_parse num hnum s).2 hp).1 ha]
end Go.Proofs.YtlkapcjofgpiiaaGreatDoor
/-
  slices.Contains of pairs, and splitref2.holds by contracts.
-/
namespace Go.Proofs.YtlkapcjofgpiiaaGreatDoor
open Go Go.RowKit TxtP
attribute [local go_sem ↓] Go.wp_at_zero Go.wp_at_succ

theorem eqS_dec (a b : ByteArray) : (a.toList == b.toList) = decide (a = b) := by
  by_cases hh : a = b
  · subst hh; simp
  · rw [decide_eq_false hh, beq_eq_false_iff_ne]
    intro e; exact hh (by rw [Lib.toList_data, Lib.toList_data] at e; exact ba_inj e)
theorem eql_pr (a b e f : ByteArray) (w : World) : (binOp .eql 99 (.agg #[.string a, .string b]) (.agg #[.string e, .string f])).run Tryz.prog w = .ok (.bool (decide (e = a) && decide (f = b))) w := by
  rw [show decide (e = a) = (a.toList == e.toList) by rw [eqS_dec]; exact decide_eq_decide.2 eq_comm, show decide (f = b) = (b.toList == f.toList) by rw [eqS_dec]; exact decide_eq_decide.2 eq_comm]
  cases h1 : (a.toList == e.toList) <;> cases h2 : (b.toList == f.toList) <;> go_simp
attribute [local go_sem ↓ high] eql_pr
set_option maxRecDepth 100000 in
theorem indexPr_calls (b : Nat) (A : Option Addr) (n c : Nat) (hs : List Pr) (x : Pr) (w : World) (hr : Rd w b 2 (.slice A n c) n (hs.flatMap prC)) :
    Calls Tryz.prog 136 #[.slice A n c, .agg #[.string x.1, .string x.2]] w (BRet (.int .i64 (ixOf (fun y : Pr => decide (y.1 = x.1) && decide (y.2 = x.2)) hs)) w) := by
  obtain ⟨hl, hnc, hcm, hcells⟩ := hr.cells prC_len (by omega)
  unfold maxLen at hcm
  obtain ⟨p, hpp⟩ : ∃ p : Pr → Bool, (fun y : Pr => decide (y.1 = x.1) && decide (y.2 = x.2)) = p := ⟨_, rfl⟩
  rw [hpp]
  have HPP : Hid (∀ y : Pr, (decide (y.1 = x.1) && decide (y.2 = x.2)) = p y) := Lib.hid (fun y => by rw [← hpp])
  have hS := (Sq.start w).add #[.string x.1, .string x.2] 99
  have HB := Lib.hid (And.intro (Blk.cell hS.head 0) (And.intro (Blk.cell hS.head 1) hS.below))
  have HL := Lib.hid hl
  have HCL := Lib.hid hcells
  obtain ⟨x1, x2⟩ := x
  simp only at HPP HB ⊢
  clear hcells hl hr hpp hS
  go_enter Tryz.func136, Tryz.ntmps136
  go_wp2_with fail
  go_loopw [8] (fun i wr => ∃ k : Nat, k ≤ n ∧ i = .int .i64 k ∧ Hid (∀ i (_ : i < k) (hi' : i < hs.length), p hs[i] = false) ∧ Below (w.alloc (.cells #[.string x1, .string x2] 99)).heap.size (w.alloc (.cells #[.string x1, .string x2] 99)) wr) (fun i _ => n - (intOf i).toNat)
  case atStart => exact ⟨0, Nat.zero_le _, rfl, (fun i hi => absurd hi (by omega)), Below.refl _ _⟩
  case round =>
    obtain ⟨k, hk, rfl, HF, hbr⟩ := hrel
    have b0 := below_cell hbr HB.out.1
    have b1 := below_cell hbr HB.out.2.1
    have hbw := below_call HB.out.2.2 hbr (Nat.le_refl _)
    by_cases hlt : k < n
    · have hkr : k < hs.length := by rw [HL.out]; exact hlt
      obtain ⟨g, o, hA, _, hcs⟩ := HCL.out (by omega)
      subst hA
      have c0 := below_cell hbw (hcs k hkr 0 (by omega))
      have c1 := below_cell hbw (hcs k hkr 1 (by omega))
      obtain ⟨s, hs'⟩ : ∃ s, hs[k] = s := ⟨_, rfl⟩
      rw [hs'] at c0 c1
      obtain ⟨s1, s2⟩ := s
      replace c0 : wr.cell? ⟨g, o + k * 2, none⟩ = some (.string s1) := c0
      replace c1 : wr.cell? ⟨g, o + k * 2 + 1, none⟩ = some (.string s2) := c1
      have HPK := HPP.out (s1, s2)
      simp only at HPK
      have hk0 : (0 : Int) ≤ (k : Int) := by omega
      have hk1 : (k : Int) < (n : Int) := by omega
      clear hcs
      cases hp : p (s1, s2)
      · rw [hp] at HPK
        have HF2 : Hid (∀ i (_ : i < k + 1) (hi' : i < hs.length), p hs[i] = false) := by
          intro i hi hi'
          by_cases hik : i = k
          · subst hik; rw [hs']; exact hp
          · exact HF.out i (by omega) hi'
        clear hp hs'
        go_wp2_with fail
        go_quiet (fail)
        all_goals
          go_wp2_with fail
          go_roundw
          case rel => exact ⟨k + 1, by omega, by go_num, HF2, below_drewN hbr _⟩
          case measure => simp [intOf]; omega
      · rw [hp] at HPK
        have HR : Hid (ixOf p hs = k) := ixOf_at _ hs k hkr (fun i hi => HF.out i hi (by omega)) (by rw [hs']; exact hp)
        clear hp hs'
        go_wp2_with fail
        go_quiet (fail)
        all_goals
          go_wp2_with fail
          go_ret
          exact ⟨ret_int HR.out.symm, below_drewN hbw _⟩
    · obtain rfl : k = n := by omega
      have HR : Hid (ixOf p hs = -1) := ixOf_no _ hs (fun i hi => HF.out i (by rw [← HL.out]; exact hi) hi)
      go_wp2_with fail
      go_ret
      exact ⟨ret_int HR.out.symm, hbw⟩
set_option maxRecDepth 100000 in
theorem containsPr_calls (b : Nat) (A : Option Addr) (n c : Nat) (hs : List Pr) (x : Pr) (w : World) (hr : Rd w b 2 (.slice A n c) n (hs.flatMap prC)) :
    Calls Tryz.prog 116 #[.slice A n c, .agg #[.string x.1, .string x.2]] w (BRet (.bool (hs.any (fun y : Pr => decide (y.1 = x.1) && decide (y.2 = x.2)))) w) := by
  have HM := Lib.hid (ixOf_mem (fun y : Pr => decide (y.1 = x.1) && decide (y.2 = x.2)) hs)
  have hS := (Sq.start w).add #[.string x.1, .string x.2] 99
  have HB := Lib.hid hS.below
  have HC := Lib.hid (indexPr_calls b A n c hs x _ (hr.below hS.below))
  clear hS hr
  obtain ⟨x1, x2⟩ := x
  simp only at HB HC HM ⊢
  obtain ⟨q, hq⟩ : ∃ q : Int, ixOf (fun y : Pr => decide (y.1 = x1) && decide (y.2 = x2)) hs = q := ⟨_, rfl⟩
  rw [hq] at HC HM
  clear hq
  go_enter Tryz.func116, Tryz.ntmps116
  go_wp2_with fail
  refine HC.out.mono ?_
  rintro e w1 ⟨rfl, hb1⟩
  go_wp2_with fail
  go_ret
  exact ⟨ret_bool HM.out, below_call HB.out hb1 (Nat.le_refl _)⟩
end Go.Proofs.YtlkapcjofgpiiaaGreatDoor
