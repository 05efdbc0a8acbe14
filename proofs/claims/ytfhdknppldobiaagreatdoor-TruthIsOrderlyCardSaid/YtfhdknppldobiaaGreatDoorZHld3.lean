/-
  rule.ruled, rule.Holds, rule.Why by contracts.
-/
import Derived.Test.YtfhdknppldobiaaGreatDoorZHld1
import Derived.Test.YtfhdknppldobiaaGreatDoorZRun1
import Derived.Test.YtfhdknppldobiaaGreatDoorZTidPure
import Derived.Test.YtfhdknppldobiaaGreatDoorZTxt1
import Derived.Test.YtfhdknppldobiaaGreatDoorZRng
import Derived.Test.YtfhdknppldobiaaGreatDoorZLow
import Derived.Test.YtfhdknppldobiaaGreatDoorZSrt
import Derived.Test.YtfhdknppldobiaaGreatDoorZRst1
import Derived.Deep.DeepCutAuto
import Derived.Test.YtfhdknppldobiaaGreatDoorZChkPure2
import Derived.Test.YtfhdknppldobiaaGreatDoorZRule1
import Derived.Test.YtfhdknppldobiaaGreatDoorZRatMake4
import Derived.Test.YtfhdknppldobiaaGreatDoorZRule3
import Derived.Test.YtfhdknppldobiaaGreatDoorZClk
import Derived.Deep.CutBlock
import Derived.Test.YtfhdknppldobiaaGreatDoorZSlotPure
import Derived.Deep.RegionHeld3
namespace Go.Proofs.YtfhdknppldobiaaGreatDoor
open Go Go.RowKit
attribute [local go_sem ↓] Go.wp_at_zero Go.wp_at_succ

def rulE (num : ByteArray → Int × Bool) (s : ByteArray) (x : Rn) : Int := if (parseE num s).2 = 0 then runF x else (parseE num s).2
/-- a run as a block -/
def RunB (w : World) (b g : Nat) (x : Rn) : Prop := Blk w g 36 (rnC x).toArray ∧ RnW w b x
theorem RunB.below {w W : World} {b g : Nat} {x : Rn} (h : RunB w b g x) (hb : Below w.heap.size w W) : RunB W b g x := ⟨h.1.below hb, h.2.below hb⟩
theorem truth_calls (g : Nat) (W : World) : Calls Tryz.prog 80 #[.pointer (some ⟨g, 0, none⟩)] W fun e w' => e = .returned (.func (.func 139) #[] #[.pointer (some ⟨W.heap.size, 0, none⟩)]) ∧
    w'.cell? ⟨W.heap.size, 0, none⟩ = some (.pointer (some ⟨g, 0, none⟩)) ∧ Below W.heap.size W w' := by
  have hS := (Sq.start W).add #[.pointer (some ⟨g, 0, none⟩)] 109
  have HF := Lib.hid (And.intro (Blk.cell hS.head 0) hS.below)
  clear hS
  go_enter Tryz.func80, Tryz.ntmps80
  go_wp2_with fail
  go_ret
  exact ⟨rfl, HF.out.1, HF.out.2⟩
set_option maxRecDepth 100000 in
set_option maxHeartbeats 1000000 in
theorem ruledR_calls (num : ByteArray → Int × Bool) (hc : NumC num) (s : ByteArray) (b g : Nat) (x : Rn) (w : World) (hs : s.size ≤ 90000) (hx : RunB w b g x) :
    Calls Tryz.prog 78 #[.string s, .pointer (some ⟨g, 0, none⟩)] w fun e w' => ∃ v, e = .returned (.tuple #[v, .int .i64 (rulE num s x)]) ∧ Below w.heap.size w w' ∧
      (rulE num s x = 0 → ∃ g1 hi, v = .pointer (some ⟨g1, 0, none⟩) ∧ NodeAt w' w.heap.size hi g1 (parseT num s).1 ∧ hi ≤ w'.heap.size) := by
  have HP := Lib.hid (parse_calls num s w (by omega) (.inr hc))
  have HX := Lib.hid hx
  have HR : Hid (∀ V, Below w.heap.size w V → Calls Tryz.prog 73 #[.agg #[.string x.id, .string x.who, .int .i64 x.time, .int .i64 x.date, .slice x.fa x.fs.length x.fc]] V (BRet (.int .i64 (runF x)) V)) := Lib.hid (fun V hV => checkRun_calls b x V (hx.2.below hV))
  have HCE : Hid (∀ V, Below w.heap.size w V → V.cell? ⟨g, 0, none⟩ = some (.string x.id) ∧ V.cell? ⟨g, 1, none⟩ = some (.string x.who) ∧ V.cell? ⟨g, 2, none⟩ = some (.int .i64 x.time) ∧ V.cell? ⟨g, 3, none⟩ = some (.int .i64 x.date) ∧ V.cell? ⟨g, 4, none⟩ = some (.slice x.fa x.fs.length x.fc)) :=
    Lib.hid (fun V hV => have h := hx.1.below hV; ⟨h.cell 0, h.cell 1, h.cell 2, h.cell 3, h.cell 4⟩)
  obtain ⟨q, hq⟩ : ∃ q, parseE num s = q := ⟨_, rfl⟩
  have hE : rulE num s x = if q.2 = 0 then runF x else q.2 := by unfold rulE; rw [hq]
  have HQ := Lib.hid hq
  obtain ⟨E, hEE⟩ : ∃ z, rulE num s x = z := ⟨_, rfl⟩
  rw [hEE] at hE ⊢
  obtain ⟨r, hr⟩ : ∃ z, runF x = z := ⟨_, rfl⟩
  rw [hr] at hE HR
  obtain ⟨t, ht⟩ : ∃ t, (parseT num s).1 = t := ⟨_, rfl⟩
  rw [ht]
  have HTT := Lib.hid ht
  obtain ⟨fl, hfl⟩ : ∃ z, x.fs.length = z := ⟨_, rfl⟩
  rw [hfl] at HR HCE
  obtain ⟨xid, xwho, xt, xd, xfa, xfc, xfs⟩ := x
  simp only at HR HCE
  clear hq hx hEE hr ht hfl HX
  obtain ⟨q1, q2⟩ := q
  simp only at hE
  by_cases h0 : q2 = 0
  · subst h0
    rw [if_pos rfl] at hE
    subst hE
    go_enter Tryz.func78, Tryz.ntmps78
    go_wp2_with fail
    refine HP.out.mono ?_
    rintro e w2 ⟨v, rfl, hb2, hN⟩
    rw [HQ.out] at hN ⊢
    obtain ⟨g1, rfl, hnode⟩ := hN rfl
    rw [HTT.out] at hnode
    obtain ⟨e0, e1, e2, e3, e4⟩ := HCE.out w2 hb2
    have HC := Lib.hid (HR.out w2 hb2)
    have HNO := Lib.hid hnode
    clear hN hnode
    go_wp2_with fail
    refine HC.out.mono ?_
    rintro e w3 ⟨rfl, hb3⟩
    have HNB : Hid (NodeAt w3 w.heap.size w2.heap.size g1 t ∧ w2.heap.size ≤ w3.heap.size) := Lib.hid ⟨HNO.out.keep (fun k _ hk => hb3.block k hk), hb3.size⟩
    have HB3 := Lib.hid (below_call hb2 hb3 (Nat.le_refl _))
    clear hb2 hb3 e0 e1 e2 e3 e4
    by_cases hr0 : E = 0
    · subst hr0
      go_wp2_with fail
      go_ret2
      exact ⟨_, rfl, HB3.out, g1, rfl, _, HNB.out.1, HNB.out.2⟩
    · have hne : (E != 0) = true := by rw [bne_iff_ne]; exact hr0
      go_wp2_with fail
      go_ret2
      exact ⟨_, rfl, HB3.out, fun h => absurd h hr0⟩
  · rw [if_neg h0] at hE
    subst hE
    have hne : (E != 0) = true := by rw [bne_iff_ne]; exact h0
    go_enter Tryz.func78, Tryz.ntmps78
    go_wp2_with fail
    refine HP.out.mono ?_
    rintro e w2 ⟨v, rfl, hb2, _⟩
    rw [HQ.out]
    go_wp2_with fail
    go_ret2
    exact ⟨_, rfl, hb2, fun h => absurd h h0⟩
def hldV (num : ByteArray → Int × Bool) (s : ByteArray) (x : Rn) : Bool := if rulE num s x = 0 then holF (atP x.time x.fs) (parseT num s).1 else false
/-- behind truth: what holds and blame ask -/
theorem rnA_of {w2 w3 : World} {b g bx : Nat} {x : Rn} (h : RunB w2 b g x) (hb : Below w2.heap.size w2 w3) (hc : w3.cell? ⟨bx, 0, none⟩ = some (.pointer (some ⟨g, 0, none⟩))) : RnA w3 bx x.time x.fs := by
  have h := h.below hb
  exact ⟨g, 0, b, _, _, _, hc, h.1.cell 2, h.1.cell 4, h.2.rd⟩
set_option maxRecDepth 100000 in
set_option maxHeartbeats 1000000 in
theorem holds_calls (num : ByteArray → Int × Bool) (hc : NumC num) (hnum : NumOk num) (s : ByteArray) (b : Nat) (x : Rn) (w : World) (hs : s.size ≤ 90000) (hx : RnW w b x) :
    Calls Tryz.prog 18 #[.string s, .agg #[.string x.id, .string x.who, .int .i64 x.time, .int .i64 x.date, .slice x.fa x.fs.length x.fc]] w (BRet (.tuple #[.bool (hldV num s x), .int .i64 (rulE num s x)]) w) := by
  have hS := (Sq.start w).add (rnC x).toArray 36
  have hX1 : RunB (w.alloc (.cells (rnC x).toArray 36)) b w.heap.size x := ⟨hS.head, hx.below hS.below⟩
  have hbw := Lib.hid hS.below
  have HR := Lib.hid (ruledR_calls num hc s b w.heap.size x _ hs hX1)
  have HK : Hid (rulE num s x = 0 → NdOk num (parseT num s).1) := Lib.hid (fun h => (((check_parse num hnum s).2 (by unfold rulE at h; split at h <;> assumption))).1)
  have HX2 : Hid (∀ w2, Below (w.alloc (.cells (rnC x).toArray 36)).heap.size (w.alloc (.cells (rnC x).toArray 36)) w2 → RunB w2 b w.heap.size x) := Lib.hid (fun w2 h => hX1.below h)
  have HHV : Hid (rulE num s x = 0 → hldV num s x = holF (atP x.time x.fs) (parseT num s).1) := Lib.hid (fun h => by unfold hldV; rw [if_pos h])
  have HHN : Hid (rulE num s x ≠ 0 → hldV num s x = false) := Lib.hid (fun h => by unfold hldV; rw [if_neg h])
  have HTC : Hid (∀ w2 w3 bx g1 lo hi, rulE num s x = 0 → RunB w2 b w.heap.size x → NodeAt w2 lo hi g1 (parseT num s).1 → hi ≤ w2.heap.size → Below w2.heap.size w2 w3 → w3.cell? ⟨bx, 0, none⟩ = some (.pointer (some ⟨w.heap.size, 0, none⟩)) →
      Calls Tryz.prog 79 #[.pointer (some ⟨g1, 0, none⟩), .func (.func 139) #[] #[.pointer (some ⟨bx, 0, none⟩)]] w3 (BRet (.bool (hldV num s x)) w3)) := Lib.hid (fun w2 w3 bx g1 lo hi h0 h1 h2 h3 h4 h5 => by
    rw [HHV.out h0]
    exact hol_calls _ _ (HK.out h0) w3 bx g1 lo hi w3 (h2.keep (fun k _ hk => h4.block k (by omega))) (Nat.le_trans h3 h4.size) (rnA_of h1 h4 h5) (Below.refl _ _))
  have HTR := Lib.hid (fun W => truth_calls w.heap.size W)
  obtain ⟨E, hEE⟩ : ∃ z, rulE num s x = z := ⟨_, rfl⟩
  obtain ⟨v9, hv9⟩ : ∃ z, hldV num s x = z := ⟨_, rfl⟩
  rw [hEE] at HR HHN HTC ⊢
  rw [hv9] at HHN HTC ⊢
  clear hX1 hS hx HK HHV hEE hv9
  obtain ⟨fl, hfl⟩ : ∃ z, x.fs.length = z := ⟨_, rfl⟩
  have hrn : (rnC x).toArray = #[.string x.id, .string x.who, .int .i64 x.time, .int .i64 x.date, .slice x.fa fl x.fc] := by rw [← hfl]; rfl
  rw [hrn] at HR HX2 hbw
  rw [hfl]
  clear hrn hfl
  go_enter Tryz.func18, Tryz.ntmps18
  go_wp2_with fail
  refine HR.out.mono ?_
  rintro e w2 ⟨v, rfl, hb2, hN⟩
  by_cases h0 : E = 0
  · subst h0
    obtain ⟨g1, hi, rfl, hno, hhi⟩ := hN rfl
    have HH := Lib.hid (fun w3 bx => HTC.out w2 w3 bx g1 _ hi rfl (HX2.out w2 hb2) hno hhi)
    have HBW := Lib.hid (below_call hbw.out hb2 (Nat.le_refl _))
    have HT2 := Lib.hid (HTR.out w2)
    clear hN hno hhi hb2 HHN HTC HX2
    go_wp2_with fail
    refine HT2.out.mono ?_
    rintro e w3 ⟨rfl, hc3, hb3⟩
    have HH3 := Lib.hid (HH.out w3 _ hb3 hc3)
    have HB3 := Lib.hid (below_call HBW.out hb3 (Nat.le_refl _))
    clear hc3 hb3
    go_wp2_with fail
    refine HH3.out.mono ?_
    rintro e w4 ⟨rfl, hb4⟩
    go_wp2_with fail
    go_ret2
    exact ⟨rfl, below_call HB3.out hb4 (Nat.le_refl _)⟩
  · have hne : (E != 0) = true := by rw [bne_iff_ne]; exact h0
    have HV := Lib.hid (HHN.out h0)
    have HBW := Lib.hid (below_call hbw.out hb2 (Nat.le_refl _))
    clear hN hb2 HHN HTC HX2
    go_wp2_with fail
    go_ret2
    exact ⟨by rw [HV.out]; rfl, HBW.out⟩
end Go.Proofs.YtfhdknppldobiaaGreatDoor
/-
  The words of an atom's text, in plain words. No Go text is named here.
-/
namespace Go.Proofs.YtfhdknppldobiaaGreatDoor
open Go Go.RowKit TxtP

theorem pcs_of {c : UInt8} {s : ByteArray} {l : List ByteArray} (h : spl c s.data.toList = l.map (·.data.toList)) : pcs c s = l := by
  have h2 := pcs_data c s
  rw [h] at h2
  exact (List.map_inj_right (fun a b h => ba_inj h)).1 h2
theorem data_app (a b : ByteArray) : (a ++ b).data.toList = a.data.toList ++ b.data.toList := by
  rw [ByteArray.data_append, Array.toList_append]
theorem pcs_has {x : ByteArray} (h : (32 : UInt8) ∉ x.data.toList) : pcs 32 (hasQ x) = [sHas, x] := by
  refine pcs_of ?_
  have e : (hasQ x).data.toList = [104, 97, 115] ++ 32 :: x.data.toList := by unfold hasQ; rw [data_app]; rfl
  rw [e, spl_app _ (by decide), spl_no h]
  rfl
theorem pcs_tri {a b c : ByteArray} (ha : (32 : UInt8) ∉ a.data.toList) (hb : (32 : UInt8) ∉ b.data.toList) (hc : (32 : UInt8) ∉ c.data.toList) : pcs 32 (triQ a b c) = [a, b, c] := by
  refine pcs_of ?_
  have e : (triQ a b c).data.toList = a.data.toList ++ 32 :: (b.data.toList ++ 32 :: c.data.toList) := by
    unfold triQ
    rw [data_app, data_app, data_app, data_app]
    show ((a.data.toList ++ [32]) ++ b.data.toList ++ [32]) ++ c.data.toList = _
    simp
  rw [e, spl_app _ ha, spl_app _ hb, spl_no hc]
  rfl
theorem word_noBl {l : List UInt8} (h : l.all wordB = true) : (32 : UInt8) ∉ l := fun hm => by
  have := List.all_eq_true.1 h 32 hm
  exact absurd this (by decide)
theorem value_noBl {x : ByteArray} (h : valueB x = true) : (32 : UInt8) ∉ x.data.toList := by
  unfold valueB at h
  rw [Bool.and_eq_true] at h
  exact word_noBl h.2
theorem name_noBl {x : ByteArray} (h : nameB x = true) : (32 : UInt8) ∉ x.data.toList := by
  unfold nameB at h
  rw [Bool.and_eq_true] at h
  have h1 := h.1
  unfold keyB at h1
  rw [Bool.and_eq_true] at h1
  intro hm
  have := List.all_eq_true.1 h1.2 32 hm
  exact absurd this (by decide)
theorem name_ne {x : ByteArray} (h : nameB x = true) : x ≠ sTime ∧ x ≠ sHas ∧ x ≠ sTrue := by
  unfold nameB at h
  rw [Bool.and_eq_true] at h
  have h2 := h.2
  refine ⟨fun e => ?_, fun e => ?_, fun e => ?_⟩ <;> (subst e; simp at h2)
theorem fieldH_any (f : ByteArray) : ∀ ps : List Pr, fieldH f ps = ps.any fun p => decide (p.1 = f)
  | [] => rfl
  | p :: ps => by
    rw [fieldH, List.any_cons, fieldH_any f ps]
    by_cases h : p.1 = f
    · rw [if_pos h]; simp [h]
    · rw [if_neg h]; simp [h]
/-- in a right run each name comes once -/
theorem field_mem (f v : ByteArray) : ∀ (ps : List Pr) (last : ByteArray), fldG last ps = 0 → ((fieldH f ps && decide (fieldV f ps = v)) = true ↔ (f, v) ∈ ps)
  | [], _, _ => by simp [fieldH]
  | p :: ps, last, h => by
    have hg := fldG_gt (p :: ps) last h
    rw [fldG] at h
    split at h
    · cases h
    · split at h
      · cases h
      · split at h
        · cases h
        · have ih := field_mem f v ps p.1 h
          have hn : ∀ q ∈ ps, q.1 ≠ p.1 := fun q hq e => by
            have h1 := fldG_gt ps p.1 h q hq
            rw [e] at h1
            unfold gtS at h1
            rw [leS_self] at h1
            cases h1
          rw [fieldH, fieldV]
          by_cases he : p.1 = f
          · rw [if_pos he, if_pos he, Bool.true_and, decide_eq_true_eq]
            constructor
            · intro hv
              rw [← he, ← hv]
              exact List.mem_cons_self ..
            · intro hm
              rcases List.mem_cons.1 hm with hm | hm
              · rw [← hm]
              · exact absurd he.symm (hn _ hm)
          · rw [if_neg he, if_neg he, ih]
            constructor
            · exact fun hm => List.mem_cons_of_mem _ hm
            · intro hm
              rcases List.mem_cons.1 hm with hm | hm
              · exact absurd (by rw [← hm]) he
              · exact hm
end Go.Proofs.YtfhdknppldobiaaGreatDoor
/-
  What splitref2.holds answers of an atom's text, in plain words, and that it is what the program answers of the atom. No Go text is named here.
-/
namespace Go.Proofs.YtfhdknppldobiaaGreatDoor
open Go Go.RowKit TxtP

def isH (tm : Int) (fs : List Pr) (l : ByteArray) : Bool :=
  if l = sTrue then true else
  match pcs 32 l with
  | [_, b] => fs.any (fun y => decide (y.1 = b))
  | [a, b, c] => if a = sTime then (if b = sLt then decide (tm ≠ 0) && decide (tm < numI c.data.toList) else decide (numI c.data.toList < tm)) else fs.any (fun y => decide (y.1 = a) && decide (y.2 = c))
  | _ => false
theorem numF_noBl {x : ByteArray} (h : (numF x).2 = true) : (32 : UInt8) ∉ x.data.toList := by
  obtain ⟨_, _, c⟩ := numF_body h
  intro hm
  cases hl : x.data.toList with
  | nil => rw [hl] at hm; cases hm
  | cons b r =>
    rw [hl] at hm c
    have e : body (b :: r) = if b = 45 then r else b :: r := rfl
    rw [e] at c
    by_cases hb : b = 45
    · rw [if_pos hb] at c
      rcases List.mem_cons.1 hm with e | e
      · subst e; exact absurd hb (by decide)
      · exact absurd (List.all_eq_true.1 c 32 e) (by decide)
    · rw [if_neg hb] at c
      exact absurd (List.all_eq_true.1 c 32 hm) (by decide)
theorem num_val {x : ByteArray} (h : (numF x).2 = true) : (numF x).1 = numI x.data.toList := by
  have h : numB x.data.toList 9 = true := h
  show (if numB x.data.toList 9 = true then numI x.data.toList else 0) = _
  rw [if_pos h]
theorem has_ne (x : ByteArray) : hasQ x ≠ sTrue := fun e => by
  have e := congrArg (fun z : ByteArray => z.data.toList.head?) e
  unfold hasQ at e
  simp only [data_app] at e
  exact absurd (show some (104 : UInt8) = some 116 from e) (by decide)
theorem tri_ne (a b c : ByteArray) : triQ a b c ≠ sTrue := fun e => by
  have h : (32 : UInt8) ∈ (triQ a b c).data.toList := by
    unfold triQ
    rw [data_app, data_app, data_app, data_app]
    have : (32 : UInt8) ∈ sBl.data.toList := by decide
    simp [this]
  rw [e] at h
  exact absurd h (by decide)
/-- the answer at each kind of atom -/
theorem isH_true (tm : Int) (fs : List Pr) : isH tm fs sTrue = true := by unfold isH; rw [if_pos rfl]
theorem isH_has (tm : Int) (fs : List Pr) {x : ByteArray} (h : (32 : UInt8) ∉ x.data.toList) : isH tm fs (hasQ x) = fs.any (fun y => decide (y.1 = x)) := by
  unfold isH
  rw [if_neg (has_ne x), pcs_has h]
theorem isH_eq (tm : Int) (fs : List Pr) {a c : ByteArray} (ha : (32 : UInt8) ∉ a.data.toList) (hc : (32 : UInt8) ∉ c.data.toList) (hn : a ≠ sTime) : isH tm fs (triQ a sEq c) = fs.any (fun y => decide (y.1 = a) && decide (y.2 = c)) := by
  unfold isH
  rw [if_neg (tri_ne _ _ _), pcs_tri ha (by decide) hc]
  show (if a = sTime then _ else _) = _
  rw [if_neg hn]
theorem isH_time (tm : Int) (fs : List Pr) {b c : ByteArray} (hb : (32 : UInt8) ∉ b.data.toList) (hc : (32 : UInt8) ∉ c.data.toList) : isH tm fs (triQ sTime b c) = if b = sLt then decide (tm ≠ 0) && decide (tm < numI c.data.toList) else decide (numI c.data.toList < tm) := by
  unfold isH
  rw [if_neg (tri_ne _ _ _), pcs_tri (by decide) hb hc]
  show (if sTime = sTime then _ else _) = _
  rw [if_pos rfl]
theorem isH_atP {tm : Int} {fs : List Pr} {a : Atm} (h : AtmOk numF a) (hf : fldG ⟨#[]⟩ fs = 0) : isH tm fs (txtA a) = atP tm fs a := by
  obtain ⟨wd, nm, vl, n⟩ := a
  unfold txtA atP
  rcases h with ⟨h, _⟩ | ⟨h, h1, _⟩ | ⟨h, h1, h2⟩ | ⟨h, _, h1, h2, _⟩ <;> simp only at *
  · rw [if_pos h, if_pos h, isH_true]
  · subst h
    rw [if_neg (by decide), if_pos rfl, if_neg (by decide), if_pos rfl, isH_has _ _ (name_noBl h1), fieldH_any]
  · subst h
    rw [if_neg (by decide), if_neg (by decide), if_pos rfl, if_neg (by decide), if_neg (by decide), if_pos rfl, isH_eq _ _ (name_noBl h1) (value_noBl h2) (name_ne h1).1]
    have := field_mem nm vl fs ⟨#[]⟩ hf
    have hmem : (fs.any (fun y => decide (y.1 = nm) && decide (y.2 = vl)) = true) ↔ (nm, vl) ∈ fs := by
      rw [List.any_eq_true]
      constructor
      · rintro ⟨y, hy, h⟩
        rw [Bool.and_eq_true, decide_eq_true_eq, decide_eq_true_eq] at h
        rw [← h.1, ← h.2]
        exact hy
      · exact fun h => ⟨_, h, by simp⟩
    rw [← hmem] at this
    cases hb : (fieldH nm fs && decide (fieldV nm fs = vl)) <;> cases hc : fs.any (fun y => decide (y.1 = nm) && decide (y.2 = vl)) <;> simp_all
  · rw [num_val h1] at h2
    rcases h with rfl | rfl
    · rw [if_neg (by decide), if_neg (by decide), if_neg (by decide), if_neg (by decide), if_neg (by decide), if_neg (by decide), if_pos rfl, isH_time _ _ (by decide) (numF_noBl h1), if_pos rfl, h2]
    · rw [if_neg (by decide), if_neg (by decide), if_neg (by decide), if_neg (by decide), if_neg (by decide), if_neg (by decide), if_neg (by decide), isH_time _ _ (by decide) (numF_noBl h1), if_neg (by decide), h2]
theorem runF_fld0 {x : Rn} (h : runF x = 0) : fldG ⟨#[]⟩ x.fs = 0 := by
  unfold runF at h
  split at h
  · split at h
    · cases h
    · split at h
      · cases h
      · exact h
  · cases h
end Go.Proofs.YtfhdknppldobiaaGreatDoor
/-
  The program's and the reference's answers are one, given that they agree on atoms. No walk here.
-/
namespace Go.Proofs.YtfhdknppldobiaaGreatDoor
open Go Go.RowKit

theorem hld_both {num : ByteArray → Int × Bool} (hnum : NumOk num) (hz : NumZ num) {s : ByteArray} {x : Rn} (isQ : ByteArray → Bool) (h0 : rulE num s x = 0) (hp : (parseE num s).2 = 0) (ha : ∀ a ∈ atsF (parseT num s).1, isQ (txtA a) = atP x.time x.fs a) :
    hldV num s x = truQ isQ (flat (parseT num s).1) := by
  unfold hldV
  rw [if_pos h0, tru_flat hz (atP x.time x.fs) isQ ((check_parse num hnum s).2 hp).1 ha]
end Go.Proofs.YtfhdknppldobiaaGreatDoor
/-
  What HoldsFor and WhyOf answer of right arguments: what Holds and Why do; ruleFault by a contract.
-/
namespace Go.Proofs.YtfhdknppldobiaaGreatDoor
open Go Go.RowKit TxtP
attribute [local go_sem ↓] Go.wp_at_zero Go.wp_at_succ

theorem rulE_zero {num : ByteArray → Int × Bool} {s : ByteArray} {x : Rn} (h : rulE num s x = 0) : (parseE num s).2 = 0 ∧ runF x = 0 := by
  unfold rulE at h
  split at h
  · rename_i h1; exact ⟨h1, h⟩
  · rename_i h1; exact absurd h h1
theorem hdq_atoms {s : ByteArray} {x : Rn} (h : rulE numF s x = 0) : ∀ a ∈ atsF (parseT numF s).1, isH x.time x.fs (txtA a) = atP x.time x.fs a := by
  obtain ⟨h1, h2⟩ := rulE_zero h
  have hok := ((check_parse numF numF_ok s).2 h1).1
  exact fun a ha => isH_atP (ats_ok hok a ha) (runF_fld0 h2)
end Go.Proofs.YtfhdknppldobiaaGreatDoor
