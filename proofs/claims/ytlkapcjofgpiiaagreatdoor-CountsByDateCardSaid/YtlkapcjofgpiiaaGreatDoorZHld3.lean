/-
  rule.ruled, rule.Holds, rule.Why by contracts.
-/
import Derived.Test.YtlkapcjofgpiiaaGreatDoorZHld1
import Derived.Test.YtlkapcjofgpiiaaGreatDoorZRun1
import Derived.Test.YtlkapcjofgpiiaaGreatDoorZTxt1
import Derived.Test.YtlkapcjofgpiiaaGreatDoorZClk
import Derived.Test.YtlkapcjofgpiiaaGreatDoorZTidPure
import Derived.Test.YtlkapcjofgpiiaaGreatDoorZSq
import Derived.Test.YtlkapcjofgpiiaaGreatDoorZSjoin
import Derived.Test.YtlkapcjofgpiiaaGreatDoorZRst1
import Derived.Test.YtlkapcjofgpiiaaGreatDoorZChkPure2
import Derived.Deep.DeepCutAuto
import Derived.Test.YtlkapcjofgpiiaaGreatDoorZChkOf
import Derived.Test.YtlkapcjofgpiiaaGreatDoorZTid
import Derived.Test.YtlkapcjofgpiiaaGreatDoorZSlotPure
import Derived.Deep.RegionHeld3
namespace Go.Proofs.YtlkapcjofgpiiaaGreatDoor
open Go Go.RowKit
attribute [local go_sem ↓] Go.wp_at_zero Go.wp_at_succ

def rulE (num : ByteArray → Int × Bool) (s : ByteArray) (x : Rn) : Int := if (parseE num s).2 = 0 then runF x else (parseE num s).2
/-- a run as a block -/
def RunB (w : World) (b g : Nat) (x : Rn) : Prop := Blk w g 36 (rnC x).toArray ∧ RnW w b x
theorem RunB.below {w W : World} {b g : Nat} {x : Rn} (h : RunB w b g x) (hb : Below w.heap.size w W) : RunB W b g x := ⟨h.1.below hb, h.2.below hb⟩
theorem truth_calls (g : Nat) (W : World) : Calls Tryz.prog 53 #[.pointer (some ⟨g, 0, none⟩)] W fun e w' => e = .returned (.func (.func 83) #[] #[.pointer (some ⟨W.heap.size, 0, none⟩)]) ∧
    w'.cell? ⟨W.heap.size, 0, none⟩ = some (.pointer (some ⟨g, 0, none⟩)) ∧ Below W.heap.size W w' := by
  have hS := (Sq.start W).add #[.pointer (some ⟨g, 0, none⟩)] 87
  have HF := Lib.hid (And.intro (Blk.cell hS.head 0) hS.below)
  clear hS
  go_enter Tryz.func53, Tryz.ntmps53
  go_wp2_with fail
  go_ret
  exact ⟨rfl, HF.out.1, HF.out.2⟩
set_option maxRecDepth 100000 in
set_option maxHeartbeats 1000000 in
theorem ruledR_calls (num : ByteArray → Int × Bool) (hc : NumC num) (s : ByteArray) (b g : Nat) (x : Rn) (w : World) (hs : s.size ≤ 90000) (hx : RunB w b g x) :
    Calls Tryz.prog 51 #[.string s, .pointer (some ⟨g, 0, none⟩)] w fun e w' => ∃ v, e = .returned (.tuple #[v, .int .i64 (rulE num s x)]) ∧ Below w.heap.size w w' ∧
      (rulE num s x = 0 → ∃ g1 hi, v = .pointer (some ⟨g1, 0, none⟩) ∧ NodeAt w' w.heap.size hi g1 (parseT num s).1 ∧ hi ≤ w'.heap.size) := by
  have HP := Lib.hid (parse_calls num s w (by omega) (.inr hc))
  have HX := Lib.hid hx
  have HR : Hid (∀ V, Below w.heap.size w V → Calls Tryz.prog 46 #[.agg #[.string x.id, .string x.who, .int .i64 x.time, .int .i64 x.date, .slice x.fa x.fs.length x.fc]] V (BRet (.int .i64 (runF x)) V)) := Lib.hid (fun V hV => checkRun_calls b x V (hx.2.below hV))
  have HCE : Hid (∀ V, Below w.heap.size w V → V.cell? ⟨g, 0, none⟩ = some (.string x.id) ∧ V.cell? ⟨g, 1, none⟩ = some (.string x.who) ∧ V.cell? ⟨g, 2, none⟩ = some (.int .i64 x.time) ∧ V.cell? ⟨g, 3, none⟩ = some (.int .i64 x.date) ∧ V.cell? ⟨g, 4, none⟩ = some (.slice x.fa x.fs.length x.fc)) :=
    Lib.hid (fun V hV => have h := hx.1.below hV; ⟨h.cell 0, h.cell 1, h.cell 2, h.cell 3, h.cell 4⟩)
  obtain ⟨q, hq⟩ : ∃ q, parseE num s = q := ⟨_, rfl⟩
  have hE : rulE num s x = if q.2 = 0 then runF x else q.2 := by unfold rulE; rw [hq]
  have HQ := Lib.hid hq
  obtain ⟨E, hEE⟩ : ∃ z, rulE num s x = z := ⟨_, rfl⟩
  rw [hEE] at hE ⊢
  obtain ⟨r, hr⟩ : ∃ z, runF x = z := ⟨_, rfl⟩
  rw [hr] at hE HR
  obtain ⟨t, ht⟩ : ∃ t, (parseT num s).1 = t := ⟨_, rfl⟩
  rw [ht]
  have HTT := Lib.hid ht
  obtain ⟨fl, hfl⟩ : ∃ z, x.fs.length = z := ⟨_, rfl⟩
  rw [hfl] at HR HCE
  obtain ⟨xid, xwho, xt, xd, xfa, xfc, xfs⟩ := x
  simp only at HR HCE
  clear hq hx hEE hr ht hfl HX
  obtain ⟨q1, q2⟩ := q
  simp only at hE
  by_cases h0 : q2 = 0
  · subst h0
    rw [if_pos rfl] at hE
    subst hE
    go_enter Tryz.func51, Tryz.ntmps51
    go_wp2_with fail
    refine HP.out.mono ?_
    rintro e w2 ⟨v, rfl, hb2, hN⟩
    rw [HQ.out] at hN ⊢
    obtain ⟨g1, rfl, hnode⟩ := hN rfl
    rw [HTT.out] at hnode
    obtain ⟨e0, e1, e2, e3, e4⟩ := HCE.out w2 hb2
    have HC := Lib.hid (HR.out w2 hb2)
    have HNO := Lib.hid hnode
    clear hN hnode
    go_wp2_with fail
    refine HC.out.mono ?_
    rintro e w3 ⟨rfl, hb3⟩
    have HNB : Hid (NodeAt w3 w.heap.size w2.heap.size g1 t ∧ w2.heap.size ≤ w3.heap.size) := Lib.hid ⟨HNO.out.keep (fun k _ hk => hb3.block k hk), hb3.size⟩
    have HB3 := Lib.hid (below_call hb2 hb3 (Nat.le_refl _))
    clear hb2 hb3 e0 e1 e2 e3 e4
    by_cases hr0 : E = 0
    · subst hr0
      go_wp2_with fail
      go_ret2
      exact ⟨_, rfl, HB3.out, g1, rfl, _, HNB.out.1, HNB.out.2⟩
    · have hne : (E != 0) = true := by rw [bne_iff_ne]; exact hr0
      go_wp2_with fail
      go_ret2
      exact ⟨_, rfl, HB3.out, fun h => absurd h hr0⟩
  · rw [if_neg h0] at hE
    subst hE
    have hne : (E != 0) = true := by rw [bne_iff_ne]; exact h0
    go_enter Tryz.func51, Tryz.ntmps51
    go_wp2_with fail
    refine HP.out.mono ?_
    rintro e w2 ⟨v, rfl, hb2, _⟩
    rw [HQ.out]
    go_wp2_with fail
    go_ret2
    exact ⟨_, rfl, hb2, fun h => absurd h h0⟩
def hldV (num : ByteArray → Int × Bool) (s : ByteArray) (x : Rn) : Bool := if rulE num s x = 0 then holF (atP x.time x.fs) (parseT num s).1 else false
/-- behind truth: what holds and blame ask -/
theorem rnA_of {w2 w3 : World} {b g bx : Nat} {x : Rn} (h : RunB w2 b g x) (hb : Below w2.heap.size w2 w3) (hc : w3.cell? ⟨bx, 0, none⟩ = some (.pointer (some ⟨g, 0, none⟩))) : RnA w3 bx x.time x.fs := by
  have h := h.below hb
  exact ⟨g, 0, b, _, _, _, hc, h.1.cell 2, h.1.cell 4, h.2.rd⟩
set_option maxRecDepth 100000 in
set_option maxHeartbeats 1000000 in
theorem holds_calls (num : ByteArray → Int × Bool) (hc : NumC num) (hnum : NumOk num) (s : ByteArray) (b : Nat) (x : Rn) (w : World) (hs : s.size ≤ 90000) (hx : RnW w b x) :
    Calls Tryz.prog 12 #[.string s, .agg #[.string x.id, .string x.who, .int .i64 x.time, .int .i64 x.date, .slice x.fa x.fs.length x.fc]] w (BRet (.tuple #[.bool (hldV num s x), .int .i64 (rulE num s x)]) w) := by
  have hS := (Sq.start w).add (rnC x).toArray 36
  have hX1 : RunB (w.alloc (.cells (rnC x).toArray 36)) b w.heap.size x := ⟨hS.head, hx.below hS.below⟩
  have hbw := Lib.hid hS.below
  have HR := Lib.hid (ruledR_calls num hc s b w.heap.size x _ hs hX1)
  have HK : Hid (rulE num s x = 0 → NdOk num (parseT num s).1) := Lib.hid (fun h => (((check_parse num hnum s).2 (by unfold rulE at h; split at h <;> assumption))).1)
  have HX2 : Hid (∀ w2, Below (w.alloc (.cells (rnC x).toArray 36)).heap.size (w.alloc (.cells (rnC x).toArray 36)) w2 → RunB w2 b w.heap.size x) := Lib.hid (fun w2 h => hX1.below h)
  have HHV : Hid (rulE num s x = 0 → hldV num s x = holF (atP x.time x.fs) (parseT num s).1) := Lib.hid (fun h => by unfold hldV; rw [if_pos h])
  have HHN : Hid (rulE num s x ≠ 0 → hldV num s x = false) := Lib.hid (fun h => by unfold hldV; rw [if_neg h])
  have HTC : Hid (∀ w2 w3 bx g1 lo hi, rulE num s x = 0 → RunB w2 b w.heap.size x → NodeAt w2 lo hi g1 (parseT num s).1 → hi ≤ w2.heap.size → Below w2.heap.size w2 w3 → w3.cell? ⟨bx, 0, none⟩ = some (.pointer (some ⟨w.heap.size, 0, none⟩)) →
      Calls Tryz.prog 52 #[.pointer (some ⟨g1, 0, none⟩), .func (.func 83) #[] #[.pointer (some ⟨bx, 0, none⟩)]] w3 (BRet (.bool (hldV num s x)) w3)) := Lib.hid (fun w2 w3 bx g1 lo hi h0 h1 h2 h3 h4 h5 => by
    rw [HHV.out h0]
    exact hol_calls _ _ (HK.out h0) w3 bx g1 lo hi w3 (h2.keep (fun k _ hk => h4.block k (by omega))) (Nat.le_trans h3 h4.size) (rnA_of h1 h4 h5) (Below.refl _ _))
  have HTR := Lib.hid (fun W => truth_calls w.heap.size W)
  obtain ⟨E, hEE⟩ : ∃ z, rulE num s x = z := ⟨_, rfl⟩
  obtain ⟨v9, hv9⟩ : ∃ z, hldV num s x = z := ⟨_, rfl⟩
  rw [hEE] at HR HHN HTC ⊢
  rw [hv9] at HHN HTC ⊢
  clear hX1 hS hx HK HHV hEE hv9
  obtain ⟨fl, hfl⟩ : ∃ z, x.fs.length = z := ⟨_, rfl⟩
  have hrn : (rnC x).toArray = #[.string x.id, .string x.who, .int .i64 x.time, .int .i64 x.date, .slice x.fa fl x.fc] := by rw [← hfl]; rfl
  rw [hrn] at HR HX2 hbw
  rw [hfl]
  clear hrn hfl
  go_enter Tryz.func12, Tryz.ntmps12
  go_wp2_with fail
  refine HR.out.mono ?_
  rintro e w2 ⟨v, rfl, hb2, hN⟩
  by_cases h0 : E = 0
  · subst h0
    obtain ⟨g1, hi, rfl, hno, hhi⟩ := hN rfl
    have HH := Lib.hid (fun w3 bx => HTC.out w2 w3 bx g1 _ hi rfl (HX2.out w2 hb2) hno hhi)
    have HBW := Lib.hid (below_call hbw.out hb2 (Nat.le_refl _))
    have HT2 := Lib.hid (HTR.out w2)
    clear hN hno hhi hb2 HHN HTC HX2
    go_wp2_with fail
    refine HT2.out.mono ?_
    rintro e w3 ⟨rfl, hc3, hb3⟩
    have HH3 := Lib.hid (HH.out w3 _ hb3 hc3)
    have HB3 := Lib.hid (below_call HBW.out hb3 (Nat.le_refl _))
    clear hc3 hb3
    go_wp2_with fail
    refine HH3.out.mono ?_
    rintro e w4 ⟨rfl, hb4⟩
    go_wp2_with fail
    go_ret2
    exact ⟨rfl, below_call HB3.out hb4 (Nat.le_refl _)⟩
  · have hne : (E != 0) = true := by rw [bne_iff_ne]; exact h0
    have HV := Lib.hid (HHN.out h0)
    have HBW := Lib.hid (below_call hbw.out hb2 (Nat.le_refl _))
    clear hN hb2 HHN HTC HX2
    go_wp2_with fail
    go_ret2
    exact ⟨by rw [HV.out]; rfl, HBW.out⟩
end Go.Proofs.YtlkapcjofgpiiaaGreatDoor
/-
  How numbers of rules are read: base.Number and the reference's Number as one function.
-/
namespace Go.Proofs.YtlkapcjofgpiiaaGreatDoor
open Go Go.RowKit TxtP

def numF (x : ByteArray) : Int × Bool := (if numB x.data.toList 9 = true then numI x.data.toList else 0, numB x.data.toList 9)
theorem numF_c : NumC numF := fun x W hx => number_calls x 9 (by decide) W (by unfold maxLen; omega)
theorem numF_qc : NumQC numF := fun x W hx ht => (numberQ_calls x 9 (by decide) W (by unfold maxLen; omega) ht).mono (fun e w' ⟨v, he, hv, hb⟩ => by
  obtain ⟨z, _, _, rfl, hz⟩ := hv
  exact ⟨z, he, fun h => by
    have h : numB x.data.toList 9 = true := h
    show z = if numB x.data.toList 9 = true then numI x.data.toList else 0
    rw [if_pos h]
    exact hz h, hb⟩)
theorem numF_body {x : ByteArray} (h : (numF x).2 = true) : body x.data.toList ≠ [] ∧ (body x.data.toList).length ≤ 9 ∧ (body x.data.toList).all isDig = true := by
  have h : numB x.data.toList 9 = true := h
  obtain ⟨a, b, c, _⟩ := numB_iff.1 h
  exact ⟨a, b, c⟩
theorem numF_ok : NumOk numF := by
  intro x h
  obtain ⟨a, b, c⟩ := numF_body h
  refine ⟨fun e => ?_, fun e => ?_, fun e => ?_⟩
  · rw [ba_nil e] at a; exact a rfl
  · rw [e] at c; exact absurd c (by decide)
  · rw [e] at c; exact absurd c (by decide)
end Go.Proofs.YtlkapcjofgpiiaaGreatDoor
/-
  Versions of rules: what is wrong with them, which rule holds at a moment, what a run counts for, what is lost, in plain words. No Go text is walked here.
-/
namespace Go.Proofs.YtlkapcjofgpiiaaGreatDoor
open Go Go.RowKit TxtP

theorem bl_tri (a b : ByteArray) : (Op.bytesLess a.toList b.toList = true ∧ (a.toList == b.toList) = false ∧ Op.bytesLess b.toList a.toList = false) ∨
    (Op.bytesLess a.toList b.toList = false ∧ (a.toList == b.toList) = true ∧ Op.bytesLess b.toList a.toList = false) ∨
    (Op.bytesLess a.toList b.toList = false ∧ (a.toList == b.toList) = false ∧ Op.bytesLess b.toList a.toList = true) := by
  simp only [bytesLess_eq, decide_eq_true_eq, decide_eq_false_iff_not, beq_eq_false_iff_ne, beq_iff_eq]
  by_cases h : a.toList = b.toList
  · rw [h]
    exact .inr (.inl ⟨List.lt_irrefl _, rfl, List.lt_irrefl _⟩)
  · by_cases h1 : a.toList < b.toList
    · exact .inl ⟨h1, h, fun h2 => List.lt_irrefl _ (List.lt_trans h1 h2)⟩
    · exact .inr (.inr ⟨h1, h, Decidable.byContradiction fun h2 => h (List.le_antisymm (List.not_lt.1 h2) (List.not_lt.1 h1))⟩)
/-- a version: a category, from when, and its rule -/
structure Vr where
  c : ByteArray
  f : Int
  r : ByteArray
def vrC (v : Vr) : List Value := [.string v.c, .int .i64 v.f, .string v.r]
theorem vrC_len (v : Vr) : (vrC v).length = 3 := rfl
structure VrW (v : Vr) : Prop where
  hc : v.c.size ≤ 1000000
  hr : v.r.size ≤ 90000
structure Vrs (w : World) (b : Nat) (A : Option Addr) (n c : Nat) (vs : List Vr) : Prop where
  rd : Rd w b 3 (.slice A n c) n (vs.flatMap vrC)
  ok : ∀ v ∈ vs, VrW v
theorem Vrs.below {w w' : World} {b n c : Nat} {A : Option Addr} {vs : List Vr} (h : Vrs w b A n c vs) (k : Below w.heap.size w w') : Vrs w' b A n c vs := ⟨h.rd.below k, h.ok⟩
theorem Vrs.bx {w w' : World} {b n c : Nat} {A : Option Addr} {vs : List Vr} (h : Vrs w b A n c vs) (k : Bx w.heap.size b w w') : Vrs w' b A n c vs := ⟨h.rd.bx k, h.ok⟩
/-- is this string empty, as the program asks it? -/
def isE (r : ByteArray) : Bool := r.toList.isEmpty
theorem nil_toList : (⟨#[]⟩ : ByteArray).toList = [] := by rw [Lib.toList_data]
theorem isE_beq (r : ByteArray) : (r.toList == (⟨#[]⟩ : ByteArray).toList) = isE r := by
  rw [nil_toList]
  unfold isE
  cases r.toList <;> rfl
theorem isE_nil : isE ⟨#[]⟩ = true := by
  unfold isE
  rw [nil_toList]
  rfl
def ordV (o v : Vr) : Bool := Op.bytesLess v.c.toList o.c.toList || (v.c.toList == o.c.toList && decide (v.f ≤ o.f))
def befV : Option Vr → Vr → ByteArray
  | none, _ => ⟨#[]⟩
  | some o, v => if (v.c.toList == o.c.toList) = true then o.r else ⟨#[]⟩
def ordO : Option Vr → Vr → Bool
  | none, _ => false
  | some o, v => ordV o v
/-- what is wrong with a version's rule -/
def rulV (r : ByteArray) : Int := if isE r = true then 0 else (parseE numF r).2
def versG : Option Vr → List Vr → Int
  | _, [] => 0
  | last, v :: vs => if keyB v.c.data.toList = true then if momB v.f = true then if rulV v.r = 0 then if ordO last v = true then 7 else if (v.r.toList == (befV last v).toList) = true then 3 else versG (some v) vs else rulV v.r else 1 else 5
def versF (vs : List Vr) : Int := if 200 < vs.length then 2 else versG none vs
/-- the version ahead of place k -/
def lastV (vs : List Vr) (k : Nat) : Option Vr := match k with | 0 => none | k + 1 => vs[k]?
theorem versG_step (vs : List Vr) (k : Nat) (hk : k < vs.length) : versG (lastV vs k) (vs.drop k) =
    if keyB vs[k].c.data.toList = true then if momB vs[k].f = true then if rulV vs[k].r = 0 then if ordO (lastV vs k) vs[k] = true then 7 else if (vs[k].r.toList == (befV (lastV vs k) vs[k]).toList) = true then 3 else versG (lastV vs (k + 1)) (vs.drop (k + 1)) else rulV vs[k].r else 1 else 5 := by
  rw [List.drop_eq_getElem_cons hk, versG]
  have : lastV vs (k + 1) = some vs[k] := by simp [lastV, hk]
  rw [this]
/-- the rule of a category at a moment -/
def rulA : List Vr → ByteArray → Int → ByteArray → ByteArray
  | [], _, _, out => out
  | v :: vs, c, t, out => rulA vs c t (if (v.c.toList == c.toList && decide (v.f ≤ t)) = true then v.r else out)
theorem rulA_step (vs : List Vr) (c : ByteArray) (t : Int) (out : ByteArray) (k : Nat) (hk : k < vs.length) :
    rulA (vs.drop k) c t out = rulA (vs.drop (k + 1)) c t (if (vs[k].c.toList == c.toList && decide (vs[k].f ≤ t)) = true then vs[k].r else out) := by
  rw [List.drop_eq_getElem_cons hk, rulA]
def rulAt (vs : List Vr) (c : ByteArray) (t : Int) : ByteArray := rulA vs c t ⟨#[]⟩
/-- does a run count for a category? -/
def cntV (vs : List Vr) (c : ByteArray) (x : Rn) : Bool := !isE (rulAt vs c x.date) && hldV numF (rulAt vs c x.date) x
/-- is a version the first of its category? -/
def fstO : Option Vr → Vr → Bool
  | none, _ => true
  | some o, v => !(o.c.toList == v.c.toList)
def cntG (all : List Vr) (x : Rn) : Option Vr → List Vr → List ByteArray
  | _, [] => []
  | last, v :: vs => (if (fstO last v && cntV all v.c x) = true then [v.c] else []) ++ cntG all x (some v) vs
theorem cntG_step (all : List Vr) (x : Rn) (vs : List Vr) (k : Nat) (hk : k < vs.length) : cntG all x (lastV vs k) (vs.drop k) =
    (if (fstO (lastV vs k) vs[k] && cntV all vs[k].c x) = true then [vs[k].c] else []) ++ cntG all x (lastV vs (k + 1)) (vs.drop (k + 1)) := by
  rw [List.drop_eq_getElem_cons hk, cntG]
  have : lastV vs (k + 1) = some vs[k] := by simp [lastV, hk]
  rw [this]
def cntL (vs : List Vr) (x : Rn) : List ByteArray := cntG vs x none vs
/-- what Counts says is wrong -/
def cntE (vs : List Vr) (x : Rn) : Int := if versF vs = 0 then runF x else versF vs
/-- the rules of versions that are right -/
def RgtV (vs : List Vr) : Prop := ∀ v ∈ vs, isE v.r = false → (parseE numF v.r).2 = 0
theorem versG_rgt : ∀ (last : Option Vr) (vs : List Vr), versG last vs = 0 → (∀ v ∈ vs, keyB v.c.data.toList = true ∧ momB v.f = true ∧ rulV v.r = 0)
  | _, [], _ => fun v hv => by cases hv
  | last, v :: vs, h => by
    rw [versG] at h
    by_cases h1 : keyB v.c.data.toList = true
    · rw [if_pos h1] at h
      by_cases h2 : momB v.f = true
      · rw [if_pos h2] at h
        by_cases h3 : rulV v.r = 0
        · rw [if_pos h3] at h
          by_cases h4 : ordO last v = true
          · rw [if_pos h4] at h; cases h
          · rw [if_neg h4] at h
            by_cases h5 : (v.r.toList == (befV last v).toList) = true
            · rw [if_pos h5] at h; cases h
            · rw [if_neg h5] at h
              intro u hu
              rcases List.mem_cons.1 hu with rfl | hu
              · exact ⟨h1, h2, h3⟩
              · exact versG_rgt _ _ h u hu
        · rw [if_neg h3] at h; exact absurd h h3
      · rw [if_neg h2] at h; cases h
    · rw [if_neg h1] at h; cases h
theorem versF_rgt {vs : List Vr} (h : versF vs = 0) : vs.length ≤ 200 ∧ (∀ v ∈ vs, keyB v.c.data.toList = true ∧ momB v.f = true ∧ rulV v.r = 0) := by
  unfold versF at h
  split at h
  · cases h
  · exact ⟨by omega, versG_rgt _ _ h⟩
theorem versF_rules {vs : List Vr} (h : versF vs = 0) : RgtV vs := fun v hv he => by
  have := ((versF_rgt h).2 v hv).2.2
  unfold rulV at this
  rwa [he, if_neg (by decide)] at this
theorem rulA_mem : ∀ (vs : List Vr) (c : ByteArray) (t : Int) (out : ByteArray), rulA vs c t out = out ∨ ∃ v ∈ vs, rulA vs c t out = v.r
  | [], _, _, _ => .inl rfl
  | v :: vs, c, t, out => by
    rw [rulA]
    rcases rulA_mem vs c t (if (v.c.toList == c.toList && decide (v.f ≤ t)) = true then v.r else out) with h | ⟨u, hu, h⟩
    · rw [h]
      split
      · exact .inr ⟨v, List.mem_cons_self .., rfl⟩
      · exact .inl rfl
    · exact .inr ⟨u, List.mem_cons_of_mem _ hu, h⟩
theorem rulAt_rgt {vs : List Vr} (h : RgtV vs) (c : ByteArray) (t : Int) (he : isE (rulAt vs c t) = false) : (parseE numF (rulAt vs c t)).2 = 0 := by
  rcases rulA_mem vs c t ⟨#[]⟩ with h1 | ⟨v, hv, h1⟩
  · unfold rulAt at he
    rw [h1, isE_nil] at he
    cases he
  · unfold rulAt at he ⊢
    rw [h1] at he ⊢
    exact h v hv he
theorem rulAt_size {vs : List Vr} (h : ∀ v ∈ vs, VrW v) (c : ByteArray) (t : Int) : (rulAt vs c t).size ≤ 90000 := by
  unfold rulAt
  rcases rulA_mem vs c t ⟨#[]⟩ with h1 | ⟨v, hv, h1⟩
  · rw [h1]; exact Nat.zero_le _
  · rw [h1]; exact (h v hv).hr
end Go.Proofs.YtlkapcjofgpiiaaGreatDoor
