/-
  The reference's check of rules in plain words: tokens, what can come next, and the tree that is read; all of it stands as the parser's. No Go text is named here.
-/
import Derived.Test.YthbcogekfdllmaaGreatDoorZSlotPure
namespace Go.Proofs.YthbcogekfdllmaaGreatDoor
open Go Go.RowKit

abbrev Tk := ByteArray × Nat
theorem span_gt (p : UInt8 → Bool) (s : ByteArray) (i : Nat) (hi : i < s.size) (h : p s[i] = true) : i < spanF p s i := by
  rw [span_yes p s i hi h]
  have := span_ge p s (i + 1)
  omega
/-- the tokens from i on; the last one is empty -/
def toks (s : ByteArray) (i : Nat) : List Tk :=
  if h : i < s.size then
    if blankB s[i] = true then toks s (i + 1)
    else if markB s[i] = true then (s.extract i (i + 1), i) :: toks s (i + 1)
    else if hw : wordB s[i] = true then (s.extract i (spanF wordB s i), i) :: toks s (spanF wordB s i)
    else [(⟨#[]⟩, i)]
  else [(⟨#[]⟩, s.size)]
termination_by s.size - i
decreasing_by
  · omega
  · omega
  · have := span_gt wordB s i h hw; omega
theorem ba_nil {x : ByteArray} (h : x.size = 0) : x = ⟨#[]⟩ := by
  cases x with
  | mk d =>
    have h2 : d = #[] := Array.eq_empty_of_size_eq_zero h
    rw [h2]
theorem ext_self (s : ByteArray) (i : Nat) : s.extract i i = ⟨#[]⟩ := ba_nil (by rw [ByteArray.size_extract]; omega)
theorem mark_word (c : UInt8) (h : markB c = true) : wordB c = false := by
  unfold markB at h
  unfold wordB
  have h := of_decide_eq_true h
  exact decide_eq_false (by omega)
theorem toks_eq (s : ByteArray) : ∀ (k i : Nat), s.size - i ≤ k → i ≤ s.size →
    toks s i = (s.extract (spanF blankB s i) (tokE s (spanF blankB s i)), spanF blankB s i) :: (if tokE s (spanF blankB s i) = spanF blankB s i then [] else toks s (tokE s (spanF blankB s i)))
  | k, i, hk, hi => by
    rcases Nat.lt_or_ge i s.size with hlt | hge
    · cases hb : blankB s[i]
      · have hj := span_no blankB s i hlt hb
        rw [hj]
        rw [toks, dif_pos hlt, if_neg (by rw [hb]; decide)]
        cases hm : markB s[i]
        · rw [if_neg (by decide)]
          cases hw : wordB s[i]
          · have hE : tokE s i = i := by
              unfold tokE
              rw [if_pos (span_no wordB s i hlt hw), if_neg (by rw [markAt_in s i hlt, hm]; decide)]
            rw [dif_neg (by decide), hE, if_pos rfl, ext_self]
          · have hg := span_gt wordB s i hlt hw
            have hE : tokE s i = spanF wordB s i := by
              unfold tokE
              rw [if_neg (by omega)]
            rw [dif_pos rfl, hE, if_neg (by omega)]
        · have hw := mark_word _ hm
          have hE : tokE s i = i + 1 := by
            unfold tokE
            rw [if_pos (span_no wordB s i hlt hw), if_pos (by rw [markAt_in s i hlt, hm])]
          rw [if_pos rfl, hE, if_neg (by omega)]
      · have hj := span_yes blankB s i hlt hb
        rw [hj, toks, dif_pos hlt, if_pos hb]
        cases k with
        | zero => omega
        | succ k => exact toks_eq s k (i + 1) (by omega) (by omega)
    · obtain rfl : i = s.size := by omega
      have hj := span_end blankB s s.size (Nat.le_refl _)
      have hE : tokE s s.size = s.size := by
        unfold tokE
        rw [if_pos (span_end wordB s s.size (Nat.le_refl _)), if_neg (by rw [markAt_out s s.size (Nat.le_refl _)]; decide)]
      rw [hj, hE, if_pos rfl, ext_self, toks, dif_neg (by omega)]
theorem toks_len (s : ByteArray) : ∀ (k i : Nat), s.size - i ≤ k → i ≤ s.size → (toks s i).length + i ≤ s.size + 1
  | k, i, hk, hi => by
    rw [toks]
    split
    · rename_i hlt
      have hk1 : ∃ k', k = k' + 1 := ⟨k - 1, by omega⟩
      obtain ⟨k', rfl⟩ := hk1
      split
      · have := toks_len s k' (i + 1) (by omega) (by omega); omega
      · split
        · have := toks_len s k' (i + 1) (by omega) (by omega)
          rw [List.length_cons]; omega
        · split
          · rename_i hw
            have hg := span_gt wordB s i hlt hw
            have hle := span_le wordB s i hi
            have := toks_len s k' (spanF wordB s i) (by omega) hle
            rw [List.length_cons]; omega
          · rw [List.length_singleton]; omega
    · rw [List.length_singleton]; omega

/-- the parser stands before the tokens l -/
def TM (s : ByteArray) (t : PSt) (l : List Tk) : Prop := ∃ i, i ≤ s.size ∧ t.at_ = spanF blankB s i ∧ t.tok = s.extract t.at_ (tokE s t.at_) ∧ l = toks s i
theorem TM.cons {s : ByteArray} {t : PSt} {l : List Tk} (h : TM s t l) :
    t.at_ + t.tok.size ≤ s.size ∧ l = (t.tok, t.at_) :: (if t.tok.size = 0 then [] else toks s (t.at_ + t.tok.size)) := by
  obtain ⟨i, hi, h1, h2, rfl⟩ := h
  have hle := span_le blankB s i hi
  rw [← h1] at hle
  have hE := tokE_le s t.at_ hle
  have hG := tokE_ge s t.at_
  have hz : t.tok.size = tokE s t.at_ - t.at_ := by rw [h2, ByteArray.size_extract]; omega
  refine ⟨by omega, ?_⟩
  rw [toks_eq s _ i (Nat.le_refl _) hi, ← h1, ← h2]
  have e : t.at_ + t.tok.size = tokE s t.at_ := by omega
  rw [e]
  by_cases h0 : tokE s t.at_ = t.at_
  · rw [if_pos h0, if_pos (by omega)]
  · rw [if_neg h0, if_neg (by omega)]
theorem TM.len {s : ByteArray} {t : PSt} {l : List Tk} (h : TM s t l) : l.length ≤ s.size + 1 := by
  obtain ⟨i, hi, _, _, rfl⟩ := h
  have := toks_len s _ i (Nat.le_refl _) hi
  omega
theorem TM.next {s : ByteArray} {t : PSt} {l : List Tk} (h : TM s t l) (hz : t.tok.size ≠ 0) : TM s (nextF s t) l.tail := by
  obtain ⟨h1, h2⟩ := h.cons
  refine ⟨t.at_ + t.tok.size, h1, rfl, rfl, ?_⟩
  rw [h2, if_neg hz]
  rfl
theorem TM.same {s : ByteArray} {t t' : PSt} {l : List Tk} (h : TM s t l) (h1 : t'.at_ = t.at_) (h2 : t'.tok = t.tok) : TM s t' l := by
  obtain ⟨i, hi, e1, e2, e3⟩ := h
  exact ⟨i, hi, h1.trans e1, by rw [h2, h1]; exact e2, e3⟩
theorem TM.start (s : ByteArray) : TM s (pst0 s) (toks s 0) := ⟨0, Nat.zero_le _, rfl, rfl, rfl⟩

/-- can t stand where so is wanted, and what is wanted then? -/
def fitF (num : ByteArray → Int × Bool) (want : Nat) (t : ByteArray) (opn : Nat) : Bool × Nat :=
  if want = 0 then
    if t = sOpen ∨ t = sNot then (true, 0) else if t = sTrue then (true, 1) else if t = sHas then (true, 2) else if t = sTime then (true, 5) else (nameB t, 3)
  else if want = 1 then
    if t = sAnd ∨ t = sOr then (true, 0) else if t = sShut then (decide (0 < opn), 1) else (decide (t.size = 0 ∧ opn = 0), 1)
  else if want = 2 then (nameB t, 1)
  else if want = 3 then (decide (t = sEq), 4)
  else if want = 4 then (valueB t, 1)
  else if want = 5 then (decide (t = sLt) || decide (t = sGt), 6)
  else ((num t).2 && decide (0 ≤ (num t).1 ∧ (num t).1 ≤ 864000000), 1)
/-- what is open: true an open mark, false a not -/
def popN : List Bool → List Bool
  | false :: st => popN st
  | st => st
def pushF (want : Nat) (t : ByteArray) (st : List Bool) : List Bool := if t = sOpen ∨ (t = sNot ∧ want = 0) then decide (t = sOpen) :: st else if t = sShut then st.tail else st
def deepF (want : Nat) (t : ByteArray) (i : Nat) (st : List Bool) (deep : Int) : Int := if t = sOpen ∨ (t = sNot ∧ want = 0) then (if 20 < (st.length : Int) ∧ deep < 0 then (i : Int) else deep) else deep
def chkF (num : ByteArray → Int × Bool) (n : Nat) : Nat → List Bool → Int → List Tk → Int × Int
  | _, _, deep, [] => if 0 ≤ deep then (deep, 2) else (0, 0)
  | want, st, deep, t :: l =>
    if (fitF num want t.1 (st.count true)).1 = false ∨ (t.1.size = 0 ∧ t.2 < n) then ((t.2 : Int), 9)
    else chkF num n (fitF num want t.1 (st.count true)).2 (if (fitF num want t.1 (st.count true)).2 = 1 then popN (pushF want t.1 st) else pushF want t.1 st) (deepF want t.1 t.2 st deep) l
def checkE (num : ByteArray → Int × Bool) (s : ByteArray) : Int × Int := if 2000 < s.size then (0, 2) else chkF num s.size 0 [] (-1) (toks s 0)

/-- the reference's tree -/
inductive Nq where
  | node (op atom : ByteArray) (kids : List Nq)
def Nq.op : Nq → ByteArray | .node o _ _ => o
def Nq.kids : Nq → List Nq | .node _ _ k => k
def noB : ByteArray := ⟨#[]⟩
/-- what a kid puts into a list of this kind -/
def splQ (op : ByteArray) (k : Nq) : List Nq := if k.op = op then k.kids else [k]
def joinQ (op : ByteArray) (ks : List Nq) : Nq := match ks with | [k] => k | _ => .node op noB ks
def sBl : ByteArray := ⟨#[32]⟩
def hasQ (x : ByteArray) : ByteArray := ⟨#[104, 97, 115, 32]⟩ ++ x
def triQ (a b c : ByteArray) : ByteArray := a ++ sBl ++ b ++ sBl ++ c
def moreR (op : ByteArray) (part : List Tk → Option (Nq × List Tk)) : Nat → List Nq → List Tk → Option (List Nq × List Tk)
  | 0, _, _ => none
  | _ + 1, _, [] => none
  | m + 1, ks, t :: l =>
    if t.1 = op then
      match part l with
      | none => none
      | some r => moreR op part m (ks ++ splQ op r.1) r.2
    else some (ks, t :: l)
def listR (op : ByteArray) (part : List Tk → Option (Nq × List Tk)) (l : List Tk) : Option (Nq × List Tk) :=
  match part l with
  | none => none
  | some r => match moreR op part l.length (splQ op r.1) r.2 with
    | none => none
    | some q => some (joinQ op q.1, q.2)
def hasR : List Tk → Option (Nq × List Tk)
  | [] => none
  | x :: l => some (.node noB (hasQ x.1) [], l)
def triR (t : ByteArray) : List Tk → Option (Nq × List Tk)
  | x :: y :: l => some (.node noB (triQ t x.1 y.1) [], l)
  | _ => none
def shutR : Option (Nq × List Tk) → Option (Nq × List Tk)
  | some (n, _ :: l) => some (n, l)
  | _ => none
def notQ : Option (Nq × List Tk) → Option (Nq × List Tk)
  | none => none
  | some r => some (.node sNot noB [r.1], r.2)
def notR : Nat → List Tk → Option (Nq × List Tk)
  | 0, _ => none
  | _ + 1, [] => none
  | f + 1, t :: l =>
    if t.1 = sNot then notQ (notR f l)
    else if t.1 = sOpen then shutR (listR sOr (listR sAnd (notR f)) l)
    else if t.1 = sTrue then some (.node noB sTrue [], l)
    else if t.1 = sHas then hasR l
    else triR t.1 l
def orR (f : Nat) (l : List Tk) : Option (Nq × List Tk) := listR sOr (listR sAnd (notR f)) l

/-- an atom's text -/
def txtA (a : Atm) : ByteArray :=
  if a.word = sTrue then sTrue else if a.word = sHas then hasQ a.name else if a.word = sEq then triQ a.name sEq a.value else triQ sTime a.word a.value
/-- the parser's tree as the reference has it: parts of one kind in one list -/
def flat : Nd → Nq
  | .node kind kids a =>
    if kind = 4 then .node noB (txtA a) []
    else if kind = 3 then .node sNot noB (kids.attach.map fun k => flat k.1)
    else if kind = 1 then .node sOr noB (kids.attach.flatMap fun k => splQ sOr (flat k.1))
    else .node sAnd noB (kids.attach.flatMap fun k => splQ sAnd (flat k.1))
termination_by t => SizeOf.sizeOf t
decreasing_by
  all_goals
    have := List.sizeOf_lt_of_mem k.2
    simp only [Nd.node.sizeOf_spec]
    omega
theorem flat_eq (kind : Int) (kids : List Nd) (a : Atm) : flat (.node kind kids a) =
    if kind = 4 then .node noB (txtA a) []
    else if kind = 3 then .node sNot noB (kids.map flat)
    else if kind = 1 then .node sOr noB (kids.flatMap fun k => splQ sOr (flat k))
    else .node sAnd noB (kids.flatMap fun k => splQ sAnd (flat k)) := by
  rw [flat]
  have e1 : (kids.attach.map fun k => flat k.1) = kids.map flat := by
    exact List.attach_map_val (l := kids) (f := flat)
  have e2 (o : ByteArray) : (kids.attach.flatMap fun k => splQ o (flat k.1)) = kids.flatMap fun k => splQ o (flat k) := by
    rw [List.flatMap_def, List.flatMap_def]
    exact congrArg List.flatten (List.attach_map_val (l := kids) (f := fun k => splQ o (flat k)))
  rw [e1, e2, e2]
/-- how many nodes a tree has -/
def cntN : Nd → Nat
  | .node _ ks _ => 1 + (ks.attach.map fun k => cntN k.1).sum
termination_by t => SizeOf.sizeOf t
decreasing_by
  have := List.sizeOf_lt_of_mem k.2
  simp only [Nd.node.sizeOf_spec]
  omega
theorem cntN_eq (kind : Int) (ks : List Nd) (a : Atm) : cntN (.node kind ks a) = 1 + (ks.map cntN).sum := by
  rw [cntN]
  have e1 : (ks.attach.map fun k => cntN k.1) = ks.map cntN := List.attach_map_val (l := ks) (f := cntN)
  rw [e1]
/-- an atom that was read -/
def AtmOk (num : ByteArray → Int × Bool) (a : Atm) : Prop :=
  (a.word = sTrue ∧ a.name = noB ∧ a.value = noB) ∨ (a.word = sHas ∧ nameB a.name = true ∧ a.value = noB) ∨ (a.word = sEq ∧ nameB a.name = true ∧ valueB a.value = true) ∨
  ((a.word = sLt ∨ a.word = sGt) ∧ a.name = noB ∧ (num a.value).2 = true ∧ a.n = (num a.value).1 ∧ 0 ≤ a.n ∧ a.n ≤ 864000000)
/-- a tree that was read -/
inductive NdOk (num : ByteArray → Int × Bool) : Nd → Prop
  | atom (a : Atm) (h : AtmOk num a) : NdOk num (.node 4 [] a)
  | not (k : Nd) (h : NdOk num k) : NdOk num (.node 3 [k] atm0)
  | or (ks : List Nd) (h2 : 2 ≤ ks.length) (h : ∀ k ∈ ks, NdOk num k) : NdOk num (.node 1 ks atm0)
  | and (ks : List Nd) (h2 : 2 ≤ ks.length) (h : ∀ k ∈ ks, NdOk num k) : NdOk num (.node 2 ks atm0)
end Go.Proofs.YthbcogekfdllmaaGreatDoor
