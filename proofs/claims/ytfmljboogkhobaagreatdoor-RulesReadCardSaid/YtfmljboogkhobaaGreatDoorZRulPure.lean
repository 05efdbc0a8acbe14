/-
  The parser of rules in plain words: tokens, and the tree that is read. No Go text is named here.
-/
import Derived.Test.YtfmljboogkhobaaGreatDoorZKey
import Derived.Lib.Join
import Derived.Lib.SlicesCompact
namespace Go.Proofs.YtfmljboogkhobaaGreatDoor
open Go Go.RowKit

def wordB (c : UInt8) : Bool := decide ((97 ≤ c.toNat ∧ c.toNat ≤ 122) ∨ (48 ≤ c.toNat ∧ c.toNat ≤ 57) ∨ c.toNat = 45 ∨ c.toNat = 95 ∨ c.toNat = 46)
def blankB (c : UInt8) : Bool := decide (c.toNat = 32)
def markB (c : UInt8) : Bool := decide (c.toNat = 40 ∨ c.toNat = 41 ∨ c.toNat = 61 ∨ c.toNat = 60 ∨ c.toNat = 62)
/-- the first place from i on whose byte is not as p says -/
def spanF (p : UInt8 → Bool) (s : ByteArray) (i : Nat) : Nat := i + ((s.data.toList.drop i).takeWhile p).length
theorem span_yes (p : UInt8 → Bool) (s : ByteArray) (i : Nat) (hi : i < s.size) (h : p s[i] = true) : spanF p s i = spanF p s (i + 1) := by
  unfold spanF
  have hl : i < s.data.toList.length := by simpa using hi
  rw [List.drop_eq_getElem_cons hl, List.takeWhile_cons]
  have : p s.data.toList[i] = true := h
  rw [if_pos this, List.length_cons]
  omega
theorem span_no (p : UInt8 → Bool) (s : ByteArray) (i : Nat) (hi : i < s.size) (h : p s[i] = false) : spanF p s i = i := by
  unfold spanF
  have hl : i < s.data.toList.length := by simpa using hi
  rw [List.drop_eq_getElem_cons hl, List.takeWhile_cons]
  have : p s.data.toList[i] = false := h
  rw [if_neg (by rw [this]; decide)]
  rfl
theorem span_end (p : UInt8 → Bool) (s : ByteArray) (i : Nat) (hi : s.size ≤ i) : spanF p s i = i := by
  unfold spanF
  rw [List.drop_eq_nil_of_le (by simpa using hi)]
  rfl
theorem span_ge (p : UInt8 → Bool) (s : ByteArray) (i : Nat) : i ≤ spanF p s i := by unfold spanF; omega
theorem span_le (p : UInt8 → Bool) (s : ByteArray) (i : Nat) (hi : i ≤ s.size) : spanF p s i ≤ s.size := by
  unfold spanF
  have h : ((s.data.toList.drop i).takeWhile p).length ≤ (s.data.toList.drop i).length := (List.takeWhile_sublist _).length_le
  rw [List.length_drop] at h
  have : s.data.toList.length = s.size := by simp
  omega
/-- is there a mark at i? -/
def markAt (s : ByteArray) (i : Nat) : Bool := match s.data.toList[i]? with | some c => markB c | none => false
theorem markAt_in (s : ByteArray) (i : Nat) (hi : i < s.size) : markAt s i = markB s[i] := by
  unfold markAt
  have hl : i < s.data.toList.length := by simpa using hi
  rw [List.getElem?_eq_getElem hl]
  rfl
theorem markAt_out (s : ByteArray) (i : Nat) (hi : s.size ≤ i) : markAt s i = false := by
  unfold markAt
  rw [List.getElem?_eq_none (by simpa using hi)]
/-- the end of the token that begins at i -/
def tokE (s : ByteArray) (i : Nat) : Nat := if spanF wordB s i = i then (if markAt s i = true then i + 1 else i) else spanF wordB s i
theorem tokE_ge (s : ByteArray) (i : Nat) : i ≤ tokE s i := by
  unfold tokE
  split
  · split <;> omega
  · exact span_ge _ _ _
theorem tokE_le (s : ByteArray) (i : Nat) (hi : i ≤ s.size) : tokE s i ≤ s.size := by
  unfold tokE
  split
  · split
    · rename_i h
      rcases Nat.lt_or_ge i s.size with hlt | hge
      · omega
      · rw [markAt_out s i hge] at h; cases h
    · exact hi
  · exact span_le _ _ _ hi

/-- a parser as it goes -/
structure PSt where
  at_ : Nat
  tok : ByteArray
  deep : Int
  bad : Bool
def nextF (s : ByteArray) (t : PSt) : PSt :=
  { t with at_ := spanF blankB s (t.at_ + t.tok.size), tok := s.extract (spanF blankB s (t.at_ + t.tok.size)) (tokE s (spanF blankB s (t.at_ + t.tok.size))) }
def takeS (t : PSt) (ok : Bool) : ByteArray := if (t.bad || !ok) = true then ⟨#[]⟩ else t.tok
def takeF (s : ByteArray) (t : PSt) (ok : Bool) : PSt := if (t.bad || !ok) = true then { t with bad := true } else nextF s t
def nestF (d : Int) (t : PSt) : PSt := if 20 < d ∧ t.deep < 0 then { t with deep := t.at_ } else t

/-- what holds of each parser on its way -/
structure POk (s : ByteArray) (t : PSt) : Prop where
  at_ : t.at_ + t.tok.size ≤ s.size
  deep : -1 ≤ t.deep ∧ t.deep ≤ s.size
  tok : ∃ i, t.tok = s.extract i (tokE s i)
theorem POk.next {s : ByteArray} {t : PSt} (h : POk s t) : POk s (nextF s t) := by
  have h1 := span_le blankB s (t.at_ + t.tok.size) h.at_
  have h2 := tokE_le s _ h1
  have h3 := tokE_ge s (spanF blankB s (t.at_ + t.tok.size))
  refine ⟨?_, h.deep, _, rfl⟩
  simp only [nextF, ByteArray.size_extract]
  omega
theorem next_ge {s : ByteArray} {t : PSt} : t.at_ + t.tok.size ≤ (nextF s t).at_ := span_ge _ _ _
theorem POk.take {s : ByteArray} {t : PSt} (h : POk s t) (ok : Bool) : POk s (takeF s t ok) := by
  unfold takeF
  split
  · exact ⟨h.at_, h.deep, h.tok⟩
  · exact h.next
theorem take_ge {s : ByteArray} {t : PSt} (ok : Bool) : t.at_ ≤ (takeF s t ok).at_ := by
  unfold takeF
  split
  · exact Nat.le_refl _
  · have := next_ge (s := s) (t := t); omega
theorem POk.nest {s : ByteArray} {t : PSt} (h : POk s t) (d : Int) : POk s (nestF d t) := by
  unfold nestF
  split
  · exact ⟨h.at_, ⟨by simp only; omega, by have := h.at_; simp only; omega⟩, h.tok⟩
  · exact h

structure Atm where
  word : ByteArray
  name : ByteArray
  value : ByteArray
  n : Int
inductive Nd where
  | node (kind : Int) (kids : List Nd) (a : Atm)
def atm0 : Atm := ⟨⟨#[]⟩, ⟨#[]⟩, ⟨#[]⟩, 0⟩
def nd0 : Nd := .node 0 [] atm0
def sOr : ByteArray := ⟨#[111, 114]⟩
def sAnd : ByteArray := ⟨#[97, 110, 100]⟩
def sNot : ByteArray := ⟨#[110, 111, 116]⟩
def sHas : ByteArray := ⟨#[104, 97, 115]⟩
def sTrue : ByteArray := ⟨#[116, 114, 117, 101]⟩
def sTime : ByteArray := ⟨#[116, 105, 109, 101]⟩
def sEq : ByteArray := ⟨#[61]⟩
def sLt : ByteArray := ⟨#[60]⟩
def sGt : ByteArray := ⟨#[62]⟩
def sOpen : ByteArray := ⟨#[40]⟩
def sShut : ByteArray := ⟨#[41]⟩
/-- the parts of an or, or an and, on and on -/
def loopF (s : ByteArray) (word : ByteArray) (part : PSt → Nd × PSt) : Nat → List Nd → PSt → List Nd × PSt
  | 0, ks, t => (ks, t)
  | m + 1, ks, t => if t.bad = false ∧ t.tok = word then loopF s word part m (ks ++ [(part (nextF s t)).1]) (part (nextF s t)).2 else (ks, t)
def joinF (kind : Int) (ks : List Nd) : Nd := match ks with | [k] => k | _ => .node kind ks atm0
def manyF (s : ByteArray) (kind : Int) (word : ByteArray) (part : PSt → Nd × PSt) (t : PSt) : Nd × PSt :=
  (joinF kind (loopF s word part (s.size + 1) [(part t).1] (part t).2).1, (loopF s word part (s.size + 1) [(part t).1] (part t).2).2)
/-- may it be the name, the value of an atom? -/
def nameB (x : ByteArray) : Bool := keyB x.data.toList && !([sTime, sAnd, sOr, sNot, sHas, sTrue].any fun y => x.toList == y.toList)
def valueB (x : ByteArray) : Bool := decide (1 ≤ x.size ∧ x.size ≤ 40) && x.data.toList.all wordB
/-- an atom; num: how a number is read -/
def atomF (num : ByteArray → Int × Bool) (s : ByteArray) (t : PSt) : Atm × PSt :=
  if t.tok = sTrue then (⟨sTrue, ⟨#[]⟩, ⟨#[]⟩, 0⟩, takeF s t true)
  else if t.tok = sHas then (⟨sHas, takeS (takeF s t true) (nameB (takeF s t true).tok), ⟨#[]⟩, 0⟩, takeF s (takeF s t true) (nameB (takeF s t true).tok))
  else if t.tok = sTime then
    let t1 := takeF s t true
    let ok1 := decide (t1.tok = sLt) || decide (t1.tok = sGt)
    let t2 := takeF s t1 ok1
    let ok2 := (num t2.tok).2 && decide (0 ≤ (num t2.tok).1 ∧ (num t2.tok).1 ≤ 864000000)
    (⟨takeS t1 ok1, ⟨#[]⟩, takeS t2 ok2, (num t2.tok).1⟩, takeF s t2 ok2)
  else
    let t1 := takeF s t (nameB t.tok)
    let t2 := takeF s t1 (decide (t1.tok = sEq))
    (⟨sEq, takeS t (nameB t.tok), takeS t2 (valueB t2.tok), 0⟩, takeF s t2 (valueB t2.tok))
def notF (num : ByteArray → Int × Bool) (s : ByteArray) : Nat → Int → PSt → Nd × PSt
  | 0, _, t => (nd0, t)
  | f + 1, d, t =>
    if t.tok = sNot then (.node 3 [(notF num s f (d + 1) (takeF s (nestF d t) true)).1] atm0, (notF num s f (d + 1) (takeF s (nestF d t) true)).2)
    else if t.tok = sOpen then
      let r := manyF s 1 sOr (manyF s 2 sAnd (notF num s f (d + 1))) (takeF s (nestF d t) true)
      (r.1, takeF s r.2 (decide (r.2.tok = sShut)))
    else (.node 4 [] (atomF num s t).1, (atomF num s t).2)
def orF (num : ByteArray → Int × Bool) (s : ByteArray) (f : Nat) (d : Int) (t : PSt) : Nd × PSt := manyF s 1 sOr (manyF s 2 sAnd (notF num s f d)) t
def pst0 (s : ByteArray) : PSt := nextF s ⟨0, ⟨#[]⟩, -1, false⟩
def parseT (num : ByteArray → Int × Bool) (s : ByteArray) : Nd × PSt := orF num s (s.size + 1) 0 (pst0 s)
/-- the offset and the error of a rule -/
def parseE (num : ByteArray → Int × Bool) (s : ByteArray) : Int × Int :=
  if 2000 < s.size then (0, 2)
  else if ((parseT num s).2.bad || decide ((parseT num s).2.at_ < s.size)) = true then ((parseT num s).2.at_, 9)
  else if 0 ≤ (parseT num s).2.deep then ((parseT num s).2.deep, 2) else (0, 0)
theorem pst_ok (s : ByteArray) : POk s ⟨0, ⟨#[]⟩, -1, false⟩ := by
  refine ⟨(by show 0 + 0 ≤ s.size; omega), ⟨(by show (-1 : Int) ≤ -1; omega), (by show (-1 : Int) ≤ s.size; omega)⟩, s.size, ?_⟩
  have h : (s.extract s.size (tokE s s.size)).size = 0 := by rw [ByteArray.size_extract]; omega
  have h2 : (s.extract s.size (tokE s s.size)).data = #[] := Array.eq_empty_of_size_eq_zero h
  cases hx : s.extract s.size (tokE s s.size) with
  | mk d => rw [hx] at h2; simp only at h2; rw [h2]
/-- no token of s is 'time' -/
def NoTime (s : ByteArray) : Prop := ∀ i, s.extract i (tokE s i) ≠ sTime
theorem POk.noTime {s : ByteArray} {t : PSt} (h : POk s t) (hn : NoTime s) : t.tok ≠ sTime := by
  obtain ⟨i, hi⟩ := h.tok
  rw [hi]
  exact hn i
theorem atom_ok (num : ByteArray → Int × Bool) {s : ByteArray} {t : PSt} (h : POk s t) : POk s (atomF num s t).2 ∧ t.at_ ≤ (atomF num s t).2.at_ := by
  unfold atomF
  split
  · exact ⟨h.take _, take_ge _⟩
  · split
    · exact ⟨(h.take _).take _, Nat.le_trans (take_ge _) (take_ge _)⟩
    · split
      · exact ⟨((h.take _).take _).take _, Nat.le_trans (take_ge _) (Nat.le_trans (take_ge _) (take_ge _))⟩
      · exact ⟨((h.take _).take _).take _, Nat.le_trans (take_ge _) (Nat.le_trans (take_ge _) (take_ge _))⟩
end Go.Proofs.YtfmljboogkhobaaGreatDoor
/-
  The reference's check of rules in plain words: tokens, what can come next, and the tree that is read; all of it stands as the parser's. No Go text is named here.
-/
namespace Go.Proofs.YtfmljboogkhobaaGreatDoor
open Go Go.RowKit

abbrev Tk := ByteArray × Nat
theorem span_gt (p : UInt8 → Bool) (s : ByteArray) (i : Nat) (hi : i < s.size) (h : p s[i] = true) : i < spanF p s i := by
  rw [span_yes p s i hi h]
  have := span_ge p s (i + 1)
  omega
/-- the tokens from i on; the last one is empty -/
def toks (s : ByteArray) (i : Nat) : List Tk :=
  if h : i < s.size then
    if blankB s[i] = true then toks s (i + 1)
    else if markB s[i] = true then (s.extract i (i + 1), i) :: toks s (i + 1)
    else if hw : wordB s[i] = true then (s.extract i (spanF wordB s i), i) :: toks s (spanF wordB s i)
    else [(⟨#[]⟩, i)]
  else [(⟨#[]⟩, s.size)]
termination_by s.size - i
decreasing_by
  · omega
  · omega
  · have := span_gt wordB s i h hw; omega
theorem ba_nil {x : ByteArray} (h : x.size = 0) : x = ⟨#[]⟩ := by
  cases x with
  | mk d =>
    have h2 : d = #[] := Array.eq_empty_of_size_eq_zero h
    rw [h2]
theorem ext_self (s : ByteArray) (i : Nat) : s.extract i i = ⟨#[]⟩ := ba_nil (by rw [ByteArray.size_extract]; omega)
theorem mark_word (c : UInt8) (h : markB c = true) : wordB c = false := by
  unfold markB at h
  unfold wordB
  have h := of_decide_eq_true h
  exact decide_eq_false (by omega)
theorem toks_eq (s : ByteArray) : ∀ (k i : Nat), s.size - i ≤ k → i ≤ s.size →
    toks s i = (s.extract (spanF blankB s i) (tokE s (spanF blankB s i)), spanF blankB s i) :: (if tokE s (spanF blankB s i) = spanF blankB s i then [] else toks s (tokE s (spanF blankB s i)))
  | k, i, hk, hi => by
    rcases Nat.lt_or_ge i s.size with hlt | hge
    · cases hb : blankB s[i]
      · have hj := span_no blankB s i hlt hb
        rw [hj]
        rw [toks, dif_pos hlt, if_neg (by rw [hb]; decide)]
        cases hm : markB s[i]
        · rw [if_neg (by decide)]
          cases hw : wordB s[i]
          · have hE : tokE s i = i := by
              unfold tokE
              rw [if_pos (span_no wordB s i hlt hw), if_neg (by rw [markAt_in s i hlt, hm]; decide)]
            rw [dif_neg (by decide), hE, if_pos rfl, ext_self]
          · have hg := span_gt wordB s i hlt hw
            have hE : tokE s i = spanF wordB s i := by
              unfold tokE
              rw [if_neg (by omega)]
            rw [dif_pos rfl, hE, if_neg (by omega)]
        · have hw := mark_word _ hm
          have hE : tokE s i = i + 1 := by
            unfold tokE
            rw [if_pos (span_no wordB s i hlt hw), if_pos (by rw [markAt_in s i hlt, hm])]
          rw [if_pos rfl, hE, if_neg (by omega)]
      · have hj := span_yes blankB s i hlt hb
        rw [hj, toks, dif_pos hlt, if_pos hb]
        cases k with
        | zero => omega
        | succ k => exact toks_eq s k (i + 1) (by omega) (by omega)
    · obtain rfl : i = s.size := by omega
      have hj := span_end blankB s s.size (Nat.le_refl _)
      have hE : tokE s s.size = s.size := by
        unfold tokE
        rw [if_pos (span_end wordB s s.size (Nat.le_refl _)), if_neg (by rw [markAt_out s s.size (Nat.le_refl _)]; decide)]
      rw [hj, hE, if_pos rfl, ext_self, toks, dif_neg (by omega)]
theorem toks_len (s : ByteArray) : ∀ (k i : Nat), s.size - i ≤ k → i ≤ s.size → (toks s i).length + i ≤ s.size + 1
  | k, i, hk, hi => by
    rw [toks]
    split
    · rename_i hlt
      have hk1 : ∃ k', k = k' + 1 := ⟨k - 1, by omega⟩
      obtain ⟨k', rfl⟩ := hk1
      split
      · have := toks_len s k' (i + 1) (by omega) (by omega); omega
      · split
        · have := toks_len s k' (i + 1) (by omega) (by omega)
          rw [List.length_cons]; omega
        · split
          · rename_i hw
            have hg := span_gt wordB s i hlt hw
            have hle := span_le wordB s i hi
            have := toks_len s k' (spanF wordB s i) (by omega) hle
            rw [List.length_cons]; omega
          · rw [List.length_singleton]; omega
    · rw [List.length_singleton]; omega

/-- the parser stands before the tokens l -/
def TM (s : ByteArray) (t : PSt) (l : List Tk) : Prop := ∃ i, i ≤ s.size ∧ t.at_ = spanF blankB s i ∧ t.tok = s.extract t.at_ (tokE s t.at_) ∧ l = toks s i
theorem TM.cons {s : ByteArray} {t : PSt} {l : List Tk} (h : TM s t l) :
    t.at_ + t.tok.size ≤ s.size ∧ l = (t.tok, t.at_) :: (if t.tok.size = 0 then [] else toks s (t.at_ + t.tok.size)) := by
  obtain ⟨i, hi, h1, h2, rfl⟩ := h
  have hle := span_le blankB s i hi
  rw [← h1] at hle
  have hE := tokE_le s t.at_ hle
  have hG := tokE_ge s t.at_
  have hz : t.tok.size = tokE s t.at_ - t.at_ := by rw [h2, ByteArray.size_extract]; omega
  refine ⟨by omega, ?_⟩
  rw [toks_eq s _ i (Nat.le_refl _) hi, ← h1, ← h2]
  have e : t.at_ + t.tok.size = tokE s t.at_ := by omega
  rw [e]
  by_cases h0 : tokE s t.at_ = t.at_
  · rw [if_pos h0, if_pos (by omega)]
  · rw [if_neg h0, if_neg (by omega)]
theorem TM.len {s : ByteArray} {t : PSt} {l : List Tk} (h : TM s t l) : l.length ≤ s.size + 1 := by
  obtain ⟨i, hi, _, _, rfl⟩ := h
  have := toks_len s _ i (Nat.le_refl _) hi
  omega
theorem TM.next {s : ByteArray} {t : PSt} {l : List Tk} (h : TM s t l) (hz : t.tok.size ≠ 0) : TM s (nextF s t) l.tail := by
  obtain ⟨h1, h2⟩ := h.cons
  refine ⟨t.at_ + t.tok.size, h1, rfl, rfl, ?_⟩
  rw [h2, if_neg hz]
  rfl
theorem TM.same {s : ByteArray} {t t' : PSt} {l : List Tk} (h : TM s t l) (h1 : t'.at_ = t.at_) (h2 : t'.tok = t.tok) : TM s t' l := by
  obtain ⟨i, hi, e1, e2, e3⟩ := h
  exact ⟨i, hi, h1.trans e1, by rw [h2, h1]; exact e2, e3⟩
theorem TM.start (s : ByteArray) : TM s (pst0 s) (toks s 0) := ⟨0, Nat.zero_le _, rfl, rfl, rfl⟩

/-- can t stand where so is wanted, and what is wanted then? -/
def fitF (num : ByteArray → Int × Bool) (want : Nat) (t : ByteArray) (opn : Nat) : Bool × Nat :=
  if want = 0 then
    if t = sOpen ∨ t = sNot then (true, 0) else if t = sTrue then (true, 1) else if t = sHas then (true, 2) else if t = sTime then (true, 5) else (nameB t, 3)
  else if want = 1 then
    if t = sAnd ∨ t = sOr then (true, 0) else if t = sShut then (decide (0 < opn), 1) else (decide (t.size = 0 ∧ opn = 0), 1)
  else if want = 2 then (nameB t, 1)
  else if want = 3 then (decide (t = sEq), 4)
  else if want = 4 then (valueB t, 1)
  else if want = 5 then (decide (t = sLt) || decide (t = sGt), 6)
  else ((num t).2 && decide (0 ≤ (num t).1 ∧ (num t).1 ≤ 864000000), 1)
/-- what is open: true an open mark, false a not -/
def popN : List Bool → List Bool
  | false :: st => popN st
  | st => st
def pushF (want : Nat) (t : ByteArray) (st : List Bool) : List Bool := if t = sOpen ∨ (t = sNot ∧ want = 0) then decide (t = sOpen) :: st else if t = sShut then st.tail else st
def deepF (want : Nat) (t : ByteArray) (i : Nat) (st : List Bool) (deep : Int) : Int := if t = sOpen ∨ (t = sNot ∧ want = 0) then (if 20 < (st.length : Int) ∧ deep < 0 then (i : Int) else deep) else deep
def chkF (num : ByteArray → Int × Bool) (n : Nat) : Nat → List Bool → Int → List Tk → Int × Int
  | _, _, deep, [] => if 0 ≤ deep then (deep, 2) else (0, 0)
  | want, st, deep, t :: l =>
    if (fitF num want t.1 (st.count true)).1 = false ∨ (t.1.size = 0 ∧ t.2 < n) then ((t.2 : Int), 9)
    else chkF num n (fitF num want t.1 (st.count true)).2 (if (fitF num want t.1 (st.count true)).2 = 1 then popN (pushF want t.1 st) else pushF want t.1 st) (deepF want t.1 t.2 st deep) l
def checkE (num : ByteArray → Int × Bool) (s : ByteArray) : Int × Int := if 2000 < s.size then (0, 2) else chkF num s.size 0 [] (-1) (toks s 0)

/-- the reference's tree -/
inductive Nq where
  | node (op atom : ByteArray) (kids : List Nq)
def Nq.op : Nq → ByteArray | .node o _ _ => o
def Nq.kids : Nq → List Nq | .node _ _ k => k
def noB : ByteArray := ⟨#[]⟩
/-- what a kid puts into a list of this kind -/
def splQ (op : ByteArray) (k : Nq) : List Nq := if k.op = op then k.kids else [k]
def joinQ (op : ByteArray) (ks : List Nq) : Nq := match ks with | [k] => k | _ => .node op noB ks
def sBl : ByteArray := ⟨#[32]⟩
def hasQ (x : ByteArray) : ByteArray := ⟨#[104, 97, 115, 32]⟩ ++ x
def triQ (a b c : ByteArray) : ByteArray := a ++ sBl ++ b ++ sBl ++ c
def moreR (op : ByteArray) (part : List Tk → Option (Nq × List Tk)) : Nat → List Nq → List Tk → Option (List Nq × List Tk)
  | 0, _, _ => none
  | _ + 1, _, [] => none
  | m + 1, ks, t :: l =>
    if t.1 = op then
      match part l with
      | none => none
      | some r => moreR op part m (ks ++ splQ op r.1) r.2
    else some (ks, t :: l)
def listR (op : ByteArray) (part : List Tk → Option (Nq × List Tk)) (l : List Tk) : Option (Nq × List Tk) :=
  match part l with
  | none => none
  | some r => match moreR op part l.length (splQ op r.1) r.2 with
    | none => none
    | some q => some (joinQ op q.1, q.2)
def hasR : List Tk → Option (Nq × List Tk)
  | [] => none
  | x :: l => some (.node noB (hasQ x.1) [], l)
def triR (t : ByteArray) : List Tk → Option (Nq × List Tk)
  | x :: y :: l => some (.node noB (triQ t x.1 y.1) [], l)
  | _ => none
def shutR : Option (Nq × List Tk) → Option (Nq × List Tk)
  | some (n, _ :: l) => some (n, l)
  | _ => none
def notQ : Option (Nq × List Tk) → Option (Nq × List Tk)
  | none => none
  | some r => some (.node sNot noB [r.1], r.2)
def notR : Nat → List Tk → Option (Nq × List Tk)
  | 0, _ => none
  | _ + 1, [] => none
  | f + 1, t :: l =>
    if t.1 = sNot then notQ (notR f l)
    else if t.1 = sOpen then shutR (listR sOr (listR sAnd (notR f)) l)
    else if t.1 = sTrue then some (.node noB sTrue [], l)
    else if t.1 = sHas then hasR l
    else triR t.1 l
def orR (f : Nat) (l : List Tk) : Option (Nq × List Tk) := listR sOr (listR sAnd (notR f)) l

/-- an atom's text -/
def txtA (a : Atm) : ByteArray :=
  if a.word = sTrue then sTrue else if a.word = sHas then hasQ a.name else if a.word = sEq then triQ a.name sEq a.value else triQ sTime a.word a.value
/-- the parser's tree as the reference has it: parts of one kind in one list -/
def flat : Nd → Nq
  | .node kind kids a =>
    if kind = 4 then .node noB (txtA a) []
    else if kind = 3 then .node sNot noB (kids.attach.map fun k => flat k.1)
    else if kind = 1 then .node sOr noB (kids.attach.flatMap fun k => splQ sOr (flat k.1))
    else .node sAnd noB (kids.attach.flatMap fun k => splQ sAnd (flat k.1))
termination_by t => SizeOf.sizeOf t
decreasing_by
  all_goals
    have := List.sizeOf_lt_of_mem k.2
    simp only [Nd.node.sizeOf_spec]
    omega
theorem flat_eq (kind : Int) (kids : List Nd) (a : Atm) : flat (.node kind kids a) =
    if kind = 4 then .node noB (txtA a) []
    else if kind = 3 then .node sNot noB (kids.map flat)
    else if kind = 1 then .node sOr noB (kids.flatMap fun k => splQ sOr (flat k))
    else .node sAnd noB (kids.flatMap fun k => splQ sAnd (flat k)) := by
  rw [flat]
  have e1 : (kids.attach.map fun k => flat k.1) = kids.map flat := by
    exact List.attach_map_val (l := kids) (f := flat)
  have e2 (o : ByteArray) : (kids.attach.flatMap fun k => splQ o (flat k.1)) = kids.flatMap fun k => splQ o (flat k) := by
    rw [List.flatMap_def, List.flatMap_def]
    exact congrArg List.flatten (List.attach_map_val (l := kids) (f := fun k => splQ o (flat k)))
  rw [e1, e2, e2]
/-- how many nodes a tree has -/
def cntN : Nd → Nat
  | .node _ ks _ => 1 + (ks.attach.map fun k => cntN k.1).sum
termination_by t => SizeOf.sizeOf t
decreasing_by
  have := List.sizeOf_lt_of_mem k.2
  simp only [Nd.node.sizeOf_spec]
  omega
theorem cntN_eq (kind : Int) (ks : List Nd) (a : Atm) : cntN (.node kind ks a) = 1 + (ks.map cntN).sum := by
  rw [cntN]
  have e1 : (ks.attach.map fun k => cntN k.1) = ks.map cntN := List.attach_map_val (l := ks) (f := cntN)
  rw [e1]
theorem cntN_pos (t : Nd) : 1 ≤ cntN t := by
  cases t
  rw [cntN_eq]
  omega
/-- an atom that was read -/
def AtmOk (num : ByteArray → Int × Bool) (a : Atm) : Prop :=
  (a.word = sTrue ∧ a.name = noB ∧ a.value = noB) ∨ (a.word = sHas ∧ nameB a.name = true ∧ a.value = noB) ∨ (a.word = sEq ∧ nameB a.name = true ∧ valueB a.value = true) ∨
  ((a.word = sLt ∨ a.word = sGt) ∧ a.name = noB ∧ (num a.value).2 = true ∧ a.n = (num a.value).1 ∧ 0 ≤ a.n ∧ a.n ≤ 864000000)
/-- a tree that was read -/
inductive NdOk (num : ByteArray → Int × Bool) : Nd → Prop
  | atom (a : Atm) (h : AtmOk num a) : NdOk num (.node 4 [] a)
  | not (k : Nd) (h : NdOk num k) : NdOk num (.node 3 [k] atm0)
  | or (ks : List Nd) (h2 : 2 ≤ ks.length) (h : ∀ k ∈ ks, NdOk num k) : NdOk num (.node 1 ks atm0)
  | and (ks : List Nd) (h2 : 2 ≤ ks.length) (h : ∀ k ∈ ks, NdOk num k) : NdOk num (.node 2 ks atm0)
end Go.Proofs.YtfmljboogkhobaaGreatDoor
/-
  The reference's check of a rule answers as the parser does, and its tree is the parser's, flat. No Go text is named here.
-/
namespace Go.Proofs.YtfmljboogkhobaaGreatDoor
open Go Go.RowKit

theorem flat_leaf (a : Atm) : flat (.node 4 [] a) = .node noB (txtA a) [] := by rw [flat_eq, if_pos rfl]
theorem flat_not (k : Nd) (a : Atm) : flat (.node 3 [k] a) = .node sNot noB [flat k] := by rw [flat_eq, if_neg (by decide), if_pos rfl]; rfl
theorem flat_or (ks : List Nd) (a : Atm) : flat (.node 1 ks a) = .node sOr noB (ks.flatMap fun k => splQ sOr (flat k)) := by rw [flat_eq, if_neg (by decide), if_neg (by decide), if_pos rfl]
theorem flat_and (ks : List Nd) (a : Atm) : flat (.node 2 ks a) = .node sAnd noB (ks.flatMap fun k => splQ sAnd (flat k)) := by rw [flat_eq, if_neg (by decide), if_neg (by decide), if_neg (by decide)]
theorem flatMap_len {α β : Type} (f : α → List β) : ∀ (l : List α), (∀ x ∈ l, 1 ≤ (f x).length) → l.length ≤ (l.flatMap f).length
  | [], _ => Nat.zero_le _
  | x :: l, h => by
    have h1 := h x (List.mem_cons_self ..)
    have h2 := flatMap_len f l (fun y hy => h y (List.mem_cons_of_mem _ hy))
    rw [List.flatMap_cons, List.length_append, List.length_cons]
    omega
/-- an or, an and has two kids, and no atom -/
def FOk (n : Nq) : Prop := n.op = sOr ∨ n.op = sAnd → 2 ≤ n.kids.length ∧ n = .node n.op noB n.kids
theorem FOk.spl {n : Nq} (h : FOk n) {op : ByteArray} (hop : op = sOr ∨ op = sAnd) : 1 ≤ (splQ op n).length := by
  unfold splQ
  split
  · rename_i he
    have := (h (by rw [he]; exact hop)).1
    omega
  · exact Nat.le_refl 1
theorem flat_fok {num : ByteArray → Int × Bool} {t : Nd} (h : NdOk num t) : FOk (flat t) := by
  induction h with
  | atom a _ => rw [flat_leaf]; intro h; exact absurd h (show ¬ (noB = sOr ∨ noB = sAnd) by decide)
  | not k _ _ => rw [flat_not]; intro h; exact absurd h (show ¬ (sNot = sOr ∨ sNot = sAnd) by decide)
  | or ks h2 _ ih => rw [flat_or]; intro _; exact ⟨Nat.le_trans h2 (flatMap_len _ ks (fun k hk => (ih k hk).spl (.inl rfl))), rfl⟩
  | and ks h2 _ ih => rw [flat_and]; intro _; exact ⟨Nat.le_trans h2 (flatMap_len _ ks (fun k hk => (ih k hk).spl (.inr rfl))), rfl⟩
theorem joinQ_two (op : ByteArray) : ∀ (ks : List Nq), 2 ≤ ks.length → joinQ op ks = .node op noB ks
  | [], h => absurd h (by decide)
  | [_], h => absurd h (by simp)
  | _ :: _ :: _, _ => rfl
theorem joinQ_one {n : Nq} (h : FOk n) {op : ByteArray} (hop : op = sOr ∨ op = sAnd) : joinQ op (splQ op n) = n := by
  unfold splQ
  split
  · rename_i he
    obtain ⟨h1, h2⟩ := h (by rw [he]; exact hop)
    rw [joinQ_two op _ h1, ← he]
    exact h2.symm
  · rfl

theorem tf {P : Prop} (h : true = false) : P := by cases h
/-- a reader of numbers reads none of nothing, nor of a mark -/
def NumOk (num : ByteArray → Int × Bool) : Prop := ∀ x, (num x).2 = true → x.size ≠ 0 ∧ x ≠ sOpen ∧ x ≠ sShut
theorem name_ok {x : ByteArray} (h : nameB x = true) : x.size ≠ 0 ∧ x ≠ sOpen ∧ x ≠ sShut ∧ x ≠ sNot := by
  refine ⟨fun e => ?_, fun e => ?_, fun e => ?_, fun e => ?_⟩
  · rw [ba_nil e] at h; exact absurd h (by decide +kernel)
  · rw [e] at h; exact absurd h (by decide +kernel)
  · rw [e] at h; exact absurd h (by decide +kernel)
  · rw [e] at h; exact absurd h (by decide +kernel)
theorem value_ok {x : ByteArray} (h : valueB x = true) : x.size ≠ 0 ∧ x ≠ sOpen ∧ x ≠ sShut := by
  refine ⟨fun e => ?_, fun e => ?_, fun e => ?_⟩
  · rw [ba_nil e] at h; exact absurd h (by decide +kernel)
  · rw [e] at h; exact absurd h (by decide +kernel)
  · rw [e] at h; exact absurd h (by decide +kernel)
theorem take_no {s : ByteArray} {t : PSt} (h : t.bad = false) : takeF s t false = { t with bad := true } := by unfold takeF; rw [h]; rfl
theorem take_yes {s : ByteArray} {t : PSt} (h : t.bad = false) : takeF s t true = nextF s t := by unfold takeF; rw [h]; rfl
theorem take_bad {s : ByteArray} {t : PSt} (h : t.bad = true) (ok : Bool) : takeF s t ok = t := by
  unfold takeF
  rw [h, if_pos (by rfl)]
  cases t
  simp only at h
  rw [h]
theorem takeS_yes {t : PSt} (h : t.bad = false) : takeS t true = t.tok := by unfold takeS; rw [h]; rfl
section
variable {num : ByteArray → Int × Bool} {s : ByteArray} {t : PSt} {l : List Tk} {st : List Bool} {w nx : Nat}
theorem chk_no (hT : TM s t l) {d : Int} (hf : (fitF num w t.tok (st.count true)).1 = false) : chkF num s.size w st d l = ((t.at_ : Int), 9) := by
  rw [hT.cons.2, chkF, if_pos (.inl hf)]
theorem chk_yes (hT : TM s t l) {d : Int} (hz : t.tok.size ≠ 0) (hf : fitF num w t.tok (st.count true) = (true, nx)) :
    chkF num s.size w st d l = chkF num s.size nx (if nx = 1 then popN (pushF w t.tok st) else pushF w t.tok st) (deepF w t.tok t.at_ st d) l.tail := by
  rw [hT.cons.2, chkF, hf, if_neg (by simp [hz])]
  rfl
theorem TM.hd (hT : TM s t l) : l = (t.tok, t.at_) :: l.tail := by
  rw [hT.cons.2]
  rfl
theorem plain_step (hT : TM s t l) (hb : t.bad = false) (w : Nat) {nx : Nat} {ok : Bool} (hf : fitF num w t.tok (st.count true) = (ok, nx)) (hz : ok = true → t.tok.size ≠ 0 ∧ t.tok ≠ sOpen ∧ t.tok ≠ sShut ∧ (w = 0 → t.tok ≠ sNot)) :
    (ok = false → takeF s t ok = { t with bad := true } ∧ chkF num s.size w st t.deep l = ((t.at_ : Int), 9)) ∧
    (ok = true → takeF s t ok = nextF s t ∧ takeS t ok = t.tok ∧ TM s (nextF s t) l.tail ∧ chkF num s.size w st t.deep l = chkF num s.size nx (if nx = 1 then popN st else st) t.deep l.tail) := by
  refine ⟨fun h => ?_, fun h => ?_⟩
  · subst h
    exact ⟨take_no hb, chk_no hT (by rw [hf])⟩
  · subst h
    obtain ⟨z1, z2, z3, z4⟩ := hz rfl
    refine ⟨take_yes hb, takeS_yes hb, hT.next z1, ?_⟩
    rw [chk_yes hT z1 hf]
    have hne : ¬ (t.tok = sOpen ∨ (t.tok = sNot ∧ w = 0)) := by
      rintro (h | ⟨h1, h2⟩)
      · exact z2 h
      · exact z4 h2 h1
    have e1 : pushF w t.tok st = st := by unfold pushF; rw [if_neg hne, if_neg z3]
    have e2 : deepF w t.tok t.at_ st t.deep = t.deep := by unfold deepF; rw [if_neg hne]
    rw [e1, e2]
end
/-- a part of a rule: the parser and the reference alike -/
def SimP (num : ByteArray → Int × Bool) (s : ByteArray) (st st' : List Bool) (t : PSt) (l : List Tk) (r : Nd × PSt) (q : Option (Nq × List Tk)) : Prop :=
  (r.2.bad = true → chkF num s.size 0 st t.deep l = ((r.2.at_ : Int), 9)) ∧
  (r.2.bad = false → ∃ l', TM s r.2 l' ∧ cntN r.1 + l'.length ≤ l.length ∧ chkF num s.size 0 st t.deep l = chkF num s.size 1 st' r.2.deep l' ∧ q = some (flat r.1, l') ∧ NdOk num r.1)
theorem cnt_leaf (a : Atm) : cntN (.node 4 [] a) = 1 := by rw [cntN_eq]; rfl
theorem tail_lt {α : Type} {l : List α} {x : α} {r : List α} (h : l = x :: r) : r.length < l.length := by rw [h, List.length_cons]; omega

theorem atom_sim (num : ByteArray → Int × Bool) (hnum : NumOk num) (s : ByteArray) (st : List Bool) (t : PSt) (l : List Tk) (hT : TM s t l) (hb : t.bad = false) (h1 : t.tok ≠ sNot) (h2 : t.tok ≠ sOpen) (f : Nat) :
    SimP num s st (popN st) t l (.node 4 [] (atomF num s t).1, (atomF num s t).2) (notR (f + 1) l) := by
  have hl := hT.hd
  have hlt := tail_lt hl
  have hor : ¬ (t.tok = sOpen ∨ t.tok = sNot) := by rintro (h | h); exact h2 h; exact h1 h
  unfold atomF SimP
  by_cases q1 : t.tok = sTrue
  · rw [if_pos q1]
    obtain ⟨_, k⟩ := plain_step (num := num) (st := st) hT hb 0 (nx := 1) (ok := true) (by unfold fitF; rw [if_pos rfl, if_neg hor, if_pos q1]) (fun _ => ⟨by rw [q1]; decide, h2, by rw [q1]; decide, fun _ => h1⟩)
    obtain ⟨k1, _, k3, k4⟩ := k rfl
    simp only [k1]
    refine ⟨fun h => absurd (hb.symm.trans h) (by decide), fun _ => ⟨l.tail, k3, (by rw [cnt_leaf]; omega), k4, ?_, .atom _ (.inl ⟨rfl, rfl, rfl⟩)⟩⟩
    rw [hl, notR, if_neg h1, if_neg h2, if_pos q1, flat_leaf]
    rfl
  · rw [if_neg q1]
    by_cases q2 : t.tok = sHas
    · rw [if_pos q2]
      obtain ⟨_, k⟩ := plain_step (num := num) (st := st) hT hb 0 (nx := 2) (ok := true) (by unfold fitF; rw [if_pos rfl, if_neg hor, if_neg q1, if_pos q2]) (fun _ => ⟨by rw [q2]; decide, h2, by rw [q2]; decide, fun _ => h1⟩)
      obtain ⟨k1, _, k3, k4⟩ := k rfl
      rw [if_neg (by decide)] at k4
      simp only [k1]
      have hb1 : (nextF s t).bad = false := hb
      have hd1 : (nextF s t).deep = t.deep := rfl
      generalize nextF s t = t1 at k1 k3 k4 hb1 hd1 ⊢
      have hl1 := k3.hd
      have hlt1 := tail_lt hl1
      obtain ⟨m0, m1⟩ := plain_step (num := num) (st := st) k3 hb1 2 (nx := 1) (ok := nameB t1.tok) (by unfold fitF; rw [if_neg (by decide), if_neg (by decide), if_pos rfl]) (fun h => by obtain ⟨a, b, c, d⟩ := name_ok h; exact ⟨a, b, c, fun _ => d⟩)
      rw [hd1] at m0 m1
      cases hB : nameB t1.tok
      · rw [hB] at m0
        obtain ⟨n1, n2⟩ := m0 rfl
        simp only [n1]
        exact ⟨fun _ => k4.trans n2, fun h => tf h⟩
      · rw [hB] at m1
        obtain ⟨n1, n2, n3, n4⟩ := m1 rfl
        simp only [n1, n2]
        have hb2 : (nextF s t1).bad = false := hb1
        have hd2 : (nextF s t1).deep = t.deep := hd1
        rw [hb2, hd2]
        refine ⟨fun h => tf h.symm, fun _ => ⟨l.tail.tail, n3, (by rw [cnt_leaf]; omega), k4.trans (n4.trans (by rw [if_pos rfl])), ?_, .atom _ (.inr (.inl ⟨rfl, hB, rfl⟩))⟩⟩
        rw [hl, hl1, notR, if_neg h1, if_neg h2, if_neg q1, if_pos q2, flat_leaf]
        rfl
    · rw [if_neg q2]
      by_cases q3 : t.tok = sTime
      · rw [if_pos q3]
        obtain ⟨_, k⟩ := plain_step (num := num) (st := st) hT hb 0 (nx := 5) (ok := true) (by unfold fitF; rw [if_pos rfl, if_neg hor, if_neg q1, if_neg q2, if_pos q3]) (fun _ => ⟨by rw [q3]; decide, h2, by rw [q3]; decide, fun _ => h1⟩)
        obtain ⟨k1, _, k3, k4⟩ := k rfl
        rw [if_neg (by decide)] at k4
        simp only [k1]
        have hb1 : (nextF s t).bad = false := hb
        have hd1 : (nextF s t).deep = t.deep := rfl
        generalize nextF s t = t1 at k1 k3 k4 hb1 hd1 ⊢
        have hl1 := k3.hd
        have hlt1 := tail_lt hl1
        obtain ⟨m0, m1⟩ := plain_step (num := num) (st := st) k3 hb1 5 (nx := 6) (ok := decide (t1.tok = sLt) || decide (t1.tok = sGt)) (by unfold fitF; rw [if_neg (by decide), if_neg (by decide), if_neg (by decide), if_neg (by decide), if_neg (by decide), if_pos rfl]) (fun h => by
          have h : t1.tok = sLt ∨ t1.tok = sGt := by simpa using h
          rcases h with h | h <;> rw [h] <;> exact ⟨by decide, by decide, by decide, fun _ => by decide⟩)
        rw [hd1] at m0 m1
        cases hB : (decide (t1.tok = sLt) || decide (t1.tok = sGt))
        · rw [hB] at m0
          obtain ⟨n1, n2⟩ := m0 rfl
          simp only [n1]
          rw [take_bad rfl]
          exact ⟨fun _ => k4.trans n2, fun h => tf h⟩
        · rw [hB] at m1
          obtain ⟨n1, n2, n3, n4⟩ := m1 rfl
          rw [if_neg (by decide)] at n4
          simp only [n1, n2]
          have hb2 : (nextF s t1).bad = false := hb1
          have hd2 : (nextF s t1).deep = t.deep := hd1
          generalize nextF s t1 = t2 at n1 n3 n4 hb2 hd2 ⊢
          have hl2 := n3.hd
          have hlt2 := tail_lt hl2
          obtain ⟨o0, o1⟩ := plain_step (num := num) (st := st) n3 hb2 6 (nx := 1) (ok := (num t2.tok).2 && decide (0 ≤ (num t2.tok).1 ∧ (num t2.tok).1 ≤ 864000000)) (by unfold fitF; rw [if_neg (by decide), if_neg (by decide), if_neg (by decide), if_neg (by decide), if_neg (by decide), if_neg (by decide)]) (fun h => by
            have h : (num t2.tok).2 = true := by rw [Bool.and_eq_true] at h; exact h.1
            obtain ⟨a, b, c⟩ := hnum _ h
            exact ⟨a, b, c, fun e => absurd e (by decide)⟩)
          rw [hd2] at o0 o1
          cases hC : ((num t2.tok).2 && decide (0 ≤ (num t2.tok).1 ∧ (num t2.tok).1 ≤ 864000000))
          · rw [hC] at o0
            obtain ⟨p1, p2⟩ := o0 rfl
            simp only [p1]
            exact ⟨fun _ => k4.trans (n4.trans p2), fun h => tf h⟩
          · rw [hC] at o1
            obtain ⟨p1, p2, p3, p4⟩ := o1 rfl
            simp only [p1, p2]
            have hb3 : (nextF s t2).bad = false := hb2
            have hd3 : (nextF s t2).deep = t.deep := hd2
            rw [hb3, hd3]
            have hB' : t1.tok = sLt ∨ t1.tok = sGt := by simpa using hB
            rw [Bool.and_eq_true, decide_eq_true_eq] at hC
            refine ⟨fun h => tf h.symm, fun _ => ⟨l.tail.tail.tail, p3, (by rw [cnt_leaf]; omega), k4.trans (n4.trans (p4.trans (by rw [if_pos rfl]))), ?_, .atom _ (.inr (.inr (.inr ⟨hB', rfl, hC.1, rfl, hC.2⟩)))⟩⟩
            rw [hl, hl1, hl2, notR, if_neg h1, if_neg h2, if_neg q1, if_neg q2, flat_leaf]
            have e : txtA ⟨t1.tok, ⟨#[]⟩, t2.tok, (num t2.tok).1⟩ = triQ t.tok t1.tok t2.tok := by
              unfold txtA
              rcases hB' with h | h <;> (simp only [h]; rw [if_neg (by decide), if_neg (by decide), if_neg (by decide), q3])
            rw [e]
            rfl
      · rw [if_neg q3]
        obtain ⟨m0, m1⟩ := plain_step (num := num) (st := st) hT hb 0 (nx := 3) (ok := nameB t.tok) (by unfold fitF; rw [if_pos rfl, if_neg hor, if_neg q1, if_neg q2, if_neg q3]) (fun h => by obtain ⟨a, b, c, d⟩ := name_ok h; exact ⟨a, b, c, fun _ => d⟩)
        cases hA : nameB t.tok
        · rw [hA] at m0
          obtain ⟨n1, n2⟩ := m0 rfl
          simp only [n1]
          rw [take_bad rfl, take_bad rfl]
          exact ⟨fun _ => n2, fun h => tf h⟩
        · rw [hA] at m1
          obtain ⟨k1, k2, k3, k4⟩ := m1 rfl
          rw [if_neg (by decide)] at k4
          simp only [k1, k2]
          have hb1 : (nextF s t).bad = false := hb
          have hd1 : (nextF s t).deep = t.deep := rfl
          generalize nextF s t = t1 at k1 k3 k4 hb1 hd1 ⊢
          have hl1 := k3.hd
          have hlt1 := tail_lt hl1
          obtain ⟨m0, m1⟩ := plain_step (num := num) (st := st) k3 hb1 3 (nx := 4) (ok := decide (t1.tok = sEq)) (by unfold fitF; rw [if_neg (by decide), if_neg (by decide), if_neg (by decide), if_pos rfl]) (fun h => by
            have h := of_decide_eq_true h
            rw [h]; exact ⟨by decide, by decide, by decide, fun _ => by decide⟩)
          rw [hd1] at m0 m1
          cases hB : decide (t1.tok = sEq)
          · rw [hB] at m0
            obtain ⟨n1, n2⟩ := m0 rfl
            simp only [n1]
            rw [take_bad rfl]
            exact ⟨fun _ => k4.trans n2, fun h => tf h⟩
          · rw [hB] at m1
            obtain ⟨n1, n2, n3, n4⟩ := m1 rfl
            rw [if_neg (by decide)] at n4
            simp only [n1]
            have hb2 : (nextF s t1).bad = false := hb1
            have hd2 : (nextF s t1).deep = t.deep := hd1
            generalize nextF s t1 = t2 at n1 n3 n4 hb2 hd2 ⊢
            have hl2 := n3.hd
            have hlt2 := tail_lt hl2
            obtain ⟨o0, o1⟩ := plain_step (num := num) (st := st) n3 hb2 4 (nx := 1) (ok := valueB t2.tok) (by unfold fitF; rw [if_neg (by decide), if_neg (by decide), if_neg (by decide), if_neg (by decide), if_pos rfl]) (fun h => by
              obtain ⟨a, b, c⟩ := value_ok h
              exact ⟨a, b, c, fun e => absurd e (by decide)⟩)
            rw [hd2] at o0 o1
            cases hC : valueB t2.tok
            · rw [hC] at o0
              obtain ⟨p1, p2⟩ := o0 rfl
              simp only [p1]
              exact ⟨fun _ => k4.trans (n4.trans p2), fun h => tf h⟩
            · rw [hC] at o1
              obtain ⟨p1, p2, p3, p4⟩ := o1 rfl
              simp only [p1, p2]
              have hb3 : (nextF s t2).bad = false := hb2
              have hd3 : (nextF s t2).deep = t.deep := hd2
              rw [hb3, hd3]
              refine ⟨fun h => tf h.symm, fun _ => ⟨l.tail.tail.tail, p3, (by rw [cnt_leaf]; omega), k4.trans (n4.trans (p4.trans (by rw [if_pos rfl]))), ?_, .atom _ (.inr (.inr (.inl ⟨rfl, hA, hC⟩)))⟩⟩
              rw [hl, hl1, hl2, notR, if_neg h1, if_neg h2, if_neg q1, if_neg q2, flat_leaf]
              have e : txtA ⟨sEq, t.tok, t2.tok, 0⟩ = triQ t.tok t1.tok t2.tok := by
                unfold txtA
                simp only
                rw [if_neg (by decide), if_neg (by decide), if_pos trivial, of_decide_eq_true hB]
              rw [e]
              rfl

theorem loop_bad (s word : ByteArray) (part : PSt → Nd × PSt) : ∀ (m : Nat) (ks : List Nd) (t : PSt), t.bad = true → loopF s word part m ks t = (ks, t)
  | 0, _, _, _ => rfl
  | m + 1, ks, t, h => by rw [loopF, if_neg (by rw [h]; simp)]
/-- a part, wherever the stack ends in no not -/
def SimA (num : ByteArray → Int × Bool) (s : ByteArray) (st : List Bool) (part : PSt → Nd × PSt) (partR : List Tk → Option (Nq × List Tk)) (E : ByteArray → Prop) (bnd : Nat) : Prop :=
  ∀ t l, TM s t l → t.bad = false → l.length ≤ bnd → SimP num s st st t l (part t) (partR l) ∧ ((part t).2.bad = false → E (part t).2.tok)
theorem more_sim (num : ByteArray → Int × Bool) (s : ByteArray) (st : List Bool) (hst : popN st = st) (part : PSt → Nd × PSt) (partR : List Tk → Option (Nq × List Tk)) (E : ByteArray → Prop) (bnd : Nat) (HP : SimA num s st part partR E bnd) (word : ByteArray) (hw : word = sOr ∨ word = sAnd) :
    ∀ (m1 m2 : Nat) (ks : List Nd) (t : PSt) (l : List Tk), TM s t l → t.bad = false → l.length ≤ m1 → l.length ≤ m2 → l.length ≤ bnd + 1 → E t.tok →
      ((loopF s word part m1 ks t).2.bad = true → chkF num s.size 1 st t.deep l = (((loopF s word part m1 ks t).2.at_ : Int), 9)) ∧
      ((loopF s word part m1 ks t).2.bad = false → (loopF s word part m1 ks t).2.tok ≠ word ∧ E (loopF s word part m1 ks t).2.tok ∧ ∃ l' new, TM s (loopF s word part m1 ks t).2 l' ∧ new.length + (new.map cntN).sum + l'.length ≤ l.length ∧
        chkF num s.size 1 st t.deep l = chkF num s.size 1 st (loopF s word part m1 ks t).2.deep l' ∧ (loopF s word part m1 ks t).1 = ks ++ new ∧ (∀ k ∈ new, NdOk num k) ∧
        ∀ qs, moreR word partR m2 qs l = some (qs ++ new.flatMap (fun k => splQ word (flat k)), l'))
  | 0, _, _, _, l, hT, _, h, _, _, _ => by
    have := tail_lt hT.hd
    omega
  | _ + 1, 0, _, _, l, hT, _, _, h, _, _ => by
    have := tail_lt hT.hd
    omega
  | m1 + 1, m2 + 1, ks, t, l, hT, hb, h1, h2, h3, hE => by
    have hl := hT.hd
    have hlt := tail_lt hl
    rw [loopF]
    by_cases q : t.tok = word
    · rw [if_pos ⟨hb, q⟩]
      have hz : t.tok.size ≠ 0 := by rw [q]; rcases hw with h | h <;> rw [h] <;> decide
      have hf : fitF num 1 t.tok (st.count true) = (true, 0) := by
        unfold fitF
        rw [if_neg (by decide), if_pos rfl, if_pos (by rw [q]; exact hw.symm)]
      have hc := chk_yes (num := num) hT (d := t.deep) hz hf
      have e1 : pushF 1 t.tok st = st := by
        unfold pushF
        rw [q]
        rcases hw with h | h <;> (rw [h, if_neg (by decide), if_neg (by decide)])
      have e2 : deepF 1 t.tok t.at_ st t.deep = t.deep := by
        unfold deepF
        rw [q]
        rcases hw with h | h <;> (rw [h, if_neg (by decide)])
      rw [if_neg (by decide), e1, e2] at hc
      have hT1 := hT.next hz
      have hb1 : (nextF s t).bad = false := hb
      have hd1 : (nextF s t).deep = t.deep := rfl
      generalize nextF s t = t1 at hT1 hb1 hd1 ⊢
      obtain ⟨⟨a1, a2⟩, a3⟩ := HP t1 l.tail hT1 hb1 (by omega)
      rw [hd1] at a1 a2
      cases hB : (part t1).2.bad
      · obtain ⟨l1, b1, b2, b3, b4, b5⟩ := a2 hB
        obtain ⟨c1, c2⟩ := more_sim num s st hst part partR E bnd HP word hw m1 m2 (ks ++ [(part t1).1]) (part t1).2 l1 b1 hB (by omega) (by omega) (by omega) (a3 hB)
        refine ⟨fun h => hc.trans (b3.trans (c1 h)), fun h => ?_⟩
        obtain ⟨d1, d2, l', new, d3, d4, d5, d6, d7, d8⟩ := c2 h
        refine ⟨d1, d2, l', (part t1).1 :: new, d3, (by rw [List.length_cons, List.map_cons, List.sum_cons]; omega), hc.trans (b3.trans d5), ?_, ?_, ?_⟩
        · rw [d6, List.append_assoc]; rfl
        · intro k hk
          rcases List.mem_cons.1 hk with rfl | hk
          · exact b5
          · exact d7 k hk
        · intro qs
          rw [hl, moreR, if_pos q, b4]
          simp only
          rw [d8, List.flatMap_cons, List.append_assoc]
      · rw [loop_bad s word part _ _ _ hB]
        exact ⟨fun _ => hc.trans (a1 hB), fun h => absurd (hB.symm.trans h) (by decide)⟩
    · rw [if_neg (by simp [q])]
      refine ⟨fun h => absurd (hb.symm.trans h) (by decide), fun _ => ⟨q, hE, l, [], hT, (by simp), rfl, by simp, fun k hk => (by cases hk), fun qs => ?_⟩⟩
      rw [hl, moreR, if_neg q]
      simp
theorem many_sim (num : ByteArray → Int × Bool) (s : ByteArray) (st : List Bool) (hst : popN st = st) (part : PSt → Nd × PSt) (partR : List Tk → Option (Nq × List Tk)) (E : ByteArray → Prop) (bnd : Nat) (HP : SimA num s st part partR E bnd) (kind : Int) (word : ByteArray) (hw : (kind = 1 ∧ word = sOr) ∨ (kind = 2 ∧ word = sAnd)) :
    SimA num s st (manyF s kind word part) (listR word partR) (fun x => x ≠ word ∧ E x) bnd := by
  have hw2 : word = sOr ∨ word = sAnd := by rcases hw with h | h; exact .inl h.2; exact .inr h.2
  intro t l hT hb hl
  obtain ⟨⟨a1, a2⟩, a3⟩ := HP t l hT hb hl
  unfold manyF SimP
  cases hB : (part t).2.bad
  · obtain ⟨l1, b1, b2, b3, b4, b5⟩ := a2 hB
    obtain ⟨c1, c2⟩ := more_sim num s st hst part partR E bnd HP word hw2 (s.size + 1) l.length [(part t).1] (part t).2 l1 b1 hB b1.len (by omega) (by omega) (a3 hB)
    generalize loopF s word part (s.size + 1) [(part t).1] (part t).2 = r at c1 c2 ⊢
    refine ⟨⟨fun h => b3.trans (c1 h), fun h => ?_⟩, fun h => ?_⟩
    · obtain ⟨d1, d2, l', new, d3, d4, d5, d6, d7, d8⟩ := c2 h
      have hF := flat_fok b5
      refine ⟨l', d3, ?_, b3.trans d5, ?_, ?_⟩
      · simp only
        rw [d6]
        cases new with
        | nil =>
          have : l'.length ≤ l1.length := by simpa using d4
          show cntN (part t).1 + l'.length ≤ l.length
          omega
        | cons k ks =>
          show cntN (.node kind ((part t).1 :: k :: ks) atm0) + l'.length ≤ l.length
          rw [cntN_eq, List.map_cons, List.sum_cons]
          rw [List.length_cons] at d4
          omega
      · rw [listR, b4]
        simp only
        rw [d8]
        simp only
        rw [d6]
        cases new with
        | nil =>
          simp only [List.flatMap_nil, List.append_nil]
          rw [joinQ_one hF hw2]
          rfl
        | cons k ks =>
          have e1 : splQ word (flat (part t).1) ++ (k :: ks).flatMap (fun k => splQ word (flat k)) = ((part t).1 :: k :: ks).flatMap (fun k => splQ word (flat k)) := rfl
          rw [e1, joinQ_two]
          · show _ = some (flat (.node kind ((part t).1 :: k :: ks) atm0), l')
            rcases hw with ⟨h1, h2⟩ | ⟨h1, h2⟩
            · rw [h1, h2, flat_or]
            · rw [h1, h2, flat_and]
          · refine Nat.le_trans ?_ (flatMap_len _ _ (fun x hx => ?_))
            · simp
            · rcases List.mem_cons.1 hx with rfl | hx
              · exact hF.spl hw2
              · exact (flat_fok (d7 x hx)).spl hw2
      · simp only
        rw [d6]
        cases new with
        | nil => exact b5
        | cons k ks =>
          have hall : ∀ x ∈ (part t).1 :: k :: ks, NdOk num x := fun x hx => by
            rcases List.mem_cons.1 hx with rfl | hx
            · exact b5
            · exact d7 x hx
          show NdOk num (.node kind ((part t).1 :: k :: ks) atm0)
          rcases hw with ⟨h1, h2⟩ | ⟨h1, h2⟩
          · rw [h1]; exact .or _ (by simp) hall
          · rw [h1]; exact .and _ (by simp) hall
    · obtain ⟨d1, d2, _⟩ := c2 h
      exact ⟨d1, d2⟩
  · rw [loop_bad s word part _ _ _ hB]
    exact ⟨⟨fun _ => a1 hB, fun h => absurd (hB.symm.trans h) (by decide)⟩, fun h => absurd (hB.symm.trans h) (by decide)⟩
theorem or_sim (num : ByteArray → Int × Bool) (s : ByteArray) (st : List Bool) (hst : popN st = st) (f : Nat) (d : Int)
    (HN : ∀ t l, TM s t l → t.bad = false → l.length ≤ f → SimP num s st (popN st) t l (notF num s f d t) (notR f l)) :
    SimA num s st (manyF s 1 sOr (manyF s 2 sAnd (notF num s f d))) (listR sOr (listR sAnd (notR f))) (fun x => x ≠ sOr ∧ x ≠ sAnd ∧ True) f :=
  many_sim num s st hst _ _ (fun x => x ≠ sAnd ∧ True) f
    (many_sim num s st hst _ _ (fun _ => True) f (fun t l h1 h2 h3 => ⟨by have := HN t l h1 h2 h3; rw [hst] at this; exact this, fun _ => trivial⟩) 2 sAnd (.inr ⟨rfl, rfl⟩)) 1 sOr (.inl ⟨rfl, rfl⟩)
theorem not_sim (num : ByteArray → Int × Bool) (hnum : NumOk num) (s : ByteArray) : ∀ (f : Nat) (d : Int) (st : List Bool), d = st.length → ∀ (t : PSt) (l : List Tk), TM s t l → t.bad = false → l.length ≤ f →
    SimP num s st (popN st) t l (notF num s f d t) (notR f l)
  | 0, _, _, _, _, l, hT, _, h => by
    have := tail_lt hT.hd
    omega
  | f + 1, d, st, hd, t, l, hT, hb, hlf => by
    have hl := hT.hd
    have hlt := tail_lt hl
    rw [notF]
    have hpush (q : t.tok = sNot ∨ t.tok = sOpen) : fitF num 0 t.tok (st.count true) = (true, 0) ∧ pushF 0 t.tok st = decide (t.tok = sOpen) :: st ∧ deepF 0 t.tok t.at_ st t.deep = (nestF d t).deep ∧ t.tok.size ≠ 0 := by
      have q' : t.tok = sOpen ∨ t.tok = sNot := q.symm
      have q2 : t.tok = sOpen ∨ (t.tok = sNot ∧ 0 = 0) := by rcases q with h | h; exact .inr ⟨h, rfl⟩; exact .inl h
      refine ⟨?_, ?_, ?_, ?_⟩
      · unfold fitF; rw [if_pos rfl, if_pos q']
      · unfold pushF; rw [if_pos q2]
      · unfold deepF nestF
        rw [if_pos q2, hd]
        split <;> rfl
      · rcases q with h | h <;> rw [h] <;> decide
    have hnest : takeF s (nestF d t) true = nextF s (nestF d t) ∧ (nextF s (nestF d t)).bad = false ∧ (nextF s (nestF d t)).deep = (nestF d t).deep ∧ (nestF d t).tok = t.tok ∧ TM s (nestF d t) l := by
      have e1 : (nestF d t).bad = t.bad := by unfold nestF; split <;> rfl
      have e2 : (nestF d t).tok = t.tok := by unfold nestF; split <;> rfl
      have e3 : (nestF d t).at_ = t.at_ := by unfold nestF; split <;> rfl
      exact ⟨take_yes (e1.trans hb), e1.trans hb, rfl, e2, hT.same e3 e2⟩
    obtain ⟨n1, n2, n3, n4, n5⟩ := hnest
    by_cases q1 : t.tok = sNot
    · rw [if_pos q1]
      obtain ⟨p1, p2, p3, p4⟩ := hpush (.inl q1)
      have hT1 := n5.next (by rw [n4]; exact p4)
      have hc := chk_yes (num := num) hT (d := t.deep) p4 p1
      rw [if_neg (by decide), p2, p3, show decide (t.tok = sOpen) = false by rw [q1]; decide, ← n3] at hc
      rw [n1]
      generalize nextF s (nestF d t) = t1 at n1 n2 n3 hT1 hc ⊢
      obtain ⟨a1, a2⟩ := not_sim num hnum s f (d + 1) (false :: st) (by rw [hd]; simp) t1 l.tail hT1 n2 (by omega)
      refine ⟨fun h => hc.trans (a1 h), fun h => ?_⟩
      obtain ⟨l', b1, b2, b3, b4, b5⟩ := a2 h
      refine ⟨l', b1, (by rw [cntN_eq]; simp; omega), hc.trans b3, ?_, .not _ b5⟩
      rw [hl, notR, if_pos q1, b4, flat_not]
      rfl
    · rw [if_neg q1]
      by_cases q2 : t.tok = sOpen
      · rw [if_pos q2]
        obtain ⟨p1, p2, p3, p4⟩ := hpush (.inr q2)
        have hT1 := n5.next (by rw [n4]; exact p4)
        have hc := chk_yes (num := num) hT (d := t.deep) p4 p1
        rw [if_neg (by decide), p2, p3, show decide (t.tok = sOpen) = true by rw [q2]; decide, ← n3] at hc
        rw [n1]
        generalize nextF s (nestF d t) = t1 at n1 n2 n3 hT1 hc ⊢
        obtain ⟨⟨a1, a2⟩, a3⟩ := or_sim num s (true :: st) rfl f (d + 1) (fun t' l' h1 h2 h3 => not_sim num hnum s f (d + 1) (true :: st) (by rw [hd]; simp) t' l' h1 h2 h3) t1 l.tail hT1 n2 (by omega)
        generalize manyF s 1 sOr (manyF s 2 sAnd (notF num s f (d + 1))) t1 = r at a1 a2 a3 ⊢
        simp only
        cases hB : r.2.bad
        · obtain ⟨l1, b1, b2, b3, b4, b5⟩ := a2 hB
          obtain ⟨e1, e2, _⟩ := a3 hB
          have hl1 := b1.hd
          have hlt1 := tail_lt hl1
          by_cases q3 : r.2.tok = sShut
          · have hz : r.2.tok.size ≠ 0 := by rw [q3]; decide
            have hf : fitF num 1 r.2.tok ((true :: st).count true) = (true, 1) := by
              unfold fitF
              rw [if_neg (by decide), if_pos rfl, if_neg (by rw [q3]; decide), if_pos q3]
              simp
            have hc2 := chk_yes (num := num) b1 (d := r.2.deep) hz hf
            have e3 : pushF 1 r.2.tok (true :: st) = st := by
              unfold pushF
              rw [q3, if_neg (by decide), if_pos rfl]
              rfl
            have e4 : deepF 1 r.2.tok r.2.at_ (true :: st) r.2.deep = r.2.deep := by
              unfold deepF
              rw [q3, if_neg (by decide)]
            rw [if_pos rfl, e3, e4] at hc2
            have hT2 := b1.next hz
            have eT : takeF s r.2 (decide (r.2.tok = sShut)) = nextF s r.2 := by rw [q3, show decide (sShut = sShut) = true by decide]; exact take_yes hB
            unfold SimP
            simp only
            rw [eT]
            refine ⟨fun h => absurd (hB.symm.trans h) (by decide), fun _ => ⟨l1.tail, hT2, (by omega), hc.trans (b3.trans hc2), ?_, b5⟩⟩
            rw [hl, notR, if_neg q1, if_pos q2, b4, hl1]
            rfl
          · have eT : takeF s r.2 (decide (r.2.tok = sShut)) = { r.2 with bad := true } := by rw [decide_eq_false q3]; exact take_no hB
            have hf : (fitF num 1 r.2.tok ((true :: st).count true)).1 = false := by
              unfold fitF
              rw [if_neg (by decide), if_pos rfl, if_neg (by rintro (h | h); exact e2 h; exact e1 h), if_neg q3]
              simp
            have hc2 := chk_no (num := num) b1 (d := r.2.deep) hf
            unfold SimP
            simp only
            rw [eT]
            exact ⟨fun _ => hc.trans (b3.trans hc2), fun h => tf h⟩
        · unfold SimP
          simp only
          rw [take_bad hB]
          exact ⟨fun _ => hc.trans (a1 hB), fun h => absurd (hB.symm.trans h) (by decide)⟩
      · rw [if_neg q2]
        exact atom_sim num hnum s st t l hT hb q1 q2 f
/-- the reference's check is the parser's; the tree of a right rule is the parser's, flat -/
theorem check_parse (num : ByteArray → Int × Bool) (hnum : NumOk num) (s : ByteArray) :
    checkE num s = parseE num s ∧ ((parseE num s).2 = 0 → NdOk num (parseT num s).1 ∧ cntN (parseT num s).1 ≤ s.size + 1 ∧ ∃ l', orR (s.size + 1) (toks s 0) = some (flat (parseT num s).1, l')) := by
  unfold checkE parseE
  by_cases h0 : 2000 < s.size
  · rw [if_pos h0, if_pos h0]
    exact ⟨rfl, fun h => absurd (show (2 : Int) = 0 from h) (by decide)⟩
  · rw [if_neg h0, if_neg h0]
    have hT := TM.start s
    obtain ⟨⟨a1, a2⟩, a3⟩ := or_sim num s [] rfl (s.size + 1) 0 (fun t' l' h1 h2 h3 => not_sim num hnum s (s.size + 1) 0 [] rfl t' l' h1 h2 h3) (pst0 s) (toks s 0) hT rfl hT.len
    have hd : (pst0 s).deep = -1 := rfl
    rw [hd] at a1 a2
    have e : manyF s 1 sOr (manyF s 2 sAnd (notF num s (s.size + 1) 0)) (pst0 s) = parseT num s := rfl
    have e2 : listR sOr (listR sAnd (notR (s.size + 1))) (toks s 0) = orR (s.size + 1) (toks s 0) := rfl
    rw [e] at a1 a2 a3
    rw [e2] at a2
    generalize parseT num s = r at a1 a2 a3 ⊢
    cases hB : r.2.bad
    · obtain ⟨l1, b1, b2, b3, b4, b5⟩ := a2 hB
      obtain ⟨q1, q2, _⟩ := a3 hB
      obtain ⟨c1, c2⟩ := b1.cons
      rw [Bool.false_or]
      refine ⟨b3.trans ?_, fun _ => ⟨b5, (by have := hT.len; omega), l1, b4⟩⟩
      by_cases hz : r.2.tok.size = 0
      · rw [if_pos hz] at c2
        by_cases hat : r.2.at_ < s.size
        · rw [if_pos (decide_eq_true hat), c2, chkF, if_pos (.inr ⟨hz, hat⟩)]
        · have hf : fitF num 1 r.2.tok (([] : List Bool).count true) = (true, 1) := by
            unfold fitF
            rw [if_neg (by decide), if_pos rfl, if_neg (by rintro (h | h); exact q2 h; exact q1 h), if_neg (by intro h; rw [h] at hz; exact absurd hz (by decide))]
            simp [hz]
          have n1 : ¬ (r.2.tok = sOpen ∨ (r.2.tok = sNot ∧ 1 = 0)) := by
            rintro (h | h)
            · rw [h] at hz; exact absurd hz (by decide)
            · exact absurd h.2 (by decide)
          rw [if_neg (by simp [hat]), c2, chkF, hf, if_neg (by simp; omega), chkF]
          unfold deepF
          rw [if_neg n1]
      · have hat : r.2.at_ < s.size := by omega
        have hf : (fitF num 1 r.2.tok (([] : List Bool).count true)).1 = false := by
          unfold fitF
          rw [if_neg (by decide), if_pos rfl, if_neg (by rintro (h | h); exact q2 h; exact q1 h)]
          split
          · rfl
          · simp [hz]
        rw [if_pos (decide_eq_true hat)]
        exact chk_no b1 hf
    · rw [Bool.true_or, if_pos rfl]
      exact ⟨a1 hB, fun h => absurd (show (9 : Int) = 0 from h) (by decide)⟩
end Go.Proofs.YtfmljboogkhobaaGreatDoor
/-
  How many tokens the reference's parser takes. No Go text is named here.
-/
namespace Go.Proofs.YtfmljboogkhobaaGreatDoor
open Go Go.RowKit

/-- what a list goes on to be -/
def goR (op : ByteArray) (part : List Tk → Option (Nq × List Tk)) (m : Nat) (ks : List Nq) (l : List Tk) : Option (List Nq × List Tk) :=
  match part l with
  | none => none
  | some r => moreR op part m (ks ++ splQ op r.1) r.2
theorem list_go {op : ByteArray} {part : List Tk → Option (Nq × List Tk)} {l : List Tk} {r : Nq × List Tk} (h : listR op part l = some r) : ∃ q, goR op part l.length [] l = some q ∧ r = (joinQ op q.1, q.2) := by
  unfold listR at h
  unfold goR
  cases hx : part l with
  | none => rw [hx] at h; cases h
  | some r1 =>
    rw [hx] at h
    simp only at h
    simp only [List.nil_append]
    cases hy : moreR op part l.length (splQ op r1.1) r1.2 with
    | none => rw [hy] at h; cases h
    | some q =>
      rw [hy] at h
      injection h with h
      exact ⟨q, rfl, h.symm⟩
theorem go_step {op : ByteArray} {part : List Tk → Option (Nq × List Tk)} {m : Nat} {ks : List Nq} {l : List Tk} {q : List Nq × List Tk} (h : goR op part m ks l = some q) :
    ∃ r1 t l2, part l = some (r1, t :: l2) ∧ ((t.1 = op ∧ ∃ m', m = m' + 1 ∧ goR op part m' (ks ++ splQ op r1) l2 = some q) ∨ (t.1 ≠ op ∧ q = (ks ++ splQ op r1, t :: l2))) := by
  unfold goR at h
  cases hx : part l with
  | none => rw [hx] at h; cases h
  | some r =>
    rw [hx] at h
    simp only at h
    obtain ⟨r1, l1⟩ := r
    cases m with
    | zero => cases h
    | succ m =>
      cases l1 with
      | nil => cases h
      | cons t l2 =>
        simp only at h
        rw [moreR] at h
        refine ⟨r1, t, l2, rfl, ?_⟩
        split at h
        · rename_i ht
          refine .inl ⟨ht, m, rfl, ?_⟩
          unfold goR
          cases hy : part l2 with
          | none => rw [hy] at h; cases h
          | some r2 =>
            rw [hy] at h
            exact h
        · rename_i ht
          injection h with h
          exact .inr ⟨ht, h.symm⟩

def cq : Nq → Nat
  | .node _ _ ks => max 1 (ks.attach.map fun k => cq k.1).sum
termination_by t => SizeOf.sizeOf t
decreasing_by
  have := List.sizeOf_lt_of_mem k.2
  simp only [Nq.node.sizeOf_spec]
  omega
theorem cq_eq (op atom : ByteArray) (ks : List Nq) : cq (.node op atom ks) = max 1 (ks.map cq).sum := by
  rw [cq]
  have e1 : (ks.attach.map fun k => cq k.1) = ks.map cq := List.attach_map_val (l := ks) (f := cq)
  rw [e1]
theorem cq_pos (t : Nq) : 1 ≤ cq t := by
  cases t
  rw [cq_eq]
  omega
def cqs (ks : List Nq) : Nat := (ks.map cq).sum
theorem cqs_app (a b : List Nq) : cqs (a ++ b) = cqs a + cqs b := by unfold cqs; simp
theorem cqs_len : ∀ (ks : List Nq), ks.length ≤ cqs ks
  | [] => Nat.le_refl _
  | k :: ks => by
    have h1 := cq_pos k
    have h2 := cqs_len ks
    unfold cqs at h2 ⊢
    rw [List.length_cons, List.map_cons, List.sum_cons]
    omega
theorem cqs_spl (op : ByteArray) (k : Nq) : cqs (splQ op k) ≤ cq k := by
  unfold splQ
  split
  · cases k with
    | node o a ks => rw [cq_eq]; show cqs ks ≤ _; unfold cqs; omega
  · unfold cqs; simp
/-- a part takes as many tokens as it has atoms -/
def LenP (part : List Tk → Option (Nq × List Tk)) : Prop := ∀ l r, part l = some r → cq r.1 + r.2.length ≤ l.length
theorem more_len {op : ByteArray} {part : List Tk → Option (Nq × List Tk)} (hp : LenP part) : ∀ (m : Nat) (ks : List Nq) (l : List Tk) (q : List Nq × List Tk), moreR op part m ks l = some q → cqs q.1 + q.2.length ≤ cqs ks + l.length ∧ cqs ks ≤ cqs q.1
  | 0, _, _, _, h => by cases h
  | _ + 1, _, [], _, h => by cases h
  | m + 1, ks, t :: l, q, h => by
    rw [moreR] at h
    split at h
    · cases hx : part l with
      | none => rw [hx] at h; cases h
      | some r =>
        rw [hx] at h
        have h1 := hp l r hx
        have h3 := more_len hp m _ _ q h
        have h4 := cqs_spl op r.1
        rw [cqs_app] at h3
        rw [List.length_cons]
        omega
    · injection h with h
      subst h
      exact ⟨Nat.le_refl _, Nat.le_refl _⟩
theorem cq_join (op : ByteArray) (ks : List Nq) : cq (joinQ op ks) ≤ max 1 (cqs ks) := by
  unfold joinQ
  split
  · unfold cqs; simp; omega
  · rw [cq_eq]; exact Nat.le_refl _
theorem list_len {op : ByteArray} {part : List Tk → Option (Nq × List Tk)} (hp : LenP part) : LenP (listR op part) := by
  intro l r h
  obtain ⟨q, hq, rfl⟩ := list_go h
  clear h
  have h : (match part l with | none => none | some r => moreR op part l.length ([] ++ splQ op r.1) r.2) = some q := hq
  cases hx : part l with
  | none => rw [hx] at h; cases h
  | some r1 =>
    rw [hx] at h
    have h1 := hp l r1 hx
    have h2 := more_len hp _ _ _ _ h
    have h3 := cqs_spl op r1.1
    have h4 := cq_join op q.1
    have h5 := cq_pos r1.1
    obtain ⟨h2, h6⟩ := h2
    have h6 : cqs (splQ op r1.1) ≤ cqs q.1 := h6
    simp only
    have : cqs q.1 + q.2.length ≤ cqs (splQ op r1.1) + r1.2.length := h2
    omega
theorem not_len : ∀ (f : Nat), LenP (notR f)
  | 0 => fun l r h => by cases h
  | f + 1 => fun l r h => by
    cases l with
    | nil => cases h
    | cons t l =>
      have ih := not_len f
      rw [notR] at h
      split at h
      · cases hx : notR f l with
        | none => rw [hx] at h; cases h
        | some r0 =>
          rw [hx] at h
          injection h with h
          subst h
          have := ih l r0 hx
          have := cq_pos r0.1
          rw [cq_eq]
          simp only [List.map_cons, List.map_nil, List.sum_cons, List.sum_nil, List.length_cons]
          omega
      · split at h
        · cases hx : listR sOr (listR sAnd (notR f)) l with
          | none => rw [hx] at h; cases h
          | some r0 =>
            have h1 := list_len (list_len ih) l r0 hx
            rw [hx] at h
            obtain ⟨n, l2⟩ := r0
            cases l2 with
            | nil => cases h
            | cons t2 l2 =>
              injection h with h
              subst h
              simp only [List.length_cons] at h1 ⊢
              omega
        · split at h
          · injection h with h
            subst h
            rw [cq_eq]
            simp
            omega
          · split at h
            · cases l with
              | nil => cases h
              | cons x l2 =>
                injection h with h
                subst h
                rw [cq_eq]
                simp
                omega
            · cases l with
              | nil => cases h
              | cons x l2 => cases l2 with
                | nil => cases h
                | cons y l2 =>
                  injection h with h
                  subst h
                  rw [cq_eq]
                  simp
                  omega
end Go.Proofs.YtfmljboogkhobaaGreatDoor
/-
  What Tidy writes, in plain words: the program's and the reference's, and that they are one. No Go text is named here.
-/
namespace Go.Proofs.YtfmljboogkhobaaGreatDoor
open Go Go.RowKit

def sepOr : List UInt8 := [32, 111, 114, 32]
def sepAnd : List UInt8 := [32, 97, 110, 100, 32]
def notT : ByteArray := ⟨#[110, 111, 116, 32]⟩
def parB (x : ByteArray) : ByteArray := (⟨#[40]⟩ ++ x) ++ ⟨#[41]⟩
def parIf (b : Bool) (x : ByteArray) : ByteArray := if b = true then parB x else x
def joinB (sep : List UInt8) (l : List ByteArray) : ByteArray := ⟨(Lib.join (l.map (·.data.toList)) sep).toArray⟩
def kindOf : Nd → Int
  | .node k _ _ => k
def noteB : List ByteArray → ByteArray
  | [] => noB
  | x :: _ => notT ++ x
/-- a kid's text within a node of this kind -/
def kidT (kind : Int) (k : Nd) (x : ByteArray) : ByteArray := parIf (decide (kindOf k = 1 ∧ (kind = 2 ∨ kind = 3)) || decide (kindOf k = 2 ∧ kind = 3)) x
def tidF : Nd → ByteArray
  | .node kind ks a =>
    if kind = 4 then txtA a
    else if kind = 3 then noteB (ks.attach.map fun k => kidT kind k.1 (tidF k.1))
    else joinB (if kind = 1 then sepOr else sepAnd) (ks.attach.map fun k => kidT kind k.1 (tidF k.1))
termination_by t => SizeOf.sizeOf t
decreasing_by
  all_goals
    have := List.sizeOf_lt_of_mem k.2
    simp only [Nd.node.sizeOf_spec]
    omega
theorem tidF_eq (kind : Int) (ks : List Nd) (a : Atm) : tidF (.node kind ks a) =
    if kind = 4 then txtA a
    else if kind = 3 then noteB (ks.map fun k => kidT kind k (tidF k))
    else joinB (if kind = 1 then sepOr else sepAnd) (ks.map fun k => kidT kind k (tidF k)) := by
  rw [tidF]
  have e1 : (ks.attach.map fun k => kidT kind k.1 (tidF k.1)) = ks.map fun k => kidT kind k (tidF k) := List.attach_map_val (l := ks) (f := fun k => kidT kind k (tidF k))
  rw [e1]
theorem tid_leaf (a : Atm) : tidF (.node 4 [] a) = txtA a := by rw [tidF_eq, if_pos rfl]
theorem tid_not (k : Nd) (a : Atm) : tidF (.node 3 [k] a) = notT ++ kidT 3 k (tidF k) := by rw [tidF_eq, if_neg (by decide), if_pos rfl]; rfl
theorem tid_or (ks : List Nd) (a : Atm) : tidF (.node 1 ks a) = joinB sepOr (ks.map fun k => kidT 1 k (tidF k)) := by rw [tidF_eq, if_neg (by decide), if_neg (by decide), if_pos rfl]
theorem tid_and (ks : List Nd) (a : Atm) : tidF (.node 2 ks a) = joinB sepAnd (ks.map fun k => kidT 2 k (tidF k)) := by rw [tidF_eq, if_neg (by decide), if_neg (by decide), if_neg (by decide)]
theorem parB_size (x : ByteArray) : (parB x).size = x.size + 2 := by
  unfold parB
  rw [ByteArray.size_append, ByteArray.size_append]
  show 1 + x.size + 1 = x.size + 2
  omega
theorem kidT_size (kind : Int) (k : Nd) (x : ByteArray) : (kidT kind k x).size ≤ x.size + 2 := by
  unfold kidT parIf
  split
  · rw [parB_size]; exact Nat.le_refl _
  · omega
theorem tail_len (sep : List UInt8) (r : List (List UInt8)) : (Lib.joinTail sep r).length = (r.map (fun x => x.length + sep.length)).sum := by
  unfold Lib.joinTail
  induction r with
  | nil => rfl
  | cons x r ih =>
    rw [List.map_cons, List.flatten_cons, List.length_append, ih, List.map_cons, List.sum_cons, List.length_append]
    omega
theorem join_len (sep : List UInt8) (xs : List (List UInt8)) : (Lib.join xs sep).length ≤ (xs.map (fun x => x.length + sep.length)).sum := by
  cases xs with
  | nil => exact Nat.zero_le _
  | cons x r =>
    rw [Lib.join_cons, List.length_append, tail_len, List.map_cons, List.sum_cons]
    omega
theorem joinB_size (sep : List UInt8) (l : List ByteArray) : (joinB sep l).size ≤ (l.map (fun x => x.size + sep.length)).sum := by
  have h := join_len sep (l.map (·.data.toList))
  rw [List.map_map] at h
  have e : (l.map ((fun x => x.length + sep.length) ∘ fun x => x.data.toList)) = l.map (fun x => x.size + sep.length) := List.map_congr_left (fun x _ => by simp)
  rw [e] at h
  have e2 : (joinB sep l).size = (Lib.join (l.map (·.data.toList)) sep).length := by
    show (Lib.join (l.map (·.data.toList)) sep).toArray.size = _
    simp
  rw [e2]
  exact h
theorem sum_le {α : Type} (f g : α → Nat) : ∀ (l : List α), (∀ x ∈ l, f x ≤ g x) → (l.map f).sum ≤ (l.map g).sum
  | [], _ => Nat.le_refl _
  | x :: l, h => by
    have h1 := h x (List.mem_cons_self ..)
    have h2 := sum_le f g l (fun y hy => h y (List.mem_cons_of_mem _ hy))
    simp only [List.map_cons, List.sum_cons]
    omega
theorem sum_mul (f : Nd → Nat) (c : Nat) : ∀ (l : List Nd), (l.map (fun x => c * f x)).sum = c * (l.map f).sum
  | [] => rfl
  | x :: l => by
    simp only [List.map_cons, List.sum_cons]
    rw [sum_mul f c l, Nat.mul_add]
/-- a number that is read is short -/
def NumZ (num : ByteArray → Int × Bool) : Prop := ∀ x, (num x).2 = true → x.size ≤ 40
theorem name_le {x : ByteArray} (h : nameB x = true) : x.size ≤ 40 := by
  unfold nameB at h
  rw [Bool.and_eq_true] at h
  have h := h.1
  unfold keyB at h
  rw [Bool.and_eq_true, Bool.and_eq_true, decide_eq_true_eq] at h
  have := h.1.1.2
  simpa using this
theorem value_le {x : ByteArray} (h : valueB x = true) : x.size ≤ 40 := by
  unfold valueB at h
  rw [Bool.and_eq_true, decide_eq_true_eq] at h
  exact h.1.2
theorem has_size (x : ByteArray) : (hasQ x).size = x.size + 4 := by
  unfold hasQ
  rw [ByteArray.size_append]
  show 4 + x.size = _
  omega
theorem tri_size (a b c : ByteArray) : (triQ a b c).size = a.size + b.size + c.size + 2 := by
  unfold triQ
  rw [ByteArray.size_append, ByteArray.size_append, ByteArray.size_append, ByteArray.size_append]
  have : sBl.size = 1 := rfl
  omega
theorem txtA_size {num : ByteArray → Int × Bool} (hz : NumZ num) {a : Atm} (h : AtmOk num a) : (txtA a).size ≤ 90 := by
  have k1 : sTrue.size = 4 := rfl
  have k2 : sTime.size = 4 := rfl
  have k3 : sEq.size = 1 := rfl
  unfold txtA
  rcases h with ⟨h, _⟩ | ⟨h, h1, _⟩ | ⟨h, h1, h2⟩ | ⟨h, _, h1, _⟩
  · rw [if_pos h]; omega
  · rw [h, if_neg (by decide), if_pos rfl, has_size]
    have := name_le h1
    omega
  · rw [h, if_neg (by decide), if_neg (by decide), if_pos rfl, tri_size]
    have := name_le h1
    have := value_le h2
    omega
  · have := hz _ h1
    rcases h with h | h
    · rw [h, if_neg (by decide), if_neg (by decide), if_neg (by decide), tri_size]
      have : sLt.size = 1 := rfl
      omega
    · rw [h, if_neg (by decide), if_neg (by decide), if_neg (by decide), tri_size]
      have : sGt.size = 1 := rfl
      omega
theorem atm_sizes {num : ByteArray → Int × Bool} (hz : NumZ num) {a : Atm} (h : AtmOk num a) : a.word.size ≤ 100000 ∧ a.name.size ≤ 100000 ∧ a.value.size ≤ 100000 := by
  have k0 : noB.size = 0 := rfl
  have k1 : sTrue.size = 4 := rfl
  have k2 : sHas.size = 3 := rfl
  have k3 : sEq.size = 1 := rfl
  have k4 : sLt.size = 1 := rfl
  have k5 : sGt.size = 1 := rfl
  rcases h with ⟨h, h1, h2⟩ | ⟨h, h1, h2⟩ | ⟨h, h1, h2⟩ | ⟨h, h0, h1, _⟩
  · rw [h, h1, h2]; omega
  · have := name_le h1
    rw [h, h2]; omega
  · have := name_le h1
    have := value_le h2
    rw [h]; omega
  · have := hz _ h1
    rw [h0]
    rcases h with h | h <;> (rw [h]; omega)
theorem mem_sum (f : Nd → Nat) : ∀ (l : List Nd) (k : Nd), k ∈ l → f k ≤ (l.map f).sum
  | [], _, h => by cases h
  | x :: l, k, h => by
    rw [List.map_cons, List.sum_cons]
    rcases List.mem_cons.1 h with rfl | h
    · omega
    · have := mem_sum f l k h; omega
theorem len_sum (f : Nd → Nat) (h : ∀ k, 1 ≤ f k) : ∀ (l : List Nd), l.length ≤ (l.map f).sum
  | [] => Nat.le_refl _
  | x :: l => by
    have h1 := h x
    have h2 := len_sum f h l
    rw [List.length_cons, List.map_cons, List.sum_cons]
    omega
theorem list_size (kind : Int) (sep : List UInt8) (hs : sep.length ≤ 5) (ks : List Nd) (ih : ∀ k ∈ ks, (tidF k).size + 10 ≤ 100 * cntN k) : (joinB sep (ks.map fun k => kidT kind k (tidF k))).size + 10 ≤ 100 * (1 + (ks.map cntN).sum) := by
  have h1 := joinB_size sep (ks.map fun k => kidT kind k (tidF k))
  rw [List.map_map] at h1
  have h2 := sum_le ((fun x => x.size + sep.length) ∘ fun k => kidT kind k (tidF k)) (fun k => 100 * cntN k) ks (fun k hk => by
    have := ih k hk
    have := kidT_size kind k (tidF k)
    show (kidT kind k (tidF k)).size + sep.length ≤ 100 * cntN k
    omega)
  rw [sum_mul] at h2
  omega
theorem tid_size {num : ByteArray → Int × Bool} (hz : NumZ num) {t : Nd} (h : NdOk num t) : (tidF t).size + 10 ≤ 100 * cntN t := by
  induction h with
  | atom a h => rw [tid_leaf, cnt_leaf]; have := txtA_size hz h; omega
  | not k _ ih =>
    rw [tid_not, cntN_eq, ByteArray.size_append]
    have := kidT_size 3 k (tidF k)
    have e : notT.size = 4 := rfl
    simp only [List.map_cons, List.map_nil, List.sum_cons, List.sum_nil]
    omega
  | or ks _ _ ih => rw [tid_or, cntN_eq]; exact list_size 1 sepOr (by decide) ks ih
  | and ks _ _ ih => rw [tid_and, cntN_eq]; exact list_size 2 sepAnd (by decide) ks ih

/-- a kid's text in the reference -/
def partQ (op : ByteArray) (k : Nq) (x : ByteArray) : ByteArray := parIf (decide (k.op = sOr) || (decide (k.op = sAnd) && decide (op = sNot))) x
def txtQ : Nq → ByteArray
  | .node op atom ks =>
    if op = noB then atom
    else if op = sNot then noteB (ks.attach.map fun k => partQ op k.1 (txtQ k.1))
    else joinB ([32] ++ op.data.toList ++ [32]) (ks.attach.map fun k => partQ op k.1 (txtQ k.1))
termination_by t => SizeOf.sizeOf t
decreasing_by
  all_goals
    have := List.sizeOf_lt_of_mem k.2
    simp only [Nq.node.sizeOf_spec]
    omega
theorem txtQ_eq (op atom : ByteArray) (ks : List Nq) : txtQ (.node op atom ks) =
    if op = noB then atom
    else if op = sNot then noteB (ks.map fun k => partQ op k (txtQ k))
    else joinB ([32] ++ op.data.toList ++ [32]) (ks.map fun k => partQ op k (txtQ k)) := by
  rw [txtQ]
  have e1 : (ks.attach.map fun k => partQ op k.1 (txtQ k.1)) = ks.map fun k => partQ op k (txtQ k) := List.attach_map_val (l := ks) (f := fun k => partQ op k (txtQ k))
  rw [e1]
theorem join_two (sep : List UInt8) (x : List UInt8) (l : List (List UInt8)) (hl : l ≠ []) : Lib.join (x :: l) sep = x ++ sep ++ Lib.join l sep := by
  cases l with
  | nil => exact absurd rfl hl
  | cons y r =>
    rw [Lib.join_cons, Lib.join_cons]
    unfold Lib.joinTail
    rw [List.map_cons, List.flatten_cons]
    simp
theorem join_app (sep : List UInt8) : ∀ (l1 l2 : List (List UInt8)), l1 ≠ [] → l2 ≠ [] → Lib.join (l1 ++ l2) sep = Lib.join l1 sep ++ sep ++ Lib.join l2 sep
  | [], _, h, _ => absurd rfl h
  | [x], l2, _, h2 => by
    rw [Lib.join_one]
    exact join_two sep x l2 h2
  | x :: y :: r, l2, _, h2 => by
    have ih := join_app sep (y :: r) l2 (by simp) h2
    rw [List.cons_append, join_two sep x _ (by simp), ih, join_two sep x (y :: r) (by simp)]
    simp
theorem join_flat (sep : List UInt8) {α : Type} (f : α → List (List UInt8)) (g : α → List UInt8) : ∀ (l : List α), (∀ x ∈ l, f x ≠ [] ∧ Lib.join (f x) sep = g x) → Lib.join (l.flatMap f) sep = Lib.join (l.map g) sep
  | [], _ => rfl
  | [x], h => by
    have := (h x (List.mem_cons_self ..)).2
    simp only [List.flatMap_cons, List.flatMap_nil, List.append_nil, List.map_cons, List.map_nil]
    rw [Lib.join_one, this]
  | x :: y :: l, h => by
    have ih := join_flat sep f g (y :: l) (fun z hz => h z (List.mem_cons_of_mem _ hz))
    have h1 := h x (List.mem_cons_self ..)
    have hne : (y :: l).flatMap f ≠ [] := by
      rw [List.flatMap_cons]
      intro e
      exact (h y (by simp)).1 (List.append_eq_nil_iff.1 e).1
    have e : List.map g (x :: y :: l) = g x :: List.map g (y :: l) := rfl
    rw [List.flatMap_cons, join_app sep _ _ h1.1 hne, ih, h1.2, e, join_two sep (g x) (List.map g (y :: l)) (by simp)]
theorem flat_op {num : ByteArray → Int × Bool} {t : Nd} (h : NdOk num t) : ((flat t).op = sOr ↔ kindOf t = 1) ∧ ((flat t).op = sAnd ↔ kindOf t = 2) := by
  cases h with
  | atom a _ => rw [flat_leaf]; exact ⟨⟨fun h => absurd (show noB = sOr from h) (by decide), fun h => absurd (show (4 : Int) = 1 from h) (by decide)⟩, ⟨fun h => absurd (show noB = sAnd from h) (by decide), fun h => absurd (show (4 : Int) = 2 from h) (by decide)⟩⟩
  | not k _ => rw [flat_not]; exact ⟨⟨fun h => absurd (show sNot = sOr from h) (by decide), fun h => absurd (show (3 : Int) = 1 from h) (by decide)⟩, ⟨fun h => absurd (show sNot = sAnd from h) (by decide), fun h => absurd (show (3 : Int) = 2 from h) (by decide)⟩⟩
  | or ks _ _ => rw [flat_or]; exact ⟨⟨fun _ => rfl, fun _ => rfl⟩, ⟨fun h => absurd (show sOr = sAnd from h) (by decide), fun h => absurd (show (1 : Int) = 2 from h) (by decide)⟩⟩
  | and ks _ _ => rw [flat_and]; exact ⟨⟨fun h => absurd (show sAnd = sOr from h) (by decide), fun h => absurd (show (2 : Int) = 1 from h) (by decide)⟩, ⟨fun _ => rfl, fun _ => rfl⟩⟩
theorem part_kid {num : ByteArray → Int × Bool} {k : Nd} (h : NdOk num k) (kind : Int) (op : ByteArray) (hk : (kind = 1 ∧ op = sOr ∧ kindOf k ≠ 1) ∨ (kind = 2 ∧ op = sAnd) ∨ (kind = 3 ∧ op = sNot)) (x : ByteArray) : partQ op (flat k) x = kidT kind k x := by
  obtain ⟨h1, h2⟩ := flat_op h
  unfold partQ kidT
  congr 1
  have d1 : decide ((flat k).op = sOr) = decide (kindOf k = 1) := decide_eq_decide.2 h1
  have d2 : decide ((flat k).op = sAnd) = decide (kindOf k = 2) := decide_eq_decide.2 h2
  rw [d1, d2]
  rcases hk with ⟨rfl, rfl, h3⟩ | ⟨rfl, rfl⟩ | ⟨rfl, rfl⟩
  · rw [decide_eq_false h3, show decide (sOr = sNot) = false by decide]; simp
  · rw [show decide (sAnd = sNot) = false by decide]; simp
  · rw [show decide (sNot = sNot) = true by decide]; simp
theorem list_txt {num : ByteArray → Int × Bool} (kind : Int) (op : ByteArray) (hk : (kind = 1 ∧ op = sOr) ∨ (kind = 2 ∧ op = sAnd)) (sep : List UInt8) (hsep : sep = [32] ++ op.data.toList ++ [32]) (ks : List Nd) (ho : ∀ k ∈ ks, NdOk num k) (ih : ∀ k ∈ ks, txtQ (flat k) = tidF k) :
    joinB sep ((ks.flatMap fun k => splQ op (flat k)).map fun k => partQ op k (txtQ k)) = joinB sep (ks.map fun k => kidT kind k (tidF k)) := by
  have hop : op = sOr ∨ op = sAnd := by rcases hk with h | h; exact .inl h.2; exact .inr h.2
  have hne : op ≠ noB ∧ op ≠ sNot := by rcases hop with h | h <;> rw [h] <;> decide
  unfold joinB
  congr 2
  rw [List.map_map, List.map_flatMap, List.map_map]
  refine join_flat sep (fun k => (splQ op (flat k)).map ((fun x => x.data.toList) ∘ fun k => partQ op k (txtQ k))) _ ks (fun k hkm => ?_)
  have hF := flat_fok (ho k hkm)
  refine ⟨fun e => ?_, ?_⟩
  · have h1 := hF.spl hop
    rw [List.map_eq_nil_iff] at e
    rw [e] at h1
    exact absurd h1 (by decide)
  · by_cases hs : (flat k).op = op
    · -- spliced: its own text, bare
      obtain ⟨h2, h3⟩ := hF (by rw [hs]; exact hop)
      have e1 : splQ op (flat k) = (flat k).kids := by unfold splQ; rw [if_pos hs]
      have e2 : txtQ (flat k) = joinB sep ((flat k).kids.map fun k => partQ op k (txtQ k)) := by
        rw [h3, hs, txtQ_eq, if_neg hne.1, if_neg hne.2, hsep]
        rfl
      have e3 : kidT kind k (tidF k) = tidF k := by
        obtain ⟨f1, f2⟩ := flat_op (ho k hkm)
        unfold kidT parIf
        rcases hk with ⟨rfl, rfl⟩ | ⟨rfl, rfl⟩
        · have := f1.1 hs
          rw [this]; rfl
        · have := f2.1 hs
          rw [this]; rfl
      show Lib.join _ sep = (kidT kind k (tidF k)).data.toList
      rw [e3, ← ih k hkm, e2, e1]
      unfold joinB
      rw [List.map_map]
    · have e1 : splQ op (flat k) = [flat k] := by unfold splQ; rw [if_neg hs]
      have e2 : partQ op (flat k) (tidF k) = kidT kind k (tidF k) := part_kid (ho k hkm) kind op (by
        rcases hk with ⟨h1, h2⟩ | h
        · exact .inl ⟨h1, h2, fun e => hs (by rw [h2]; exact (flat_op (ho k hkm)).1.2 e)⟩
        · exact .inr (.inl h)) _
      rw [e1]
      show Lib.join [(partQ op (flat k) (txtQ (flat k))).data.toList] sep = (kidT kind k (tidF k)).data.toList
      rw [Lib.join_one, ih k hkm, e2]
/-- the reference's text of a tree is what Tidy writes -/
theorem txt_flat {num : ByteArray → Int × Bool} {t : Nd} (h : NdOk num t) : txtQ (flat t) = tidF t := by
  induction h with
  | atom a _ => rw [flat_leaf, txtQ_eq, if_pos rfl, tid_leaf]
  | not k hk ih =>
    rw [flat_not, txtQ_eq, if_neg (by decide), if_pos rfl, tid_not]
    show notT ++ partQ sNot (flat k) (txtQ (flat k)) = _
    rw [ih, part_kid hk 3 sNot (.inr (.inr ⟨rfl, rfl⟩))]
  | or ks _ ho ih =>
    rw [flat_or, txtQ_eq, if_neg (by decide), if_neg (by decide), tid_or]
    exact list_txt 1 sOr (.inl ⟨rfl, rfl⟩) _ rfl ks ho ih
  | and ks _ ho ih =>
    rw [flat_and, txtQ_eq, if_neg (by decide), if_neg (by decide), tid_and]
    exact list_txt 2 sAnd (.inr ⟨rfl, rfl⟩) _ rfl ks ho ih

/-- the atoms of a tree, as the program meets them -/
def atsF : Nd → List Atm
  | .node kind ks a => (if kind = 4 then [a] else []) ++ (ks.attach.flatMap fun k => atsF k.1)
termination_by t => SizeOf.sizeOf t
decreasing_by
  have := List.sizeOf_lt_of_mem k.2
  simp only [Nd.node.sizeOf_spec]
  omega
theorem atsF_eq (kind : Int) (ks : List Nd) (a : Atm) : atsF (.node kind ks a) = (if kind = 4 then [a] else []) ++ ks.flatMap atsF := by
  rw [atsF]
  congr 1
  rw [List.flatMap_def, List.flatMap_def]
  exact congrArg List.flatten (List.attach_map_val (l := ks) (f := atsF))
theorem ats_leaf (a : Atm) : atsF (.node 4 [] a) = [a] := by rw [atsF_eq, if_pos rfl]; rfl
theorem ats_in {kind : Int} (h : kind ≠ 4) (ks : List Nd) (a : Atm) : atsF (.node kind ks a) = ks.flatMap atsF := by rw [atsF_eq, if_neg h]; rfl
theorem flat_len_le (f : Nd → List Atm) : ∀ (ks : List Nd), (∀ k ∈ ks, (f k).length ≤ cntN k) → (ks.flatMap f).length ≤ (ks.map cntN).sum
  | [], _ => Nat.zero_le _
  | k :: ks, h => by
    have h1 := h k (List.mem_cons_self ..)
    have h2 := flat_len_le f ks (fun x hx => h x (List.mem_cons_of_mem _ hx))
    rw [List.flatMap_cons, List.length_append, List.map_cons, List.sum_cons]
    omega
theorem ats_len {num : ByteArray → Int × Bool} {t : Nd} (h : NdOk num t) : (atsF t).length ≤ cntN t := by
  induction h with
  | atom a _ => rw [ats_leaf, cnt_leaf]; exact Nat.le_refl 1
  | not k _ ih =>
    rw [ats_in (by decide), cntN_eq]
    have := flat_len_le atsF [k] (fun x hx => by simp at hx; subst hx; exact ih)
    omega
  | or ks _ _ ih => rw [ats_in (by decide), cntN_eq]; have := flat_len_le atsF ks ih; omega
  | and ks _ _ ih => rw [ats_in (by decide), cntN_eq]; have := flat_len_le atsF ks ih; omega
theorem ats_ok {num : ByteArray → Int × Bool} {t : Nd} (h : NdOk num t) : ∀ a ∈ atsF t, AtmOk num a := by
  induction h with
  | atom a h => intro x hx; rw [ats_leaf] at hx; simp at hx; subst hx; exact h
  | not k _ ih => intro x hx; rw [ats_in (by decide)] at hx; simp at hx; exact ih x hx
  | or ks _ _ ih => intro x hx; rw [ats_in (by decide), List.mem_flatMap] at hx; obtain ⟨k, hk, hx⟩ := hx; exact ih k hk x hx
  | and ks _ _ ih => intro x hx; rw [ats_in (by decide), List.mem_flatMap] at hx; obtain ⟨k, hk, hx⟩ := hx; exact ih k hk x hx
end Go.Proofs.YtfmljboogkhobaaGreatDoor
/-
  The reference's tree of a rule that was read: its form and its sizes. No Go text is named here.
-/
namespace Go.Proofs.YtfmljboogkhobaaGreatDoor
open Go Go.RowKit

inductive QOk : Nq → Prop
  | leaf (a : ByteArray) (h : a.size ≤ 90) : QOk (.node noB a [])
  | not (k : Nq) (h : QOk k) : QOk (.node sNot noB [k])
  | list (op : ByteArray) (ks : List Nq) (hop : op = sOr ∨ op = sAnd) (h2 : 2 ≤ ks.length) (h : ∀ k ∈ ks, QOk k) : QOk (.node op noB ks)
def cntQ : Nq → Nat
  | .node _ _ ks => 1 + (ks.attach.map fun k => cntQ k.1).sum
termination_by t => SizeOf.sizeOf t
decreasing_by
  have := List.sizeOf_lt_of_mem k.2
  simp only [Nq.node.sizeOf_spec]
  omega
theorem cntQ_eq (op a : ByteArray) (ks : List Nq) : cntQ (.node op a ks) = 1 + (ks.map cntQ).sum := by
  rw [cntQ]
  have e1 : (ks.attach.map fun k => cntQ k.1) = ks.map cntQ := List.attach_map_val (l := ks) (f := cntQ)
  rw [e1]
theorem cntQ_pos (t : Nq) : 1 ≤ cntQ t := by
  cases t
  rw [cntQ_eq]
  omega
theorem qok_spl {op : ByteArray} {k : Nq} (h : QOk k) (hop : op = sOr ∨ op = sAnd) : ∀ x ∈ splQ op k, QOk x := by
  intro x hx
  unfold splQ at hx
  split at hx
  · rename_i he
    cases h with
    | leaf a h => cases hx
    | not k h => exact absurd (show sNot = op from he) (by rcases hop with h | h <;> rw [h] <;> decide)
    | list o ks h1 h2 h3 => exact h3 x hx
  · simp at hx; subst hx; exact h
theorem flat_qok {num : ByteArray → Int × Bool} (hz : NumZ num) {t : Nd} (h : NdOk num t) : QOk (flat t) := by
  induction h with
  | atom a h => rw [flat_leaf]; exact .leaf _ (txtA_size hz h)
  | not k _ ih => rw [flat_not]; exact .not _ ih
  | or ks h2 h ih =>
    rw [flat_or]
    refine .list sOr _ (.inl rfl) (Nat.le_trans h2 (flatMap_len _ ks (fun k hk => (flat_fok (h k hk)).spl (.inl rfl)))) (fun x hx => ?_)
    obtain ⟨k, hk, hx⟩ := List.mem_flatMap.1 hx
    exact qok_spl (ih k hk) (.inl rfl) x hx
  | and ks h2 h ih =>
    rw [flat_and]
    refine .list sAnd _ (.inr rfl) (Nat.le_trans h2 (flatMap_len _ ks (fun k hk => (flat_fok (h k hk)).spl (.inr rfl)))) (fun x hx => ?_)
    obtain ⟨k, hk, hx⟩ := List.mem_flatMap.1 hx
    exact qok_spl (ih k hk) (.inr rfl) x hx
theorem cnt_spl (op : ByteArray) (k : Nq) : ((splQ op k).map cntQ).sum ≤ cntQ k := by
  unfold splQ
  split
  · cases k with
    | node o a ks => rw [cntQ_eq]; show (ks.map cntQ).sum ≤ _; omega
  · simp
theorem cnt_flatMap (op : ByteArray) : ∀ (ks : List Nd), (∀ k ∈ ks, cntQ (flat k) ≤ cntN k) → ((ks.flatMap fun k => splQ op (flat k)).map cntQ).sum ≤ (ks.map cntN).sum
  | [], _ => Nat.le_refl _
  | k :: ks, h => by
    have h1 := h k (List.mem_cons_self ..)
    have h2 := cnt_flatMap op ks (fun x hx => h x (List.mem_cons_of_mem _ hx))
    have h3 := cnt_spl op (flat k)
    rw [List.flatMap_cons, List.map_append, List.sum_append, List.map_cons, List.sum_cons]
    omega
theorem cnt_flat {num : ByteArray → Int × Bool} {t : Nd} (h : NdOk num t) : cntQ (flat t) ≤ cntN t := by
  induction h with
  | atom a _ => rw [flat_leaf, cntQ_eq, cnt_leaf]; simp
  | not k _ ih => rw [flat_not, cntQ_eq, cntN_eq]; simp; exact ih
  | or ks _ _ ih => rw [flat_or, cntQ_eq, cntN_eq]; have := cnt_flatMap sOr ks ih; omega
  | and ks _ _ ih => rw [flat_and, cntQ_eq, cntN_eq]; have := cnt_flatMap sAnd ks ih; omega
theorem partQ_size (op : ByteArray) (k : Nq) (x : ByteArray) : (partQ op k x).size ≤ x.size + 2 := by
  unfold partQ parIf
  split
  · rw [parB_size]; exact Nat.le_refl _
  · omega
theorem sum_leQ (f g : Nq → Nat) : ∀ (l : List Nq), (∀ x ∈ l, f x ≤ g x) → (l.map f).sum ≤ (l.map g).sum
  | [], _ => Nat.le_refl _
  | x :: l, h => by
    have h1 := h x (List.mem_cons_self ..)
    have h2 := sum_leQ f g l (fun y hy => h y (List.mem_cons_of_mem _ hy))
    simp only [List.map_cons, List.sum_cons]
    omega
theorem sum_mulQ (f : Nq → Nat) (c : Nat) : ∀ (l : List Nq), (l.map (fun x => c * f x)).sum = c * (l.map f).sum
  | [] => rfl
  | x :: l => by
    simp only [List.map_cons, List.sum_cons]
    rw [sum_mulQ f c l, Nat.mul_add]
theorem mem_sumQ (f : Nq → Nat) : ∀ (l : List Nq) (k : Nq), k ∈ l → f k ≤ (l.map f).sum
  | [], _, h => by cases h
  | x :: l, k, h => by
    rw [List.map_cons, List.sum_cons]
    rcases List.mem_cons.1 h with rfl | h
    · omega
    · have := mem_sumQ f l k h; omega
theorem len_sumQ (f : Nq → Nat) (h : ∀ k, 1 ≤ f k) : ∀ (l : List Nq), l.length ≤ (l.map f).sum
  | [] => Nat.le_refl _
  | x :: l => by
    have h1 := h x
    have h2 := len_sumQ f h l
    rw [List.length_cons, List.map_cons, List.sum_cons]
    omega
theorem txtQ_leaf (a : ByteArray) (ks : List Nq) : txtQ (.node noB a ks) = a := by rw [txtQ_eq, if_pos rfl]
theorem txtQ_not (k : Nq) (a : ByteArray) : txtQ (.node sNot a [k]) = notT ++ partQ sNot k (txtQ k) := by rw [txtQ_eq, if_neg (by decide), if_pos rfl]; rfl
theorem txtQ_list {op : ByteArray} (hop : op = sOr ∨ op = sAnd) (a : ByteArray) (ks : List Nq) : txtQ (.node op a ks) = joinB ([32] ++ op.data.toList ++ [32]) (ks.map fun k => partQ op k (txtQ k)) := by
  rw [txtQ_eq, if_neg (by rcases hop with h | h <;> rw [h] <;> decide), if_neg (by rcases hop with h | h <;> rw [h] <;> decide)]
theorem txtQ_size {t : Nq} (h : QOk t) : (txtQ t).size + 10 ≤ 100 * cntQ t := by
  induction h with
  | leaf a h => rw [txtQ_leaf, cntQ_eq]; simp; omega
  | not k _ ih =>
    rw [txtQ_not, cntQ_eq, ByteArray.size_append]
    have := partQ_size sNot k (txtQ k)
    have e : notT.size = 4 := rfl
    simp only [List.map_cons, List.map_nil, List.sum_cons, List.sum_nil]
    omega
  | list op ks hop _ _ ih =>
    rw [txtQ_list hop, cntQ_eq]
    have hs : ([32] ++ op.data.toList ++ [32]).length ≤ 5 := by rcases hop with h | h <;> rw [h] <;> decide
    have h1 := joinB_size ([32] ++ op.data.toList ++ [32]) (ks.map fun k => partQ op k (txtQ k))
    rw [List.map_map] at h1
    have h2 := sum_leQ ((fun x => x.size + ([32] ++ op.data.toList ++ [32]).length) ∘ fun k => partQ op k (txtQ k)) (fun k => 100 * cntQ k) ks (fun k hk => by
      have := ih k hk
      have := partQ_size op k (txtQ k)
      show (partQ op k (txtQ k)).size + _ ≤ 100 * cntQ k
      omega)
    rw [sum_mulQ] at h2
    omega
end Go.Proofs.YtfmljboogkhobaaGreatDoor
/-
  Sorted lists without twins: a list is told by what it holds; the atoms of both trees are one. No Go text is named here.
-/
namespace Go.Proofs.YtfmljboogkhobaaGreatDoor
open Go Go.RowKit

abbrev BL := List UInt8
def srtQ (ls : List BL) : List BL := ls.mergeSort fun x y => decide (x ≤ y)
theorem bl_total (a b : BL) : (decide (a ≤ b) || decide (b ≤ a)) = true := by
  rcases List.le_total a b with h | h
  · rw [decide_eq_true h]; rfl
  · rw [decide_eq_true h]; simp
theorem bl_trans (a b c : BL) (h1 : decide (a ≤ b) = true) (h2 : decide (b ≤ c) = true) : decide (a ≤ c) = true :=
  decide_eq_true (List.le_trans (of_decide_eq_true h1) (of_decide_eq_true h2))
theorem srtQ_sorted (ls : List BL) : (srtQ ls).Pairwise (fun a b => a ≤ b) := by
  have := List.pairwise_mergeSort (le := fun x y : BL => decide (x ≤ y)) bl_trans bl_total ls
  exact this.imp (fun h => of_decide_eq_true h)
theorem srtQ_mem (ls : List BL) (x : BL) : x ∈ srtQ ls ↔ x ∈ ls := List.mem_mergeSort
/-- in a sorted row without twins each comes once -/
theorem comp_upto (d : Array BL) (hs : ∀ i j, i ≤ j → j < d.size → d[i]! ≤ d[j]!) : ∀ m, m ≤ d.size → (∀ x, x ∈ Lib.compactUpTo d m ↔ ∃ j, j < m ∧ d[j]! = x) ∧ (Lib.compactUpTo d m).Pairwise (fun a b => a ≤ b ∧ a ≠ b)
  | 0, _ => ⟨fun x => by simp [Lib.compactUpTo], by simp [Lib.compactUpTo]⟩
  | m + 1, h => by
    obtain ⟨h1, h2⟩ := comp_upto d hs m (by omega)
    rw [Lib.compactUpTo_succ]
    by_cases hk : Lib.keeps d m = true
    · rw [if_pos hk]
      refine ⟨fun x => ?_, ?_⟩
      · rw [List.mem_append, h1]
        constructor
        · rintro (⟨j, hj, e⟩ | e)
          · exact ⟨j, by omega, e⟩
          · simp at e; exact ⟨m, by omega, e.symm⟩
        · rintro ⟨j, hj, e⟩
          rcases Nat.lt_or_ge j m with h | h
          · exact .inl ⟨j, h, e⟩
          · obtain rfl : j = m := by omega
            exact .inr (by simp [e])
      · rw [List.pairwise_append]
        refine ⟨h2, by simp, fun a ha b hb => ?_⟩
        simp at hb
        subst hb
        obtain ⟨j, hj, rfl⟩ := (h1 a).1 ha
        refine ⟨hs j m (by omega) (by omega), fun e => ?_⟩
        have hm : m ≠ 0 := by omega
        have hne : d[m]! ≠ d[m - 1]! := by
          unfold Lib.keeps at hk
          have := of_decide_eq_true hk
          rcases this with h | h
          · exact absurd h hm
          · exact h
        have q1 := hs j (m - 1) (by omega) (by omega)
        have q2 := hs (m - 1) m (by omega) (by omega)
        rw [e] at q1
        exact hne (List.le_antisymm q1 q2)
    · rw [if_neg hk, List.append_nil]
      refine ⟨fun x => ?_, h2⟩
      have hk : Lib.keeps d m = false := by simpa using hk
      unfold Lib.keeps at hk
      have hk := of_decide_eq_false hk
      have hm : m ≠ 0 := fun e => hk (.inl e)
      have he : d[m]! = d[m - 1]! := by
        by_cases e : d[m]! = d[m - 1]!
        · exact e
        · exact absurd (.inr e) hk
      rw [h1]
      constructor
      · rintro ⟨j, hj, e⟩; exact ⟨j, by omega, e⟩
      · rintro ⟨j, hj, e⟩
        rcases Nat.lt_or_ge j m with h | h
        · exact ⟨j, h, e⟩
        · obtain rfl : j = m := by omega
          exact ⟨j - 1, by omega, by rw [← he]; exact e⟩
theorem comp_ok (ls : List BL) : (∀ x, x ∈ Lib.compact (srtQ ls) ↔ x ∈ ls) ∧ (Lib.compact (srtQ ls)).Pairwise (fun a b => a ≤ b ∧ a ≠ b) := by
  have hs := srtQ_sorted ls
  obtain ⟨h1, h2⟩ := comp_upto (srtQ ls).toArray (fun i j hij hj => by
    have hj' : j < (srtQ ls).length := by simpa using hj
    rw [getElem!_pos _ i (by simp; omega), getElem!_pos _ j hj]
    simp only [List.getElem_toArray]
    rcases Nat.lt_or_eq_of_le hij with h | h
    · exact List.pairwise_iff_getElem.1 hs i j (by omega) hj' h
    · subst h; exact List.le_refl _) (srtQ ls).length (by simp)
  refine ⟨fun x => ?_, h2⟩
  rw [← srtQ_mem ls x]
  have := h1 x
  rw [show Lib.compact (srtQ ls) = Lib.compactUpTo (srtQ ls).toArray (srtQ ls).length from rfl, this, List.mem_iff_getElem]
  constructor
  · rintro ⟨j, hj, e⟩
    exact ⟨j, hj, by rw [getElem!_pos _ j (by simpa using hj)] at e; simpa using e⟩
  · rintro ⟨j, hj, e⟩
    exact ⟨j, hj, by rw [getElem!_pos _ j (by simpa using hj)]; simpa using e⟩
theorem strict_one : ∀ (a b : List BL), a.Pairwise (fun x y => x ≤ y ∧ x ≠ y) → b.Pairwise (fun x y => x ≤ y ∧ x ≠ y) → (∀ x, x ∈ a ↔ x ∈ b) → a = b
  | [], [], _, _, _ => rfl
  | [], y :: b, _, _, h => absurd ((h y).2 (List.mem_cons_self ..)) (by simp)
  | x :: a, [], _, _, h => absurd ((h x).1 (List.mem_cons_self ..)) (by simp)
  | x :: a, y :: b, ha, hb, h => by
    rw [List.pairwise_cons] at ha hb
    have exy : x = y := by
      rcases List.mem_cons.1 ((h x).1 (List.mem_cons_self ..)) with e | e
      · exact e
      · rcases List.mem_cons.1 ((h y).2 (List.mem_cons_self ..)) with e2 | e2
        · exact e2.symm
        · exact List.le_antisymm (ha.1 y e2).1 (hb.1 x e).1
    subst exy
    congr 1
    refine strict_one a b ha.2 hb.2 (fun z => ?_)
    constructor
    · intro hz
      rcases List.mem_cons.1 ((h z).1 (List.mem_cons_of_mem _ hz)) with e | e
      · exact absurd e.symm (ha.1 z hz).2
      · exact e
    · intro hz
      rcases List.mem_cons.1 ((h z).2 (List.mem_cons_of_mem _ hz)) with e | e
      · exact absurd e.symm (hb.1 z hz).2
      · exact e
theorem comp_one {l1 l2 : List BL} (h : ∀ x, x ∈ l1 ↔ x ∈ l2) : Lib.compact (srtQ l1) = Lib.compact (srtQ l2) :=
  strict_one _ _ (comp_ok l1).2 (comp_ok l2).2 (fun x => by rw [(comp_ok l1).1, (comp_ok l2).1, h])

/-- the atoms of the reference's tree -/
def atsQ : Nq → List BL
  | .node op atom ks => Lib.compact (srtQ ((if op = noB then [atom.data.toList] else []) ++ ks.attach.flatMap fun k => atsQ k.1))
termination_by t => SizeOf.sizeOf t
decreasing_by
  have := List.sizeOf_lt_of_mem k.2
  simp only [Nq.node.sizeOf_spec]
  omega
theorem atsQ_eq (op atom : ByteArray) (ks : List Nq) : atsQ (.node op atom ks) = Lib.compact (srtQ ((if op = noB then [atom.data.toList] else []) ++ ks.flatMap atsQ)) := by
  rw [atsQ]
  congr 3
  rw [List.flatMap_def, List.flatMap_def]
  exact congrArg List.flatten (List.attach_map_val (l := ks) (f := atsQ))
theorem atsQ_mem (op atom : ByteArray) (ks : List Nq) (x : BL) : x ∈ atsQ (.node op atom ks) ↔ (op = noB ∧ x = atom.data.toList) ∨ ∃ k ∈ ks, x ∈ atsQ k := by
  rw [atsQ_eq, (comp_ok _).1, List.mem_append, List.mem_flatMap]
  by_cases h : op = noB
  · rw [if_pos h]; simp [h]
  · rw [if_neg h]; simp [h]
theorem atsQ_spl {op : ByteArray} {k : Nq} (h : QOk k) (hop : op = sOr ∨ op = sAnd) (x : BL) : (∃ y ∈ splQ op k, x ∈ atsQ y) ↔ x ∈ atsQ k := by
  unfold splQ
  split
  · rename_i he
    cases h with
    | leaf a h => exact absurd (show noB = op from he) (by rcases hop with h | h <;> rw [h] <;> decide)
    | not k h => exact absurd (show sNot = op from he) (by rcases hop with h | h <;> rw [h] <;> decide)
    | list o ks h1 h2 h3 =>
      rw [atsQ_mem]
      have : o ≠ noB := by rcases h1 with h | h <;> rw [h] <;> decide
      simp [this, Nq.kids]
  · simp
theorem ats_flat {num : ByteArray → Int × Bool} (hz : NumZ num) {t : Nd} (h : NdOk num t) : ∀ x, x ∈ atsQ (flat t) ↔ x ∈ (atsF t).map fun a => (txtA a).data.toList := by
  induction h with
  | atom a _ => intro x; rw [flat_leaf, atsQ_mem, ats_leaf]; simp
  | not k _ ih =>
    intro x
    have hn : ¬ sNot = noB := by decide
    rw [flat_not, atsQ_mem, ats_in (by decide)]
    simp only [List.flatMap_cons, List.flatMap_nil, List.append_nil]
    rw [← ih x]
    simp [hn]
  | or ks h2 h ih =>
    intro x
    have hn : ¬ sOr = noB := by decide
    rw [flat_or, atsQ_mem, ats_in (by decide), List.map_flatMap, List.mem_flatMap]
    constructor
    · rintro (⟨e, _⟩ | ⟨y, hy, hx⟩)
      · exact absurd e hn
      · obtain ⟨k, hk, hy⟩ := List.mem_flatMap.1 hy
        exact ⟨k, hk, (ih k hk x).1 ((atsQ_spl (flat_qok hz (h k hk)) (.inl rfl) x).1 ⟨y, hy, hx⟩)⟩
    · rintro ⟨k, hk, hx⟩
      obtain ⟨y, hy, hx⟩ := (atsQ_spl (flat_qok hz (h k hk)) (.inl rfl) x).2 ((ih k hk x).2 hx)
      exact .inr ⟨y, List.mem_flatMap.2 ⟨k, hk, hy⟩, hx⟩
  | and ks h2 h ih =>
    intro x
    have hn : ¬ sAnd = noB := by decide
    rw [flat_and, atsQ_mem, ats_in (by decide), List.map_flatMap, List.mem_flatMap]
    constructor
    · rintro (⟨e, _⟩ | ⟨y, hy, hx⟩)
      · exact absurd e hn
      · obtain ⟨k, hk, hy⟩ := List.mem_flatMap.1 hy
        exact ⟨k, hk, (ih k hk x).1 ((atsQ_spl (flat_qok hz (h k hk)) (.inr rfl) x).1 ⟨y, hy, hx⟩)⟩
    · rintro ⟨k, hk, hx⟩
      obtain ⟨y, hy, hx⟩ := (atsQ_spl (flat_qok hz (h k hk)) (.inr rfl) x).2 ((ih k hk x).2 hx)
      exact .inr ⟨y, List.mem_flatMap.2 ⟨k, hk, hy⟩, hx⟩
theorem atsQ_self (t : Nq) : atsQ t = Lib.compact (srtQ (atsQ t)) := by
  cases t with
  | node op atom ks =>
    rw [atsQ_eq]
    exact strict_one _ _ (comp_ok _).2 (comp_ok _).2 (fun x => by rw [(comp_ok (Lib.compact _)).1])
/-- both name the same atoms -/
theorem ats_both {num : ByteArray → Int × Bool} (hz : NumZ num) {t : Nd} (h : NdOk num t) : atsQ (flat t) = Lib.compact (srtQ ((atsF t).map fun a => (txtA a).data.toList)) := by
  rw [atsQ_self]
  exact comp_one (ats_flat hz h)
theorem comp_len (ls : List BL) : (Lib.compact (srtQ ls)).length ≤ ls.length := by
  unfold Lib.compact Lib.compactUpTo
  rw [List.length_map]
  refine Nat.le_trans (List.length_filter_le _ _) ?_
  rw [List.length_range]
  unfold srtQ
  rw [List.length_mergeSort]
  exact Nat.le_refl _
theorem flat_lenQ (f : Nq → List BL) : ∀ (ks : List Nq), (∀ k ∈ ks, (f k).length ≤ cntQ k) → (ks.flatMap f).length ≤ (ks.map cntQ).sum
  | [], _ => Nat.le_refl _
  | k :: ks, h => by
    have h1 := h k (List.mem_cons_self ..)
    have h2 := flat_lenQ f ks (fun x hx => h x (List.mem_cons_of_mem _ hx))
    rw [List.flatMap_cons, List.length_append, List.map_cons, List.sum_cons]
    omega
theorem atsQ_len {t : Nq} (h : QOk t) : (atsQ t).length ≤ cntQ t := by
  induction h with
  | leaf a _ =>
    rw [atsQ_eq, cntQ_eq]
    refine Nat.le_trans (comp_len _) ?_
    simp
  | not k _ ih =>
    rw [atsQ_eq, cntQ_eq]
    refine Nat.le_trans (comp_len _) ?_
    have := flat_lenQ atsQ [k] (fun x hx => by simp at hx; subst hx; exact ih)
    rw [if_neg (by decide)]
    simp only [List.nil_append]
    omega
  | list op ks hop _ _ ih =>
    rw [atsQ_eq, cntQ_eq]
    refine Nat.le_trans (comp_len _) ?_
    have := flat_lenQ atsQ ks ih
    rw [if_neg (by rcases hop with h | h <;> rw [h] <;> decide)]
    simp only [List.nil_append]
    omega
end Go.Proofs.YtfmljboogkhobaaGreatDoor
