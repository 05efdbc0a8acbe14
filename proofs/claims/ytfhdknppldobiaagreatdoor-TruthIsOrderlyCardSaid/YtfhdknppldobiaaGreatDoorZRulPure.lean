/-
  The parser of rules in plain words: tokens, and the tree that is read. No Go text is named here.
-/
import Derived.Test.YtfhdknppldobiaaGreatDoorZNum2
namespace Go.Proofs.YtfhdknppldobiaaGreatDoor
open Go Go.RowKit

def wordB (c : UInt8) : Bool := decide ((97 ≤ c.toNat ∧ c.toNat ≤ 122) ∨ (48 ≤ c.toNat ∧ c.toNat ≤ 57) ∨ c.toNat = 45 ∨ c.toNat = 95 ∨ c.toNat = 46)
def blankB (c : UInt8) : Bool := decide (c.toNat = 32)
def markB (c : UInt8) : Bool := decide (c.toNat = 40 ∨ c.toNat = 41 ∨ c.toNat = 61 ∨ c.toNat = 60 ∨ c.toNat = 62)
/-- the first place from i on whose byte is not as p says -/
def spanF (p : UInt8 → Bool) (s : ByteArray) (i : Nat) : Nat := i + ((s.data.toList.drop i).takeWhile p).length
theorem span_yes (p : UInt8 → Bool) (s : ByteArray) (i : Nat) (hi : i < s.size) (h : p s[i] = true) : spanF p s i = spanF p s (i + 1) := by
  unfold spanF
  have hl : i < s.data.toList.length := by simpa using hi
  rw [List.drop_eq_getElem_cons hl, List.takeWhile_cons]
  have : p s.data.toList[i] = true := h
  rw [if_pos this, List.length_cons]
  omega
theorem span_no (p : UInt8 → Bool) (s : ByteArray) (i : Nat) (hi : i < s.size) (h : p s[i] = false) : spanF p s i = i := by
  unfold spanF
  have hl : i < s.data.toList.length := by simpa using hi
  rw [List.drop_eq_getElem_cons hl, List.takeWhile_cons]
  have : p s.data.toList[i] = false := h
  rw [if_neg (by rw [this]; decide)]
  rfl
theorem span_end (p : UInt8 → Bool) (s : ByteArray) (i : Nat) (hi : s.size ≤ i) : spanF p s i = i := by
  unfold spanF
  rw [List.drop_eq_nil_of_le (by simpa using hi)]
  rfl
theorem span_ge (p : UInt8 → Bool) (s : ByteArray) (i : Nat) : i ≤ spanF p s i := by unfold spanF; omega
theorem span_le (p : UInt8 → Bool) (s : ByteArray) (i : Nat) (hi : i ≤ s.size) : spanF p s i ≤ s.size := by
  unfold spanF
  have h : ((s.data.toList.drop i).takeWhile p).length ≤ (s.data.toList.drop i).length := (List.takeWhile_sublist _).length_le
  rw [List.length_drop] at h
  have : s.data.toList.length = s.size := by simp
  omega
/-- is there a mark at i? -/
def markAt (s : ByteArray) (i : Nat) : Bool := match s.data.toList[i]? with | some c => markB c | none => false
theorem markAt_in (s : ByteArray) (i : Nat) (hi : i < s.size) : markAt s i = markB s[i] := by
  unfold markAt
  have hl : i < s.data.toList.length := by simpa using hi
  rw [List.getElem?_eq_getElem hl]
  rfl
theorem markAt_out (s : ByteArray) (i : Nat) (hi : s.size ≤ i) : markAt s i = false := by
  unfold markAt
  rw [List.getElem?_eq_none (by simpa using hi)]
/-- the end of the token that begins at i -/
def tokE (s : ByteArray) (i : Nat) : Nat := if spanF wordB s i = i then (if markAt s i = true then i + 1 else i) else spanF wordB s i
theorem tokE_ge (s : ByteArray) (i : Nat) : i ≤ tokE s i := by
  unfold tokE
  split
  · split <;> omega
  · exact span_ge _ _ _
theorem tokE_le (s : ByteArray) (i : Nat) (hi : i ≤ s.size) : tokE s i ≤ s.size := by
  unfold tokE
  split
  · split
    · rename_i h
      rcases Nat.lt_or_ge i s.size with hlt | hge
      · omega
      · rw [markAt_out s i hge] at h; cases h
    · exact hi
  · exact span_le _ _ _ hi

/-- a parser as it goes -/
structure PSt where
  at_ : Nat
  tok : ByteArray
  deep : Int
  bad : Bool
def nextF (s : ByteArray) (t : PSt) : PSt :=
  { t with at_ := spanF blankB s (t.at_ + t.tok.size), tok := s.extract (spanF blankB s (t.at_ + t.tok.size)) (tokE s (spanF blankB s (t.at_ + t.tok.size))) }
def takeS (t : PSt) (ok : Bool) : ByteArray := if (t.bad || !ok) = true then ⟨#[]⟩ else t.tok
def takeF (s : ByteArray) (t : PSt) (ok : Bool) : PSt := if (t.bad || !ok) = true then { t with bad := true } else nextF s t
def nestF (d : Int) (t : PSt) : PSt := if 20 < d ∧ t.deep < 0 then { t with deep := t.at_ } else t

/-- what holds of each parser on its way -/
structure POk (s : ByteArray) (t : PSt) : Prop where
  at_ : t.at_ + t.tok.size ≤ s.size
  deep : -1 ≤ t.deep ∧ t.deep ≤ s.size
  tok : ∃ i, t.tok = s.extract i (tokE s i)
theorem POk.next {s : ByteArray} {t : PSt} (h : POk s t) : POk s (nextF s t) := by
  have h1 := span_le blankB s (t.at_ + t.tok.size) h.at_
  have h2 := tokE_le s _ h1
  have h3 := tokE_ge s (spanF blankB s (t.at_ + t.tok.size))
  refine ⟨?_, h.deep, _, rfl⟩
  simp only [nextF, ByteArray.size_extract]
  omega
theorem next_ge {s : ByteArray} {t : PSt} : t.at_ + t.tok.size ≤ (nextF s t).at_ := span_ge _ _ _
theorem POk.take {s : ByteArray} {t : PSt} (h : POk s t) (ok : Bool) : POk s (takeF s t ok) := by
  unfold takeF
  split
  · exact ⟨h.at_, h.deep, h.tok⟩
  · exact h.next
theorem take_ge {s : ByteArray} {t : PSt} (ok : Bool) : t.at_ ≤ (takeF s t ok).at_ := by
  unfold takeF
  split
  · exact Nat.le_refl _
  · have := next_ge (s := s) (t := t); omega
theorem POk.nest {s : ByteArray} {t : PSt} (h : POk s t) (d : Int) : POk s (nestF d t) := by
  unfold nestF
  split
  · exact ⟨h.at_, ⟨by simp only; omega, by have := h.at_; simp only; omega⟩, h.tok⟩
  · exact h

structure Atm where
  word : ByteArray
  name : ByteArray
  value : ByteArray
  n : Int
inductive Nd where
  | node (kind : Int) (kids : List Nd) (a : Atm)
def atm0 : Atm := ⟨⟨#[]⟩, ⟨#[]⟩, ⟨#[]⟩, 0⟩
def nd0 : Nd := .node 0 [] atm0
def sOr : ByteArray := ⟨#[111, 114]⟩
def sAnd : ByteArray := ⟨#[97, 110, 100]⟩
def sNot : ByteArray := ⟨#[110, 111, 116]⟩
def sHas : ByteArray := ⟨#[104, 97, 115]⟩
def sTrue : ByteArray := ⟨#[116, 114, 117, 101]⟩
def sTime : ByteArray := ⟨#[116, 105, 109, 101]⟩
def sEq : ByteArray := ⟨#[61]⟩
def sLt : ByteArray := ⟨#[60]⟩
def sGt : ByteArray := ⟨#[62]⟩
def sOpen : ByteArray := ⟨#[40]⟩
def sShut : ByteArray := ⟨#[41]⟩
/-- the parts of an or, or an and, on and on -/
def loopF (s : ByteArray) (word : ByteArray) (part : PSt → Nd × PSt) : Nat → List Nd → PSt → List Nd × PSt
  | 0, ks, t => (ks, t)
  | m + 1, ks, t => if t.bad = false ∧ t.tok = word then loopF s word part m (ks ++ [(part (nextF s t)).1]) (part (nextF s t)).2 else (ks, t)
def joinF (kind : Int) (ks : List Nd) : Nd := match ks with | [k] => k | _ => .node kind ks atm0
def manyF (s : ByteArray) (kind : Int) (word : ByteArray) (part : PSt → Nd × PSt) (t : PSt) : Nd × PSt :=
  (joinF kind (loopF s word part (s.size + 1) [(part t).1] (part t).2).1, (loopF s word part (s.size + 1) [(part t).1] (part t).2).2)
/-- may it be the name, the value of an atom? -/
def nameB (x : ByteArray) : Bool := keyB x.data.toList && !([sTime, sAnd, sOr, sNot, sHas, sTrue].any fun y => x.toList == y.toList)
def valueB (x : ByteArray) : Bool := decide (1 ≤ x.size ∧ x.size ≤ 40) && x.data.toList.all wordB
/-- an atom; num: how a number is read -/
def atomF (num : ByteArray → Int × Bool) (s : ByteArray) (t : PSt) : Atm × PSt :=
  if t.tok = sTrue then (⟨sTrue, ⟨#[]⟩, ⟨#[]⟩, 0⟩, takeF s t true)
  else if t.tok = sHas then (⟨sHas, takeS (takeF s t true) (nameB (takeF s t true).tok), ⟨#[]⟩, 0⟩, takeF s (takeF s t true) (nameB (takeF s t true).tok))
  else if t.tok = sTime then
    let t1 := takeF s t true
    let ok1 := decide (t1.tok = sLt) || decide (t1.tok = sGt)
    let t2 := takeF s t1 ok1
    let ok2 := (num t2.tok).2 && decide (0 ≤ (num t2.tok).1 ∧ (num t2.tok).1 ≤ 864000000)
    (⟨takeS t1 ok1, ⟨#[]⟩, takeS t2 ok2, (num t2.tok).1⟩, takeF s t2 ok2)
  else
    let t1 := takeF s t (nameB t.tok)
    let t2 := takeF s t1 (decide (t1.tok = sEq))
    (⟨sEq, takeS t (nameB t.tok), takeS t2 (valueB t2.tok), 0⟩, takeF s t2 (valueB t2.tok))
def notF (num : ByteArray → Int × Bool) (s : ByteArray) : Nat → Int → PSt → Nd × PSt
  | 0, _, t => (nd0, t)
  | f + 1, d, t =>
    if t.tok = sNot then (.node 3 [(notF num s f (d + 1) (takeF s (nestF d t) true)).1] atm0, (notF num s f (d + 1) (takeF s (nestF d t) true)).2)
    else if t.tok = sOpen then
      let r := manyF s 1 sOr (manyF s 2 sAnd (notF num s f (d + 1))) (takeF s (nestF d t) true)
      (r.1, takeF s r.2 (decide (r.2.tok = sShut)))
    else (.node 4 [] (atomF num s t).1, (atomF num s t).2)
def orF (num : ByteArray → Int × Bool) (s : ByteArray) (f : Nat) (d : Int) (t : PSt) : Nd × PSt := manyF s 1 sOr (manyF s 2 sAnd (notF num s f d)) t
def pst0 (s : ByteArray) : PSt := nextF s ⟨0, ⟨#[]⟩, -1, false⟩
def parseT (num : ByteArray → Int × Bool) (s : ByteArray) : Nd × PSt := orF num s (s.size + 1) 0 (pst0 s)
/-- the offset and the error of a rule -/
def parseE (num : ByteArray → Int × Bool) (s : ByteArray) : Int × Int :=
  if 2000 < s.size then (0, 2)
  else if ((parseT num s).2.bad || decide ((parseT num s).2.at_ < s.size)) = true then ((parseT num s).2.at_, 9)
  else if 0 ≤ (parseT num s).2.deep then ((parseT num s).2.deep, 2) else (0, 0)
theorem pst_ok (s : ByteArray) : POk s ⟨0, ⟨#[]⟩, -1, false⟩ := by
  refine ⟨(by show 0 + 0 ≤ s.size; omega), ⟨(by show (-1 : Int) ≤ -1; omega), (by show (-1 : Int) ≤ s.size; omega)⟩, s.size, ?_⟩
  have h : (s.extract s.size (tokE s s.size)).size = 0 := by rw [ByteArray.size_extract]; omega
  have h2 : (s.extract s.size (tokE s s.size)).data = #[] := Array.eq_empty_of_size_eq_zero h
  cases hx : s.extract s.size (tokE s s.size) with
  | mk d => rw [hx] at h2; simp only at h2; rw [h2]
/-- no token of s is 'time' -/
def NoTime (s : ByteArray) : Prop := ∀ i, s.extract i (tokE s i) ≠ sTime
theorem POk.noTime {s : ByteArray} {t : PSt} (h : POk s t) (hn : NoTime s) : t.tok ≠ sTime := by
  obtain ⟨i, hi⟩ := h.tok
  rw [hi]
  exact hn i
theorem atom_ok (num : ByteArray → Int × Bool) {s : ByteArray} {t : PSt} (h : POk s t) : POk s (atomF num s t).2 ∧ t.at_ ≤ (atomF num s t).2.at_ := by
  unfold atomF
  split
  · exact ⟨h.take _, take_ge _⟩
  · split
    · exact ⟨(h.take _).take _, Nat.le_trans (take_ge _) (take_ge _)⟩
    · split
      · exact ⟨((h.take _).take _).take _, Nat.le_trans (take_ge _) (Nat.le_trans (take_ge _) (take_ge _))⟩
      · exact ⟨((h.take _).take _).take _, Nat.le_trans (take_ge _) (Nat.le_trans (take_ge _) (take_ge _))⟩
end Go.Proofs.YtfhdknppldobiaaGreatDoor
/-
  The reference's check of rules in plain words: tokens, what can come next, and the tree that is read; all of it stands as the parser's. No Go text is named here.
-/
namespace Go.Proofs.YtfhdknppldobiaaGreatDoor
open Go Go.RowKit

abbrev Tk := ByteArray × Nat
theorem span_gt (p : UInt8 → Bool) (s : ByteArray) (i : Nat) (hi : i < s.size) (h : p s[i] = true) : i < spanF p s i := by
  rw [span_yes p s i hi h]
  have := span_ge p s (i + 1)
  omega
/-- the tokens from i on; the last one is empty -/
def toks (s : ByteArray) (i : Nat) : List Tk :=
  if h : i < s.size then
    if blankB s[i] = true then toks s (i + 1)
    else if markB s[i] = true then (s.extract i (i + 1), i) :: toks s (i + 1)
    else if hw : wordB s[i] = true then (s.extract i (spanF wordB s i), i) :: toks s (spanF wordB s i)
    else [(⟨#[]⟩, i)]
  else [(⟨#[]⟩, s.size)]
termination_by s.size - i
decreasing_by
  · omega
  · omega
  · have := span_gt wordB s i h hw; omega
theorem ba_nil {x : ByteArray} (h : x.size = 0) : x = ⟨#[]⟩ := by
  cases x with
  | mk d =>
    have h2 : d = #[] := Array.eq_empty_of_size_eq_zero h
    rw [h2]
theorem ext_self (s : ByteArray) (i : Nat) : s.extract i i = ⟨#[]⟩ := ba_nil (by rw [ByteArray.size_extract]; omega)
theorem mark_word (c : UInt8) (h : markB c = true) : wordB c = false := by
  unfold markB at h
  unfold wordB
  have h := of_decide_eq_true h
  exact decide_eq_false (by omega)
theorem toks_eq (s : ByteArray) : ∀ (k i : Nat), s.size - i ≤ k → i ≤ s.size →
    toks s i = (s.extract (spanF blankB s i) (tokE s (spanF blankB s i)), spanF blankB s i) :: (if tokE s (spanF blankB s i) = spanF blankB s i then [] else toks s (tokE s (spanF blankB s i)))
  | k, i, hk, hi => by
    rcases Nat.lt_or_ge i s.size with hlt | hge
    · cases hb : blankB s[i]
      · have hj := span_no blankB s i hlt hb
        rw [hj]
        rw [toks, dif_pos hlt, if_neg (by rw [hb]; decide)]
        cases hm : markB s[i]
        · rw [if_neg (by decide)]
          cases hw : wordB s[i]
          · have hE : tokE s i = i := by
              unfold tokE
              rw [if_pos (span_no wordB s i hlt hw), if_neg (by rw [markAt_in s i hlt, hm]; decide)]
            rw [dif_neg (by decide), hE, if_pos rfl, ext_self]
          · have hg := span_gt wordB s i hlt hw
            have hE : tokE s i = spanF wordB s i := by
              unfold tokE
              rw [if_neg (by omega)]
            rw [dif_pos rfl, hE, if_neg (by omega)]
        · have hw := mark_word _ hm
          have hE : tokE s i = i + 1 := by
            unfold tokE
            rw [if_pos (span_no wordB s i hlt hw), if_pos (by rw [markAt_in s i hlt, hm])]
          rw [if_pos rfl, hE, if_neg (by omega)]
      · have hj := span_yes blankB s i hlt hb
        rw [hj, toks, dif_pos hlt, if_pos hb]
        cases k with
        | zero => omega
        | succ k => exact toks_eq s k (i + 1) (by omega) (by omega)
    · obtain rfl : i = s.size := by omega
      have hj := span_end blankB s s.size (Nat.le_refl _)
      have hE : tokE s s.size = s.size := by
        unfold tokE
        rw [if_pos (span_end wordB s s.size (Nat.le_refl _)), if_neg (by rw [markAt_out s s.size (Nat.le_refl _)]; decide)]
      rw [hj, hE, if_pos rfl, ext_self, toks, dif_neg (by omega)]
theorem toks_len (s : ByteArray) : ∀ (k i : Nat), s.size - i ≤ k → i ≤ s.size → (toks s i).length + i ≤ s.size + 1
  | k, i, hk, hi => by
    rw [toks]
    split
    · rename_i hlt
      have hk1 : ∃ k', k = k' + 1 := ⟨k - 1, by omega⟩
      obtain ⟨k', rfl⟩ := hk1
      split
      · have := toks_len s k' (i + 1) (by omega) (by omega); omega
      · split
        · have := toks_len s k' (i + 1) (by omega) (by omega)
          rw [List.length_cons]; omega
        · split
          · rename_i hw
            have hg := span_gt wordB s i hlt hw
            have hle := span_le wordB s i hi
            have := toks_len s k' (spanF wordB s i) (by omega) hle
            rw [List.length_cons]; omega
          · rw [List.length_singleton]; omega
    · rw [List.length_singleton]; omega

/-- the parser stands before the tokens l -/
def TM (s : ByteArray) (t : PSt) (l : List Tk) : Prop := ∃ i, i ≤ s.size ∧ t.at_ = spanF blankB s i ∧ t.tok = s.extract t.at_ (tokE s t.at_) ∧ l = toks s i
theorem TM.cons {s : ByteArray} {t : PSt} {l : List Tk} (h : TM s t l) :
    t.at_ + t.tok.size ≤ s.size ∧ l = (t.tok, t.at_) :: (if t.tok.size = 0 then [] else toks s (t.at_ + t.tok.size)) := by
  obtain ⟨i, hi, h1, h2, rfl⟩ := h
  have hle := span_le blankB s i hi
  rw [← h1] at hle
  have hE := tokE_le s t.at_ hle
  have hG := tokE_ge s t.at_
  have hz : t.tok.size = tokE s t.at_ - t.at_ := by rw [h2, ByteArray.size_extract]; omega
  refine ⟨by omega, ?_⟩
  rw [toks_eq s _ i (Nat.le_refl _) hi, ← h1, ← h2]
  have e : t.at_ + t.tok.size = tokE s t.at_ := by omega
  rw [e]
  by_cases h0 : tokE s t.at_ = t.at_
  · rw [if_pos h0, if_pos (by omega)]
  · rw [if_neg h0, if_neg (by omega)]
theorem TM.len {s : ByteArray} {t : PSt} {l : List Tk} (h : TM s t l) : l.length ≤ s.size + 1 := by
  obtain ⟨i, hi, _, _, rfl⟩ := h
  have := toks_len s _ i (Nat.le_refl _) hi
  omega
theorem TM.next {s : ByteArray} {t : PSt} {l : List Tk} (h : TM s t l) (hz : t.tok.size ≠ 0) : TM s (nextF s t) l.tail := by
  obtain ⟨h1, h2⟩ := h.cons
  refine ⟨t.at_ + t.tok.size, h1, rfl, rfl, ?_⟩
  rw [h2, if_neg hz]
  rfl
theorem TM.same {s : ByteArray} {t t' : PSt} {l : List Tk} (h : TM s t l) (h1 : t'.at_ = t.at_) (h2 : t'.tok = t.tok) : TM s t' l := by
  obtain ⟨i, hi, e1, e2, e3⟩ := h
  exact ⟨i, hi, h1.trans e1, by rw [h2, h1]; exact e2, e3⟩
theorem TM.start (s : ByteArray) : TM s (pst0 s) (toks s 0) := ⟨0, Nat.zero_le _, rfl, rfl, rfl⟩

/-- can t stand where so is wanted, and what is wanted then? -/
def fitF (num : ByteArray → Int × Bool) (want : Nat) (t : ByteArray) (opn : Nat) : Bool × Nat :=
  if want = 0 then
    if t = sOpen ∨ t = sNot then (true, 0) else if t = sTrue then (true, 1) else if t = sHas then (true, 2) else if t = sTime then (true, 5) else (nameB t, 3)
  else if want = 1 then
    if t = sAnd ∨ t = sOr then (true, 0) else if t = sShut then (decide (0 < opn), 1) else (decide (t.size = 0 ∧ opn = 0), 1)
  else if want = 2 then (nameB t, 1)
  else if want = 3 then (decide (t = sEq), 4)
  else if want = 4 then (valueB t, 1)
  else if want = 5 then (decide (t = sLt) || decide (t = sGt), 6)
  else ((num t).2 && decide (0 ≤ (num t).1 ∧ (num t).1 ≤ 864000000), 1)
/-- what is open: true an open mark, false a not -/
def popN : List Bool → List Bool
  | false :: st => popN st
  | st => st
def pushF (want : Nat) (t : ByteArray) (st : List Bool) : List Bool := if t = sOpen ∨ (t = sNot ∧ want = 0) then decide (t = sOpen) :: st else if t = sShut then st.tail else st
def deepF (want : Nat) (t : ByteArray) (i : Nat) (st : List Bool) (deep : Int) : Int := if t = sOpen ∨ (t = sNot ∧ want = 0) then (if 20 < (st.length : Int) ∧ deep < 0 then (i : Int) else deep) else deep
def chkF (num : ByteArray → Int × Bool) (n : Nat) : Nat → List Bool → Int → List Tk → Int × Int
  | _, _, deep, [] => if 0 ≤ deep then (deep, 2) else (0, 0)
  | want, st, deep, t :: l =>
    if (fitF num want t.1 (st.count true)).1 = false ∨ (t.1.size = 0 ∧ t.2 < n) then ((t.2 : Int), 9)
    else chkF num n (fitF num want t.1 (st.count true)).2 (if (fitF num want t.1 (st.count true)).2 = 1 then popN (pushF want t.1 st) else pushF want t.1 st) (deepF want t.1 t.2 st deep) l
def checkE (num : ByteArray → Int × Bool) (s : ByteArray) : Int × Int := if 2000 < s.size then (0, 2) else chkF num s.size 0 [] (-1) (toks s 0)

/-- the reference's tree -/
inductive Nq where
  | node (op atom : ByteArray) (kids : List Nq)
def Nq.op : Nq → ByteArray | .node o _ _ => o
def Nq.kids : Nq → List Nq | .node _ _ k => k
def noB : ByteArray := ⟨#[]⟩
/-- what a kid puts into a list of this kind -/
def splQ (op : ByteArray) (k : Nq) : List Nq := if k.op = op then k.kids else [k]
def joinQ (op : ByteArray) (ks : List Nq) : Nq := match ks with | [k] => k | _ => .node op noB ks
def sBl : ByteArray := ⟨#[32]⟩
def hasQ (x : ByteArray) : ByteArray := ⟨#[104, 97, 115, 32]⟩ ++ x
def triQ (a b c : ByteArray) : ByteArray := a ++ sBl ++ b ++ sBl ++ c
def moreR (op : ByteArray) (part : List Tk → Option (Nq × List Tk)) : Nat → List Nq → List Tk → Option (List Nq × List Tk)
  | 0, _, _ => none
  | _ + 1, _, [] => none
  | m + 1, ks, t :: l =>
    if t.1 = op then
      match part l with
      | none => none
      | some r => moreR op part m (ks ++ splQ op r.1) r.2
    else some (ks, t :: l)
def listR (op : ByteArray) (part : List Tk → Option (Nq × List Tk)) (l : List Tk) : Option (Nq × List Tk) :=
  match part l with
  | none => none
  | some r => match moreR op part l.length (splQ op r.1) r.2 with
    | none => none
    | some q => some (joinQ op q.1, q.2)
def hasR : List Tk → Option (Nq × List Tk)
  | [] => none
  | x :: l => some (.node noB (hasQ x.1) [], l)
def triR (t : ByteArray) : List Tk → Option (Nq × List Tk)
  | x :: y :: l => some (.node noB (triQ t x.1 y.1) [], l)
  | _ => none
def shutR : Option (Nq × List Tk) → Option (Nq × List Tk)
  | some (n, _ :: l) => some (n, l)
  | _ => none
def notQ : Option (Nq × List Tk) → Option (Nq × List Tk)
  | none => none
  | some r => some (.node sNot noB [r.1], r.2)
def notR : Nat → List Tk → Option (Nq × List Tk)
  | 0, _ => none
  | _ + 1, [] => none
  | f + 1, t :: l =>
    if t.1 = sNot then notQ (notR f l)
    else if t.1 = sOpen then shutR (listR sOr (listR sAnd (notR f)) l)
    else if t.1 = sTrue then some (.node noB sTrue [], l)
    else if t.1 = sHas then hasR l
    else triR t.1 l
def orR (f : Nat) (l : List Tk) : Option (Nq × List Tk) := listR sOr (listR sAnd (notR f)) l

/-- an atom's text -/
def txtA (a : Atm) : ByteArray :=
  if a.word = sTrue then sTrue else if a.word = sHas then hasQ a.name else if a.word = sEq then triQ a.name sEq a.value else triQ sTime a.word a.value
/-- the parser's tree as the reference has it: parts of one kind in one list -/
def flat : Nd → Nq
  | .node kind kids a =>
    if kind = 4 then .node noB (txtA a) []
    else if kind = 3 then .node sNot noB (kids.attach.map fun k => flat k.1)
    else if kind = 1 then .node sOr noB (kids.attach.flatMap fun k => splQ sOr (flat k.1))
    else .node sAnd noB (kids.attach.flatMap fun k => splQ sAnd (flat k.1))
termination_by t => SizeOf.sizeOf t
decreasing_by
  all_goals
    have := List.sizeOf_lt_of_mem k.2
    simp only [Nd.node.sizeOf_spec]
    omega
theorem flat_eq (kind : Int) (kids : List Nd) (a : Atm) : flat (.node kind kids a) =
    if kind = 4 then .node noB (txtA a) []
    else if kind = 3 then .node sNot noB (kids.map flat)
    else if kind = 1 then .node sOr noB (kids.flatMap fun k => splQ sOr (flat k))
    else .node sAnd noB (kids.flatMap fun k => splQ sAnd (flat k)) := by
  rw [flat]
  have e1 : (kids.attach.map fun k => flat k.1) = kids.map flat := by
    exact List.attach_map_val (l := kids) (f := flat)
  have e2 (o : ByteArray) : (kids.attach.flatMap fun k => splQ o (flat k.1)) = kids.flatMap fun k => splQ o (flat k) := by
    rw [List.flatMap_def, List.flatMap_def]
    exact congrArg List.flatten (List.attach_map_val (l := kids) (f := fun k => splQ o (flat k)))
  rw [e1, e2, e2]
/-- how many nodes a tree has -/
def cntN : Nd → Nat
  | .node _ ks _ => 1 + (ks.attach.map fun k => cntN k.1).sum
termination_by t => SizeOf.sizeOf t
decreasing_by
  have := List.sizeOf_lt_of_mem k.2
  simp only [Nd.node.sizeOf_spec]
  omega
theorem cntN_eq (kind : Int) (ks : List Nd) (a : Atm) : cntN (.node kind ks a) = 1 + (ks.map cntN).sum := by
  rw [cntN]
  have e1 : (ks.attach.map fun k => cntN k.1) = ks.map cntN := List.attach_map_val (l := ks) (f := cntN)
  rw [e1]
/-- an atom that was read -/
def AtmOk (num : ByteArray → Int × Bool) (a : Atm) : Prop :=
  (a.word = sTrue ∧ a.name = noB ∧ a.value = noB) ∨ (a.word = sHas ∧ nameB a.name = true ∧ a.value = noB) ∨ (a.word = sEq ∧ nameB a.name = true ∧ valueB a.value = true) ∨
  ((a.word = sLt ∨ a.word = sGt) ∧ a.name = noB ∧ (num a.value).2 = true ∧ a.n = (num a.value).1 ∧ 0 ≤ a.n ∧ a.n ≤ 864000000)
/-- a tree that was read -/
inductive NdOk (num : ByteArray → Int × Bool) : Nd → Prop
  | atom (a : Atm) (h : AtmOk num a) : NdOk num (.node 4 [] a)
  | not (k : Nd) (h : NdOk num k) : NdOk num (.node 3 [k] atm0)
  | or (ks : List Nd) (h2 : 2 ≤ ks.length) (h : ∀ k ∈ ks, NdOk num k) : NdOk num (.node 1 ks atm0)
  | and (ks : List Nd) (h2 : 2 ≤ ks.length) (h : ∀ k ∈ ks, NdOk num k) : NdOk num (.node 2 ks atm0)
end Go.Proofs.YtfhdknppldobiaaGreatDoor
