/-
  base.Key and splitref2.Key by contracts: both answer keyB.
-/
import Derived.Test.YtfhdknppldobiaaGreatDoorZFlat
namespace Go.Proofs.YtfhdknppldobiaaGreatDoor
open Go Go.RowKit

def smallB (c : UInt8) : Bool := decide (97 ≤ c.toNat ∧ c.toNat ≤ 122)
def okB (c : UInt8) : Bool := decide ((97 ≤ c.toNat ∧ c.toNat ≤ 122) ∨ (48 ≤ c.toNat ∧ c.toNat ≤ 57) ∨ c.toNat = 45 ∨ c.toNat = 95)
/-- is it a key? -/
def keyB (l : List UInt8) : Bool := decide (1 ≤ l.length ∧ l.length ≤ 40) && (l.take 1).all smallB && l.all okB

theorem bytes_all (p : UInt8 → Bool) (h : (List.range 256).all (fun n => p (UInt8.ofNat n)) = true) (c : UInt8) : p c = true := by
  rw [List.all_eq_true] at h
  have := h c.toNat (by simp; exact c.toNat_lt)
  simpa using this
def smallsL : List UInt8 := [97, 98, 99, 100, 101, 102, 103, 104, 105, 106, 107, 108, 109, 110, 111, 112, 113, 114, 115, 116, 117, 118, 119, 120, 121, 122]
def oksL : List UInt8 := [97, 98, 99, 100, 101, 102, 103, 104, 105, 106, 107, 108, 109, 110, 111, 112, 113, 114, 115, 116, 117, 118, 119, 120, 121, 122, 48, 49, 50, 51, 52, 53, 54, 55, 56, 57, 45, 95]
theorem smalls_eq (c : UInt8) : smallsL.contains c = smallB c := by
  have := bytes_all (fun c => smallsL.contains c == smallB c) (by decide +kernel) c
  simpa using this
theorem oks_eq (c : UInt8) : oksL.contains c = okB c := by
  have := bytes_all (fun c => oksL.contains c == okB c) (by decide +kernel) c
  simpa using this
theorem only_smalls (l : List UInt8) : onlyB l smallsL = l.all smallB := by unfold onlyB; simp only [smalls_eq]
theorem only_oks (l : List UInt8) : onlyB l oksL = l.all okB := by unfold onlyB; simp only [oks_eq]

theorem keyB_size {l : List UInt8} (h : ¬ (1 ≤ l.length ∧ l.length ≤ 40)) : keyB l = false := by unfold keyB; simp [h]
theorem take_one (s : ByteArray) (h : 0 < s.size) : s.data.toList.take 1 = [s[0]] := by
  have := take_snoc s 0 h
  simpa using this

theorem keyB_head {s : ByteArray} (h : 0 < s.size) (h' : smallB s[0] = false) : keyB s.data.toList = false := by
  unfold keyB
  rw [take_one s h]
  simp [h']
theorem keyB_all {s : ByteArray} (h : 0 < s.size) (h1 : s.size ≤ 40) (h' : smallB s[0] = true) : keyB s.data.toList = s.data.toList.all okB := by
  unfold keyB
  rw [take_one s h]
  have : 1 ≤ s.data.toList.length ∧ s.data.toList.length ≤ 40 := by simp; omega
  simp only [List.all_cons, h', List.all_nil, Bool.and_true, decide_eq_true this, Bool.true_and]
theorem all_snoc_ok (l : List UInt8) (c : UInt8) : (l ++ [c]).all okB = (l.all okB && okB c) := by simp
theorem all_no {l : List UInt8} {c : UInt8} (h : c ∈ l) (h' : okB c = false) : l.all okB = false := by
  rw [List.all_eq_false]
  exact ⟨c, h, by simpa using h'⟩
theorem isEmpty_f {s : ByteArray} (h : 0 < s.size) : s.toList.isEmpty = false := by
  rw [Lib.toList_data]
  cases hl : s.data.toList with
  | nil => have : s.data.toList.length = 0 := by rw [hl]; rfl
           simp at this; rw [this] at h; exact absurd h (Nat.lt_irrefl _)
  | cons a l => rfl

set_option maxRecDepth 100000 in
set_option maxHeartbeats 1000000 in
theorem key_calls (s : ByteArray) (w : World) (hs : s.size ≤ maxLen) :
    Calls Tryz.prog 75 #[.string s] w fun e w' => e = .returned (.bool (keyB s.data.toList)) ∧ w = w' := by
  unfold maxLen at hs
  by_cases h0 : s.size = 0
  · rw [keyB_size (by simp; omega)]
    have he : s.toList = [] := by rw [Lib.toList_data]; exact List.eq_nil_of_length_eq_zero (by simpa using h0)
    go_enter Tryz.func75, Tryz.ntmps75
    go_wp2
    go_ret
    exact ⟨rfl, rfl⟩
  have he := isEmpty_f (s := s) (by omega)
  have he' : (s.toList == []) = false := by rw [← he]; cases s.toList <;> rfl
  have hpos : 0 < s.size := by omega
  by_cases h40 : 40 < s.size
  · rw [keyB_size (by simp; omega)]
    go_enter Tryz.func75, Tryz.ntmps75
    go_wp2
    go_ret
    exact ⟨rfl, rfl⟩
  by_cases ha : s[0].toNat < 97
  · rw [keyB_head hpos (by unfold smallB; simp; omega)]
    have t1 : (s[0].toNat : Int) < 97 := by omega
    clear ha
    go_enter Tryz.func75, Tryz.ntmps75
    go_wp2
    go_ret
    exact ⟨rfl, rfl⟩
  by_cases hz : 122 < s[0].toNat
  · rw [keyB_head hpos (by unfold smallB; simp; omega)]
    have t1 : ¬ (s[0].toNat : Int) < 97 := by omega
    have t2 : (122 : Int) < (s[0].toNat : Int) := by omega
    clear ha hz
    go_enter Tryz.func75, Tryz.ntmps75
    go_wp2
    go_ret
    exact ⟨rfl, rfl⟩
  have HK := Lib.hid (keyB_all hpos (by omega) (by unfold smallB; simp; omega))
  have t1 : ¬ (s[0].toNat : Int) < 97 := by omega
  have t2 : ¬ (122 : Int) < (s[0].toNat : Int) := by omega
  clear ha hz
  go_enter Tryz.func75, Tryz.ntmps75
  go_wp2
  go_loop [24] (fun i => ∃ k : Nat, k ≤ s.size ∧ i = .int .i64 k ∧ Hid ((s.data.toList.take k).all okB = true)) (fun i => s.size - (intOf i).toNat)
  case atStart => exact ⟨0, Nat.zero_le _, rfl, by simp [Hid]⟩
  case round =>
    clear t1 t2
    obtain ⟨k, hk, rfl, HO⟩ := hrel
    by_cases hlt : k < s.size
    · have hsn := all_snoc_ok (s.data.toList.take k) s[k]
      rw [← take_snoc s k hlt] at hsn
      have hmem : s[k] ∈ s.data.toList := by
        show s.data.toList[k]'(by simpa using hlt) ∈ _
        exact List.getElem_mem _
      have hno := all_no hmem
      clear hmem
      by_cases c_small : 97 ≤ s[k].toNat ∧ s[k].toNat ≤ 122
      · have ho : okB s[k] = true := by unfold okB; simp; omega
        rw [ho, Bool.and_true, HO.out] at hsn
        have HS := Lib.hid hsn
        have t1 : (97 : Int) ≤ (s[k].toNat : Int) := by omega
        have t2 : (s[k].toNat : Int) ≤ 122 := by omega
        clear hsn hno ho c_small
        go_wp2
        go_round
        case rel => exact ⟨k + 1, by omega, by go_num, HS⟩
        case measure => simp [intOf]; omega
      by_cases c_digit : 48 ≤ s[k].toNat ∧ s[k].toNat ≤ 57
      · have ho : okB s[k] = true := by unfold okB; simp; omega
        rw [ho, Bool.and_true, HO.out] at hsn
        have HS := Lib.hid hsn
        have t1 : ¬ (97 : Int) ≤ (s[k].toNat : Int) := by omega
        have t2 : (48 : Int) ≤ (s[k].toNat : Int) := by omega
        have t3 : (s[k].toNat : Int) ≤ 57 := by omega
        clear hsn hno ho c_digit
        go_wp2
        go_round
        case rel => exact ⟨k + 1, by omega, by go_num, HS⟩
        case measure => simp [intOf]; omega
      by_cases c_dash : s[k].toNat = 45
      · have ho : okB s[k] = true := by unfold okB; simp; omega
        rw [ho, Bool.and_true, HO.out] at hsn
        have HS := Lib.hid hsn
        have t1 : ¬ (97 : Int) ≤ (s[k].toNat : Int) := by omega
        have t2 : ¬ (48 : Int) ≤ (s[k].toNat : Int) := by omega
        have t3 : ((s[k].toNat : Int) == 45) = true := by simp; omega
        clear hsn hno ho c_dash
        go_wp2
        go_round
        case rel => exact ⟨k + 1, by omega, by go_num, HS⟩
        case measure => simp [intOf]; omega
      by_cases c_low : s[k].toNat = 95
      · have ho : okB s[k] = true := by unfold okB; simp; omega
        rw [ho, Bool.and_true, HO.out] at hsn
        have HS := Lib.hid hsn
        have t1 : ¬ (97 : Int) ≤ (s[k].toNat : Int) := by omega
        have t2 : (48 : Int) ≤ (s[k].toNat : Int) := by omega
        have t3 : ¬ (s[k].toNat : Int) ≤ 57 := by omega
        have t4 : ((s[k].toNat : Int) == 45) = false := by simp; omega
        have t5 : ((s[k].toNat : Int) == 95) = true := by simp; omega
        clear hsn hno ho c_low
        go_wp2
        go_round
        case rel => exact ⟨k + 1, by omega, by go_num, HS⟩
        case measure => simp [intOf]; omega
      have ho : okB s[k] = false := by unfold okB; simp; omega
      have HN := Lib.hid (hno ho)
      clear hsn hno ho
      by_cases d_0 : s[k].toNat < 48
      · have t1 : ¬ (97 : Int) ≤ (s[k].toNat : Int) := by omega
        have t2 : ¬ (48 : Int) ≤ (s[k].toNat : Int) := by omega
        have t4 : ((s[k].toNat : Int) == 45) = false := by simp; omega
        have t5 : ((s[k].toNat : Int) == 95) = false := by simp; omega
        clear c_small c_digit c_dash c_low d_0
        go_wp2
        go_ret
        exact ⟨ret_bool (HN.out.symm.trans HK.out.symm), rfl⟩
      by_cases d_1 : s[k].toNat < 97
      · have t1 : ¬ (97 : Int) ≤ (s[k].toNat : Int) := by omega
        have t2 : (48 : Int) ≤ (s[k].toNat : Int) := by omega
        have t3 : ¬ (s[k].toNat : Int) ≤ 57 := by omega
        have t4 : ((s[k].toNat : Int) == 45) = false := by simp; omega
        have t5 : ((s[k].toNat : Int) == 95) = false := by simp; omega
        clear c_small c_digit c_dash c_low d_1
        go_wp2
        go_ret
        exact ⟨ret_bool (HN.out.symm.trans HK.out.symm), rfl⟩
      have t1 : (97 : Int) ≤ (s[k].toNat : Int) := by omega
      have t1b : ¬ (s[k].toNat : Int) ≤ 122 := by omega
      have t2 : (48 : Int) ≤ (s[k].toNat : Int) := by omega
      have t3 : ¬ (s[k].toNat : Int) ≤ 57 := by omega
      have t4 : ((s[k].toNat : Int) == 45) = false := by simp; omega
      have t5 : ((s[k].toNat : Int) == 95) = false := by simp; omega
      clear c_small c_digit c_dash c_low d_0 d_1
      go_wp2
      go_ret
      exact ⟨ret_bool (HN.out.symm.trans HK.out.symm), rfl⟩
    · go_wp2
      go_ret
      exact ⟨ret_bool (by rw [HK.out, ← HO.out, List.take_of_length_le (by simp; omega)]), rfl⟩
end Go.Proofs.YtfhdknppldobiaaGreatDoor
/-
  The parser of rules in plain words: tokens, and the tree that is read. No Go text is named here.
-/
namespace Go.Proofs.YtfhdknppldobiaaGreatDoor
open Go Go.RowKit

def wordB (c : UInt8) : Bool := decide ((97 ≤ c.toNat ∧ c.toNat ≤ 122) ∨ (48 ≤ c.toNat ∧ c.toNat ≤ 57) ∨ c.toNat = 45 ∨ c.toNat = 95 ∨ c.toNat = 46)
def blankB (c : UInt8) : Bool := decide (c.toNat = 32)
def markB (c : UInt8) : Bool := decide (c.toNat = 40 ∨ c.toNat = 41 ∨ c.toNat = 61 ∨ c.toNat = 60 ∨ c.toNat = 62)
/-- the first place from i on whose byte is not as p says -/
def spanF (p : UInt8 → Bool) (s : ByteArray) (i : Nat) : Nat := i + ((s.data.toList.drop i).takeWhile p).length
theorem span_yes (p : UInt8 → Bool) (s : ByteArray) (i : Nat) (hi : i < s.size) (h : p s[i] = true) : spanF p s i = spanF p s (i + 1) := by
  unfold spanF
  have hl : i < s.data.toList.length := by simpa using hi
  rw [List.drop_eq_getElem_cons hl, List.takeWhile_cons]
  have : p s.data.toList[i] = true := h
  rw [if_pos this, List.length_cons]
  omega
theorem span_no (p : UInt8 → Bool) (s : ByteArray) (i : Nat) (hi : i < s.size) (h : p s[i] = false) : spanF p s i = i := by
  unfold spanF
  have hl : i < s.data.toList.length := by simpa using hi
  rw [List.drop_eq_getElem_cons hl, List.takeWhile_cons]
  have : p s.data.toList[i] = false := h
  rw [if_neg (by rw [this]; decide)]
  rfl
theorem span_end (p : UInt8 → Bool) (s : ByteArray) (i : Nat) (hi : s.size ≤ i) : spanF p s i = i := by
  unfold spanF
  rw [List.drop_eq_nil_of_le (by simpa using hi)]
  rfl
theorem span_ge (p : UInt8 → Bool) (s : ByteArray) (i : Nat) : i ≤ spanF p s i := by unfold spanF; omega
theorem span_le (p : UInt8 → Bool) (s : ByteArray) (i : Nat) (hi : i ≤ s.size) : spanF p s i ≤ s.size := by
  unfold spanF
  have h : ((s.data.toList.drop i).takeWhile p).length ≤ (s.data.toList.drop i).length := (List.takeWhile_sublist _).length_le
  rw [List.length_drop] at h
  have : s.data.toList.length = s.size := by simp
  omega
/-- is there a mark at i? -/
def markAt (s : ByteArray) (i : Nat) : Bool := match s.data.toList[i]? with | some c => markB c | none => false
theorem markAt_in (s : ByteArray) (i : Nat) (hi : i < s.size) : markAt s i = markB s[i] := by
  unfold markAt
  have hl : i < s.data.toList.length := by simpa using hi
  rw [List.getElem?_eq_getElem hl]
  rfl
theorem markAt_out (s : ByteArray) (i : Nat) (hi : s.size ≤ i) : markAt s i = false := by
  unfold markAt
  rw [List.getElem?_eq_none (by simpa using hi)]
/-- the end of the token that begins at i -/
def tokE (s : ByteArray) (i : Nat) : Nat := if spanF wordB s i = i then (if markAt s i = true then i + 1 else i) else spanF wordB s i
theorem tokE_ge (s : ByteArray) (i : Nat) : i ≤ tokE s i := by
  unfold tokE
  split
  · split <;> omega
  · exact span_ge _ _ _
theorem tokE_le (s : ByteArray) (i : Nat) (hi : i ≤ s.size) : tokE s i ≤ s.size := by
  unfold tokE
  split
  · split
    · rename_i h
      rcases Nat.lt_or_ge i s.size with hlt | hge
      · omega
      · rw [markAt_out s i hge] at h; cases h
    · exact hi
  · exact span_le _ _ _ hi

/-- a parser as it goes -/
structure PSt where
  at_ : Nat
  tok : ByteArray
  deep : Int
  bad : Bool
def nextF (s : ByteArray) (t : PSt) : PSt :=
  { t with at_ := spanF blankB s (t.at_ + t.tok.size), tok := s.extract (spanF blankB s (t.at_ + t.tok.size)) (tokE s (spanF blankB s (t.at_ + t.tok.size))) }
def takeS (t : PSt) (ok : Bool) : ByteArray := if (t.bad || !ok) = true then ⟨#[]⟩ else t.tok
def takeF (s : ByteArray) (t : PSt) (ok : Bool) : PSt := if (t.bad || !ok) = true then { t with bad := true } else nextF s t
def nestF (d : Int) (t : PSt) : PSt := if 20 < d ∧ t.deep < 0 then { t with deep := t.at_ } else t

/-- what holds of each parser on its way -/
structure POk (s : ByteArray) (t : PSt) : Prop where
  at_ : t.at_ + t.tok.size ≤ s.size
  deep : -1 ≤ t.deep ∧ t.deep ≤ s.size
  tok : ∃ i, t.tok = s.extract i (tokE s i)
theorem POk.next {s : ByteArray} {t : PSt} (h : POk s t) : POk s (nextF s t) := by
  have h1 := span_le blankB s (t.at_ + t.tok.size) h.at_
  have h2 := tokE_le s _ h1
  have h3 := tokE_ge s (spanF blankB s (t.at_ + t.tok.size))
  refine ⟨?_, h.deep, _, rfl⟩
  simp only [nextF, ByteArray.size_extract]
  omega
theorem next_ge {s : ByteArray} {t : PSt} : t.at_ + t.tok.size ≤ (nextF s t).at_ := span_ge _ _ _
theorem POk.take {s : ByteArray} {t : PSt} (h : POk s t) (ok : Bool) : POk s (takeF s t ok) := by
  unfold takeF
  split
  · exact ⟨h.at_, h.deep, h.tok⟩
  · exact h.next
theorem take_ge {s : ByteArray} {t : PSt} (ok : Bool) : t.at_ ≤ (takeF s t ok).at_ := by
  unfold takeF
  split
  · exact Nat.le_refl _
  · have := next_ge (s := s) (t := t); omega
theorem POk.nest {s : ByteArray} {t : PSt} (h : POk s t) (d : Int) : POk s (nestF d t) := by
  unfold nestF
  split
  · exact ⟨h.at_, ⟨by simp only; omega, by have := h.at_; simp only; omega⟩, h.tok⟩
  · exact h

structure Atm where
  word : ByteArray
  name : ByteArray
  value : ByteArray
  n : Int
inductive Nd where
  | node (kind : Int) (kids : List Nd) (a : Atm)
def atm0 : Atm := ⟨⟨#[]⟩, ⟨#[]⟩, ⟨#[]⟩, 0⟩
def nd0 : Nd := .node 0 [] atm0
def sOr : ByteArray := ⟨#[111, 114]⟩
def sAnd : ByteArray := ⟨#[97, 110, 100]⟩
def sNot : ByteArray := ⟨#[110, 111, 116]⟩
def sHas : ByteArray := ⟨#[104, 97, 115]⟩
def sTrue : ByteArray := ⟨#[116, 114, 117, 101]⟩
def sTime : ByteArray := ⟨#[116, 105, 109, 101]⟩
def sEq : ByteArray := ⟨#[61]⟩
def sLt : ByteArray := ⟨#[60]⟩
def sGt : ByteArray := ⟨#[62]⟩
def sOpen : ByteArray := ⟨#[40]⟩
def sShut : ByteArray := ⟨#[41]⟩
/-- the parts of an or, or an and, on and on -/
def loopF (s : ByteArray) (word : ByteArray) (part : PSt → Nd × PSt) : Nat → List Nd → PSt → List Nd × PSt
  | 0, ks, t => (ks, t)
  | m + 1, ks, t => if t.bad = false ∧ t.tok = word then loopF s word part m (ks ++ [(part (nextF s t)).1]) (part (nextF s t)).2 else (ks, t)
def joinF (kind : Int) (ks : List Nd) : Nd := match ks with | [k] => k | _ => .node kind ks atm0
def manyF (s : ByteArray) (kind : Int) (word : ByteArray) (part : PSt → Nd × PSt) (t : PSt) : Nd × PSt :=
  (joinF kind (loopF s word part (s.size + 1) [(part t).1] (part t).2).1, (loopF s word part (s.size + 1) [(part t).1] (part t).2).2)
/-- may it be the name, the value of an atom? -/
def nameB (x : ByteArray) : Bool := keyB x.data.toList && !([sTime, sAnd, sOr, sNot, sHas, sTrue].any fun y => x.toList == y.toList)
def valueB (x : ByteArray) : Bool := decide (1 ≤ x.size ∧ x.size ≤ 40) && x.data.toList.all wordB
/-- an atom; num: how a number is read -/
def atomF (num : ByteArray → Int × Bool) (s : ByteArray) (t : PSt) : Atm × PSt :=
  if t.tok = sTrue then (⟨sTrue, ⟨#[]⟩, ⟨#[]⟩, 0⟩, takeF s t true)
  else if t.tok = sHas then (⟨sHas, takeS (takeF s t true) (nameB (takeF s t true).tok), ⟨#[]⟩, 0⟩, takeF s (takeF s t true) (nameB (takeF s t true).tok))
  else if t.tok = sTime then
    let t1 := takeF s t true
    let ok1 := decide (t1.tok = sLt) || decide (t1.tok = sGt)
    let t2 := takeF s t1 ok1
    let ok2 := (num t2.tok).2 && decide (0 ≤ (num t2.tok).1 ∧ (num t2.tok).1 ≤ 864000000)
    (⟨takeS t1 ok1, ⟨#[]⟩, takeS t2 ok2, (num t2.tok).1⟩, takeF s t2 ok2)
  else
    let t1 := takeF s t (nameB t.tok)
    let t2 := takeF s t1 (decide (t1.tok = sEq))
    (⟨sEq, takeS t (nameB t.tok), takeS t2 (valueB t2.tok), 0⟩, takeF s t2 (valueB t2.tok))
def notF (num : ByteArray → Int × Bool) (s : ByteArray) : Nat → Int → PSt → Nd × PSt
  | 0, _, t => (nd0, t)
  | f + 1, d, t =>
    if t.tok = sNot then (.node 3 [(notF num s f (d + 1) (takeF s (nestF d t) true)).1] atm0, (notF num s f (d + 1) (takeF s (nestF d t) true)).2)
    else if t.tok = sOpen then
      let r := manyF s 1 sOr (manyF s 2 sAnd (notF num s f (d + 1))) (takeF s (nestF d t) true)
      (r.1, takeF s r.2 (decide (r.2.tok = sShut)))
    else (.node 4 [] (atomF num s t).1, (atomF num s t).2)
def orF (num : ByteArray → Int × Bool) (s : ByteArray) (f : Nat) (d : Int) (t : PSt) : Nd × PSt := manyF s 1 sOr (manyF s 2 sAnd (notF num s f d)) t
def pst0 (s : ByteArray) : PSt := nextF s ⟨0, ⟨#[]⟩, -1, false⟩
def parseT (num : ByteArray → Int × Bool) (s : ByteArray) : Nd × PSt := orF num s (s.size + 1) 0 (pst0 s)
/-- the offset and the error of a rule -/
def parseE (num : ByteArray → Int × Bool) (s : ByteArray) : Int × Int :=
  if 2000 < s.size then (0, 2)
  else if ((parseT num s).2.bad || decide ((parseT num s).2.at_ < s.size)) = true then ((parseT num s).2.at_, 9)
  else if 0 ≤ (parseT num s).2.deep then ((parseT num s).2.deep, 2) else (0, 0)
theorem pst_ok (s : ByteArray) : POk s ⟨0, ⟨#[]⟩, -1, false⟩ := by
  refine ⟨(by show 0 + 0 ≤ s.size; omega), ⟨(by show (-1 : Int) ≤ -1; omega), (by show (-1 : Int) ≤ s.size; omega)⟩, s.size, ?_⟩
  have h : (s.extract s.size (tokE s s.size)).size = 0 := by rw [ByteArray.size_extract]; omega
  have h2 : (s.extract s.size (tokE s s.size)).data = #[] := Array.eq_empty_of_size_eq_zero h
  cases hx : s.extract s.size (tokE s s.size) with
  | mk d => rw [hx] at h2; simp only at h2; rw [h2]
/-- no token of s is 'time' -/
def NoTime (s : ByteArray) : Prop := ∀ i, s.extract i (tokE s i) ≠ sTime
theorem POk.noTime {s : ByteArray} {t : PSt} (h : POk s t) (hn : NoTime s) : t.tok ≠ sTime := by
  obtain ⟨i, hi⟩ := h.tok
  rw [hi]
  exact hn i
theorem atom_ok (num : ByteArray → Int × Bool) {s : ByteArray} {t : PSt} (h : POk s t) : POk s (atomF num s t).2 ∧ t.at_ ≤ (atomF num s t).2.at_ := by
  unfold atomF
  split
  · exact ⟨h.take _, take_ge _⟩
  · split
    · exact ⟨(h.take _).take _, Nat.le_trans (take_ge _) (take_ge _)⟩
    · split
      · exact ⟨((h.take _).take _).take _, Nat.le_trans (take_ge _) (Nat.le_trans (take_ge _) (take_ge _))⟩
      · exact ⟨((h.take _).take _).take _, Nat.le_trans (take_ge _) (Nat.le_trans (take_ge _) (take_ge _))⟩
end Go.Proofs.YtfhdknppldobiaaGreatDoor
