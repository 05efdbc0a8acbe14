/-
  The parser of rules in plain words: tokens, and the tree that is read. No Go text is named here.
-/
import Derived.Test.YthbcogekfdllmaaGreatDoorZKey2
import Derived.Test.YthbcogekfdllmaaGreatDoorZBs
import Derived.Test.YthbcogekfdllmaaGreatDoorZEqLv
namespace Go.Proofs.YthbcogekfdllmaaGreatDoor
open Go Go.RowKit

def wordB (c : UInt8) : Bool := decide ((97 ≤ c.toNat ∧ c.toNat ≤ 122) ∨ (48 ≤ c.toNat ∧ c.toNat ≤ 57) ∨ c.toNat = 45 ∨ c.toNat = 95 ∨ c.toNat = 46)
def blankB (c : UInt8) : Bool := decide (c.toNat = 32)
def markB (c : UInt8) : Bool := decide (c.toNat = 40 ∨ c.toNat = 41 ∨ c.toNat = 61 ∨ c.toNat = 60 ∨ c.toNat = 62)
/-- the first place from i on whose byte is not as p says -/
def spanF (p : UInt8 → Bool) (s : ByteArray) (i : Nat) : Nat := i + ((s.data.toList.drop i).takeWhile p).length
theorem span_yes (p : UInt8 → Bool) (s : ByteArray) (i : Nat) (hi : i < s.size) (h : p s[i] = true) : spanF p s i = spanF p s (i + 1) := by
  unfold spanF
  have hl : i < s.data.toList.length := by simpa using hi
  rw [List.drop_eq_getElem_cons hl, List.takeWhile_cons]
  have : p s.data.toList[i] = true := h
  rw [if_pos this, List.length_cons]
  omega
theorem span_no (p : UInt8 → Bool) (s : ByteArray) (i : Nat) (hi : i < s.size) (h : p s[i] = false) : spanF p s i = i := by
  unfold spanF
  have hl : i < s.data.toList.length := by simpa using hi
  rw [List.drop_eq_getElem_cons hl, List.takeWhile_cons]
  have : p s.data.toList[i] = false := h
  rw [if_neg (by rw [this]; decide)]
  rfl
theorem span_end (p : UInt8 → Bool) (s : ByteArray) (i : Nat) (hi : s.size ≤ i) : spanF p s i = i := by
  unfold spanF
  rw [List.drop_eq_nil_of_le (by simpa using hi)]
  rfl
theorem span_ge (p : UInt8 → Bool) (s : ByteArray) (i : Nat) : i ≤ spanF p s i := by unfold spanF; omega
theorem span_le (p : UInt8 → Bool) (s : ByteArray) (i : Nat) (hi : i ≤ s.size) : spanF p s i ≤ s.size := by
  unfold spanF
  have h : ((s.data.toList.drop i).takeWhile p).length ≤ (s.data.toList.drop i).length := (List.takeWhile_sublist _).length_le
  rw [List.length_drop] at h
  have : s.data.toList.length = s.size := by simp
  omega
/-- is there a mark at i? -/
def markAt (s : ByteArray) (i : Nat) : Bool := match s.data.toList[i]? with | some c => markB c | none => false
theorem markAt_in (s : ByteArray) (i : Nat) (hi : i < s.size) : markAt s i = markB s[i] := by
  unfold markAt
  have hl : i < s.data.toList.length := by simpa using hi
  rw [List.getElem?_eq_getElem hl]
  rfl
theorem markAt_out (s : ByteArray) (i : Nat) (hi : s.size ≤ i) : markAt s i = false := by
  unfold markAt
  rw [List.getElem?_eq_none (by simpa using hi)]
/-- the end of the token that begins at i -/
def tokE (s : ByteArray) (i : Nat) : Nat := if spanF wordB s i = i then (if markAt s i = true then i + 1 else i) else spanF wordB s i
theorem tokE_ge (s : ByteArray) (i : Nat) : i ≤ tokE s i := by
  unfold tokE
  split
  · split <;> omega
  · exact span_ge _ _ _
theorem tokE_le (s : ByteArray) (i : Nat) (hi : i ≤ s.size) : tokE s i ≤ s.size := by
  unfold tokE
  split
  · split
    · rename_i h
      rcases Nat.lt_or_ge i s.size with hlt | hge
      · omega
      · rw [markAt_out s i hge] at h; cases h
    · exact hi
  · exact span_le _ _ _ hi

/-- a parser as it goes -/
structure PSt where
  at_ : Nat
  tok : ByteArray
  deep : Int
  bad : Bool
def nextF (s : ByteArray) (t : PSt) : PSt :=
  { t with at_ := spanF blankB s (t.at_ + t.tok.size), tok := s.extract (spanF blankB s (t.at_ + t.tok.size)) (tokE s (spanF blankB s (t.at_ + t.tok.size))) }
def takeS (t : PSt) (ok : Bool) : ByteArray := if (t.bad || !ok) = true then ⟨#[]⟩ else t.tok
def takeF (s : ByteArray) (t : PSt) (ok : Bool) : PSt := if (t.bad || !ok) = true then { t with bad := true } else nextF s t
def nestF (d : Int) (t : PSt) : PSt := if 20 < d ∧ t.deep < 0 then { t with deep := t.at_ } else t

/-- what holds of each parser on its way -/
structure POk (s : ByteArray) (t : PSt) : Prop where
  at_ : t.at_ + t.tok.size ≤ s.size
  deep : -1 ≤ t.deep ∧ t.deep ≤ s.size
  tok : ∃ i, t.tok = s.extract i (tokE s i)
theorem POk.next {s : ByteArray} {t : PSt} (h : POk s t) : POk s (nextF s t) := by
  have h1 := span_le blankB s (t.at_ + t.tok.size) h.at_
  have h2 := tokE_le s _ h1
  have h3 := tokE_ge s (spanF blankB s (t.at_ + t.tok.size))
  refine ⟨?_, h.deep, _, rfl⟩
  simp only [nextF, ByteArray.size_extract]
  omega
theorem next_ge {s : ByteArray} {t : PSt} : t.at_ + t.tok.size ≤ (nextF s t).at_ := span_ge _ _ _
theorem POk.take {s : ByteArray} {t : PSt} (h : POk s t) (ok : Bool) : POk s (takeF s t ok) := by
  unfold takeF
  split
  · exact ⟨h.at_, h.deep, h.tok⟩
  · exact h.next
theorem take_ge {s : ByteArray} {t : PSt} (ok : Bool) : t.at_ ≤ (takeF s t ok).at_ := by
  unfold takeF
  split
  · exact Nat.le_refl _
  · have := next_ge (s := s) (t := t); omega
theorem POk.nest {s : ByteArray} {t : PSt} (h : POk s t) (d : Int) : POk s (nestF d t) := by
  unfold nestF
  split
  · exact ⟨h.at_, ⟨by simp only; omega, by have := h.at_; simp only; omega⟩, h.tok⟩
  · exact h

structure Atm where
  word : ByteArray
  name : ByteArray
  value : ByteArray
  n : Int
inductive Nd where
  | node (kind : Int) (kids : List Nd) (a : Atm)
def atm0 : Atm := ⟨⟨#[]⟩, ⟨#[]⟩, ⟨#[]⟩, 0⟩
def nd0 : Nd := .node 0 [] atm0
def sOr : ByteArray := ⟨#[111, 114]⟩
def sAnd : ByteArray := ⟨#[97, 110, 100]⟩
def sNot : ByteArray := ⟨#[110, 111, 116]⟩
def sHas : ByteArray := ⟨#[104, 97, 115]⟩
def sTrue : ByteArray := ⟨#[116, 114, 117, 101]⟩
def sTime : ByteArray := ⟨#[116, 105, 109, 101]⟩
def sEq : ByteArray := ⟨#[61]⟩
def sLt : ByteArray := ⟨#[60]⟩
def sGt : ByteArray := ⟨#[62]⟩
def sOpen : ByteArray := ⟨#[40]⟩
def sShut : ByteArray := ⟨#[41]⟩
/-- the parts of an or, or an and, on and on -/
def loopF (s : ByteArray) (word : ByteArray) (part : PSt → Nd × PSt) : Nat → List Nd → PSt → List Nd × PSt
  | 0, ks, t => (ks, t)
  | m + 1, ks, t => if t.bad = false ∧ t.tok = word then loopF s word part m (ks ++ [(part (nextF s t)).1]) (part (nextF s t)).2 else (ks, t)
def joinF (kind : Int) (ks : List Nd) : Nd := match ks with | [k] => k | _ => .node kind ks atm0
def manyF (s : ByteArray) (kind : Int) (word : ByteArray) (part : PSt → Nd × PSt) (t : PSt) : Nd × PSt :=
  (joinF kind (loopF s word part (s.size + 1) [(part t).1] (part t).2).1, (loopF s word part (s.size + 1) [(part t).1] (part t).2).2)
/-- may it be the name, the value of an atom? -/
def nameB (x : ByteArray) : Bool := keyB x.data.toList && !([sTime, sAnd, sOr, sNot, sHas, sTrue].any fun y => x.toList == y.toList)
def valueB (x : ByteArray) : Bool := decide (1 ≤ x.size ∧ x.size ≤ 40) && x.data.toList.all wordB
/-- an atom; num: how a number is read -/
def atomF (num : ByteArray → Int × Bool) (s : ByteArray) (t : PSt) : Atm × PSt :=
  if t.tok = sTrue then (⟨sTrue, ⟨#[]⟩, ⟨#[]⟩, 0⟩, takeF s t true)
  else if t.tok = sHas then (⟨sHas, takeS (takeF s t true) (nameB (takeF s t true).tok), ⟨#[]⟩, 0⟩, takeF s (takeF s t true) (nameB (takeF s t true).tok))
  else if t.tok = sTime then
    let t1 := takeF s t true
    let ok1 := decide (t1.tok = sLt) || decide (t1.tok = sGt)
    let t2 := takeF s t1 ok1
    let ok2 := (num t2.tok).2 && decide (0 ≤ (num t2.tok).1 ∧ (num t2.tok).1 ≤ 864000000)
    (⟨takeS t1 ok1, ⟨#[]⟩, takeS t2 ok2, (num t2.tok).1⟩, takeF s t2 ok2)
  else
    let t1 := takeF s t (nameB t.tok)
    let t2 := takeF s t1 (decide (t1.tok = sEq))
    (⟨sEq, takeS t (nameB t.tok), takeS t2 (valueB t2.tok), 0⟩, takeF s t2 (valueB t2.tok))
def notF (num : ByteArray → Int × Bool) (s : ByteArray) : Nat → Int → PSt → Nd × PSt
  | 0, _, t => (nd0, t)
  | f + 1, d, t =>
    if t.tok = sNot then (.node 3 [(notF num s f (d + 1) (takeF s (nestF d t) true)).1] atm0, (notF num s f (d + 1) (takeF s (nestF d t) true)).2)
    else if t.tok = sOpen then
      let r := manyF s 1 sOr (manyF s 2 sAnd (notF num s f (d + 1))) (takeF s (nestF d t) true)
      (r.1, takeF s r.2 (decide (r.2.tok = sShut)))
    else (.node 4 [] (atomF num s t).1, (atomF num s t).2)
def orF (num : ByteArray → Int × Bool) (s : ByteArray) (f : Nat) (d : Int) (t : PSt) : Nd × PSt := manyF s 1 sOr (manyF s 2 sAnd (notF num s f d)) t
def pst0 (s : ByteArray) : PSt := nextF s ⟨0, ⟨#[]⟩, -1, false⟩
def parseT (num : ByteArray → Int × Bool) (s : ByteArray) : Nd × PSt := orF num s (s.size + 1) 0 (pst0 s)
/-- the offset and the error of a rule -/
def parseE (num : ByteArray → Int × Bool) (s : ByteArray) : Int × Int :=
  if 2000 < s.size then (0, 2)
  else if ((parseT num s).2.bad || decide ((parseT num s).2.at_ < s.size)) = true then ((parseT num s).2.at_, 9)
  else if 0 ≤ (parseT num s).2.deep then ((parseT num s).2.deep, 2) else (0, 0)
theorem pst_ok (s : ByteArray) : POk s ⟨0, ⟨#[]⟩, -1, false⟩ := by
  refine ⟨(by show 0 + 0 ≤ s.size; omega), ⟨(by show (-1 : Int) ≤ -1; omega), (by show (-1 : Int) ≤ s.size; omega)⟩, s.size, ?_⟩
  have h : (s.extract s.size (tokE s s.size)).size = 0 := by rw [ByteArray.size_extract]; omega
  have h2 : (s.extract s.size (tokE s s.size)).data = #[] := Array.eq_empty_of_size_eq_zero h
  cases hx : s.extract s.size (tokE s s.size) with
  | mk d => rw [hx] at h2; simp only at h2; rw [h2]
/-- no token of s is 'time' -/
def NoTime (s : ByteArray) : Prop := ∀ i, s.extract i (tokE s i) ≠ sTime
theorem POk.noTime {s : ByteArray} {t : PSt} (h : POk s t) (hn : NoTime s) : t.tok ≠ sTime := by
  obtain ⟨i, hi⟩ := h.tok
  rw [hi]
  exact hn i
theorem atom_ok (num : ByteArray → Int × Bool) {s : ByteArray} {t : PSt} (h : POk s t) : POk s (atomF num s t).2 ∧ t.at_ ≤ (atomF num s t).2.at_ := by
  unfold atomF
  split
  · exact ⟨h.take _, take_ge _⟩
  · split
    · exact ⟨(h.take _).take _, Nat.le_trans (take_ge _) (take_ge _)⟩
    · split
      · exact ⟨((h.take _).take _).take _, Nat.le_trans (take_ge _) (Nat.le_trans (take_ge _) (take_ge _))⟩
      · exact ⟨((h.take _).take _).take _, Nat.le_trans (take_ge _) (Nat.le_trans (take_ge _) (take_ge _))⟩
end Go.Proofs.YthbcogekfdllmaaGreatDoor
/-
  spoil of strings, pairs, places and slots by contracts: they turn their rows alone. (Turned out of XTst4 by gen_spoil.py's lines.)
-/
namespace Go.Proofs.YthbcogekfdllmaaGreatDoor
open Go Go.RowKit
attribute [local go_sem ↓] Go.wp_at_zero Go.wp_at_succ

def SpoilM (base : Nat) (w : World) (e : Ending) (w' : World) : Prop := e = .returned (.tuple #[]) ∧ Below base w w'
theorem below_setM {B : Nat} {w w' : World} (h : Below B w w') {g i : Nat} (hg : B ≤ g) (u : Value) : Below B w (w'.setCell ⟨g, i, none⟩ u) :=
  ⟨h.os, h.tape, h.output, by have := h.size; simpa [World.setCell] using this, fun k hk => (Below.heap_setCell w' ⟨g, i, none⟩ u k (by show k ≠ g; omega)).trans (h.block k hk)⟩
/-- what holds still when cells of a block are turned into empty strings -/
def KeepsS (A : Option Addr) (w w' : World) : Prop := ∀ P : World → Prop, (∀ V g i, A = some ⟨g, 0, none⟩ → P V → P (V.setCell ⟨g, i, none⟩ (.string ⟨#[]⟩))) → P w → P w'
theorem KeepsS.refl (A : Option Addr) (w : World) : KeepsS A w w := fun _ _ h => h
theorem KeepsS.set {w w' : World} {g : Nat} (h : KeepsS (some ⟨g, 0, none⟩) w w') (i : Nat) : KeepsS (some ⟨g, 0, none⟩) w (w'.setCell ⟨g, i, none⟩ (.string ⟨#[]⟩)) := fun P hP h0 => hP _ g i rfl (h P hP h0)
theorem strsV_flat (l : List ByteArray) : strsV l = l.flatMap (fun x => [Value.string x]) := by
  unfold strsV
  induction l with
  | nil => rfl
  | cons a t ih => rw [List.flatMap_cons, List.map_cons, ih]; rfl
set_option maxRecDepth 100000 in
theorem spoilStr_calls (base n : Nat) (A : Option Addr) (c : Nat) (l : List ByteArray) (w : World) (ho : w.ownsRow base 9 1 (.slice A n c) n (strsV l)) (hl : l.length = n) :
    Calls Tryz.prog 22 #[.slice A n c] w (fun e w' => e = .returned (.tuple #[]) ∧ KeepsS A w w') := by
  have hcap := own_cap ho
  unfold maxLen at hcap
  have ho' : w.ownsRow base 9 1 (.slice A n c) n (l.flatMap (fun x => [Value.string x])) := by
    rw [← strsV_flat]
    exact ho
  have hF := Lib.hid hl
  clear ho hl
  go_enter Tryz.func22, Tryz.ntmps22
  go_wp2_with fail
  go_loopw [6] (fun i wr => ∃ (k : Nat) (ys : List ByteArray), k ≤ n ∧ i = .int .i64 k ∧ Hid (ys.length = n) ∧ Hid (KeepsS A w wr) ∧ wr.ownsRow base 9 1 (.slice A n c) n (ys.flatMap (fun x => [Value.string x]))) (fun i _ => n - (intOf i).toNat)
  case atStart => exact ⟨0, l, Nat.zero_le _, rfl, hF, Lib.hid (KeepsS.refl _ _), ho'⟩
  case round =>
    clear ho'
    obtain ⟨k, ys, hk, rfl, HL, HB, ho⟩ := hrel
    by_cases hlt : k < n
    · obtain ⟨g, cap, hv, hg, _⟩ := ho.form (by omega)
      injection hv with hA _ hc
      subst hA hc
      have hky : k < ys.length := by rw [HL.out]; exact hlt
      have x0 := own_cell (fun x => [Value.string x]) 1 (fun _ => rfl) ho k 0 hky (by omega) (by omega)
      rw [Nat.mul_one, Nat.add_zero] at x0
      replace x0 : wr.cell? ⟨g, k, none⟩ = some (.string ys[k]) := x0
      have f0 := ho.frozenAt k
      have hst := own_store (fun x => [Value.string x]) 1 (fun _ => rfl) (by rw [HL.out]; exact ho) k 0 hky (by omega) (.string ⟨#[]⟩) ⟨#[]⟩ rfl
      rw [List.length_set, HL.out, Nat.mul_one, Nat.add_zero] at hst
      have HB2 : Hid (KeepsS (some ⟨g, 0, none⟩) w (wr.setCell ⟨g, k, none⟩ (.string ⟨#[]⟩))) := Lib.hid (HB.out.set k)
      have HL2 : Hid ((ys.set k ⟨#[]⟩).length = n) := by show _ = _; rw [List.length_set]; exact HL.out
      have hk0 : (0 : Int) ≤ (k : Int) := by omega
      have hk1 : (k : Int) < (n : Int) := by omega
      clear ho HB
      go_wp2_with fail
      go_roundw
      case rel => exact ⟨k + 1, _, by omega, by go_num, HL2, HB2, hst⟩
      case measure => simp [intOf]; omega
    · obtain rfl : k = n := by omega
      go_wp2_with fail
      go_end0
      exact ⟨rfl, HB.out⟩
set_option maxRecDepth 100000 in
set_option maxHeartbeats 1000000 in
theorem spoilPr_calls (base n : Nat) (A : Option Addr) (c : Nat) (l : List Pr) (w : World) (ho : w.ownsRow base 75 2 (.slice A n c) n (l.flatMap prC)) (hl : l.length = n) (hb : base ≤ w.heap.size) :
    Calls Tryz.prog 27 #[.slice A n c] w (SpoilM base w) := by
  have hcap := own_cap ho
  unfold maxLen at hcap
  have hz := (Blk.new w 75 #[.string ⟨#[]⟩, .string ⟨#[]⟩])
  have hB0 : Below base w (w.alloc (.cells #[.string ⟨#[]⟩, .string ⟨#[]⟩] 75)) := (Below.refl _ _).alloc hb _
  have hgz : ∀ g, (Value.slice A n c).ownBlock = some g → g < w.heap.size := fun g hg => (ho.lt g hg).2
  have ho' := ho.alloc (.cells #[.string ⟨#[]⟩, .string ⟨#[]⟩] 75)
  obtain ⟨gz, hgz2⟩ : ∃ gz, w.heap.size = gz := ⟨_, rfl⟩
  rw [hgz2] at hz hgz
  have hF := Lib.hid hl
  have HB0 := Lib.hid hB0
  clear hl ho hB0 hb
  go_enter Tryz.func27, Tryz.ntmps27
  go_wp2_with fail
  go_loopw [6] (fun i wr => ∃ (k : Nat) (ys : List Pr), k ≤ n ∧ i = .int .i64 k ∧ Hid (ys.length = n) ∧ Hid (Below base w wr) ∧ Blk wr gz 75 #[.string ⟨#[]⟩, .string ⟨#[]⟩] ∧ wr.ownsRow base 75 2 (.slice A n c) n (ys.flatMap prC)) (fun i _ => n - (intOf i).toNat)
  case atStart => exact ⟨0, l, Nat.zero_le _, rfl, hF, HB0, hz, ho'⟩
  case round =>
    clear ho' hz hgz2
    obtain ⟨k, ys, hk, rfl, HL, HB, B, ho⟩ := hrel
    by_cases hlt : k < n
    · obtain ⟨g, cap, hv, hg, _⟩ := ho.form (by omega)
      injection hv with hA _ hc
      subst hA hc
      have hne : gz ≠ g := by have := hgz g rfl; omega
      have hky : k < ys.length := by rw [HL.out]; exact hlt
      obtain ⟨y, hy⟩ : ∃ y, ys[k] = y := ⟨_, rfl⟩
      have x0 := own_cell prC 2 prC_len ho k 0 hky (by omega) (by omega)
      rw [hy] at x0
      replace x0 : wr.cell? ⟨g, k * 2, none⟩ = some (.string y.1) := x0
      have x1 := own_cell prC 2 prC_len ho k 1 hky (by omega) (by omega)
      rw [hy] at x1
      replace x1 : wr.cell? ⟨g, k * 2 + 1, none⟩ = some (.string y.2) := x1
      have f0 := ho.frozenAt (k * 2)
      have f1 := ho.frozenAt (k * 2 + 1)
      have z0 := B.cell 0
      have z1 := B.cell 1
      have hk0 : (0 : Int) ≤ (k : Int) := by omega
      have hk1 : (k : Int) < (n : Int) := by omega
      have s0 := own_store prC 2 prC_len (by rw [HL.out]; exact ho) k 0 hky (by omega) (.string ⟨#[]⟩) (⟨#[]⟩, y.2) (by rw [hy]; rfl)
      have hk_0 : k < (ys.set k (⟨#[]⟩, y.2)).length := by simp only [List.length_set]; exact hky
      have s1 := own_store prC 2 prC_len s0 k 1 hk_0 (by omega) (.string ⟨#[]⟩) (⟨#[]⟩, ⟨#[]⟩) (by simp [prC])
      have hk_1 : k < ((ys.set k (⟨#[]⟩, y.2)).set k (⟨#[]⟩, ⟨#[]⟩)).length := by simp only [List.length_set]; exact hky
      have HL2 : Hid (((ys.set k (⟨#[]⟩, y.2)).set k (⟨#[]⟩, ⟨#[]⟩)).length = n) := by show _ = _; simp only [List.length_set]; exact HL.out
      rw [HL2.out] at s1
      have HB2 : Hid (Below base w ((wr.setCell ⟨g, k * 2 + 0, none⟩ (.string ⟨#[]⟩)).setCell ⟨g, k * 2 + 1, none⟩ (.string ⟨#[]⟩))) := below_setM (below_setM (HB.out) hg _) hg _
      have B2 := ((B.far (p := ⟨g, k * 2 + 0, none⟩) hne (.string ⟨#[]⟩)).far (p := ⟨g, k * 2 + 1, none⟩) hne (.string ⟨#[]⟩))
      clear ho HB B s0 hy
      go_wp2_with fail
      go_roundw
      case rel => exact ⟨k + 1, _, by omega, by go_num, HL2, HB2, B2, s1⟩
      case measure => simp [intOf]; omega
    · obtain rfl : k = n := by omega
      go_wp2_with fail
      go_end0
      exact ⟨rfl, HB.out⟩
set_option maxRecDepth 100000 in
set_option maxHeartbeats 1000000 in
theorem spoilPl_calls (base n : Nat) (A : Option Addr) (c : Nat) (l : List Plc) (w : World) (ho : w.ownsRow base 71 4 (.slice A n c) n (l.flatMap plcC)) (hl : l.length = n) (hb : base ≤ w.heap.size) :
    Calls Tryz.prog 25 #[.slice A n c] w (SpoilM base w) := by
  have hcap := own_cap ho
  unfold maxLen at hcap
  have hz := (Blk.new w 71 #[.string ⟨#[]⟩, .int .i64 0, .int .i64 0, .int .i64 0])
  have hB0 : Below base w (w.alloc (.cells #[.string ⟨#[]⟩, .int .i64 0, .int .i64 0, .int .i64 0] 71)) := (Below.refl _ _).alloc hb _
  have hgz : ∀ g, (Value.slice A n c).ownBlock = some g → g < w.heap.size := fun g hg => (ho.lt g hg).2
  have ho' := ho.alloc (.cells #[.string ⟨#[]⟩, .int .i64 0, .int .i64 0, .int .i64 0] 71)
  obtain ⟨gz, hgz2⟩ : ∃ gz, w.heap.size = gz := ⟨_, rfl⟩
  rw [hgz2] at hz hgz
  have hF := Lib.hid hl
  have HB0 := Lib.hid hB0
  clear hl ho hB0 hb
  go_enter Tryz.func25, Tryz.ntmps25
  go_wp2_with fail
  go_loopw [6] (fun i wr => ∃ (k : Nat) (ys : List Plc), k ≤ n ∧ i = .int .i64 k ∧ Hid (ys.length = n) ∧ Hid (Below base w wr) ∧ Blk wr gz 71 #[.string ⟨#[]⟩, .int .i64 0, .int .i64 0, .int .i64 0] ∧ wr.ownsRow base 71 4 (.slice A n c) n (ys.flatMap plcC)) (fun i _ => n - (intOf i).toNat)
  case atStart => exact ⟨0, l, Nat.zero_le _, rfl, hF, HB0, hz, ho'⟩
  case round =>
    clear ho' hz hgz2
    obtain ⟨k, ys, hk, rfl, HL, HB, B, ho⟩ := hrel
    by_cases hlt : k < n
    · obtain ⟨g, cap, hv, hg, _⟩ := ho.form (by omega)
      injection hv with hA _ hc
      subst hA hc
      have hne : gz ≠ g := by have := hgz g rfl; omega
      have hky : k < ys.length := by rw [HL.out]; exact hlt
      obtain ⟨y, hy⟩ : ∃ y, ys[k] = y := ⟨_, rfl⟩
      have x0 := own_cell plcC 4 plcC_len ho k 0 hky (by omega) (by omega)
      rw [hy] at x0
      replace x0 : wr.cell? ⟨g, k * 4, none⟩ = some (.string y.1) := x0
      have x1 := own_cell plcC 4 plcC_len ho k 1 hky (by omega) (by omega)
      rw [hy] at x1
      replace x1 : wr.cell? ⟨g, k * 4 + 1, none⟩ = some (.int .i64 y.2.1) := x1
      have x2 := own_cell plcC 4 plcC_len ho k 2 hky (by omega) (by omega)
      rw [hy] at x2
      replace x2 : wr.cell? ⟨g, k * 4 + 2, none⟩ = some (.int .i64 y.2.2.1) := x2
      have x3 := own_cell plcC 4 plcC_len ho k 3 hky (by omega) (by omega)
      rw [hy] at x3
      replace x3 : wr.cell? ⟨g, k * 4 + 3, none⟩ = some (.int .i64 y.2.2.2) := x3
      have f0 := ho.frozenAt (k * 4)
      have f1 := ho.frozenAt (k * 4 + 1)
      have f2 := ho.frozenAt (k * 4 + 2)
      have f3 := ho.frozenAt (k * 4 + 3)
      have z0 := B.cell 0
      have z1 := B.cell 1
      have z2 := B.cell 2
      have z3 := B.cell 3
      have hk0 : (0 : Int) ≤ (k : Int) := by omega
      have hk1 : (k : Int) < (n : Int) := by omega
      have s0 := own_store plcC 4 plcC_len (by rw [HL.out]; exact ho) k 0 hky (by omega) (.string ⟨#[]⟩) (⟨#[]⟩, y.2) (by rw [hy]; rfl)
      have hk_0 : k < (ys.set k (⟨#[]⟩, y.2)).length := by simp only [List.length_set]; exact hky
      have s1 := own_store plcC 4 plcC_len s0 k 1 hk_0 (by omega) (.int .i64 0) (⟨#[]⟩, 0, y.2.2) (by simp [plcC])
      have hk_1 : k < ((ys.set k (⟨#[]⟩, y.2)).set k (⟨#[]⟩, 0, y.2.2)).length := by simp only [List.length_set]; exact hky
      have s2 := own_store plcC 4 plcC_len s1 k 2 hk_1 (by omega) (.int .i64 0) (⟨#[]⟩, 0, 0, y.2.2.2) (by simp [plcC])
      have hk_2 : k < (((ys.set k (⟨#[]⟩, y.2)).set k (⟨#[]⟩, 0, y.2.2)).set k (⟨#[]⟩, 0, 0, y.2.2.2)).length := by simp only [List.length_set]; exact hky
      have s3 := own_store plcC 4 plcC_len s2 k 3 hk_2 (by omega) (.int .i64 0) (⟨#[]⟩, 0, 0, 0) (by simp [plcC])
      have hk_3 : k < ((((ys.set k (⟨#[]⟩, y.2)).set k (⟨#[]⟩, 0, y.2.2)).set k (⟨#[]⟩, 0, 0, y.2.2.2)).set k (⟨#[]⟩, 0, 0, 0)).length := by simp only [List.length_set]; exact hky
      have HL2 : Hid (((((ys.set k (⟨#[]⟩, y.2)).set k (⟨#[]⟩, 0, y.2.2)).set k (⟨#[]⟩, 0, 0, y.2.2.2)).set k (⟨#[]⟩, 0, 0, 0)).length = n) := by show _ = _; simp only [List.length_set]; exact HL.out
      rw [HL2.out] at s3
      have HB2 : Hid (Below base w ((((wr.setCell ⟨g, k * 4 + 0, none⟩ (.string ⟨#[]⟩)).setCell ⟨g, k * 4 + 1, none⟩ (.int .i64 0)).setCell ⟨g, k * 4 + 2, none⟩ (.int .i64 0)).setCell ⟨g, k * 4 + 3, none⟩ (.int .i64 0))) := below_setM (below_setM (below_setM (below_setM (HB.out) hg _) hg _) hg _) hg _
      have B2 := ((((B.far (p := ⟨g, k * 4 + 0, none⟩) hne (.string ⟨#[]⟩)).far (p := ⟨g, k * 4 + 1, none⟩) hne (.int .i64 0)).far (p := ⟨g, k * 4 + 2, none⟩) hne (.int .i64 0)).far (p := ⟨g, k * 4 + 3, none⟩) hne (.int .i64 0))
      clear ho HB B s0 s1 s2 hy
      go_wp2_with fail
      go_roundw
      case rel => exact ⟨k + 1, _, by omega, by go_num, HL2, HB2, B2, s3⟩
      case measure => simp [intOf]; omega
    · obtain rfl : k = n := by omega
      go_wp2_with fail
      go_end0
      exact ⟨rfl, HB.out⟩
set_option maxRecDepth 100000 in
set_option maxHeartbeats 1000000 in
theorem spoilSl_calls (base n : Nat) (A : Option Addr) (c : Nat) (l : List Slt) (w : World) (ho : w.ownsRow base 64 5 (.slice A n c) n (l.flatMap sltC)) (hl : l.length = n) (hb : base ≤ w.heap.size) :
    Calls Tryz.prog 23 #[.slice A n c] w (SpoilM base w) := by
  have hcap := own_cap ho
  unfold maxLen at hcap
  have hz := (Blk.new w 64 #[.string ⟨#[]⟩, .string ⟨#[]⟩, .slice none 0 0, .int .i64 0, .int .i64 0])
  have hB0 : Below base w (w.alloc (.cells #[.string ⟨#[]⟩, .string ⟨#[]⟩, .slice none 0 0, .int .i64 0, .int .i64 0] 64)) := (Below.refl _ _).alloc hb _
  have hgz : ∀ g, (Value.slice A n c).ownBlock = some g → g < w.heap.size := fun g hg => (ho.lt g hg).2
  have ho' := ho.alloc (.cells #[.string ⟨#[]⟩, .string ⟨#[]⟩, .slice none 0 0, .int .i64 0, .int .i64 0] 64)
  obtain ⟨gz, hgz2⟩ : ∃ gz, w.heap.size = gz := ⟨_, rfl⟩
  rw [hgz2] at hz hgz
  have hF := Lib.hid hl
  have HB0 := Lib.hid hB0
  clear hl ho hB0 hb
  go_enter Tryz.func23, Tryz.ntmps23
  go_wp2_with fail
  go_loopw [6] (fun i wr => ∃ (k : Nat) (ys : List Slt), k ≤ n ∧ i = .int .i64 k ∧ Hid (ys.length = n) ∧ Hid (Below base w wr) ∧ Blk wr gz 64 #[.string ⟨#[]⟩, .string ⟨#[]⟩, .slice none 0 0, .int .i64 0, .int .i64 0] ∧ wr.ownsRow base 64 5 (.slice A n c) n (ys.flatMap sltC)) (fun i _ => n - (intOf i).toNat)
  case atStart => exact ⟨0, l, Nat.zero_le _, rfl, hF, HB0, hz, ho'⟩
  case round =>
    clear ho' hz hgz2
    obtain ⟨k, ys, hk, rfl, HL, HB, B, ho⟩ := hrel
    by_cases hlt : k < n
    · obtain ⟨g, cap, hv, hg, _⟩ := ho.form (by omega)
      injection hv with hA _ hc
      subst hA hc
      have hne : gz ≠ g := by have := hgz g rfl; omega
      have hky : k < ys.length := by rw [HL.out]; exact hlt
      obtain ⟨y, hy⟩ : ∃ y, ys[k] = y := ⟨_, rfl⟩
      have x0 := own_cell sltC 5 sltC_len ho k 0 hky (by omega) (by omega)
      rw [hy] at x0
      replace x0 : wr.cell? ⟨g, k * 5, none⟩ = some (.string y.key) := x0
      have x1 := own_cell sltC 5 sltC_len ho k 1 hky (by omega) (by omega)
      rw [hy] at x1
      replace x1 : wr.cell? ⟨g, k * 5 + 1, none⟩ = some (.string y.who) := x1
      have x2 := own_cell sltC 5 sltC_len ho k 2 hky (by omega) (by omega)
      rw [hy] at x2
      replace x2 : wr.cell? ⟨g, k * 5 + 2, none⟩ = some (.slice y.ha y.hosts.length y.hc) := x2
      have x3 := own_cell sltC 5 sltC_len ho k 3 hky (by omega) (by omega)
      rw [hy] at x3
      replace x3 : wr.cell? ⟨g, k * 5 + 3, none⟩ = some (.int .i64 y.setup) := x3
      have x4 := own_cell sltC 5 sltC_len ho k 4 hky (by omega) (by omega)
      rw [hy] at x4
      replace x4 : wr.cell? ⟨g, k * 5 + 4, none⟩ = some (.int .i64 y.long) := x4
      have f0 := ho.frozenAt (k * 5)
      have f1 := ho.frozenAt (k * 5 + 1)
      have f2 := ho.frozenAt (k * 5 + 2)
      have f3 := ho.frozenAt (k * 5 + 3)
      have f4 := ho.frozenAt (k * 5 + 4)
      have z0 := B.cell 0
      have z1 := B.cell 1
      have z2 := B.cell 2
      have z3 := B.cell 3
      have z4 := B.cell 4
      have hk0 : (0 : Int) ≤ (k : Int) := by omega
      have hk1 : (k : Int) < (n : Int) := by omega
      have s0 := own_store sltC 5 sltC_len (by rw [HL.out]; exact ho) k 0 hky (by omega) (.string ⟨#[]⟩) (⟨⟨#[]⟩, y.who, y.ha, y.hc, y.hosts, y.setup, y.long⟩) (by rw [hy]; rfl)
      have hk_0 : k < (ys.set k (⟨⟨#[]⟩, y.who, y.ha, y.hc, y.hosts, y.setup, y.long⟩)).length := by simp only [List.length_set]; exact hky
      have s1 := own_store sltC 5 sltC_len s0 k 1 hk_0 (by omega) (.string ⟨#[]⟩) (⟨⟨#[]⟩, ⟨#[]⟩, y.ha, y.hc, y.hosts, y.setup, y.long⟩) (by simp [sltC])
      have hk_1 : k < ((ys.set k (⟨⟨#[]⟩, y.who, y.ha, y.hc, y.hosts, y.setup, y.long⟩)).set k (⟨⟨#[]⟩, ⟨#[]⟩, y.ha, y.hc, y.hosts, y.setup, y.long⟩)).length := by simp only [List.length_set]; exact hky
      have s2 := own_store sltC 5 sltC_len s1 k 2 hk_1 (by omega) (.slice none 0 0) (⟨⟨#[]⟩, ⟨#[]⟩, none, 0, [], y.setup, y.long⟩) (by simp [sltC])
      have hk_2 : k < (((ys.set k (⟨⟨#[]⟩, y.who, y.ha, y.hc, y.hosts, y.setup, y.long⟩)).set k (⟨⟨#[]⟩, ⟨#[]⟩, y.ha, y.hc, y.hosts, y.setup, y.long⟩)).set k (⟨⟨#[]⟩, ⟨#[]⟩, none, 0, [], y.setup, y.long⟩)).length := by simp only [List.length_set]; exact hky
      have s3 := own_store sltC 5 sltC_len s2 k 3 hk_2 (by omega) (.int .i64 0) (⟨⟨#[]⟩, ⟨#[]⟩, none, 0, [], 0, y.long⟩) (by simp [sltC])
      have hk_3 : k < ((((ys.set k (⟨⟨#[]⟩, y.who, y.ha, y.hc, y.hosts, y.setup, y.long⟩)).set k (⟨⟨#[]⟩, ⟨#[]⟩, y.ha, y.hc, y.hosts, y.setup, y.long⟩)).set k (⟨⟨#[]⟩, ⟨#[]⟩, none, 0, [], y.setup, y.long⟩)).set k (⟨⟨#[]⟩, ⟨#[]⟩, none, 0, [], 0, y.long⟩)).length := by simp only [List.length_set]; exact hky
      have s4 := own_store sltC 5 sltC_len s3 k 4 hk_3 (by omega) (.int .i64 0) (⟨⟨#[]⟩, ⟨#[]⟩, none, 0, [], 0, 0⟩) (by simp [sltC])
      have hk_4 : k < (((((ys.set k (⟨⟨#[]⟩, y.who, y.ha, y.hc, y.hosts, y.setup, y.long⟩)).set k (⟨⟨#[]⟩, ⟨#[]⟩, y.ha, y.hc, y.hosts, y.setup, y.long⟩)).set k (⟨⟨#[]⟩, ⟨#[]⟩, none, 0, [], y.setup, y.long⟩)).set k (⟨⟨#[]⟩, ⟨#[]⟩, none, 0, [], 0, y.long⟩)).set k (⟨⟨#[]⟩, ⟨#[]⟩, none, 0, [], 0, 0⟩)).length := by simp only [List.length_set]; exact hky
      have HL2 : Hid ((((((ys.set k (⟨⟨#[]⟩, y.who, y.ha, y.hc, y.hosts, y.setup, y.long⟩)).set k (⟨⟨#[]⟩, ⟨#[]⟩, y.ha, y.hc, y.hosts, y.setup, y.long⟩)).set k (⟨⟨#[]⟩, ⟨#[]⟩, none, 0, [], y.setup, y.long⟩)).set k (⟨⟨#[]⟩, ⟨#[]⟩, none, 0, [], 0, y.long⟩)).set k (⟨⟨#[]⟩, ⟨#[]⟩, none, 0, [], 0, 0⟩)).length = n) := by show _ = _; simp only [List.length_set]; exact HL.out
      rw [HL2.out] at s4
      have HB2 : Hid (Below base w (((((wr.setCell ⟨g, k * 5 + 0, none⟩ (.string ⟨#[]⟩)).setCell ⟨g, k * 5 + 1, none⟩ (.string ⟨#[]⟩)).setCell ⟨g, k * 5 + 2, none⟩ (.slice none 0 0)).setCell ⟨g, k * 5 + 3, none⟩ (.int .i64 0)).setCell ⟨g, k * 5 + 4, none⟩ (.int .i64 0))) := below_setM (below_setM (below_setM (below_setM (below_setM (HB.out) hg _) hg _) hg _) hg _) hg _
      have B2 := (((((B.far (p := ⟨g, k * 5 + 0, none⟩) hne (.string ⟨#[]⟩)).far (p := ⟨g, k * 5 + 1, none⟩) hne (.string ⟨#[]⟩)).far (p := ⟨g, k * 5 + 2, none⟩) hne (.slice none 0 0)).far (p := ⟨g, k * 5 + 3, none⟩) hne (.int .i64 0)).far (p := ⟨g, k * 5 + 4, none⟩) hne (.int .i64 0))
      clear ho HB B s0 s1 s2 s3 hy
      go_wp2_with fail
      go_roundw
      case rel => exact ⟨k + 1, _, by omega, by go_num, HL2, HB2, B2, s4⟩
      case measure => simp [intOf]; omega
    · obtain rfl : k = n := by omega
      go_wp2_with fail
      go_end0
      exact ⟨rfl, HB.out⟩
end Go.Proofs.YthbcogekfdllmaaGreatDoor
