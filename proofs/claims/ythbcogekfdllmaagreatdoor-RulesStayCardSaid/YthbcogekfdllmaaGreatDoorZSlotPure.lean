/-
  Slots of a marathon in plain words: what the functions of chapter 9 answer. No Go text is named here.
-/
import Derived.Test.YthbcogekfdllmaaGreatDoorZFind
import Derived.Test.YthbcogekfdllmaaGreatDoorZRatPure
import Derived.Test.YthbcogekfdllmaaGreatDoorZSepX
namespace Go.Proofs.YthbcogekfdllmaaGreatDoor
open Go Go.RowKit

def strsV (hs : List ByteArray) : List Value := hs.map Value.string
theorem strsV_get {hs : List ByteArray} {k : Nat} (hk : k < hs.length) : (strsV hs)[k]? = some (.string hs[k]) := by
  unfold strsV
  rw [List.getElem?_map, List.getElem?_eq_getElem hk]
  rfl
theorem strs_cells {w : World} {b n c : Nat} {A : Option Addr} {hs : List ByteArray} (h : Rd w b 1 (.slice A n c) n (strsV hs)) :
    hs.length = n ∧ n ≤ c ∧ c ≤ maxLen ∧ (0 < n → ∃ g o, A = some ⟨g, o, none⟩ ∧ g ≠ b ∧ ∀ i (hi : i < hs.length), w.cell? ⟨g, o + i, none⟩ = some (.string hs[i])) := by
  obtain ⟨A', c', e1, e2, e3, e4, e5, e6⟩ := h
  injection e1 with ea eb ec
  subst ea ec
  refine ⟨by simpa [strsV] using e4, e2, e3, fun hn => ?_⟩
  obtain ⟨g, o, f1, f2, f3⟩ := e6 hn
  exact ⟨g, o, f1, f2, fun i hi => f3 i _ (strsV_get hi)⟩

/-- whom a name stands behind -/
def lastS (hs : List ByteArray) (k : Nat) : ByteArray := match k with | 0 => ⟨#[]⟩ | k + 1 => match hs[k]? with | some r => r | none => ⟨#[]⟩
def riseG : ByteArray → List ByteArray → Int
  | _, [] => 0
  | last, h :: hs => if keyB h.data.toList = false then 5 else if leS h last = true then 7 else riseG h hs
def riseF (hs : List ByteArray) : Int := riseG ⟨#[]⟩ hs
theorem riseG_step (hs : List ByteArray) (k : Nat) (hk : k < hs.length) : riseG (lastS hs k) (hs.drop k) =
    if keyB hs[k].data.toList = false then 5 else if leS hs[k] (lastS hs k) = true then 7 else riseG (lastS hs (k + 1)) (hs.drop (k + 1)) := by
  rw [List.drop_eq_getElem_cons hk, riseG]
  have : lastS hs (k + 1) = hs[k] := by simp [lastS, hk]
  rw [this]

/-- is a name one of some? -/
def memS (hs : List ByteArray) (x : ByteArray) : Bool := hs.any (eqS x)
theorem ixOf_mem {α : Type} (p : α → Bool) : ∀ l : List α, decide (0 ≤ ixOf p l) = l.any p
  | [] => by simp [ixOf]
  | a :: l => by
    have ih := ixOf_mem p l
    have hg := ixOf_ge p l
    cases hp : p a
    · rw [List.any_cons, hp, Bool.false_or, ← ih]
      simp only [ixOf, hp]
      by_cases h : ixOf p l = -1
      · simp [h]
      · simp [h]; constructor <;> intro _ <;> omega
    · simp [ixOf, hp]
/-- a slot, with where its hosts lie -/
structure Slt where
  key : ByteArray
  who : ByteArray
  ha : Option Addr
  hc : Nat
  hosts : List ByteArray
  setup : Int
  long : Int
def Slt.hv (x : Slt) : Value := .slice x.ha x.hosts.length x.hc
def sltC (x : Slt) : List Value := [.string x.key, .string x.who, .slice x.ha x.hosts.length x.hc, .int .i64 x.setup, .int .i64 x.long]
theorem sltC_len (x : Slt) : (sltC x).length = 5 := rfl
structure SltOk (w : World) (b : Nat) (x : Slt) : Prop where
  rd : Rd w b 1 (.slice x.ha x.hosts.length x.hc) x.hosts.length (strsV x.hosts)
  hk : x.key.size ≤ 1000
  hw : x.who.size ≤ 1000
  hh : ∀ s ∈ x.hosts, s.size ≤ 1000
  hn : x.hosts.length ≤ 1000
  hs : -2199023255552 ≤ x.setup ∧ x.setup ≤ 2199023255552
  hl : -2199023255552 ≤ x.long ∧ x.long ≤ 2199023255552
/-- the same with wide bounds: a slot that was read -/
structure SltW (w : World) (b : Nat) (x : Slt) : Prop where
  rd : Rd w b 1 (.slice x.ha x.hosts.length x.hc) x.hosts.length (strsV x.hosts)
  hk : x.key.size ≤ 1000000
  hw : x.who.size ≤ 1000000
  hh : ∀ s ∈ x.hosts, s.size ≤ 1000000
  hn : x.hosts.length ≤ 1000000
  hs : -1000000000000000000 ≤ x.setup ∧ x.setup ≤ 1000000000000000000
  hl : -1000000000000000000 ≤ x.long ∧ x.long ≤ 1000000000000000000
theorem SltOk.wide {w : World} {b : Nat} {x : Slt} (h : SltOk w b x) : SltW w b x := by
  obtain ⟨h1, h2, h3, h4, h5, h6, h7⟩ := h
  exact ⟨h1, by omega, by omega, fun s hs => Nat.le_trans (h4 s hs) (by decide), by omega, by omega, by omega⟩
theorem SltW.bx {w w' : World} {b : Nat} {x : Slt} (h : SltW w b x) (k : Bx w.heap.size b w w') : SltW w' b x := ⟨h.rd.bx k, h.hk, h.hw, h.hh, h.hn, h.hs, h.hl⟩
theorem SltW.below {w w' : World} {b : Nat} {x : Slt} (h : SltW w b x) (k : Below w.heap.size w w') : SltW w' b x := h.bx (Bx.of_below k b)
theorem SltOk.bx {w w' : World} {b : Nat} {x : Slt} (h : SltOk w b x) (k : Bx w.heap.size b w w') : SltOk w' b x := ⟨h.rd.bx k, h.hk, h.hw, h.hh, h.hn, h.hs, h.hl⟩
theorem SltOk.below {w w' : World} {b : Nat} {x : Slt} (h : SltOk w b x) (k : Below w.heap.size w w') : SltOk w' b x := h.bx (Bx.of_below k b)
/-- slots in memory -/
structure Slts (w : World) (b : Nat) (A : Option Addr) (n c : Nat) (xs : List Slt) : Prop where
  rd : Rd w b 5 (.slice A n c) n (xs.flatMap sltC)
  ok : ∀ x ∈ xs, SltOk w b x
structure SltsW (w : World) (b : Nat) (A : Option Addr) (n c : Nat) (xs : List Slt) : Prop where
  rd : Rd w b 5 (.slice A n c) n (xs.flatMap sltC)
  ok : ∀ x ∈ xs, SltW w b x
theorem Slts.wide {w : World} {b n c : Nat} {A : Option Addr} {xs : List Slt} (h : Slts w b A n c xs) : SltsW w b A n c xs := ⟨h.rd, fun x hx => (h.ok x hx).wide⟩
theorem SltsW.below {w w' : World} {b n c : Nat} {A : Option Addr} {xs : List Slt} (h : SltsW w b A n c xs) (k : Below w.heap.size w w') : SltsW w' b A n c xs := ⟨h.rd.below k, fun x hx => (h.ok x hx).below k⟩
theorem Slts.bx {w w' : World} {b n c : Nat} {A : Option Addr} {xs : List Slt} (h : Slts w b A n c xs) (k : Bx w.heap.size b w w') : Slts w' b A n c xs := ⟨h.rd.bx k, fun x hx => (h.ok x hx).bx k⟩
theorem Slts.below {w w' : World} {b n c : Nat} {A : Option Addr} {xs : List Slt} (h : Slts w b A n c xs) (k : Below w.heap.size w w') : Slts w' b A n c xs := h.bx (Bx.of_below k b)
theorem Rd.take {α : Type} {w : World} {b k n c : Nat} {A : Option Addr} {f : α → List Value} {rs : List α} (h : Rd w b k (.slice A n c) n (rs.flatMap f)) (hf : ∀ a, (f a).length = k) (hk : 0 < k) {m : Nat} (hm : m ≤ n) :
    Rd w b k (.slice A m c) m ((rs.take m).flatMap f) := by
  obtain ⟨hl, h1, h2, h3⟩ := h.cells hf hk
  obtain ⟨A', c', e1, e2, e3, e4, e5, e6⟩ := h
  injection e1 with ea eb ec
  subst ea ec
  have hlen : ((rs.take m).flatMap f).length = m * k := by rw [flat_len f k hf, List.length_take, hl, Nat.min_eq_left hm]
  refine ⟨_, _, rfl, by omega, e3, hlen, fun ha => ⟨by have := (e5 ha).1; omega, (e5 ha).2⟩, fun hm0 => ?_⟩
  obtain ⟨g, o, f1, f2, f3⟩ := e6 (by omega)
  refine ⟨g, o, f1, f2, fun j u hu => f3 j u ?_⟩
  have hj : j < m * k := by
    rw [← hlen]
    exact (List.getElem?_eq_some_iff.1 hu).1
  have happ : rs.flatMap f = (rs.take m).flatMap f ++ (rs.drop m).flatMap f := by
    rw [← List.flatMap_append, List.take_append_drop]
  rw [happ, List.getElem?_append_left (by rw [hlen]; exact hj)]
  exact hu
theorem Slts.take {w : World} {b n c : Nat} {A : Option Addr} {xs : List Slt} (h : Slts w b A n c xs) {m : Nat} (hm : m ≤ n) : Slts w b A m c (xs.take m) :=
  ⟨h.rd.take sltC_len (by omega) hm, fun x hx => h.ok x (List.mem_of_mem_take hx)⟩

def findL (xs : List Slt) (key : ByteArray) : Int := ixOf (fun x => eqS x.key key) xs
/-- what is wrong with a slot by itself -/
def slotF (x : Slt) : Int := if 10 < x.hosts.length then 2 else if riseF x.hosts = 0 then if memS x.hosts x.who = true then 6 else if (outB x.setup 0 86400000 || outB x.long 1 86400000) = true then 1 else 0 else riseF x.hosts
def slotsG : List Slt → List Slt → Int
  | _, [] => 0
  | pre, x :: xs => if (!keyB x.key.data.toList || !keyB x.who.data.toList) = true then 5 else if 0 ≤ findL pre x.key then 6 else if slotF x = 0 then slotsG (pre ++ [x]) xs else slotF x
def slotsF (xs : List Slt) : Int := if 200 < xs.length then 2 else slotsG [] xs
theorem slotsG_step (xs : List Slt) (k : Nat) (hk : k < xs.length) : slotsG (xs.take k) (xs.drop k) =
    if (!keyB xs[k].key.data.toList || !keyB xs[k].who.data.toList) = true then 5 else if 0 ≤ findL (xs.take k) xs[k].key then 6 else if slotF xs[k] = 0 then slotsG (xs.take (k + 1)) (xs.drop (k + 1)) else slotF xs[k] := by
  rw [List.drop_eq_getElem_cons hk, slotsG, List.take_succ_eq_append_getElem hk]

/-- when a slot is: its key, at, begin, end -/
abbrev Plc := ByteArray × Int × Int × Int
def plcC (p : Plc) : List Value := [.string p.1, .int .i64 p.2.1, .int .i64 p.2.2.1, .int .i64 p.2.2.2]
theorem plcC_len (p : Plc) : (plcC p).length = 4 := rfl
def plcOf (f : Int) (x : Slt) : Plc := (x.key, f, f + x.setup, f + x.setup + x.long)
/-- when the first k slots end -/
def fromAt (f : Int) (xs : List Slt) (k : Nat) : Int := (xs.take k).foldl (fun f x => f + x.setup + x.long) f
/-- the places of the first k slots -/
def placesTo (f : Int) (xs : List Slt) : Nat → List Plc
  | 0 => []
  | k + 1 => match xs[k]? with
    | some x => placesTo f xs k ++ [plcOf (fromAt f xs k) x]
    | none => placesTo f xs k
theorem fromAt_step (f : Int) (xs : List Slt) (k : Nat) (hk : k < xs.length) : fromAt f xs (k + 1) = fromAt f xs k + xs[k].setup + xs[k].long := by
  unfold fromAt
  rw [List.take_succ_eq_append_getElem hk, List.foldl_append]
  rfl
theorem placesTo_step (f : Int) (xs : List Slt) (k : Nat) (hk : k < xs.length) : placesTo f xs (k + 1) = placesTo f xs k ++ [plcOf (fromAt f xs k) xs[k]] := by
  simp [placesTo, List.getElem?_eq_getElem hk]
theorem placesTo_len (f : Int) (xs : List Slt) : ∀ k, k ≤ xs.length → (placesTo f xs k).length = k
  | 0, _ => rfl
  | k + 1, h => by rw [placesTo_step f xs k h, List.length_append, placesTo_len f xs k (by omega)]; rfl
def Sml (xs : List Slt) : Prop := ∀ x ∈ xs, (-2199023255552 ≤ x.setup ∧ x.setup ≤ 2199023255552) ∧ (-2199023255552 ≤ x.long ∧ x.long ≤ 2199023255552)
theorem Slts.sml {w : World} {b n c : Nat} {A : Option Addr} {xs : List Slt} (h : Slts w b A n c xs) : Sml xs := fun x hx => ⟨(h.ok x hx).hs, (h.ok x hx).hl⟩
theorem fromAt_bd {f : Int} {xs : List Slt} (h : Sml xs) (hf : -4398046511104 ≤ f ∧ f ≤ 4398046511104) : ∀ k, k ≤ xs.length → -4398046511104 * ((k : Int) + 1) ≤ fromAt f xs k ∧ fromAt f xs k ≤ 4398046511104 * ((k : Int) + 1)
  | 0, _ => by simp [fromAt]; omega
  | k + 1, hk => by
    have ih := fromAt_bd h hf k (by omega)
    have hx := h _ (List.getElem_mem (show k < xs.length by omega))
    rw [fromAt_step f xs k hk]
    omega
def placesF (f : Int) (xs : List Slt) : List Plc := placesTo f xs xs.length
/-- the end of places -/
def endP (f : Int) : List Plc → Int
  | [] => f
  | p :: l => endP p.2.2.2 l
theorem endP_last : ∀ (f : Int) (l : List Plc) (h : 0 < l.length), endP f l = (l[l.length - 1]'(by omega)).2.2.2
  | _, [p], _ => rfl
  | _, p :: q :: l, _ => by
    rw [endP, endP_last _ (q :: l) (by simp)]
    simp
/-- can slots begin at a moment? -/
def momB (f : Int) : Bool := !outB f 0 345686399999
def fromF (f : Int) (xs : List Slt) : Int := if momB f = true then if 345686400000 < endP f (placesF f xs) then 1 else 0 else 1
end Go.Proofs.YthbcogekfdllmaaGreatDoor
/-
  Clashes and CheckAway in plain words. No Go text is named here.
-/
namespace Go.Proofs.YthbcogekfdllmaaGreatDoor
open Go Go.RowKit

abbrev Pr := ByteArray × ByteArray
def prC (p : Pr) : List Value := [.string p.1, .string p.2]
theorem prC_len (p : Pr) : (prC p).length = 2 := rfl
end Go.Proofs.YthbcogekfdllmaaGreatDoor
/-
  The parser of rules in plain words: tokens, and the tree that is read. No Go text is named here.
-/
namespace Go.Proofs.YthbcogekfdllmaaGreatDoor
open Go Go.RowKit

def wordB (c : UInt8) : Bool := decide ((97 ≤ c.toNat ∧ c.toNat ≤ 122) ∨ (48 ≤ c.toNat ∧ c.toNat ≤ 57) ∨ c.toNat = 45 ∨ c.toNat = 95 ∨ c.toNat = 46)
def blankB (c : UInt8) : Bool := decide (c.toNat = 32)
def markB (c : UInt8) : Bool := decide (c.toNat = 40 ∨ c.toNat = 41 ∨ c.toNat = 61 ∨ c.toNat = 60 ∨ c.toNat = 62)
/-- the first place from i on whose byte is not as p says -/
def spanF (p : UInt8 → Bool) (s : ByteArray) (i : Nat) : Nat := i + ((s.data.toList.drop i).takeWhile p).length
theorem span_yes (p : UInt8 → Bool) (s : ByteArray) (i : Nat) (hi : i < s.size) (h : p s[i] = true) : spanF p s i = spanF p s (i + 1) := by
  unfold spanF
  have hl : i < s.data.toList.length := by simpa using hi
  rw [List.drop_eq_getElem_cons hl, List.takeWhile_cons]
  have : p s.data.toList[i] = true := h
  rw [if_pos this, List.length_cons]
  omega
theorem span_no (p : UInt8 → Bool) (s : ByteArray) (i : Nat) (hi : i < s.size) (h : p s[i] = false) : spanF p s i = i := by
  unfold spanF
  have hl : i < s.data.toList.length := by simpa using hi
  rw [List.drop_eq_getElem_cons hl, List.takeWhile_cons]
  have : p s.data.toList[i] = false := h
  rw [if_neg (by rw [this]; decide)]
  rfl
theorem span_end (p : UInt8 → Bool) (s : ByteArray) (i : Nat) (hi : s.size ≤ i) : spanF p s i = i := by
  unfold spanF
  rw [List.drop_eq_nil_of_le (by simpa using hi)]
  rfl
theorem span_ge (p : UInt8 → Bool) (s : ByteArray) (i : Nat) : i ≤ spanF p s i := by unfold spanF; omega
theorem span_le (p : UInt8 → Bool) (s : ByteArray) (i : Nat) (hi : i ≤ s.size) : spanF p s i ≤ s.size := by
  unfold spanF
  have h : ((s.data.toList.drop i).takeWhile p).length ≤ (s.data.toList.drop i).length := (List.takeWhile_sublist _).length_le
  rw [List.length_drop] at h
  have : s.data.toList.length = s.size := by simp
  omega
/-- is there a mark at i? -/
def markAt (s : ByteArray) (i : Nat) : Bool := match s.data.toList[i]? with | some c => markB c | none => false
theorem markAt_in (s : ByteArray) (i : Nat) (hi : i < s.size) : markAt s i = markB s[i] := by
  unfold markAt
  have hl : i < s.data.toList.length := by simpa using hi
  rw [List.getElem?_eq_getElem hl]
  rfl
theorem markAt_out (s : ByteArray) (i : Nat) (hi : s.size ≤ i) : markAt s i = false := by
  unfold markAt
  rw [List.getElem?_eq_none (by simpa using hi)]
/-- the end of the token that begins at i -/
def tokE (s : ByteArray) (i : Nat) : Nat := if spanF wordB s i = i then (if markAt s i = true then i + 1 else i) else spanF wordB s i
theorem tokE_ge (s : ByteArray) (i : Nat) : i ≤ tokE s i := by
  unfold tokE
  split
  · split <;> omega
  · exact span_ge _ _ _
theorem tokE_le (s : ByteArray) (i : Nat) (hi : i ≤ s.size) : tokE s i ≤ s.size := by
  unfold tokE
  split
  · split
    · rename_i h
      rcases Nat.lt_or_ge i s.size with hlt | hge
      · omega
      · rw [markAt_out s i hge] at h; cases h
    · exact hi
  · exact span_le _ _ _ hi

/-- a parser as it goes -/
structure PSt where
  at_ : Nat
  tok : ByteArray
  deep : Int
  bad : Bool
def nextF (s : ByteArray) (t : PSt) : PSt :=
  { t with at_ := spanF blankB s (t.at_ + t.tok.size), tok := s.extract (spanF blankB s (t.at_ + t.tok.size)) (tokE s (spanF blankB s (t.at_ + t.tok.size))) }
def takeS (t : PSt) (ok : Bool) : ByteArray := if (t.bad || !ok) = true then ⟨#[]⟩ else t.tok
def takeF (s : ByteArray) (t : PSt) (ok : Bool) : PSt := if (t.bad || !ok) = true then { t with bad := true } else nextF s t
def nestF (d : Int) (t : PSt) : PSt := if 20 < d ∧ t.deep < 0 then { t with deep := t.at_ } else t

/-- what holds of each parser on its way -/
structure POk (s : ByteArray) (t : PSt) : Prop where
  at_ : t.at_ + t.tok.size ≤ s.size
  deep : -1 ≤ t.deep ∧ t.deep ≤ s.size
  tok : ∃ i, t.tok = s.extract i (tokE s i)
theorem POk.next {s : ByteArray} {t : PSt} (h : POk s t) : POk s (nextF s t) := by
  have h1 := span_le blankB s (t.at_ + t.tok.size) h.at_
  have h2 := tokE_le s _ h1
  have h3 := tokE_ge s (spanF blankB s (t.at_ + t.tok.size))
  refine ⟨?_, h.deep, _, rfl⟩
  simp only [nextF, ByteArray.size_extract]
  omega
theorem next_ge {s : ByteArray} {t : PSt} : t.at_ + t.tok.size ≤ (nextF s t).at_ := span_ge _ _ _
theorem POk.take {s : ByteArray} {t : PSt} (h : POk s t) (ok : Bool) : POk s (takeF s t ok) := by
  unfold takeF
  split
  · exact ⟨h.at_, h.deep, h.tok⟩
  · exact h.next
theorem take_ge {s : ByteArray} {t : PSt} (ok : Bool) : t.at_ ≤ (takeF s t ok).at_ := by
  unfold takeF
  split
  · exact Nat.le_refl _
  · have := next_ge (s := s) (t := t); omega
theorem POk.nest {s : ByteArray} {t : PSt} (h : POk s t) (d : Int) : POk s (nestF d t) := by
  unfold nestF
  split
  · exact ⟨h.at_, ⟨by simp only; omega, by have := h.at_; simp only; omega⟩, h.tok⟩
  · exact h

structure Atm where
  word : ByteArray
  name : ByteArray
  value : ByteArray
  n : Int
inductive Nd where
  | node (kind : Int) (kids : List Nd) (a : Atm)
def atm0 : Atm := ⟨⟨#[]⟩, ⟨#[]⟩, ⟨#[]⟩, 0⟩
def nd0 : Nd := .node 0 [] atm0
def sOr : ByteArray := ⟨#[111, 114]⟩
def sAnd : ByteArray := ⟨#[97, 110, 100]⟩
def sNot : ByteArray := ⟨#[110, 111, 116]⟩
def sHas : ByteArray := ⟨#[104, 97, 115]⟩
def sTrue : ByteArray := ⟨#[116, 114, 117, 101]⟩
def sTime : ByteArray := ⟨#[116, 105, 109, 101]⟩
def sEq : ByteArray := ⟨#[61]⟩
def sLt : ByteArray := ⟨#[60]⟩
def sGt : ByteArray := ⟨#[62]⟩
def sOpen : ByteArray := ⟨#[40]⟩
def sShut : ByteArray := ⟨#[41]⟩
/-- the parts of an or, or an and, on and on -/
def loopF (s : ByteArray) (word : ByteArray) (part : PSt → Nd × PSt) : Nat → List Nd → PSt → List Nd × PSt
  | 0, ks, t => (ks, t)
  | m + 1, ks, t => if t.bad = false ∧ t.tok = word then loopF s word part m (ks ++ [(part (nextF s t)).1]) (part (nextF s t)).2 else (ks, t)
def joinF (kind : Int) (ks : List Nd) : Nd := match ks with | [k] => k | _ => .node kind ks atm0
def manyF (s : ByteArray) (kind : Int) (word : ByteArray) (part : PSt → Nd × PSt) (t : PSt) : Nd × PSt :=
  (joinF kind (loopF s word part (s.size + 1) [(part t).1] (part t).2).1, (loopF s word part (s.size + 1) [(part t).1] (part t).2).2)
/-- may it be the name, the value of an atom? -/
def nameB (x : ByteArray) : Bool := keyB x.data.toList && !([sTime, sAnd, sOr, sNot, sHas, sTrue].any fun y => x.toList == y.toList)
def valueB (x : ByteArray) : Bool := decide (1 ≤ x.size ∧ x.size ≤ 40) && x.data.toList.all wordB
/-- an atom; num: how a number is read -/
def atomF (num : ByteArray → Int × Bool) (s : ByteArray) (t : PSt) : Atm × PSt :=
  if t.tok = sTrue then (⟨sTrue, ⟨#[]⟩, ⟨#[]⟩, 0⟩, takeF s t true)
  else if t.tok = sHas then (⟨sHas, takeS (takeF s t true) (nameB (takeF s t true).tok), ⟨#[]⟩, 0⟩, takeF s (takeF s t true) (nameB (takeF s t true).tok))
  else if t.tok = sTime then
    let t1 := takeF s t true
    let ok1 := decide (t1.tok = sLt) || decide (t1.tok = sGt)
    let t2 := takeF s t1 ok1
    let ok2 := (num t2.tok).2 && decide (0 ≤ (num t2.tok).1 ∧ (num t2.tok).1 ≤ 864000000)
    (⟨takeS t1 ok1, ⟨#[]⟩, takeS t2 ok2, (num t2.tok).1⟩, takeF s t2 ok2)
  else
    let t1 := takeF s t (nameB t.tok)
    let t2 := takeF s t1 (decide (t1.tok = sEq))
    (⟨sEq, takeS t (nameB t.tok), takeS t2 (valueB t2.tok), 0⟩, takeF s t2 (valueB t2.tok))
def notF (num : ByteArray → Int × Bool) (s : ByteArray) : Nat → Int → PSt → Nd × PSt
  | 0, _, t => (nd0, t)
  | f + 1, d, t =>
    if t.tok = sNot then (.node 3 [(notF num s f (d + 1) (takeF s (nestF d t) true)).1] atm0, (notF num s f (d + 1) (takeF s (nestF d t) true)).2)
    else if t.tok = sOpen then
      let r := manyF s 1 sOr (manyF s 2 sAnd (notF num s f (d + 1))) (takeF s (nestF d t) true)
      (r.1, takeF s r.2 (decide (r.2.tok = sShut)))
    else (.node 4 [] (atomF num s t).1, (atomF num s t).2)
def orF (num : ByteArray → Int × Bool) (s : ByteArray) (f : Nat) (d : Int) (t : PSt) : Nd × PSt := manyF s 1 sOr (manyF s 2 sAnd (notF num s f d)) t
def pst0 (s : ByteArray) : PSt := nextF s ⟨0, ⟨#[]⟩, -1, false⟩
def parseT (num : ByteArray → Int × Bool) (s : ByteArray) : Nd × PSt := orF num s (s.size + 1) 0 (pst0 s)
/-- the offset and the error of a rule -/
def parseE (num : ByteArray → Int × Bool) (s : ByteArray) : Int × Int :=
  if 2000 < s.size then (0, 2)
  else if ((parseT num s).2.bad || decide ((parseT num s).2.at_ < s.size)) = true then ((parseT num s).2.at_, 9)
  else if 0 ≤ (parseT num s).2.deep then ((parseT num s).2.deep, 2) else (0, 0)
theorem pst_ok (s : ByteArray) : POk s ⟨0, ⟨#[]⟩, -1, false⟩ := by
  refine ⟨(by show 0 + 0 ≤ s.size; omega), ⟨(by show (-1 : Int) ≤ -1; omega), (by show (-1 : Int) ≤ s.size; omega)⟩, s.size, ?_⟩
  have h : (s.extract s.size (tokE s s.size)).size = 0 := by rw [ByteArray.size_extract]; omega
  have h2 : (s.extract s.size (tokE s s.size)).data = #[] := Array.eq_empty_of_size_eq_zero h
  cases hx : s.extract s.size (tokE s s.size) with
  | mk d => rw [hx] at h2; simp only at h2; rw [h2]
/-- no token of s is 'time' -/
def NoTime (s : ByteArray) : Prop := ∀ i, s.extract i (tokE s i) ≠ sTime
theorem POk.noTime {s : ByteArray} {t : PSt} (h : POk s t) (hn : NoTime s) : t.tok ≠ sTime := by
  obtain ⟨i, hi⟩ := h.tok
  rw [hi]
  exact hn i
theorem atom_ok (num : ByteArray → Int × Bool) {s : ByteArray} {t : PSt} (h : POk s t) : POk s (atomF num s t).2 ∧ t.at_ ≤ (atomF num s t).2.at_ := by
  unfold atomF
  split
  · exact ⟨h.take _, take_ge _⟩
  · split
    · exact ⟨(h.take _).take _, Nat.le_trans (take_ge _) (take_ge _)⟩
    · split
      · exact ⟨((h.take _).take _).take _, Nat.le_trans (take_ge _) (Nat.le_trans (take_ge _) (take_ge _))⟩
      · exact ⟨((h.take _).take _).take _, Nat.le_trans (take_ge _) (Nat.le_trans (take_ge _) (take_ge _))⟩
end Go.Proofs.YthbcogekfdllmaaGreatDoor
/-
  Runs: what is wrong with them, as the program and as the reference say it, in plain words. No Go text is named here but types.
-/
namespace Go.Proofs.YthbcogekfdllmaaGreatDoor
open Go Go.RowKit

/-- a run, with where its fields lie -/
structure Rn where
  id : ByteArray
  who : ByteArray
  time : Int
  date : Int
  fa : Option Addr
  fc : Nat
  fs : List Pr
def rnC (x : Rn) : List Value := [.string x.id, .string x.who, .int .i64 x.time, .int .i64 x.date, .slice x.fa x.fs.length x.fc]
theorem rnC_len (x : Rn) : (rnC x).length = 5 := rfl
abbrev rnL (x : Rn) : Array Value := #[.string x.id, .string x.who, .int .i64 x.time, .int .i64 x.date, .slice x.fa x.fs.length x.fc]
/-- a run that can be read in memory -/
structure RnW (w : World) (b : Nat) (x : Rn) : Prop where
  rd : Rd w b 2 (.slice x.fa x.fs.length x.fc) x.fs.length (x.fs.flatMap prC)
  hi : x.id.size ≤ 1000000
  hw : x.who.size ≤ 1000000
  hf : ∀ p ∈ x.fs, p.1.size ≤ 1000000 ∧ p.2.size ≤ 1000000
  hn : x.fs.length ≤ 1000000
theorem RnW.below {w w' : World} {b : Nat} {x : Rn} (h : RnW w b x) (k : Below w.heap.size w w') : RnW w' b x := ⟨h.rd.below k, h.hi, h.hw, h.hf, h.hn⟩
theorem RnW.bx {w w' : World} {b : Nat} {x : Rn} (h : RnW w b x) (k : Bx w.heap.size b w w') : RnW w' b x := ⟨h.rd.bx k, h.hi, h.hw, h.hf, h.hn⟩
structure Rns (w : World) (b : Nat) (A : Option Addr) (n c : Nat) (xs : List Rn) : Prop where
  rd : Rd w b 5 (.slice A n c) n (xs.flatMap rnC)
  ok : ∀ x ∈ xs, RnW w b x
theorem Rns.below {w w' : World} {b n c : Nat} {A : Option Addr} {xs : List Rn} (h : Rns w b A n c xs) (k : Below w.heap.size w w') : Rns w' b A n c xs := ⟨h.rd.below k, fun x hx => (h.ok x hx).below k⟩
theorem Rns.bx {w w' : World} {b n c : Nat} {A : Option Addr} {xs : List Rn} (h : Rns w b A n c xs) (k : Bx w.heap.size b w w') : Rns w' b A n c xs := ⟨h.rd.bx k, fun x hx => (h.ok x hx).bx k⟩
/-- what is wrong with fields behind a name -/
def fldG : ByteArray → List Pr → Int
  | _, [] => 0
  | last, p :: ps => if nameB p.1 = false then 5 else if valueB p.2 = false then 3 else if leS p.1 last = true then 7 else fldG p.1 ps
/-- the name ahead of place k -/
def lastP (ps : List Pr) (k : Nat) : ByteArray := match k with | 0 => ⟨#[]⟩ | k + 1 => match ps[k]? with | some r => r.1 | none => ⟨#[]⟩
theorem fldG_step (ps : List Pr) (k : Nat) (hk : k < ps.length) : fldG (lastP ps k) (ps.drop k) =
    if nameB ps[k].1 = false then 5 else if valueB ps[k].2 = false then 3 else if leS ps[k].1 (lastP ps k) = true then 7 else fldG (lastP ps (k + 1)) (ps.drop (k + 1)) := by
  rw [List.drop_eq_getElem_cons hk, fldG]
  have : lastP ps (k + 1) = ps[k].1 := by simp [lastP, hk]
  rw [this]
/-- what is wrong with a run -/
def runF (x : Rn) : Int := if (keyB x.id.data.toList && keyB x.who.data.toList) = true then if (outB x.time 0 864000000 || !momB x.date) = true then 1 else if 20 < x.fs.length then 2 else fldG ⟨#[]⟩ x.fs else 5
def runsG : ByteArray → List Rn → Int
  | _, [] => 0
  | last, x :: xs => if runF x = 0 then if leS x.id last = true then 7 else runsG x.id xs else runF x
def lastR (xs : List Rn) (k : Nat) : ByteArray := match k with | 0 => ⟨#[]⟩ | k + 1 => match xs[k]? with | some r => r.id | none => ⟨#[]⟩
def runsF (xs : List Rn) : Int := if 1000 < xs.length then 2 else runsG ⟨#[]⟩ xs
theorem runsG_step (xs : List Rn) (k : Nat) (hk : k < xs.length) : runsG (lastR xs k) (xs.drop k) =
    if runF xs[k] = 0 then if leS xs[k].id (lastR xs k) = true then 7 else runsG (lastR xs (k + 1)) (xs.drop (k + 1)) else runF xs[k] := by
  rw [List.drop_eq_getElem_cons hk, runsG]
  have : lastR xs (k + 1) = xs[k].id := by simp [lastR, hk]
  rw [this]
/-- what a run says, wherever its fields lie -/
abbrev CntR := ByteArray × ByteArray × Int × Int × List Pr
def cntR (x : Rn) : CntR := (x.id, x.who, x.time, x.date, x.fs)
theorem runF_cnt {x y : Rn} (h : cntR x = cntR y) : runF x = runF y := by
  simp only [cntR, Prod.mk.injEq] at h
  obtain ⟨a1, a2, a3, a4, a5⟩ := h
  unfold runF
  rw [a1, a2, a3, a4, a5]
theorem runsG_cnt : ∀ (p q : List Rn) (last : ByteArray), p.map cntR = q.map cntR → runsG last p = runsG last q
  | [], [], _, _ => rfl
  | [], _ :: _, _, h => by simp at h
  | _ :: _, [], _, h => by simp at h
  | x :: p, y :: q, last, h => by
    simp only [List.map_cons, List.cons.injEq] at h
    have hi : x.id = y.id := congrArg (·.1) h.1
    rw [runsG, runsG, runF_cnt h.1, hi, runsG_cnt p q y.id h.2]
theorem runsF_cnt {p q : List Rn} (h : p.map cntR = q.map cntR) : runsF p = runsF q := by
  have hl : p.length = q.length := by simpa using congrArg List.length h
  unfold runsF
  rw [hl, runsG_cnt p q _ h]
theorem runF_key {x : Rn} (h : runF x = 0) : keyB x.id.data.toList = true := by
  unfold runF at h
  split at h
  · rename_i hk
    rw [Bool.and_eq_true] at hk
    exact hk.1
  · cases h
end Go.Proofs.YthbcogekfdllmaaGreatDoor
