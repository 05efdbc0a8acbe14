/-
  Slots of a marathon in plain words: what the functions of chapter 9 answer. No Go text is named here.
-/
import Derived.Test.YthbcogekfdllmaaGreatDoorZFind
import Derived.Test.YthbcogekfdllmaaGreatDoorZKey2
import Derived.Lib.IndexBytes
namespace Go.Proofs.YthbcogekfdllmaaGreatDoor
open Go Go.RowKit

def strsV (hs : List ByteArray) : List Value := hs.map Value.string
theorem strsV_get {hs : List ByteArray} {k : Nat} (hk : k < hs.length) : (strsV hs)[k]? = some (.string hs[k]) := by
  unfold strsV
  rw [List.getElem?_map, List.getElem?_eq_getElem hk]
  rfl
theorem strs_cells {w : World} {b n c : Nat} {A : Option Addr} {hs : List ByteArray} (h : Rd w b 1 (.slice A n c) n (strsV hs)) :
    hs.length = n ∧ n ≤ c ∧ c ≤ maxLen ∧ (0 < n → ∃ g o, A = some ⟨g, o, none⟩ ∧ g ≠ b ∧ ∀ i (hi : i < hs.length), w.cell? ⟨g, o + i, none⟩ = some (.string hs[i])) := by
  obtain ⟨A', c', e1, e2, e3, e4, e5, e6⟩ := h
  injection e1 with ea eb ec
  subst ea ec
  refine ⟨by simpa [strsV] using e4, e2, e3, fun hn => ?_⟩
  obtain ⟨g, o, f1, f2, f3⟩ := e6 hn
  exact ⟨g, o, f1, f2, fun i hi => f3 i _ (strsV_get hi)⟩

/-- whom a name stands behind -/
def lastS (hs : List ByteArray) (k : Nat) : ByteArray := match k with | 0 => ⟨#[]⟩ | k + 1 => match hs[k]? with | some r => r | none => ⟨#[]⟩
def riseG : ByteArray → List ByteArray → Int
  | _, [] => 0
  | last, h :: hs => if keyB h.data.toList = false then 5 else if leS h last = true then 7 else riseG h hs
def riseF (hs : List ByteArray) : Int := riseG ⟨#[]⟩ hs
theorem riseG_step (hs : List ByteArray) (k : Nat) (hk : k < hs.length) : riseG (lastS hs k) (hs.drop k) =
    if keyB hs[k].data.toList = false then 5 else if leS hs[k] (lastS hs k) = true then 7 else riseG (lastS hs (k + 1)) (hs.drop (k + 1)) := by
  rw [List.drop_eq_getElem_cons hk, riseG]
  have : lastS hs (k + 1) = hs[k] := by simp [lastS, hk]
  rw [this]

/-- is a name one of some? -/
def memS (hs : List ByteArray) (x : ByteArray) : Bool := hs.any (eqS x)
theorem ixOf_mem {α : Type} (p : α → Bool) : ∀ l : List α, decide (0 ≤ ixOf p l) = l.any p
  | [] => by simp [ixOf]
  | a :: l => by
    have ih := ixOf_mem p l
    have hg := ixOf_ge p l
    cases hp : p a
    · rw [List.any_cons, hp, Bool.false_or, ← ih]
      simp only [ixOf, hp]
      by_cases h : ixOf p l = -1
      · simp [h]
      · simp [h]; constructor <;> intro _ <;> omega
    · simp [ixOf, hp]
theorem eqS_iff (a b : ByteArray) : eqS a b = true ↔ a = b := by
  unfold eqS
  rw [beq_iff_eq]
  constructor
  · intro h
    rw [Lib.toList_data, Lib.toList_data] at h
    cases a; cases b; congr; exact Array.toList_inj.1 h
  · rintro rfl; rfl
/-- a slot, with where its hosts lie -/
structure Slt where
  key : ByteArray
  who : ByteArray
  ha : Option Addr
  hc : Nat
  hosts : List ByteArray
  setup : Int
  long : Int
def Slt.hv (x : Slt) : Value := .slice x.ha x.hosts.length x.hc
def sltC (x : Slt) : List Value := [.string x.key, .string x.who, .slice x.ha x.hosts.length x.hc, .int .i64 x.setup, .int .i64 x.long]
theorem sltC_len (x : Slt) : (sltC x).length = 5 := rfl
/-- its cells -/
abbrev sltL (x : Slt) : Array Value := #[.string x.key, .string x.who, .slice x.ha x.hosts.length x.hc, .int .i64 x.setup, .int .i64 x.long]
structure SltOk (w : World) (b : Nat) (x : Slt) : Prop where
  rd : Rd w b 1 (.slice x.ha x.hosts.length x.hc) x.hosts.length (strsV x.hosts)
  hk : x.key.size ≤ 1000
  hw : x.who.size ≤ 1000
  hh : ∀ s ∈ x.hosts, s.size ≤ 1000
  hn : x.hosts.length ≤ 1000
  hs : -2199023255552 ≤ x.setup ∧ x.setup ≤ 2199023255552
  hl : -2199023255552 ≤ x.long ∧ x.long ≤ 2199023255552
/-- the same with wide bounds: a slot that was read -/
structure SltW (w : World) (b : Nat) (x : Slt) : Prop where
  rd : Rd w b 1 (.slice x.ha x.hosts.length x.hc) x.hosts.length (strsV x.hosts)
  hk : x.key.size ≤ 1000000
  hw : x.who.size ≤ 1000000
  hh : ∀ s ∈ x.hosts, s.size ≤ 1000000
  hn : x.hosts.length ≤ 1000000
  hs : -1000000000000000000 ≤ x.setup ∧ x.setup ≤ 1000000000000000000
  hl : -1000000000000000000 ≤ x.long ∧ x.long ≤ 1000000000000000000
theorem SltOk.wide {w : World} {b : Nat} {x : Slt} (h : SltOk w b x) : SltW w b x := by
  obtain ⟨h1, h2, h3, h4, h5, h6, h7⟩ := h
  exact ⟨h1, by omega, by omega, fun s hs => Nat.le_trans (h4 s hs) (by decide), by omega, by omega, by omega⟩
theorem SltW.bx {w w' : World} {b : Nat} {x : Slt} (h : SltW w b x) (k : Bx w.heap.size b w w') : SltW w' b x := ⟨h.rd.bx k, h.hk, h.hw, h.hh, h.hn, h.hs, h.hl⟩
theorem SltW.below {w w' : World} {b : Nat} {x : Slt} (h : SltW w b x) (k : Below w.heap.size w w') : SltW w' b x := h.bx (Bx.of_below k b)
theorem SltOk.bx {w w' : World} {b : Nat} {x : Slt} (h : SltOk w b x) (k : Bx w.heap.size b w w') : SltOk w' b x := ⟨h.rd.bx k, h.hk, h.hw, h.hh, h.hn, h.hs, h.hl⟩
theorem SltOk.below {w w' : World} {b : Nat} {x : Slt} (h : SltOk w b x) (k : Below w.heap.size w w') : SltOk w' b x := h.bx (Bx.of_below k b)
/-- slots in memory -/
structure Slts (w : World) (b : Nat) (A : Option Addr) (n c : Nat) (xs : List Slt) : Prop where
  rd : Rd w b 5 (.slice A n c) n (xs.flatMap sltC)
  ok : ∀ x ∈ xs, SltOk w b x
structure SltsW (w : World) (b : Nat) (A : Option Addr) (n c : Nat) (xs : List Slt) : Prop where
  rd : Rd w b 5 (.slice A n c) n (xs.flatMap sltC)
  ok : ∀ x ∈ xs, SltW w b x
theorem Slts.wide {w : World} {b n c : Nat} {A : Option Addr} {xs : List Slt} (h : Slts w b A n c xs) : SltsW w b A n c xs := ⟨h.rd, fun x hx => (h.ok x hx).wide⟩
theorem SltsW.below {w w' : World} {b n c : Nat} {A : Option Addr} {xs : List Slt} (h : SltsW w b A n c xs) (k : Below w.heap.size w w') : SltsW w' b A n c xs := ⟨h.rd.below k, fun x hx => (h.ok x hx).below k⟩
theorem Slts.bx {w w' : World} {b n c : Nat} {A : Option Addr} {xs : List Slt} (h : Slts w b A n c xs) (k : Bx w.heap.size b w w') : Slts w' b A n c xs := ⟨h.rd.bx k, fun x hx => (h.ok x hx).bx k⟩
theorem Slts.below {w w' : World} {b n c : Nat} {A : Option Addr} {xs : List Slt} (h : Slts w b A n c xs) (k : Below w.heap.size w w') : Slts w' b A n c xs := h.bx (Bx.of_below k b)
theorem Rd.take {α : Type} {w : World} {b k n c : Nat} {A : Option Addr} {f : α → List Value} {rs : List α} (h : Rd w b k (.slice A n c) n (rs.flatMap f)) (hf : ∀ a, (f a).length = k) (hk : 0 < k) {m : Nat} (hm : m ≤ n) :
    Rd w b k (.slice A m c) m ((rs.take m).flatMap f) := by
  obtain ⟨hl, h1, h2, h3⟩ := h.cells hf hk
  obtain ⟨A', c', e1, e2, e3, e4, e5, e6⟩ := h
  injection e1 with ea eb ec
  subst ea ec
  have hlen : ((rs.take m).flatMap f).length = m * k := by rw [flat_len f k hf, List.length_take, hl, Nat.min_eq_left hm]
  refine ⟨_, _, rfl, by omega, e3, hlen, fun ha => ⟨by have := (e5 ha).1; omega, (e5 ha).2⟩, fun hm0 => ?_⟩
  obtain ⟨g, o, f1, f2, f3⟩ := e6 (by omega)
  refine ⟨g, o, f1, f2, fun j u hu => f3 j u ?_⟩
  have hj : j < m * k := by
    rw [← hlen]
    exact (List.getElem?_eq_some_iff.1 hu).1
  have happ : rs.flatMap f = (rs.take m).flatMap f ++ (rs.drop m).flatMap f := by
    rw [← List.flatMap_append, List.take_append_drop]
  rw [happ, List.getElem?_append_left (by rw [hlen]; exact hj)]
  exact hu
theorem Slts.take {w : World} {b n c : Nat} {A : Option Addr} {xs : List Slt} (h : Slts w b A n c xs) {m : Nat} (hm : m ≤ n) : Slts w b A m c (xs.take m) :=
  ⟨h.rd.take sltC_len (by omega) hm, fun x hx => h.ok x (List.mem_of_mem_take hx)⟩

def findL (xs : List Slt) (key : ByteArray) : Int := ixOf (fun x => eqS x.key key) xs
/-- what is wrong with a slot by itself -/
def slotF (x : Slt) : Int := if 10 < x.hosts.length then 2 else if riseF x.hosts = 0 then if memS x.hosts x.who = true then 6 else if (outB x.setup 0 86400000 || outB x.long 1 86400000) = true then 1 else 0 else riseF x.hosts
def slotsG : List Slt → List Slt → Int
  | _, [] => 0
  | pre, x :: xs => if (!keyB x.key.data.toList || !keyB x.who.data.toList) = true then 5 else if 0 ≤ findL pre x.key then 6 else if slotF x = 0 then slotsG (pre ++ [x]) xs else slotF x
def slotsF (xs : List Slt) : Int := if 200 < xs.length then 2 else slotsG [] xs
theorem slotsG_step (xs : List Slt) (k : Nat) (hk : k < xs.length) : slotsG (xs.take k) (xs.drop k) =
    if (!keyB xs[k].key.data.toList || !keyB xs[k].who.data.toList) = true then 5 else if 0 ≤ findL (xs.take k) xs[k].key then 6 else if slotF xs[k] = 0 then slotsG (xs.take (k + 1)) (xs.drop (k + 1)) else slotF xs[k] := by
  rw [List.drop_eq_getElem_cons hk, slotsG, List.take_succ_eq_append_getElem hk]

/-- when a slot is: its key, at, begin, end -/
abbrev Plc := ByteArray × Int × Int × Int
def plcC (p : Plc) : List Value := [.string p.1, .int .i64 p.2.1, .int .i64 p.2.2.1, .int .i64 p.2.2.2]
theorem plcC_len (p : Plc) : (plcC p).length = 4 := rfl
def plcOf (f : Int) (x : Slt) : Plc := (x.key, f, f + x.setup, f + x.setup + x.long)
/-- when the first k slots end -/
def fromAt (f : Int) (xs : List Slt) (k : Nat) : Int := (xs.take k).foldl (fun f x => f + x.setup + x.long) f
/-- the places of the first k slots -/
def placesTo (f : Int) (xs : List Slt) : Nat → List Plc
  | 0 => []
  | k + 1 => match xs[k]? with
    | some x => placesTo f xs k ++ [plcOf (fromAt f xs k) x]
    | none => placesTo f xs k
theorem fromAt_step (f : Int) (xs : List Slt) (k : Nat) (hk : k < xs.length) : fromAt f xs (k + 1) = fromAt f xs k + xs[k].setup + xs[k].long := by
  unfold fromAt
  rw [List.take_succ_eq_append_getElem hk, List.foldl_append]
  rfl
theorem placesTo_step (f : Int) (xs : List Slt) (k : Nat) (hk : k < xs.length) : placesTo f xs (k + 1) = placesTo f xs k ++ [plcOf (fromAt f xs k) xs[k]] := by
  simp [placesTo, List.getElem?_eq_getElem hk]
theorem placesTo_len (f : Int) (xs : List Slt) : ∀ k, k ≤ xs.length → (placesTo f xs k).length = k
  | 0, _ => rfl
  | k + 1, h => by rw [placesTo_step f xs k h, List.length_append, placesTo_len f xs k (by omega)]; rfl
theorem placesTo_get (f : Int) (xs : List Slt) : ∀ k, k ≤ xs.length → ∀ i (_hi : i < k) (hi' : i < xs.length), (placesTo f xs k)[i]? = some (plcOf (fromAt f xs i) xs[i])
  | k + 1, h, i, hi, hi' => by
    rw [placesTo_step f xs k h]
    have hl := placesTo_len f xs k (by omega)
    by_cases he : i = k
    · subst he
      rw [List.getElem?_append_right (by omega), hl, Nat.sub_self]
      rfl
    · rw [List.getElem?_append_left (by omega)]
      exact placesTo_get f xs k (by omega) i (by omega) hi'
def Sml (xs : List Slt) : Prop := ∀ x ∈ xs, (-2199023255552 ≤ x.setup ∧ x.setup ≤ 2199023255552) ∧ (-2199023255552 ≤ x.long ∧ x.long ≤ 2199023255552)
theorem Slts.sml {w : World} {b n c : Nat} {A : Option Addr} {xs : List Slt} (h : Slts w b A n c xs) : Sml xs := fun x hx => ⟨(h.ok x hx).hs, (h.ok x hx).hl⟩
theorem fromAt_bd {f : Int} {xs : List Slt} (h : Sml xs) (hf : -4398046511104 ≤ f ∧ f ≤ 4398046511104) : ∀ k, k ≤ xs.length → -4398046511104 * ((k : Int) + 1) ≤ fromAt f xs k ∧ fromAt f xs k ≤ 4398046511104 * ((k : Int) + 1)
  | 0, _ => by simp [fromAt]; omega
  | k + 1, hk => by
    have ih := fromAt_bd h hf k (by omega)
    have hx := h _ (List.getElem_mem (show k < xs.length by omega))
    rw [fromAt_step f xs k hk]
    omega
def placesF (f : Int) (xs : List Slt) : List Plc := placesTo f xs xs.length
/-- the end of places -/
def endP (f : Int) : List Plc → Int
  | [] => f
  | p :: l => endP p.2.2.2 l
theorem endP_last : ∀ (f : Int) (l : List Plc) (h : 0 < l.length), endP f l = (l[l.length - 1]'(by omega)).2.2.2
  | _, [p], _ => rfl
  | _, p :: q :: l, _ => by
    rw [endP, endP_last _ (q :: l) (by simp)]
    simp
/-- can slots begin at a moment? -/
def momB (f : Int) : Bool := !outB f 0 345686399999
def fromF (f : Int) (xs : List Slt) : Int := if momB f = true then if 345686400000 < endP f (placesF f xs) then 1 else 0 else 1
end Go.Proofs.YthbcogekfdllmaaGreatDoor
/-
  base.Rising, splitref2.rising, slices.Index and slices.Contains of strings by contracts. (Printed by gen_slot1.py.)
-/
namespace Go.Proofs.YthbcogekfdllmaaGreatDoor
open Go Go.RowKit

set_option maxRecDepth 100000 in
theorem rising_calls (b : Nat) (A : Option Addr) (n c : Nat) (hs : List ByteArray) (w : World) (hr : Rd w b 1 (.slice A n c) n (strsV hs)) (hsz : ∀ s ∈ hs, s.size ≤ 1000000) :
    Calls Tryz.prog 170 #[.slice A n c] w (QRet (.int .i64 (riseF hs)) w) := by
  obtain ⟨hl, hnc, hcm, hcells⟩ := strs_cells hr
  unfold maxLen at hcm
  have HF := Lib.hid (show riseF hs = riseG (lastS hs 0) (hs.drop 0) from rfl)
  have HL := Lib.hid hl
  have HC := Lib.hid hcells
  clear hcells hl hr
  go_enter Tryz.func170, Tryz.ntmps170
  go_wp2_with fail
  go_loopw [7] (fun i wr => ∃ k : Nat, k ≤ n ∧ i = .int .i64 k ∧ Hid (riseF hs = riseG (lastS hs k) (hs.drop k)) ∧ wr = w) (fun i _ => n - (intOf i).toNat)
  case atStart => exact ⟨0, Nat.zero_le _, rfl, HF, rfl⟩
  case round =>
    clear HF
    obtain ⟨k, hk, rfl, HF, rfl⟩ := hrel
    by_cases hlt : k < n
    · have hkr : k < hs.length := by rw [HL.out]; exact hlt
      obtain ⟨g, o, hA, _, hcs⟩ := HC.out (by omega)
      subst hA
      have c0 := hcs k hkr
      have hri := hsz _ (List.getElem_mem hkr)
      have hst := HF.out.trans (riseG_step hs k hkr)
      obtain ⟨s, hs'⟩ : ∃ s, hs[k] = s := ⟨_, rfl⟩
      rw [hs'] at c0 hri hst
      clear hs'
      have HCS := Lib.hid hcs
      clear hcs
      cases hkey : keyB s.data.toList
      · rw [if_pos hkey] at hst
        have HS := Lib.hid hst
        have HK := Lib.hid hkey
        clear hst hkey
        go_wp2_with fail
        refine (key_calls s _ (by unfold maxLen; omega)).mono ?_
        rintro e w1 ⟨rfl, rfl⟩
        rw [HK.out]
        go_wp2_with fail
        go_ret
        exact ⟨ret_int HS.out.symm, 0, rfl⟩
      · rw [if_neg (by rw [hkey]; simp)] at hst
        have HK := Lib.hid hkey
        by_cases h0 : k = 0
        · subst h0
          simp only [Nat.add_zero] at c0
          rw [show lastS hs 0 = ⟨#[]⟩ from rfl, le_nil hkey, if_neg (by simp)] at hst
          have HS := Lib.hid hst
          clear hkey hst
          go_wp2_with fail
          refine (key_calls s _ (by unfold maxLen; omega)).mono ?_
          rintro e w1 ⟨rfl, rfl⟩
          rw [HK.out]
          go_wp2_with fail
          go_roundw
          case rel => exact ⟨1, by omega, by go_num, HS, trivial⟩
          case measure => simp [intOf]; omega
        · obtain ⟨q, rfl⟩ : ∃ q, k = q + 1 := ⟨k - 1, by omega⟩
          have hqr : q < hs.length := by omega
          have p0 := HCS.out q hqr
          have hla : lastS hs (q + 1) = hs[q] := by simp [lastS, hqr]
          rw [hla] at hst
          obtain ⟨t, ht⟩ : ∃ t, hs[q] = t := ⟨_, rfl⟩
          rw [ht] at hst p0
          clear ht hla hkey
          have hg : (0 : Int) < (((q + 1 : Nat)) : Int) := by omega
          have hq0 : (0 : Int) ≤ (q : Int) := by omega
          have hqn : (q : Int) < (n : Int) := by omega
          cases hle : leS s t
          · rw [hle, if_neg (by simp)] at hst
            have hle' : (Op.bytesLess s.toList t.toList || s.toList == t.toList) = false := hle
            have HS := Lib.hid hst
            clear hle hst
            go_wp2_with fail
            refine (key_calls s _ (by unfold maxLen; omega)).mono ?_
            rintro e w1 ⟨rfl, rfl⟩
            rw [HK.out]
            go_wp2_with fail
            go_roundw
            case rel => exact ⟨q + 1 + 1, by omega, by go_num, HS, trivial⟩
            case measure => simp [intOf]; omega
          · rw [hle, if_pos rfl] at hst
            have hle' : (Op.bytesLess s.toList t.toList || s.toList == t.toList) = true := hle
            have HS := Lib.hid hst
            clear hle hst
            go_wp2_with fail
            refine (key_calls s _ (by unfold maxLen; omega)).mono ?_
            rintro e w1 ⟨rfl, rfl⟩
            rw [HK.out]
            go_wp2_with fail
            go_ret
            exact ⟨ret_int HS.out.symm, 0, rfl⟩
    · obtain rfl : k = n := by omega
      have HS := Lib.hid (HF.out.trans (by rw [List.drop_of_length_le (by rw [HL.out]; exact Nat.le_refl _)]; rfl : _ = (0 : Int)))
      go_wp2_with fail
      go_ret
      exact ⟨ret_int HS.out.symm, 0, rfl⟩

set_option maxRecDepth 100000 in
theorem indexS_calls (b : Nat) (A : Option Addr) (n c : Nat) (hs : List ByteArray) (x : ByteArray) (w : World) (hr : Rd w b 1 (.slice A n c) n (strsV hs)) :
    Calls Tryz.prog 135 #[.slice A n c, .string x] w (QRet (.int .i64 (ixOf (eqS x) hs)) w) := by
  obtain ⟨hl, hnc, hcm, hcells⟩ := strs_cells hr
  unfold maxLen at hcm
  have HL := Lib.hid hl
  have HC := Lib.hid hcells
  clear hcells hl hr
  go_enter Tryz.func135, Tryz.ntmps135
  go_wp2_with fail
  go_loopw [8] (fun i wr => ∃ k : Nat, k ≤ n ∧ i = .int .i64 k ∧ Hid (∀ i (hi : i < k) (hi' : i < hs.length), eqS x hs[i] = false) ∧ wr = w) (fun i _ => n - (intOf i).toNat)
  case atStart => exact ⟨0, Nat.zero_le _, rfl, (fun i hi => absurd hi (by omega)), rfl⟩
  case round =>
    obtain ⟨k, hk, rfl, HF, rfl⟩ := hrel
    by_cases hlt : k < n
    · have hkr : k < hs.length := by rw [HL.out]; exact hlt
      obtain ⟨g, o, hA, _, hcs⟩ := HC.out (by omega)
      subst hA
      have c0 := hcs k hkr
      obtain ⟨s, hs'⟩ : ∃ s, hs[k] = s := ⟨_, rfl⟩
      rw [hs'] at c0
      clear hcs
      cases he : eqS x s
      · have he' : (x.toList == s.toList) = false := he
        have HF2 : Hid (∀ i (hi : i < k + 1) (hi' : i < hs.length), eqS x hs[i] = false) := by
          intro i hi hi'
          by_cases hik : i = k
          · subst hik; rw [hs']; exact he
          · exact HF.out i (by omega) hi'
        clear he hs'
        go_wp2_with fail
        go_roundw
        case rel => exact ⟨k + 1, by omega, by go_num, HF2, trivial⟩
        case measure => simp [intOf]; omega
      · have he' : (x.toList == s.toList) = true := he
        have HR : Hid (ixOf (eqS x) hs = k) := ixOf_at _ hs k hkr (fun i hi => HF.out i hi (by omega)) (by rw [hs']; exact he)
        clear he hs'
        go_wp2_with fail
        go_ret
        exact ⟨ret_int HR.out.symm, 0, rfl⟩
    · obtain rfl : k = n := by omega
      have HR : Hid (ixOf (eqS x) hs = -1) := ixOf_no _ hs (fun i hi => HF.out i (by rw [← HL.out]; exact hi) hi)
      go_wp2_with fail
      go_ret
      exact ⟨ret_int HR.out.symm, 0, rfl⟩

set_option maxRecDepth 100000 in
theorem containsS_calls (b : Nat) (A : Option Addr) (n c : Nat) (hs : List ByteArray) (x : ByteArray) (w : World) (hr : Rd w b 1 (.slice A n c) n (strsV hs)) :
    Calls Tryz.prog 75 #[.slice A n c, .string x] w (QRet (.bool (memS hs x)) w) := by
  have HM := Lib.hid (ixOf_mem (eqS x) hs)
  go_enter Tryz.func75, Tryz.ntmps75
  go_wp2_with fail
  refine (indexS_calls b A n c hs x _ hr).mono ?_
  rintro e w1 ⟨rfl, nq, rfl⟩
  go_wp2_with fail
  go_ret
  exact ⟨ret_bool HM.out, nq, rfl⟩
end Go.Proofs.YthbcogekfdllmaaGreatDoor
/-
  marathon.find, splitref2.SlotAt and marathon.slotFault by contracts. (Printed by gen_slot2.py.)
-/
namespace Go.Proofs.YthbcogekfdllmaaGreatDoor
open Go Go.RowKit

set_option maxRecDepth 100000 in
theorem findL_calls (b : Nat) (A : Option Addr) (n c : Nat) (rs : List Slt) (key : ByteArray) (w : World) (hr : Rd w b 5 (.slice A n c) n (rs.flatMap sltC)) :
    Calls Tryz.prog 74 #[.slice A n c, .string key] w (BRet (.int .i64 (findL rs key)) w) := by
  obtain ⟨hl, hnc, hcm, hcells⟩ := hr.cells sltC_len (by omega)
  unfold maxLen at hcm
  have HL := Lib.hid hl
  have HC := Lib.hid hcells
  clear hcells hl hr
  go_enter Tryz.func74, Tryz.ntmps74
  go_wp2
  go_loopw [8] (fun i wr => ∃ k : Nat, k ≤ n ∧ i = .int .i64 k ∧ Hid (∀ i (_ : i < k) (hi' : i < rs.length), eqS rs[i].key key = false) ∧ Below w.heap.size w wr ∧ Blk wr w.heap.size 9 #[.string key]) (fun i _ => n - (intOf i).toNat)
  case atStart => exact ⟨0, Nat.zero_le _, rfl, (fun i hi => absurd hi (by omega)), (Below.refl _ _).alloc (Nat.le_refl _) _, Blk.new _ _ _⟩
  case round =>
    obtain ⟨k, hk, rfl, HF, hbr, hblk⟩ := hrel
    by_cases hlt : k < n
    · have hkr : k < rs.length := by rw [HL.out]; exact hlt
      obtain ⟨g, o, hA, _, hcs⟩ := HC.out (by omega)
      subst hA
      obtain ⟨x, hx⟩ : ∃ x, rs[k] = x := ⟨_, rfl⟩
      have c0 := below_cell hbr (hcs k hkr 0 (by omega))
      have c1 := below_cell hbr (hcs k hkr 1 (by omega))
      have c2 := below_cell hbr (hcs k hkr 2 (by omega))
      have c3 := below_cell hbr (hcs k hkr 3 (by omega))
      have c4 := below_cell hbr (hcs k hkr 4 (by omega))
      rw [hx] at c0 c1 c2 c3 c4
      obtain ⟨s, s2, ha, hc, hh, s3, s4⟩ := x
      simp only [Nat.add_zero] at c0
      have hlz := hbr.size
      have hbb := hblk.lt
      have bw := (hblk.alloc (.cells #[.string s, .string s2, .slice ha hh.length hc, .int .i64 s3, .int .i64 s4] 64)).one.1
      clear hcs
      cases he : eqS s key
      · have he' : (s.toList == key.toList) = false := he
        have HF2 : Hid (∀ i (_ : i < k + 1) (hi' : i < rs.length), eqS rs[i].key key = false) := by
          intro i hi hi'
          by_cases hik : i = k
          · subst hik; rw [hx]; exact he
          · exact HF.out i (by omega) hi'
        clear he hx
        go_wp2
        go_roundw
        case rel => exact ⟨k + 1, by omega, by go_num, HF2, hbr.alloc hbr.size _, hblk.alloc _⟩
        case measure => simp [intOf]; omega
      · have he' : (s.toList == key.toList) = true := he
        have HR : Hid (findL rs key = k) := ixOf_at _ rs k hkr (fun i hi => HF.out i hi (by omega)) (by show eqS rs[k].key key = true; rw [hx]; exact he)
        clear he hx
        go_wp2
        go_ret
        exact ⟨ret_int HR.out.symm, hbr.alloc hbr.size _⟩
    · obtain rfl : k = n := by omega
      have HR : Hid (findL rs key = -1) := ixOf_no _ rs (fun i hi => HF.out i (by rw [← HL.out]; exact hi) hi)
      go_wp2
      go_ret
      exact ⟨ret_int HR.out.symm, hbr⟩

set_option maxRecDepth 100000 in
theorem slotFault_calls (b : Nat) (x : Slt) (w : World) (hx : SltW w b x) (_hb : b < w.heap.size) :
    Calls Tryz.prog 125 #[.agg #[.string x.key, .string x.who, .slice x.ha x.hosts.length x.hc, .int .i64 x.setup, .int .i64 x.long]] w (BRet (.int .i64 (slotF x)) w) := by
  obtain ⟨h1, h2, h3, h4, h5, h6, h7⟩ := hx
  obtain ⟨key, who, ha, hc, hosts, su, lo⟩ := x
  simp only at h1 h2 h3 h4 h5 h6 h7
  obtain ⟨n, hn⟩ : ∃ n, hosts.length = n := ⟨_, rfl⟩
  have hS : slotF ⟨key, who, ha, hc, hosts, su, lo⟩ = (if 10 < n then 2 else if riseF hosts = 0 then if memS hosts who = true then 6 else if (outB su 0 86400000 || outB lo 1 86400000) = true then 1 else 0 else riseF hosts) := by
    subst hn; rfl
  obtain ⟨F, hF⟩ : ∃ F, slotF ⟨key, who, ha, hc, hosts, su, lo⟩ = F := ⟨_, rfl⟩
  rw [hF] at hS ⊢
  simp only [hn]
  rw [hn] at h1 h5
  obtain ⟨_, hnc, hcm, _⟩ := strs_cells h1
  unfold maxLen at hcm
  have hA : ∀ o : Obj, Below w.heap.size w (w.alloc o) := fun o => (Below.refl _ _).alloc (Nat.le_refl _) o
  have HR := Lib.hid (h1.below (hA (.cells #[.string key, .string who, .slice ha n hc, .int .i64 su, .int .i64 lo] 64)))
  have H4 := Lib.hid h4
  have HN := Lib.hid hn
  obtain ⟨E, hE⟩ : ∃ E, riseF hosts = E := ⟨_, rfl⟩
  rw [hE] at hS
  have HE := Lib.hid hE
  obtain ⟨M, hM⟩ : ∃ M, memS hosts who = M := ⟨_, rfl⟩
  rw [hM] at hS
  have HM := Lib.hid hM
  obtain ⟨O1, hO1⟩ : ∃ M, outB su 0 86400000 = M := ⟨_, rfl⟩
  obtain ⟨O2, hO2⟩ : ∃ M, outB lo 1 86400000 = M := ⟨_, rfl⟩
  rw [hO1, hO2] at hS
  have HO1 := Lib.hid hO1
  have HO2 := Lib.hid hO2
  clear h1 h4 hE hM hO1 hO2 hF hn
  by_cases hbig : 10 < n
  · rw [if_pos hbig] at hS
    have HS := Lib.hid hS
    clear hS
    go_enter Tryz.func125, Tryz.ntmps125
    go_wp2_with fail
    go_ret
    exact ⟨ret_int HS.out.symm, hA _⟩
  rw [if_neg hbig] at hS
  by_cases hz : E = 0
  · subst hz
    rw [if_pos rfl] at hS
    have H0 := Lib.hid hS
    clear hS
    go_enter Tryz.func125, Tryz.ntmps125
    go_wp2_with fail
    refine (rising_calls b ha n hc hosts _ HR.out H4.out).mono ?_
    rintro e w1 ⟨rfl, nq, rfl⟩
    rw [HE.out]
    have B0 : Blk ((w.alloc (.cells #[.string key, .string who, .slice ha n hc, .int .i64 su, .int .i64 lo] 64)).drewN nq) w.heap.size 64 #[.string key, .string who, .slice ha n hc, .int .i64 su, .int .i64 lo] := Blk.new w _ _
    have b1 := B0.cell 1
    have b2 := B0.cell 2
    have b3 := B0.cell 3
    have b4 := B0.cell 4
    go_wp2_with fail
    refine (containsS_calls b ha n hc hosts who _ (HR.out.below (below_drewN (Below.refl _ _) _))).mono ?_
    rintro e w2 ⟨rfl, nq2, rfl⟩
    rw [HM.out]
    clear b1 b2
    have d3 : (((w.alloc (.cells #[.string key, .string who, .slice ha n hc, .int .i64 su, .int .i64 lo] 64)).drewN nq).drewN nq2).cell? ⟨w.heap.size, 3, none⟩ = some (.int .i64 su) := b3
    have d4 : (((w.alloc (.cells #[.string key, .string who, .slice ha n hc, .int .i64 su, .int .i64 lo] 64)).drewN nq).drewN nq2).cell? ⟨w.heap.size, 4, none⟩ = some (.int .i64 lo) := b4
    clear b3 b4
    cases M
    · rw [if_neg (by simp)] at H0
      go_wp2_with fail
      refine (out_calls _ _ _ _).mono ?_
      rintro e w3 ⟨rfl, rfl⟩
      rw [HO1.out]
      cases O1
      · go_wp2_with fail
        refine (out_calls _ _ _ _).mono ?_
        rintro e w3 ⟨rfl, rfl⟩
        rw [HO2.out]
        cases O2
        · have HS := Lib.hid (H0.out.trans (if_neg (by simp)))
          clear H0
          go_wp2_with fail
          go_ret
          exact ⟨ret_int HS.out.symm, below_drewN (hA _) _⟩
        · have HS := Lib.hid (H0.out.trans (if_pos (by simp)))
          clear H0
          go_wp2_with fail
          go_ret
          exact ⟨ret_int HS.out.symm, below_drewN (hA _) _⟩
      · have HS := Lib.hid (H0.out.trans (if_pos (by simp)))
        clear H0
        go_wp2_with fail
        go_ret
        exact ⟨ret_int HS.out.symm, below_drewN (hA _) _⟩
    · rw [if_pos rfl] at H0
      go_wp2_with fail
      go_ret
      exact ⟨ret_int H0.out.symm, below_drewN (hA _) _⟩
  · rw [if_neg hz] at hS
    have HS := Lib.hid hS
    have hz' : (E != 0) = true := by rw [bne_iff_ne]; exact hz
    clear hS
    go_enter Tryz.func125, Tryz.ntmps125
    go_wp2_with fail
    refine (rising_calls b ha n hc hosts _ HR.out H4.out).mono ?_
    rintro e w1 ⟨rfl, nq, rfl⟩
    rw [HE.out]
    go_wp2_with fail
    go_ret
    exact ⟨ret_int HS.out.symm, below_drewN (hA _) _⟩
end Go.Proofs.YthbcogekfdllmaaGreatDoor
