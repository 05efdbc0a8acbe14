/-
  Slots of a marathon in plain words: what the functions of chapter 9 answer. No Go text is named here.
-/
import Derived.Test.YtapgnaimbgjcnaaGreatDoorZFind
import Derived.Test.YtapgnaimbgjcnaaGreatDoorZFlat
namespace Go.Proofs.YtapgnaimbgjcnaaGreatDoor
open Go Go.RowKit
def strsV (hs : List ByteArray) : List Value := hs.map Value.string
theorem strsV_get {hs : List ByteArray} {k : Nat} (hk : k < hs.length) : (strsV hs)[k]? = some (.string hs[k]) := by
 unfold strsV
 rw [List.getElem?_map, List.getElem?_eq_getElem hk]
 rfl
theorem strs_cells {w : World} {b n c : Nat} {A : Option Addr} {hs : List ByteArray} (h : Rd w b 1 (.slice A n c) n (strsV hs)) :
 hs.length = n ∧ n ≤ c ∧ c ≤ maxLen ∧ (0 < n → ∃ g o, A = some ⟨g, o, none⟩ ∧ g ≠ b ∧ ∀ i (hi : i < hs.length), w.cell? ⟨g, o + i, none⟩ = some (.string hs[i])) := by
 obtain ⟨A', c', e1, e2, e3, e4, e5, e6⟩ := h
 injection e1 with ea eb ec
 subst ea ec
 refine ⟨by simpa [strsV] using e4, e2, e3, fun hn => ?_⟩
 obtain ⟨g, o, f1, f2, f3⟩ := e6 hn
 exact ⟨g, o, f1, f2, fun i hi => f3 i _ (strsV_get hi)⟩
def lastS (hs : List ByteArray) (k : Nat) : ByteArray := match k with | 0 => ⟨#[]⟩ | k + 1 => match hs[k]? with | some r => r | none => ⟨#[]⟩
def riseG : ByteArray → List ByteArray → Int
 | _, [] => 0
 | last, h :: hs => if keyB h.data.toList = false then 5 else if leS h last = true then 7 else riseG h hs
def riseF (hs : List ByteArray) : Int := riseG ⟨#[]⟩ hs
theorem riseG_step (hs : List ByteArray) (k : Nat) (hk : k < hs.length) : riseG (lastS hs k) (hs.drop k) =
 if keyB hs[k].data.toList = false then 5 else if leS hs[k] (lastS hs k) = true then 7 else riseG (lastS hs (k + 1)) (hs.drop (k + 1)) := by
 rw [List.drop_eq_getElem_cons hk, riseG]
 have : lastS hs (k + 1) = hs[k] := by simp [lastS, hk]
 rw [this]
def memS (hs : List ByteArray) (x : ByteArray) : Bool := hs.any (eqS x)
theorem ixOf_mem {α : Type} (p : α → Bool) : ∀ l : List α, decide (0 ≤ ixOf p l) = l.any p
 | [] => by simp [ixOf]
 | a :: l => by
   have ih := ixOf_mem p l
   have hg := ixOf_ge p l
   cases hp : p a
   · rw [List.any_cons, hp, Bool.false_or, ← ih]
     simp only [ixOf, hp]
     by_cases h : ixOf p l = -1
     · simp [h]
     · simp [h]; constructor <;> intro _ <;> omega
   · simp [ixOf, hp]
theorem eqS_iff (a b : ByteArray) : eqS a b = true ↔ a = b := by
 unfold eqS
 rw [beq_iff_eq]
 constructor
 · intro h
   rw [Lib.toList_data, Lib.toList_data] at h
   cases a; cases b; congr; exact Array.toList_inj.1 h
 · rintro rfl; rfl
structure Slt where
 key : ByteArray
 who : ByteArray
 ha : Option Addr
 hc : Nat
 hosts : List ByteArray
 setup : Int
 long : Int
def Slt.hv (x : Slt) : Value := .slice x.ha x.hosts.length x.hc
def sltC (x : Slt) : List Value := [.string x.key, .string x.who, .slice x.ha x.hosts.length x.hc, .int .i64 x.setup, .int .i64 x.long]
theorem sltC_len (x : Slt) : (sltC x).length = 5 := rfl
structure SltOk (w : World) (b : Nat) (x : Slt) : Prop where
 rd : Rd w b 1 (.slice x.ha x.hosts.length x.hc) x.hosts.length (strsV x.hosts)
 hk : x.key.size ≤ 1000
 hw : x.who.size ≤ 1000
 hh : ∀ s ∈ x.hosts, s.size ≤ 1000
 hn : x.hosts.length ≤ 1000
 hs : -2199023255552 ≤ x.setup ∧ x.setup ≤ 2199023255552
 hl : -2199023255552 ≤ x.long ∧ x.long ≤ 2199023255552
structure SltW (w : World) (b : Nat) (x : Slt) : Prop where
 rd : Rd w b 1 (.slice x.ha x.hosts.length x.hc) x.hosts.length (strsV x.hosts)
 hk : x.key.size ≤ 1000000
 hw : x.who.size ≤ 1000000
 hh : ∀ s ∈ x.hosts, s.size ≤ 1000000
 hn : x.hosts.length ≤ 1000000
 hs : -1000000000000000000 ≤ x.setup ∧ x.setup ≤ 1000000000000000000
 hl : -1000000000000000000 ≤ x.long ∧ x.long ≤ 1000000000000000000
theorem SltOk.wide {w : World} {b : Nat} {x : Slt} (h : SltOk w b x) : SltW w b x := by
 obtain ⟨h1, h2, h3, h4, h5, h6, h7⟩ := h
 exact ⟨h1, by omega, by omega, fun s hs => Nat.le_trans (h4 s hs) (by decide), by omega, by omega, by omega⟩
theorem SltW.bx {w w' : World} {b : Nat} {x : Slt} (h : SltW w b x) (k : Bx w.heap.size b w w') : SltW w' b x := ⟨h.rd.bx k, h.hk, h.hw, h.hh, h.hn, h.hs, h.hl⟩
theorem SltW.below {w w' : World} {b : Nat} {x : Slt} (h : SltW w b x) (k : Below w.heap.size w w') : SltW w' b x := h.bx (Bx.of_below k b)
theorem SltOk.bx {w w' : World} {b : Nat} {x : Slt} (h : SltOk w b x) (k : Bx w.heap.size b w w') : SltOk w' b x := ⟨h.rd.bx k, h.hk, h.hw, h.hh, h.hn, h.hs, h.hl⟩
theorem SltOk.below {w w' : World} {b : Nat} {x : Slt} (h : SltOk w b x) (k : Below w.heap.size w w') : SltOk w' b x := h.bx (Bx.of_below k b)
structure Slts (w : World) (b : Nat) (A : Option Addr) (n c : Nat) (xs : List Slt) : Prop where
 rd : Rd w b 5 (.slice A n c) n (xs.flatMap sltC)
 ok : ∀ x ∈ xs, SltOk w b x
structure SltsW (w : World) (b : Nat) (A : Option Addr) (n c : Nat) (xs : List Slt) : Prop where
 rd : Rd w b 5 (.slice A n c) n (xs.flatMap sltC)
 ok : ∀ x ∈ xs, SltW w b x
theorem Slts.wide {w : World} {b n c : Nat} {A : Option Addr} {xs : List Slt} (h : Slts w b A n c xs) : SltsW w b A n c xs := ⟨h.rd, fun x hx => (h.ok x hx).wide⟩
theorem SltsW.below {w w' : World} {b n c : Nat} {A : Option Addr} {xs : List Slt} (h : SltsW w b A n c xs) (k : Below w.heap.size w w') : SltsW w' b A n c xs := ⟨h.rd.below k, fun x hx => (h.ok x hx).below k⟩
theorem Slts.bx {w w' : World} {b n c : Nat} {A : Option Addr} {xs : List Slt} (h : Slts w b A n c xs) (k : Bx w.heap.size b w w') : Slts w' b A n c xs := ⟨h.rd.bx k, fun x hx => (h.ok x hx).bx k⟩
theorem Slts.below {w w' : World} {b n c : Nat} {A : Option Addr} {xs : List Slt} (h : Slts w b A n c xs) (k : Below w.heap.size w w') : Slts w' b A n c xs := h.bx (Bx.of_below k b)
theorem Rd.take {α : Type} {w : World} {b k n c : Nat} {A : Option Addr} {f : α → List Value} {rs : List α} (h : Rd w b k (.slice A n c) n (rs.flatMap f)) (hf : ∀ a, (f a).length = k) (hk : 0 < k) {m : Nat} (hm : m ≤ n) :
 Rd w b k (.slice A m c) m ((rs.take m).flatMap f) := by
 obtain ⟨hl, h1, h2, h3⟩ := h.cells hf hk
 obtain ⟨A', c', e1, e2, e3, e4, e5, e6⟩ := h
 injection e1 with ea eb ec
 subst ea ec
 have hlen : ((rs.take m).flatMap f).length = m * k := by rw [flat_len f k hf, List.length_take, hl, Nat.min_eq_left hm]
 refine ⟨_, _, rfl, by omega, e3, hlen, fun ha => ⟨by have := (e5 ha).1; omega, (e5 ha).2⟩, fun hm0 => ?_⟩
 obtain ⟨g, o, f1, f2, f3⟩ := e6 (by omega)
 refine ⟨g, o, f1, f2, fun j u hu => f3 j u ?_⟩
 have hj : j < m * k := by
  rw [← hlen]
  exact (List.getElem?_eq_some_iff.1 hu).1
 have happ : rs.flatMap f = (rs.take m).flatMap f ++ (rs.drop m).flatMap f := by
  rw [← List.flatMap_append, List.take_append_drop]
 rw [happ, List.getElem?_append_left (by rw [hlen]; exact hj)]
 exact hu
theorem Slts.take {w : World} {b n c : Nat} {A : Option Addr} {xs : List Slt} (h : Slts w b A n c xs) {m : Nat} (hm : m ≤ n) : Slts w b A m c (xs.take m) :=
 ⟨h.rd.take sltC_len (by omega) hm, fun x hx => h.ok x (List.mem_of_mem_take hx)⟩
def findL (xs : List Slt) (key : ByteArray) : Int := ixOf (fun x => eqS x.key key) xs
def slotF (x : Slt) : Int := if 10 < x.hosts.length then 2 else if riseF x.hosts = 0 then if memS x.hosts x.who = true then 6 else if (outB x.setup 0 86400000 || outB x.long 1 86400000) = true then 1 else 0 else riseF x.hosts
def slotsG : List Slt → List Slt → Int
 | _, [] => 0
 | pre, x :: xs => if (!keyB x.key.data.toList || !keyB x.who.data.toList) = true then 5 else if 0 ≤ findL pre x.key then 6 else if slotF x = 0 then slotsG (pre ++ [x]) xs else slotF x
def slotsF (xs : List Slt) : Int := if 200 < xs.length then 2 else slotsG [] xs
theorem slotsG_step (xs : List Slt) (k : Nat) (hk : k < xs.length) : slotsG (xs.take k) (xs.drop k) =
 if (!keyB xs[k].key.data.toList || !keyB xs[k].who.data.toList) = true then 5 else if 0 ≤ findL (xs.take k) xs[k].key then 6 else if slotF xs[k] = 0 then slotsG (xs.take (k + 1)) (xs.drop (k + 1)) else slotF xs[k] := by
 rw [List.drop_eq_getElem_cons hk, slotsG, List.take_succ_eq_append_getElem hk]
abbrev Plc := ByteArray × Int × Int × Int
def plcC (p : Plc) : List Value := [.string p.1, .int .i64 p.2.1, .int .i64 p.2.2.1, .int .i64 p.2.2.2]
theorem plcC_len (p : Plc) : (plcC p).length = 4 := rfl
def plcOf (f : Int) (x : Slt) : Plc := (x.key, f, f + x.setup, f + x.setup + x.long)
def fromAt (f : Int) (xs : List Slt) (k : Nat) : Int := (xs.take k).foldl (fun f x => f + x.setup + x.long) f
def placesTo (f : Int) (xs : List Slt) : Nat → List Plc
 | 0 => []
 | k + 1 => match xs[k]? with
   | some x => placesTo f xs k ++ [plcOf (fromAt f xs k) x]
   | none => placesTo f xs k
theorem fromAt_step (f : Int) (xs : List Slt) (k : Nat) (hk : k < xs.length) : fromAt f xs (k + 1) = fromAt f xs k + xs[k].setup + xs[k].long := by
 unfold fromAt
 rw [List.take_succ_eq_append_getElem hk, List.foldl_append]
 rfl
theorem placesTo_step (f : Int) (xs : List Slt) (k : Nat) (hk : k < xs.length) : placesTo f xs (k + 1) = placesTo f xs k ++ [plcOf (fromAt f xs k) xs[k]] := by
 simp [placesTo, List.getElem?_eq_getElem hk]
theorem placesTo_len (f : Int) (xs : List Slt) : ∀ k, k ≤ xs.length → (placesTo f xs k).length = k
 | 0, _ => rfl
 | k + 1, h => by rw [placesTo_step f xs k h, List.length_append, placesTo_len f xs k (by omega)]; rfl
def Sml (xs : List Slt) : Prop := ∀ x ∈ xs, (-2199023255552 ≤ x.setup ∧ x.setup ≤ 2199023255552) ∧ (-2199023255552 ≤ x.long ∧ x.long ≤ 2199023255552)
theorem Slts.sml {w : World} {b n c : Nat} {A : Option Addr} {xs : List Slt} (h : Slts w b A n c xs) : Sml xs := fun x hx => ⟨(h.ok x hx).hs, (h.ok x hx).hl⟩
theorem fromAt_bd {f : Int} {xs : List Slt} (h : Sml xs) (hf : -4398046511104 ≤ f ∧ f ≤ 4398046511104) : ∀ k, k ≤ xs.length → -4398046511104 * ((k : Int) + 1) ≤ fromAt f xs k ∧ fromAt f xs k ≤ 4398046511104 * ((k : Int) + 1)
 | 0, _ => by simp [fromAt]; omega
 | k + 1, hk => by
   have ih := fromAt_bd h hf k (by omega)
   have hx := h _ (List.getElem_mem (show k < xs.length by omega))
   rw [fromAt_step f xs k hk]
   omega
def placesF (f : Int) (xs : List Slt) : List Plc := placesTo f xs xs.length
def endP (f : Int) : List Plc → Int
 | [] => f
 | p :: l => endP p.2.2.2 l
theorem endP_last : ∀ (f : Int) (l : List Plc) (h : 0 < l.length), endP f l = (l[l.length - 1]'(by omega)).2.2.2
 | _, [p], _ => rfl
 | _, p :: q :: l, _ => by
   rw [endP, endP_last _ (q :: l) (by simp)]
   simp
def momB (f : Int) : Bool := !outB f 0 345686399999
def fromF (f : Int) (xs : List Slt) : Int := if momB f = true then if 345686400000 < endP f (placesF f xs) then 1 else 0 else 1
end Go.Proofs.YtapgnaimbgjcnaaGreatDoor
