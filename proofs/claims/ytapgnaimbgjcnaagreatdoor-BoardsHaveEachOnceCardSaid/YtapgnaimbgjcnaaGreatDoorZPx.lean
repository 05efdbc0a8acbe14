/-
  What a walk holds of a world (Px) where one old block b may turn: the rest of old memory is as it was; resources of the call's own that lie apart. No Go text is named here.
-/
import Derived.Test.YtapgnaimbgjcnaaGreatDoorZScmp
import Derived.Test.YtapgnaimbgjcnaaGreatDoorZFlat
namespace Go.Proofs.YtapgnaimbgjcnaaGreatDoor
open Go Go.RowKit
theorem own_new (w : World) (base : Nat) (e : TypeId) (size : Nat) (cs : Array Value) (n : Nat) (hb : base ≤ w.heap.size) (hs : cs.size = n * size) (hn : n ≤ maxLen) :
 (w.alloc (.cells cs e)).ownsRow base e size (.slice (some ⟨w.heap.size, 0, none⟩) n n) n cs.toList := by
 refine ⟨by simpa using hs, .inr ⟨w.heap.size, n, cs, rfl, hb, heap_alloc_new w _, Nat.le_refl _, hn, hs, ?_⟩⟩
 rw [← hs]
 exact List.take_of_length_le (by simp)
structure Px (w : World) (b : Nat) (W : World) (l : List Rsc) : Prop where
 bx : Bx w.heap.size b w W
 hb : b < w.heap.size
 hp : Hp w.heap.size W l
section
variable {w W W' : World} {b : Nat} {l : List Rsc} {r : Rsc}
theorem Px.start (w : World) (hb : b < w.heap.size) : Px w b w [] := ⟨Bx.refl _ _ _, hb, Hp.start _ _⟩
theorem Px.size (h : Px w b W l) : w.heap.size ≤ W.heap.size := h.bx.size
theorem Px.lt (h : Px w b W l) : b < W.heap.size := Nat.lt_of_lt_of_le h.hb h.size
theorem Hp.bx_ {B : Nat} (h : Hp B W l) (k : Bx W.heap.size b W W') (hB : b < B) : Hp B W' l :=
 h.step k.size (fun r hr g hg => k.block g (h.new r hr g hg).2 (by have := (h.new r hr g hg).1; omega))
theorem Px.call (h : Px w b W l) (k : Bx W.heap.size b W W') : Px w b W' l := ⟨h.bx.call k (Nat.le_refl _), h.hb, h.hp.bx_ k h.hb⟩
theorem Px.callB (h : Px w b W l) (k : Below W.heap.size W W') : Px w b W' l := h.call (Bx.of_below k b)
theorem Px.drew (h : Px w b W l) : Px w b W.drew l := h.callB (below_drewN (Below.refl _ _) 1)
theorem Px.drewN (h : Px w b W l) (n : Nat) : Px w b (W.drewN n) l := h.callB (below_drewN (Below.refl _ _) n)
theorem Px.alloc (h : Px w b W l) (o : Obj) : Px w b (W.alloc o) l := h.callB ((Below.refl _ _).alloc (Nat.le_refl _) o)
theorem Px.new_ (h : Px w b W l) (k : Bx W.heap.size b W W') (hp : r.P W') (hok : r.Ok) (hf : ∀ g, r.fp g → W.heap.size ≤ g ∧ g < W'.heap.size) : Px w b W' (r :: l) :=
 ⟨h.bx.call k (Nat.le_refl _), h.hb, (h.hp.bx_ k h.hb).cons hp hok (fun g hg => by have := hf g hg; have := h.size; omega) (fun s hs g hg hg2 => by have := (hf g hg).1; have := (h.hp.new s hs g hg2).2; omega)⟩
theorem Px.add (h : Px w b W l) (cs : Array Value) (t : TypeId) : Px w b (W.alloc (.cells cs t)) (rBlk W.heap.size t cs :: l) :=
 h.new_ (Bx.of_below ((Below.refl _ _).alloc (Nat.le_refl _) _) b) (Blk.new W t cs) (rBlk_ok _ _ _) (fun g hg => by
  have hg : g = W.heap.size := hg
  subst hg
  exact ⟨Nat.le_refl _, by simp⟩)
theorem Px.addRow (h : Px w b W l) (cs : Array Value) (t : TypeId) (size n : Nat) (hs : cs.size = n * size) (hn : n ≤ maxLen) :
 Px w b (W.alloc (.cells cs t)) (rOwn w.heap.size t size (.slice (some ⟨W.heap.size, 0, none⟩) n n) n cs.toList :: l) :=
 h.new_ (Bx.of_below ((Below.refl _ _).alloc (Nat.le_refl _) _) b) (own_new W w.heap.size t size cs n h.size hs hn) (rOwn_ok _ _ _ _ _ _) (fun g hg => by
  have hg : some W.heap.size = some g := hg
  injection hg with hg
  subst hg
  exact ⟨Nat.le_refl _, by simp⟩)
theorem Px.tail (h : Px w b W (r :: l)) : Px w b W l := ⟨h.bx, h.hb, h.hp.tail⟩
theorem Px.bare (h : Px w b W l) : Px w b W [] := ⟨h.bx, h.hb, Hp.start _ _⟩
theorem Px.head (h : Px w b W (r :: l)) : r.P W := h.hp.head
theorem Px.nth (h : Px w b W l) (i : Nat) (hi : l[i]? = some r) : r.P W := h.hp.hold r (List.mem_of_getElem? hi)
theorem Px.front (h : Px w b W l) (i : Nat) (hi : l[i]? = some r) {l' : List Rsc} (hl : l.eraseIdx i = l') : Px w b W (r :: l') := by
 subst hl
 exact ⟨h.bx, h.hb, h.hp.perm (front_perm l i r hi)⟩
theorem Px.drop (h : Px w b W l) (i : Nat) (hi : l[i]? = some r) {l' : List Rsc} (hl : l.eraseIdx i = l') : Px w b W l' := (h.front i hi hl).tail
theorem Px.nil (h : Px w b W l) (base : Nat) (e : TypeId) (size : Nat) : Px w b W (rOwn base e size (.slice none 0 0) 0 [] :: l) :=
 ⟨h.bx, h.hb, h.hp.cons (World.ownsRow_nil _ _ _ _) (rOwn_ok _ _ _ _ _ _) (fun g hg => by simp [rOwn, Value.ownBlock] at hg) (fun s _ g hg => by simp [rOwn, Value.ownBlock] at hg)⟩
theorem Px.turn {r' : Rsc} (h : Px w b W (r :: l)) {row : Option Nat} (hg : W.grownBy W' row) (hr : ∀ k, row = some k → r.fp k) (hp : r'.P W') (hok : r'.Ok)
 (hf : ∀ g, r'.fp g → (r.fp g ∨ W.heap.size ≤ g) ∧ g < W'.heap.size) : Px w b W' (r' :: l) :=
 ⟨h.bx.grown hg (Nat.le_refl _) (fun k hk => .inr (h.hp.new _ (List.mem_cons_self ..) k (hr k hk)).1), h.hb, h.hp.turn hg.size (fun g hl hn => hg.block g hl (fun e => hn (hr g e.symm))) hp hok hf h.size⟩
theorem Px.append {base : Nat} {e : TypeId} {size n n' : Nat} {v v' : Value} {xs xs' : List Value} (h : Px w b W (rOwn base e size v n xs :: l)) (ho : W'.ownsRow base e size v' n' xs') (hg : W.grownBy W' v.ownBlock) (hv : v'.ownBlock = v.ownBlock ∨ v'.ownBlock = some W.heap.size) :
 Px w b W' (rOwn base e size v' n' xs' :: l) :=
 h.turn hg (fun k hk => hk) ho (rOwn_ok _ _ _ _ _ _) (fun g hgg => by
  have hgg : v'.ownBlock = some g := hgg
  refine ⟨?_, (ho.lt g hgg).2⟩
  rcases hv with hv | hv
  · rw [hv] at hgg; exact .inl hgg
  · rw [hv] at hgg; injection hgg with hgg; exact .inr (by omega))
theorem Px.store_ (h : Px w b W (r :: l)) {g : Nat} (hg : r.fp g) (i : Nat) (u : Value) {r' : Rsc} (hp : r'.P (W.setCell ⟨g, i, none⟩ u)) (hok : r'.Ok) (hf : ∀ k, r'.fp k → r.fp k) : Px w b (W.setCell ⟨g, i, none⟩ u) (r' :: l) :=
 h.turn (row := some g) ⟨rfl, rfl, rfl, by simp [World.setCell], fun k _ hk => Below.heap_setCell W ⟨g, i, none⟩ u k (fun e => hk (by rw [e]))⟩ (fun k hk => by injection hk with hk; subst hk; exact hg) hp hok
  (fun k hk => ⟨.inl (hf k hk), by have := (h.hp.new _ (List.mem_cons_self ..) k (hf k hk)).2; simpa [World.setCell] using this⟩)
theorem Px.set_ {g : Nat} {t : TypeId} {cs : Array Value} (h : Px w b W (rBlk g t cs :: l)) (i : Nat) (u : Value) : Px w b (W.setCell ⟨g, i, none⟩ u) (rBlk g t (cs.setIfInBounds i u) :: l) :=
 h.store_ (g := g) rfl i u (r' := rBlk g t (cs.setIfInBounds i u)) (Blk.set_ h.head i u) (rBlk_ok _ _ _) (fun _k hk => hk)
theorem Px.snoc {α : Type} {f : α → Rsc} {xs : List α} {a : α} (h : Px w b W (f a :: rAll f xs :: l)) (hf : ∀ a, (f a).Ok) : Px w b W (rAll f (xs ++ [a]) :: l) := by
 have h1 := h.hp.apart
 rw [List.pairwise_cons] at h1
 have h2 := List.pairwise_cons.1 h1.2
 refine ⟨h.bx, h.hb, ?_⟩
 refine Hp.cons h.hp.tail.tail ?_ (rAll_ok hf _) (fun g hg => ?_) (fun s hs g hg hg2 => ?_)
 · intro x hx
   rcases List.mem_append.1 hx with hx | hx
   · exact (h.nth 1 rfl : ∀ a ∈ xs, (f a).P W) x hx
   · simp at hx; subst hx; exact h.head
 · obtain ⟨x, hx, hg⟩ := hg
   rcases List.mem_append.1 hx with hx | hx
   · exact h.hp.new _ (List.mem_cons_of_mem _ (List.mem_cons_self ..)) g ⟨x, hx, hg⟩
   · simp at hx; subst hx; exact h.hp.new _ (List.mem_cons_self ..) g hg
 · obtain ⟨x, hx, hg⟩ := hg
   rcases List.mem_append.1 hx with hx | hx
   · exact h2.1 s hs g ⟨x, hx, hg⟩ hg2
   · simp at hx; subst hx; exact h1.1 s (List.mem_cons_of_mem _ hs) g hg hg2
theorem Px.allNil {α : Type} (h : Px w b W l) (f : α → Rsc) (hf : ∀ a, (f a).Ok) : Px w b W (rAll f [] :: l) :=
 ⟨h.bx, h.hb, h.hp.cons (by intro a ha; cases ha) (rAll_ok hf _) (fun g hg => by obtain ⟨a, ha, _⟩ := hg; cases ha) (fun s _ g hg => by obtain ⟨a, ha, _⟩ := hg; cases ha)⟩
theorem Px.rd (h : Px w b W l) {size n : Nat} {v : Value} {xs : List Value} (hr : Rd w b size v n xs) : Rd W b size v n xs := hr.bx h.bx
theorem Px.ge (h : Px w b W l) (i : Nat) (hi : l[i]? = some r) {g : Nat} (hg : r.fp g) : w.heap.size ≤ g ∧ g < W.heap.size := h.hp.new _ (List.mem_of_getElem? hi) g hg
end
end Go.Proofs.YtapgnaimbgjcnaaGreatDoor
/-
  The parser of rules in plain words: tokens, and the tree that is read. No Go text is named here.
-/
namespace Go.Proofs.YtapgnaimbgjcnaaGreatDoor
open Go Go.RowKit
def wordB (c : UInt8) : Bool := decide ((97 ≤ c.toNat ∧ c.toNat ≤ 122) ∨ (48 ≤ c.toNat ∧ c.toNat ≤ 57) ∨ c.toNat = 45 ∨ c.toNat = 95 ∨ c.toNat = 46)
def blankB (c : UInt8) : Bool := decide (c.toNat = 32)
def markB (c : UInt8) : Bool := decide (c.toNat = 40 ∨ c.toNat = 41 ∨ c.toNat = 61 ∨ c.toNat = 60 ∨ c.toNat = 62)
def spanF (p : UInt8 → Bool) (s : ByteArray) (i : Nat) : Nat := i + ((s.data.toList.drop i).takeWhile p).length
theorem span_yes (p : UInt8 → Bool) (s : ByteArray) (i : Nat) (hi : i < s.size) (h : p s[i] = true) : spanF p s i = spanF p s (i + 1) := by
 unfold spanF
 have hl : i < s.data.toList.length := by simpa using hi
 rw [List.drop_eq_getElem_cons hl, List.takeWhile_cons]
 have : p s.data.toList[i] = true := h
 rw [if_pos this, List.length_cons]
 omega
theorem span_no (p : UInt8 → Bool) (s : ByteArray) (i : Nat) (hi : i < s.size) (h : p s[i] = false) : spanF p s i = i := by
 unfold spanF
 have hl : i < s.data.toList.length := by simpa using hi
 rw [List.drop_eq_getElem_cons hl, List.takeWhile_cons]
 have : p s.data.toList[i] = false := h
 rw [if_neg (by rw [this]; decide)]
 rfl
theorem span_end (p : UInt8 → Bool) (s : ByteArray) (i : Nat) (hi : s.size ≤ i) : spanF p s i = i := by
 unfold spanF
 rw [List.drop_eq_nil_of_le (by simpa using hi)]
 rfl
theorem span_ge (p : UInt8 → Bool) (s : ByteArray) (i : Nat) : i ≤ spanF p s i := by unfold spanF; omega
theorem span_le (p : UInt8 → Bool) (s : ByteArray) (i : Nat) (hi : i ≤ s.size) : spanF p s i ≤ s.size := by
 unfold spanF
 have h : ((s.data.toList.drop i).takeWhile p).length ≤ (s.data.toList.drop i).length := (List.takeWhile_sublist _).length_le
 rw [List.length_drop] at h
 have : s.data.toList.length = s.size := by simp
 omega
def markAt (s : ByteArray) (i : Nat) : Bool := match s.data.toList[i]? with | some c => markB c | none => false
theorem markAt_in (s : ByteArray) (i : Nat) (hi : i < s.size) : markAt s i = markB s[i] := by
 unfold markAt
 have hl : i < s.data.toList.length := by simpa using hi
 rw [List.getElem?_eq_getElem hl]
 rfl
theorem markAt_out (s : ByteArray) (i : Nat) (hi : s.size ≤ i) : markAt s i = false := by
 unfold markAt
 rw [List.getElem?_eq_none (by simpa using hi)]
def tokE (s : ByteArray) (i : Nat) : Nat := if spanF wordB s i = i then (if markAt s i = true then i + 1 else i) else spanF wordB s i
theorem tokE_ge (s : ByteArray) (i : Nat) : i ≤ tokE s i := by
 unfold tokE
 split
 · split <;> omega
 · exact span_ge _ _ _
theorem tokE_le (s : ByteArray) (i : Nat) (hi : i ≤ s.size) : tokE s i ≤ s.size := by
 unfold tokE
 split
 · split
   · rename_i h
     rcases Nat.lt_or_ge i s.size with hlt | hge
     · omega
     · rw [markAt_out s i hge] at h; cases h
   · exact hi
 · exact span_le _ _ _ hi
structure PSt where
 at_ : Nat
 tok : ByteArray
 deep : Int
 bad : Bool
def nextF (s : ByteArray) (t : PSt) : PSt :=
 { t with at_ := spanF blankB s (t.at_ + t.tok.size), tok := s.extract (spanF blankB s (t.at_ + t.tok.size)) (tokE s (spanF blankB s (t.at_ + t.tok.size))) }
def takeS (t : PSt) (ok : Bool) : ByteArray := if (t.bad || !ok) = true then ⟨#[]⟩ else t.tok
def takeF (s : ByteArray) (t : PSt) (ok : Bool) : PSt := if (t.bad || !ok) = true then { t with bad := true } else nextF s t
def nestF (d : Int) (t : PSt) : PSt := if 20 < d ∧ t.deep < 0 then { t with deep := t.at_ } else t
structure POk (s : ByteArray) (t : PSt) : Prop where
 at_ : t.at_ + t.tok.size ≤ s.size
 deep : -1 ≤ t.deep ∧ t.deep ≤ s.size
 tok : ∃ i, t.tok = s.extract i (tokE s i)
theorem POk.next {s : ByteArray} {t : PSt} (h : POk s t) : POk s (nextF s t) := by
 have h1 := span_le blankB s (t.at_ + t.tok.size) h.at_
 have h2 := tokE_le s _ h1
 have h3 := tokE_ge s (spanF blankB s (t.at_ + t.tok.size))
 refine ⟨?_, h.deep, _, rfl⟩
 simp only [nextF, ByteArray.size_extract]
 omega
theorem next_ge {s : ByteArray} {t : PSt} : t.at_ + t.tok.size ≤ (nextF s t).at_ := span_ge _ _ _
theorem POk.take {s : ByteArray} {t : PSt} (h : POk s t) (ok : Bool) : POk s (takeF s t ok) := by
 unfold takeF
 split
 · exact ⟨h.at_, h.deep, h.tok⟩
 · exact h.next
theorem take_ge {s : ByteArray} {t : PSt} (ok : Bool) : t.at_ ≤ (takeF s t ok).at_ := by
 unfold takeF
 split
 · exact Nat.le_refl _
 · have := next_ge (s := s) (t := t); omega
theorem POk.nest {s : ByteArray} {t : PSt} (h : POk s t) (d : Int) : POk s (nestF d t) := by
 unfold nestF
 split
 · exact ⟨h.at_, ⟨by simp only; omega, by have := h.at_; simp only; omega⟩, h.tok⟩
 · exact h
structure Atm where
 word : ByteArray
 name : ByteArray
 value : ByteArray
 n : Int
inductive Nd where
 | node (kind : Int) (kids : List Nd) (a : Atm)
def atm0 : Atm := ⟨⟨#[]⟩, ⟨#[]⟩, ⟨#[]⟩, 0⟩
def nd0 : Nd := .node 0 [] atm0
def sOr : ByteArray := ⟨#[111, 114]⟩
def sAnd : ByteArray := ⟨#[97, 110, 100]⟩
def sNot : ByteArray := ⟨#[110, 111, 116]⟩
def sHas : ByteArray := ⟨#[104, 97, 115]⟩
def sTrue : ByteArray := ⟨#[116, 114, 117, 101]⟩
def sTime : ByteArray := ⟨#[116, 105, 109, 101]⟩
def sEq : ByteArray := ⟨#[61]⟩
def sLt : ByteArray := ⟨#[60]⟩
def sGt : ByteArray := ⟨#[62]⟩
def sOpen : ByteArray := ⟨#[40]⟩
def sShut : ByteArray := ⟨#[41]⟩
def loopF (s : ByteArray) (word : ByteArray) (part : PSt → Nd × PSt) : Nat → List Nd → PSt → List Nd × PSt
 | 0, ks, t => (ks, t)
 | m + 1, ks, t => if t.bad = false ∧ t.tok = word then loopF s word part m (ks ++ [(part (nextF s t)).1]) (part (nextF s t)).2 else (ks, t)
def joinF (kind : Int) (ks : List Nd) : Nd := match ks with | [k] => k | _ => .node kind ks atm0
def manyF (s : ByteArray) (kind : Int) (word : ByteArray) (part : PSt → Nd × PSt) (t : PSt) : Nd × PSt :=
 (joinF kind (loopF s word part (s.size + 1) [(part t).1] (part t).2).1, (loopF s word part (s.size + 1) [(part t).1] (part t).2).2)
def nameB (x : ByteArray) : Bool := keyB x.data.toList && !([sTime, sAnd, sOr, sNot, sHas, sTrue].any fun y => x.toList == y.toList)
def valueB (x : ByteArray) : Bool := decide (1 ≤ x.size ∧ x.size ≤ 40) && x.data.toList.all wordB
def atomF (num : ByteArray → Int × Bool) (s : ByteArray) (t : PSt) : Atm × PSt :=
 if t.tok = sTrue then (⟨sTrue, ⟨#[]⟩, ⟨#[]⟩, 0⟩, takeF s t true)
 else if t.tok = sHas then (⟨sHas, takeS (takeF s t true) (nameB (takeF s t true).tok), ⟨#[]⟩, 0⟩, takeF s (takeF s t true) (nameB (takeF s t true).tok))
 else if t.tok = sTime then
  let t1 := takeF s t true
  let ok1 := decide (t1.tok = sLt) || decide (t1.tok = sGt)
  let t2 := takeF s t1 ok1
  let ok2 := (num t2.tok).2 && decide (0 ≤ (num t2.tok).1 ∧ (num t2.tok).1 ≤ 864000000)
  (⟨takeS t1 ok1, ⟨#[]⟩, takeS t2 ok2, (num t2.tok).1⟩, takeF s t2 ok2)
 else
  let t1 := takeF s t (nameB t.tok)
  let t2 := takeF s t1 (decide (t1.tok = sEq))
  (⟨sEq, takeS t (nameB t.tok), takeS t2 (valueB t2.tok), 0⟩, takeF s t2 (valueB t2.tok))
def notF (num : ByteArray → Int × Bool) (s : ByteArray) : Nat → Int → PSt → Nd × PSt
 | 0, _, t => (nd0, t)
 | f + 1, d, t =>
   if t.tok = sNot then (.node 3 [(notF num s f (d + 1) (takeF s (nestF d t) true)).1] atm0, (notF num s f (d + 1) (takeF s (nestF d t) true)).2)
   else if t.tok = sOpen then
    let r := manyF s 1 sOr (manyF s 2 sAnd (notF num s f (d + 1))) (takeF s (nestF d t) true)
    (r.1, takeF s r.2 (decide (r.2.tok = sShut)))
   else (.node 4 [] (atomF num s t).1, (atomF num s t).2)
def orF (num : ByteArray → Int × Bool) (s : ByteArray) (f : Nat) (d : Int) (t : PSt) : Nd × PSt := manyF s 1 sOr (manyF s 2 sAnd (notF num s f d)) t
def pst0 (s : ByteArray) : PSt := nextF s ⟨0, ⟨#[]⟩, -1, false⟩
def parseT (num : ByteArray → Int × Bool) (s : ByteArray) : Nd × PSt := orF num s (s.size + 1) 0 (pst0 s)
def parseE (num : ByteArray → Int × Bool) (s : ByteArray) : Int × Int :=
 if 2000 < s.size then (0, 2)
 else if ((parseT num s).2.bad || decide ((parseT num s).2.at_ < s.size)) = true then ((parseT num s).2.at_, 9)
 else if 0 ≤ (parseT num s).2.deep then ((parseT num s).2.deep, 2) else (0, 0)
theorem pst_ok (s : ByteArray) : POk s ⟨0, ⟨#[]⟩, -1, false⟩ := by
 refine ⟨(by show 0 + 0 ≤ s.size; omega), ⟨(by show (-1 : Int) ≤ -1; omega), (by show (-1 : Int) ≤ s.size; omega)⟩, s.size, ?_⟩
 have h : (s.extract s.size (tokE s s.size)).size = 0 := by rw [ByteArray.size_extract]; omega
 have h2 : (s.extract s.size (tokE s s.size)).data = #[] := Array.eq_empty_of_size_eq_zero h
 cases hx : s.extract s.size (tokE s s.size) with
 | mk d => rw [hx] at h2; simp only at h2; rw [h2]
def NoTime (s : ByteArray) : Prop := ∀ i, s.extract i (tokE s i) ≠ sTime
theorem POk.noTime {s : ByteArray} {t : PSt} (h : POk s t) (hn : NoTime s) : t.tok ≠ sTime := by
 obtain ⟨i, hi⟩ := h.tok
 rw [hi]
 exact hn i
theorem atom_ok (num : ByteArray → Int × Bool) {s : ByteArray} {t : PSt} (h : POk s t) : POk s (atomF num s t).2 ∧ t.at_ ≤ (atomF num s t).2.at_ := by
 unfold atomF
 split
 · exact ⟨h.take _, take_ge _⟩
 · split
   · exact ⟨(h.take _).take _, Nat.le_trans (take_ge _) (take_ge _)⟩
   · split
     · exact ⟨((h.take _).take _).take _, Nat.le_trans (take_ge _) (Nat.le_trans (take_ge _) (take_ge _))⟩
     · exact ⟨((h.take _).take _).take _, Nat.le_trans (take_ge _) (Nat.le_trans (take_ge _) (take_ge _))⟩
end Go.Proofs.YtapgnaimbgjcnaaGreatDoor
/-
  The tree of a rule in memory: NodeAt; its resource rNode; the parser's block.
-/
namespace Go.Proofs.YtapgnaimbgjcnaaGreatDoor
open Go Go.RowKit
abbrev ptrV (g : Nat) : Value := .pointer (some ⟨g, 0, none⟩)
def nodeC (kind : Int) (v : Value) (a : Atm) : Array Value := #[.int .i64 kind, v, .string a.word, .string a.name, .string a.value, .int .i64 a.n]
inductive NodeAt (w : World) (lo hi : Nat) : Nat → Nd → Prop
 | mk (g : Nat) (kind : Int) (a : Atm) (v : Value) (gs : List Nat) (ks : List Nd) (h1 : lo ≤ g ∧ g < hi) (h2 : Blk w g 243 (nodeC kind v a))
  (h3 : w.ownsRow lo 188 1 v ks.length (gs.map ptrV)) (h4 : ∀ k, v.ownBlock = some k → k < hi) (h5 : gs.length = ks.length)
  (h6 : ∀ i (hi_ : i < gs.length) (hk : i < ks.length), NodeAt w lo hi gs[i] ks[i]) : NodeAt w lo hi g (.node kind ks a)
theorem own_heap {w w' : World} {base : Nat} {e : TypeId} {size n : Nat} {v : Value} {xs : List Value} (h : w.ownsRow base e size v n xs) (hk : ∀ g, v.ownBlock = some g → w'.heap[g]? = w.heap[g]?) : w'.ownsRow base e size v n xs := by
 refine ⟨h.1, ?_⟩
 rcases h.2 with hn | ⟨g, cap, cur, rfl, hb, hgg, rest⟩
 · exact .inl hn
 · exact .inr ⟨g, cap, cur, rfl, hb, (hk g rfl).trans hgg, rest⟩
theorem NodeAt.keep {w w' : World} {lo hi g : Nat} {t : Nd} (h : NodeAt w lo hi g t) (hk : ∀ k, lo ≤ k → k < hi → w'.heap[k]? = w.heap[k]?) : NodeAt w' lo hi g t := by
 induction h with
 | mk g kind a v gs ks h1 h2 h3 h4 h5 h6 ih =>
   exact .mk g kind a v gs ks h1 ((hk g h1.1 h1.2).trans h2) (own_heap h3 (fun k e => hk k (h3.lt k e).1 (h4 k e))) h4 h5 ih
theorem NodeAt.wide {w : World} {lo hi lo' hi' g : Nat} {t : Nd} (h : NodeAt w lo hi g t) (hl : lo' ≤ lo) (hh : hi ≤ hi') : NodeAt w lo' hi' g t := by
 induction h with
 | mk g kind a v gs ks h1 h2 h3 h4 h5 h6 ih =>
   exact .mk g kind a v gs ks ⟨Nat.le_trans hl h1.1, Nat.lt_of_lt_of_le h1.2 hh⟩ h2 (own_base h3 hl) (fun k e => Nat.lt_of_lt_of_le (h4 k e) hh) h5 ih
theorem NodeAt.lt {w : World} {lo hi g : Nat} {t : Nd} (h : NodeAt w lo hi g t) : lo ≤ g ∧ g < hi := by
 cases h with
 | mk g kind a v gs ks h1 => exact h1
structure Nl where
 lo : Nat
 hi : Nat
 g : Nat
 t : Nd
def rNode (x : Nl) : Rsc := ⟨fun W => NodeAt W x.lo x.hi x.g x.t, fun k => x.lo ≤ k ∧ k < x.hi⟩
theorem rNode_ok (x : Nl) : (rNode x).Ok := fun _ _ h hp => hp.keep (fun k h1 h2 => h k ⟨h1, h2⟩)
def PAt (W : World) (b : Nat) (s : ByteArray) (t : PSt) : Prop := Blk W b 237 #[.string s, .int .i64 t.at_, .string t.tok, .int .i64 t.deep, .bool t.bad]
def NodS (b : Nat) (s : ByteArray) (r : Nd × PSt) (lo : Nat) (w : World) (e : Ending) (w' : World) : Prop :=
 ∃ g, e = .returned (ptrV g) ∧ NodeAt w' w.heap.size w'.heap.size g r.1 ∧ PAt w' b s r.2 ∧ Bx w.heap.size b w w' ∧ POk s r.2 ∧ lo ≤ r.2.at_
theorem Px.node {w W W' : World} {b : Nat} {l : List Rsc} (h : Px w b W l) (k : Bx W.heap.size b W W') {g : Nat} {t : Nd} (hn : NodeAt W' W.heap.size W'.heap.size g t) : Px w b W' (rNode ⟨W.heap.size, W'.heap.size, g, t⟩ :: l) :=
 h.new_ k hn (rNode_ok _) (fun _ hg => hg)
end Go.Proofs.YtapgnaimbgjcnaaGreatDoor
