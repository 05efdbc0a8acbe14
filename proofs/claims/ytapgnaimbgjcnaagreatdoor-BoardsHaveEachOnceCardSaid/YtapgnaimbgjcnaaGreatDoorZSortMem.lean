/-
  Memory behind slices.SortFunc at structs: the row alone is turned. No Go text is named here.
-/
import Derived.Test.YtapgnaimbgjcnaaGreatDoorZScmp
import Derived.Shelf.GgSortFunc.InsertionK
import Derived.Test.YtapgnaimbgjcnaaGreatDoorZTk
import Derived.Sort.Defs
import Derived.Test.YtapgnaimbgjcnaaGreatDoorZBase
import Derived.Shelf.SlSortCmp.NoneTotal
import Derived.Test.YtapgnaimbgjcnaaGreatDoorZEv5W
import Derived.Test.YtapgnaimbgjcnaaGreatDoorZBid3
import Derived.Deep.DeepCutAuto
import Derived.Shelf.SlSortCmp.Whole1
import Derived.Shelf.SlGeneric
import Derived.Test.YtapgnaimbgjcnaaGreatDoorProg
namespace Go.Proofs.YtapgnaimbgjcnaaGreatDoor
open Go Go.RowKit Go.Sort
theorem mapBlock_heap (w : World) (blk : Nat) (f : Array Value → Array Value) (k : Nat) (h : k ≠ blk) : (mapBlock w blk f).heap[k]? = w.heap[k]? := by
 unfold mapBlock
 simp only [Array.getElem?_modify]
 rw [if_neg (fun e => h e.symm)]
theorem mapBlock_size (w : World) (blk : Nat) (f : Array Value → Array Value) : (mapBlock w blk f).heap.size = w.heap.size := by
 unfold mapBlock
 simp
theorem mapBlock_at (w : World) (blk : Nat) (f : Array Value → Array Value) {c : Array Value} {e : TypeId} {fr : Nat × Nat} (h : w.heap[blk]? = some (.cells c e fr)) : (mapBlock w blk f).heap[blk]? = some (.cells (f c) e fr) := by
 unfold mapBlock
 simp only [Array.getElem?_modify]
 rw [if_pos trivial, h]
 rfl
theorem sortW_heap {α : Type} [Inhabited α] (enc : α → List Value) (k : Nat) (w : World) (blk m : Nat) (dk : Array α) (os : Array Obj) (i : Nat) (hi : i < w.heap.size) :
 (sortWorldK enc k w blk 0 m dk os).heap[i]? = (mapBlock w blk (putCells id 0 (flatK enc k dk))).heap[i]? := by
 have e : (sortWorldK enc k w blk 0 m dk os).heap = (mapBlock w blk (putCells id 0 (flatK enc k dk))).heap ++ os := rfl
 rw [e, Array.getElem?_append_left (by rw [mapBlock_size]; exact hi)]
theorem sortW_grown {α : Type} [Inhabited α] (enc : α → List Value) (k : Nat) (w : World) (blk m : Nat) (dk : Array α) (os : Array Obj) : w.grownBy (sortWorldK enc k w blk 0 m dk os) (some blk) := by
 refine ⟨rfl, rfl, rfl, ?_, fun i hi hn => ?_⟩
 · have e : (sortWorldK enc k w blk 0 m dk os).heap = (mapBlock w blk (putCells id 0 (flatK enc k dk))).heap ++ os := rfl
   rw [e, Array.size_append, mapBlock_size]
   omega
 · rw [sortW_heap enc k w blk m dk os i hi, mapBlock_heap _ _ _ _ (fun e => hn (by rw [e]))]
theorem sortW_own {α : Type} [Inhabited α] (enc : α → List Value) (k : Nat) (hk : ∀ x, (enc x).length = k) (h0 : 0 < k) {w : World} {base blk n cap : Nat} {e : TypeId} {xs : List Value} (h : w.ownsRow base e k (.slice (some ⟨blk, 0, none⟩) n cap) n xs) (m : Nat) (dk : Array α) (hd : dk.size = n) (os : Array Obj) :
 (sortWorldK enc k w blk 0 m dk os).ownsRow base e k (.slice (some ⟨blk, 0, none⟩) n cap) n (dk.toList.flatMap enc) := by
 have hlt := (h.lt blk rfl).2
 refine ⟨by rw [flat_len enc k hk, Array.length_toList, hd], ?_⟩
 rcases h.2 with ⟨he, _⟩ | ⟨g, cap', cur, he, hb, hg, h1, h2, h3, h4⟩
 · cases he
 · injection he with he1 he2 he3
   injection he1 with he1
   injection he1 with he1
   subst he1 he3
   refine .inr ⟨blk, cap, putCells id 0 (flatK enc k dk) cur, rfl, hb, ?_, h1, h2, ?_, ?_⟩
   · rw [sortW_heap enc k w blk m dk os blk hlt, mapBlock_at w blk _ hg]
   · unfold putCells; rw [Array.size_mapIdx, h3]
   · have hnk : n * k ≤ cap * k := Nat.mul_le_mul_right _ h1
     refine List.ext_getElem? fun j => ?_
     rcases Nat.lt_or_ge j (n * k) with hj | hj
     · rw [List.getElem?_take_of_lt hj, Array.getElem?_toList]
       unfold putCells
       rw [Array.getElem?_mapIdx, Array.getElem?_eq_getElem (by omega)]
       simp only [Option.map_some, size_flatK]
       rw [if_pos ⟨Nat.zero_le _, by rw [hd]; omega⟩, Nat.sub_zero, get_flatK enc k dk j (by rw [hd]; exact hj)]
       have hq : j / k < dk.size := by rw [hd]; exact (Nat.div_lt_iff_lt_mul h0).2 hj
       have hr : j % k < k := Nat.mod_lt _ h0
       have hfl := flat_get enc k hk dk.toList (j / k) (j % k) (by simpa using hq) hr
       rw [Nat.div_add_mod' j k] at hfl
       rw [hfl, getElem!_pos dk _ hq, Array.getElem_toList]
       have hlen : j % k < (enc dk[j / k]).length := by rw [hk]; exact hr
       rw [List.getElem?_eq_getElem hlen, getElem!_pos (enc dk[j / k]) (j % k) hlen]
       rfl
     · rw [List.getElem?_eq_none (by rw [List.length_take, Array.length_toList]; omega), List.getElem?_eq_none (by rw [flat_len enc k hk, Array.length_toList, hd]; exact hj)]
theorem holdsK_own {α : Type} [Inhabited α] (enc : α → List Value) (k : Nat) (hk : ∀ x, (enc x).length = k) (h0 : 0 < k) {w : World} {base blk n cap : Nat} {e : TypeId} (dk : Array α) (h : w.ownsRow base e k (.slice (some ⟨blk, 0, none⟩) n cap) n (dk.toList.flatMap enc)) : HoldsK enc k w blk 0 dk := by
 have hl : dk.size = n := by
  have := h.1
  rw [flat_len enc k hk, Array.length_toList] at this
  exact Nat.eq_of_mul_eq_mul_right h0 this
 intro j hj
 rw [size_flatK] at hj
 have hq : j / k < dk.size := (Nat.div_lt_iff_lt_mul h0).2 hj
 have hr : j % k < k := Nat.mod_lt _ h0
 have hc := own_cell enc k hk h (j / k) (j % k) (by simpa using hq) (by omega) hr
 rw [Nat.div_add_mod' j k, Array.getElem_toList] at hc
 rw [Nat.zero_add, get_flatK enc k dk j hj, getElem!_pos dk _ hq]
 have hlen : j % k < (enc dk[j / k]).length := by rw [hk]; exact hr
 rw [List.getElem?_eq_getElem hlen] at hc
 rw [hc, getElem!_pos (enc dk[j / k]) (j % k) hlen]
 exact ⟨rfl, h.frozenAt _⟩
end Go.Proofs.YtapgnaimbgjcnaaGreatDoor
/-
  slices.SortFunc and insertionSortCmpFunc at structs, whatever they are; a stable sort of few. No Go text is named here.
-/
namespace Go.Proofs.YtapgnaimbgjcnaaGreatDoor
open Go Go.RowKit Go.Sort
def GrwT (v : Value) (w : World) (e : Ending) (w' : World) : Prop := e = .returned v ∧ ∃ q os', w' = grow (w.drewN q) os'
def ButG (g : Nat) (w W : World) : Prop := w.heap.size ≤ W.heap.size ∧ ∀ i, i < w.heap.size → i ≠ g → W.heap[i]? = w.heap[i]?
theorem sub_list {α : Type} {P : α → Prop} (xs : List α) (h : ∀ x ∈ xs, P x) : ∃ ds : List {x : α // P x}, ds.map (·.1) = xs := by
 induction xs with
 | nil => exact ⟨[], rfl⟩
 | cons a l ih =>
   obtain ⟨ds, hd⟩ := ih (fun x hx => h x (List.mem_cons_of_mem _ hx))
   exact ⟨⟨a, h a (List.mem_cons_self ..)⟩ :: ds, by simp [hd]⟩
theorem sub_flat {α : Type} {P : α → Prop} (enc : α → List Value) (ds : List {x : α // P x}) : ds.flatMap (fun x => enc x.1) = (ds.map (·.1)).flatMap enc := by
 induction ds with
 | nil => rfl
 | cons a l ih => simp [ih]
theorem sortW_but {α : Type} [Inhabited α] (enc : α → List Value) (k : Nat) (w : World) (blk m : Nat) (dk : Array α) (os : Array Obj) : ButG blk w (sortWorldK enc k w blk 0 m dk os) :=
 ⟨(sortW_grown enc k w blk m dk os).size, fun i hi hn => (sortW_grown enc k w blk m dk os).block i hi (fun e => hn (Option.some.inj e))⟩
def SrtT {α : Type} (w0 : World) (e : TypeId) (k : Nat) (enc : α → List Value) (g n c : Nat) (xs : List α) (cf : α → α → Int) (l : List Rsc) (en : Ending) (w' : World) : Prop :=
 en = .returned (.tuple #[]) ∧ ∃ ys : List α, ys.Perm xs ∧ ys.Pairwise (fun a b => 0 ≤ cf b a) ∧ Sq w0 w' (rOwn w0.heap.size e k (.slice (some ⟨g, 0, none⟩) n c) n (ys.flatMap enc) :: l)
section
variable {α : Type} {P : α → Prop} [Inhabited {x : α // P x}] {enc : α → List Value} {k : Nat}
theorem srt_out (hk : ∀ x, (enc x).length = k) (h0 : 0 < k) {e : TypeId} {w0 w : World} {g n c m : Nat} {ds : List {x : α // P x}} {d' : Array {x : α // P x}} {os : Array Obj} {cf : α → α → Int} {l : List Rsc}
 (hn : ds.length = n) (hp : PermIn 0 n ds.toArray d') (hs : SortedIn (ltOf (fun x y : {x : α // P x} => cf x.1 y.1)) 0 n d')
 (hS : Sq w0 w (rOwn w0.heap.size e k (.slice (some ⟨g, 0, none⟩) n c) n ((ds.map (·.1)).flatMap enc) :: l)) :
 SrtT w0 e k enc g n c (ds.map (·.1)) cf l (.returned (.tuple #[])) (sortWorldK (fun x : {x : α // P x} => enc x.1) k w g 0 m d' os) := by
 have hown : w.ownsRow w0.heap.size e k (.slice (some ⟨g, 0, none⟩) n c) n (ds.flatMap (fun x => enc x.1)) := by rw [sub_flat]; exact hS.head
 have hlen : ds.toArray.size = n := by simpa using hn
 have hd : d'.size = n := by rw [hp.1, hlen]
 have hp2 : d'.toList.Perm ds := by
  obtain ⟨h1, _, h3⟩ := hp
  have e1 : d'.extract 0 n = d' := by rw [← hd]; exact Array.extract_size
  have e2 : ds.toArray.extract 0 n = ds.toArray := by rw [← hlen]; exact Array.extract_size
  rw [e1, e2] at h3
  simpa using h3
 refine ⟨rfl, d'.toList.map (·.1), hp2.map _, ?_, ?_⟩
 · rw [List.pairwise_map, List.pairwise_iff_getElem]
   intro i j hi hj hij
   have hi' : i < d'.size := by simpa using hi
   have hj' : j < d'.size := by simpa using hj
   have := hs i j (Nat.zero_le _) hij (by omega)
   rw [getElem!_pos d' j hj', getElem!_pos d' i hi'] at this
   exact Int.not_lt.1 (of_decide_eq_false this)
 · refine hS.turn (sortW_grown (fun x : {x : α // P x} => enc x.1) k w g m d' os) (fun q hq => by injection hq with hq; subst hq; rfl) ?_ (rOwn_ok _ _ _ _ _ _) (fun q hq => ?_)
   · show World.ownsRow _ _ _ _ _ _ _
     rw [← sub_flat]
     exact sortW_own (fun x : {x : α // P x} => enc x.1) k (fun x => hk x.1) h0 hown m d' hd os
   · have hq : some g = some q := hq
     injection hq with hq
     subst hq
     refine ⟨.inl rfl, ?_⟩
     have := (sortW_grown (fun x : {x : α // P x} => enc x.1) k w g m d' os).size
     have := (hown.lt g rfl).2
     omega
end
end Go.Proofs.YtapgnaimbgjcnaaGreatDoor
/-
  A board by its events, in plain words: what a desk knows (Dsk), what an event makes of it (stpE), what events make of it (folE). No walk.
-/
namespace Go.Proofs.YtapgnaimbgjcnaaGreatDoor
open Go Go.RowKit
def hwV : Nat → ByteArray
 | 0 => ⟨#[119, 97, 105, 116, 115]⟩
 | 1 => ⟨#[118, 101, 114, 105, 102, 105, 101, 100]⟩
 | 2 => ⟨#[114, 101, 102, 117, 115, 101, 100]⟩
 | _ => ⟨#[98, 97, 99, 107]⟩
abbrev Rcd := Bev × Nat
structure Dsk where
 rn : List Rcd
 bn : ByteArray → Bool
 bk : List ByteArray
def dsk0 : Dsk := ⟨[], fun _ => false, []⟩
def rnOf (D : Dsk) (s : ByteArray) : Option Rcd := D.rn.find? (fun r => decide (r.1.id = s))
def setR (D : Dsk) (s : ByteArray) (c : Nat) : Dsk := ⟨D.rn.map (fun r => if r.1.id = s then (r.1, c) else r), D.bn, D.bk⟩
def addR (D : Dsk) (x : Bev) : Dsk := ⟨D.rn ++ [(x, 0)], D.bn, D.bk⟩
def inKB (s : ByteArray) (l : List ByteArray) : Bool := l.any (fun t => decide (t = s))
theorem inKB_iff {s : ByteArray} {l : List ByteArray} : inKB s l = true ↔ s ∈ l := by
 unfold inKB
 rw [List.any_eq_true]
 constructor
 · rintro ⟨t, ht, e⟩
   have e := of_decide_eq_true e
   subst e
   exact ht
 · intro h
   exact ⟨s, h, by simp⟩
def setB (D : Dsk) (s : ByteArray) (v : Bool) : Dsk := ⟨D.rn, fun t => if t = s then v else D.bn t, if inKB s D.bk = true then D.bk else D.bk ++ [s]⟩
def turnE (x : Bev) (r : Rcd) : Option Nat :=
 if x.kind = 2 then (if (r.2 = 0 ∨ r.2 = 2) ∧ x.by_ ≠ r.1.who then some 1 else none)
 else if x.kind = 3 then (if (r.2 = 0 ∨ r.2 = 1) ∧ x.by_ ≠ r.1.who then some 2 else none)
 else (if r.2 ≠ 3 ∧ x.who = r.1.who then some 3 else none)
def stpE (D : Dsk) (x : Bev) : Option Dsk :=
 if D.bn x.by_ = true then none
 else if x.kind = 1 then (if (rnOf D x.id).isSome = true ∨ D.bn x.who = true then none else some (addR D x))
 else if x.kind = 5 ∨ x.kind = 6 then (if D.bn x.who = decide (x.kind = 5) then none else some (setB D x.who (decide (x.kind = 5))))
 else match rnOf D x.id with
  | none => none
  | some r => match turnE x r with
    | none => none
    | some c => some (setR D x.id c)
def accE (u : Int) (a : Dsk × List Bool) (x : Bev) : Dsk × List Bool :=
 if x.at_ ≤ u then match stpE a.1 x with
  | some D => (D, a.2 ++ [true])
  | none => (a.1, a.2 ++ [false])
 else a
def folE (l : List Bev) (u : Int) : Dsk × List Bool := l.foldl (accE u) (dsk0, [])
theorem folE_step (l : List Bev) (u : Int) (k : Nat) (hk : k < l.length) : folE (l.take (k + 1)) u = accE u (folE (l.take k) u) l[k] := by
 unfold folE
 rw [List.take_succ_eq_append_getElem hk, List.foldl_append]
 rfl
theorem accE_some {u : Int} {a : Dsk × List Bool} {x : Bev} {D : Dsk} (hu : x.at_ ≤ u) (h : stpE a.1 x = some D) : accE u a x = (D, a.2 ++ [true]) := by unfold accE; rw [if_pos hu, h]
theorem accE_none {u : Int} {a : Dsk × List Bool} {x : Bev} (hu : x.at_ ≤ u) (h : stpE a.1 x = none) : accE u a x = (a.1, a.2 ++ [false]) := by unfold accE; rw [if_pos hu, h]
theorem accE_late {u : Int} {a : Dsk × List Bool} {x : Bev} (hu : ¬ x.at_ ≤ u) : accE u a x = a := by unfold accE; rw [if_neg hu]
structure KD (D : Dsk) : Prop where
 nd : (D.rn.map (·.1.id)).Nodup
 iz : ∀ r ∈ D.rn, r.1.id.size ≤ 40
 wz : ∀ r ∈ D.rn, r.1.who.size ≤ 40
 cz : ∀ r ∈ D.rn, r.1.cat.size ≤ 40
 c3 : ∀ r ∈ D.rn, r.2 ≤ 3
 bnd : D.bk.Nodup
 bz : ∀ s ∈ D.bk, s.size ≤ 40 ∧ 0 < s.size
 bi : ∀ s, D.bn s = true → s ∈ D.bk
theorem KD.start : KD dsk0 := ⟨List.nodup_nil, (by intro r hr; cases hr), (by intro r hr; cases hr), (by intro r hr; cases hr), (by intro r hr; cases hr), List.nodup_nil, (by intro r hr; cases hr), (by intro s hs; cases hs)⟩
structure EvK (x : Bev) : Prop where
 kd : 1 ≤ x.kind ∧ x.kind ≤ 6
 iz : x.id.size ≤ 40
 wz : x.who.size ≤ 40
 bz : x.by_.size ≤ 40
 cz : x.cat.size ≤ 40
 w0 : x.kind = 5 ∨ x.kind = 6 → 0 < x.who.size
 b0 : x.kind = 1 ∨ x.kind = 4 → x.by_ = noBev
theorem rnOf_mem {D : Dsk} {s : ByteArray} {r : Rcd} (h : rnOf D s = some r) : r ∈ D.rn ∧ r.1.id = s :=
 ⟨List.mem_of_find?_eq_some h, by have := List.find?_some h; simpa using this⟩
theorem rnOf_none {D : Dsk} {s : ByteArray} (h : rnOf D s = none) : ∀ r ∈ D.rn, r.1.id ≠ s := by
 intro r hr e
 have := List.find?_eq_none.1 h r hr
 simp [e] at this
theorem KD.set {D : Dsk} (h : KD D) (s : ByteArray) (c : Nat) (hc : c ≤ 3) : KD (setR D s c) := by
 have hm : ∀ r ∈ (setR D s c).rn, ∃ q ∈ D.rn, r.1 = q.1 ∧ (r.2 = q.2 ∨ r.2 = c) := by
  intro r hr
  obtain ⟨q, hq, rfl⟩ := List.mem_map.1 hr
  refine ⟨q, hq, ?_⟩
  split
  · exact ⟨rfl, .inr rfl⟩
  · exact ⟨rfl, .inl rfl⟩
 have hi : (setR D s c).rn.map (·.1.id) = D.rn.map (·.1.id) := by
  show (D.rn.map _).map _ = _
  rw [List.map_map]
  refine List.map_congr_left (fun r _ => ?_)
  simp only [Function.comp]
  split <;> rfl
 refine ⟨by rw [hi]; exact h.nd, fun r hr => ?_, fun r hr => ?_, fun r hr => ?_, fun r hr => ?_, h.bnd, h.bz, h.bi⟩
 · obtain ⟨q, hq, e, _⟩ := hm r hr; rw [e]; exact h.iz q hq
 · obtain ⟨q, hq, e, _⟩ := hm r hr; rw [e]; exact h.wz q hq
 · obtain ⟨q, hq, e, _⟩ := hm r hr; rw [e]; exact h.cz q hq
 · obtain ⟨q, hq, _, e⟩ := hm r hr
   have := h.c3 q hq
   omega
theorem KD.add {D : Dsk} (h : KD D) {x : Bev} (hx : EvK x) (hn : (rnOf D x.id).isSome = false) : KD (addR D x) := by
 have hne := rnOf_none (by cases hh : rnOf D x.id with | none => rfl | some r => rw [hh] at hn; cases hn)
 have hm : ∀ (p : Rcd → Prop), (∀ r ∈ D.rn, p r) → p (x, 0) → ∀ r ∈ (addR D x).rn, p r := by
  intro p h1 h2 r hr
  have hr : r ∈ D.rn ++ [(x, 0)] := hr
  rcases List.mem_append.1 hr with hr | hr
  · exact h1 r hr
  · simp at hr; subst hr; exact h2
 refine ⟨?_, hm _ h.iz hx.iz, hm _ h.wz hx.wz, hm _ h.cz hx.cz, hm _ h.c3 (by omega), h.bnd, h.bz, h.bi⟩
 show ((D.rn ++ [(x, 0)]).map _).Nodup
 rw [List.map_append, List.nodup_append]
 refine ⟨h.nd, by simp, fun a ha b hb e => ?_⟩
 obtain ⟨r, hr, rfl⟩ := List.mem_map.1 ha
 simp at hb
 subst hb
 exact hne r hr e
theorem KD.ban {D : Dsk} (h : KD D) {s : ByteArray} (hs : s.size ≤ 40 ∧ 0 < s.size) (v : Bool) : KD (setB D s v) := by
 refine ⟨h.nd, h.iz, h.wz, h.cz, h.c3, ?_, fun t ht => ?_, fun t ht => ?_⟩
 · show (if inKB s D.bk = true then D.bk else D.bk ++ [s]).Nodup
   split
   · exact h.bnd
   · rename_i hn
     refine List.nodup_append.2 ⟨h.bnd, by simp, fun a ha b hb e => ?_⟩
     simp at hb
     subst hb; subst e
     exact hn (inKB_iff.2 ha)
 · have ht : t ∈ (if inKB s D.bk = true then D.bk else D.bk ++ [s]) := ht
   split at ht
   · exact h.bz t ht
   · rcases List.mem_append.1 ht with ht | ht
     · exact h.bz t ht
     · simp at ht; subst ht; exact hs
 · have ht : (if t = s then v else D.bn t) = true := ht
   show t ∈ (if inKB s D.bk = true then D.bk else D.bk ++ [s])
   by_cases e : t = s
   · subst e
     split
     · rename_i h1; exact inKB_iff.1 h1
     · simp
   · rw [if_neg e] at ht
     have := h.bi t ht
     split
     · exact this
     · exact List.mem_append_left _ this
theorem turnE_le {x : Bev} {r : Rcd} {c : Nat} (h : turnE x r = some c) : c ≤ 3 := by
 unfold turnE at h
 repeat' split at h
 all_goals first | (injection h with h; omega) | cases h
theorem KD.step {D D' : Dsk} (h : KD D) {x : Bev} (hx : EvK x) (hs : stpE D x = some D') : KD D' := by
 unfold stpE at hs
 split at hs
 · cases hs
 · split at hs
   · split at hs
     · cases hs
     · rename_i hn
       injection hs with hs
       subst hs
       refine h.add hx ?_
       cases hh : (rnOf D x.id).isSome with
       | false => rfl
       | true => exact absurd (.inl hh) hn
   · split at hs
     · rename_i hk
       split at hs
       · cases hs
       · injection hs with hs
         subst hs
         exact h.ban ⟨hx.wz, hx.w0 hk⟩ _
     · split at hs
       · cases hs
       · split at hs
         · cases hs
         · rename_i c hc
           injection hs with hs
           subst hs
           exact h.set _ c (turnE_le hc)
theorem KD.acc {a : Dsk × List Bool} (h : KD a.1) {x : Bev} (hx : EvK x) (u : Int) : KD (accE u a x).1 := by
 by_cases hu : x.at_ ≤ u
 · cases hs : stpE a.1 x with
   | none => rw [accE_none hu hs]; exact h
   | some D => rw [accE_some hu hs]; exact h.step hx hs
 · rw [accE_late hu]; exact h
theorem KD.fol (l : List Bev) (u : Int) (hl : ∀ x ∈ l, EvK x) : ∀ k, k ≤ l.length → KD (folE (l.take k) u).1
 | 0, _ => by rw [List.take_zero]; exact KD.start
 | k + 1, hk => by
   rw [folE_step l u k (by omega)]
   exact (KD.fol l u hl k (by omega)).acc (hl _ (List.getElem_mem _)) u
theorem fol_cnt (l : List Bev) (u : Int) : ∀ k, k ≤ l.length → (folE (l.take k) u).1.rn.length ≤ k ∧ (folE (l.take k) u).1.bk.length ≤ k ∧ (folE (l.take k) u).2.length ≤ k
 | 0, _ => by rw [List.take_zero]; exact ⟨Nat.le_refl _, Nat.le_refl _, Nat.le_refl _⟩
 | k + 1, hk => by
   rw [folE_step l u k (by omega)]
   obtain ⟨h1, h2, h3⟩ := fol_cnt l u k (by omega)
   have hst : ∀ D, stpE (folE (l.take k) u).1 l[k] = some D → D.rn.length ≤ k + 1 ∧ D.bk.length ≤ k + 1 := by
    intro D hs
    unfold stpE at hs
    split at hs
    · cases hs
    · split at hs
      · split at hs
        · cases hs
        · injection hs with hs; subst hs
          exact ⟨by show (_ ++ [_]).length ≤ _; rw [List.length_append]; simp; omega, Nat.le_trans h2 (by omega)⟩
      · split at hs
        · split at hs
          · cases hs
          · injection hs with hs; subst hs
            refine ⟨Nat.le_trans h1 (by omega), ?_⟩
            show (if _ then _ else _ ++ [_]).length ≤ _
            split
            · omega
            · rw [List.length_append]; simp; omega
        · split at hs
          · cases hs
          · split at hs
            · cases hs
            · injection hs with hs; subst hs
              exact ⟨by show (List.map _ _).length ≤ _; rw [List.length_map]; omega, Nat.le_trans h2 (by omega)⟩
   by_cases hu : (l[k]).at_ ≤ u
   · cases hs : stpE (folE (l.take k) u).1 l[k] with
     | none =>
       rw [accE_none hu hs]
       exact ⟨Nat.le_trans h1 (by omega), Nat.le_trans h2 (by omega), by rw [List.length_append]; simp; omega⟩
     | some D =>
       rw [accE_some hu hs]
       exact ⟨(hst D hs).1, (hst D hs).2, by rw [List.length_append]; simp; omega⟩
   · rw [accE_late hu]
     exact ⟨by omega, by omega, by omega⟩
end Go.Proofs.YtapgnaimbgjcnaaGreatDoor
/-
  The order of runs on a board, and the reference's byTime by its contract.
-/
namespace Go.Proofs.YtapgnaimbgjcnaaGreatDoor
open Go Go.RowKit Go.Sort
def cmpT (x y : Bev) : Int := if cmpI x.time y.time = 0 then (if cmpI x.date y.date = 0 then cmpS x.id y.id else cmpI x.date y.date) else cmpI x.time y.time
theorem ord3_cmpT : Ord3 cmpT := (ord3_int (fun x : Bev => x.time)).first ((ord3_int (fun x : Bev => x.date)).first (ord3_str (fun x : Bev => x.id)))
theorem cmpT_or (x y : Bev) : firstE [cmpI x.time y.time, cmpI x.date y.date, cmpS x.id y.id] = cmpT x y := by
 unfold cmpT
 simp only [firstE]
 by_cases h1 : cmpI x.time y.time = 0
 · by_cases h2 : cmpI x.date y.date = 0
   · by_cases h3 : cmpS x.id y.id = 0
     · simp [h1, h2, h3]
     · simp [h1, h2, h3]
   · simp [h1, h2]
 · simp [h1]
theorem grw_oneD (w : World) (o : Obj) (n : Nat) : ∃ q os', ((w.alloc o).drew).drewN n = grow (w.drewN q) os' :=
 ⟨1 + n, #[o], by rw [alloc_eq_grow]; simp only [World.drewN, World.drew, grow, Nat.add_assoc]⟩
set_option maxRecDepth 100000 in
set_option maxHeartbeats 4000000 in
theorem better_calls (g1 g2 : Nat) (x y : Bev) (w : World) (hc : ∀ V, Below w.heap.size w V → V.cell? ⟨g1, 2, none⟩ = some (.string x.id) ∧ V.cell? ⟨g1, 6, none⟩ = some (.int .i64 x.time) ∧ V.cell? ⟨g1, 7, none⟩ = some (.int .i64 x.date) ∧ V.cell? ⟨g2, 2, none⟩ = some (.string y.id) ∧ V.cell? ⟨g2, 6, none⟩ = some (.int .i64 y.time) ∧ V.cell? ⟨g2, 7, none⟩ = some (.int .i64 y.date)) :
 Calls Tryz.prog 116 #[.pointer (some ⟨g1, 0, none⟩), .pointer (some ⟨g2, 0, none⟩)] w (GrwT (.int .i64 (cmpT x y)) w) := by
 have HC := Lib.hid hc
 have HE := cmpT_or x y
 obtain ⟨O, hO⟩ : ∃ z, cmpT x y = z := ⟨_, rfl⟩
 rw [hO] at HE ⊢
 obtain ⟨a1, k1, i1, w1, b1, c1, t1, d1⟩ := x
 obtain ⟨a2, k2, i2, w2, b2, c2, t2, d2⟩ := y
 simp only at HE HC
 have H1 := Lib.hid (fun W => cmpInt_calls t1 t2 W)
 have H2 := Lib.hid (fun W => cmpInt_calls d1 d2 W)
 have H3 := Lib.hid (fun W => strCmp_calls i1 i2 W)
 obtain ⟨x1, hx1⟩ : ∃ z, cmpI t1 t2 = z := ⟨_, rfl⟩
 obtain ⟨x2, hx2⟩ : ∃ z, cmpI d1 d2 = z := ⟨_, rfl⟩
 obtain ⟨x3, hx3⟩ : ∃ z, cmpS i1 i2 = z := ⟨_, rfl⟩
 rw [hx1] at H1
 rw [hx2] at H2
 rw [hx3] at H3
 rw [hx1, hx2, hx3] at HE
 have S0 : Below w.heap.size w w := Below.refl _ _
 have S1 : Below w.heap.size w w.drew := below_drewN S0 1
 have HBO : Blk (w.alloc (.cells #[.int .i64 x1, .int .i64 x2, .int .i64 x3] 3)).drew w.heap.size 3 #[.int .i64 x1, .int .i64 x2, .int .i64 x3] := Blk.new w _ _
 have SA : Below w.heap.size w (w.alloc (.cells #[.int .i64 x1, .int .i64 x2, .int .i64 x3] 3)).drew := below_drewN ((Below.refl _ _).alloc (Nat.le_refl _) _) 1
 have HO2 : Hid (Calls Tryz.prog 115 #[.slice (some ⟨w.heap.size, 0, none⟩) 3 3] (w.alloc (.cells #[.int .i64 x1, .int .i64 x2, .int .i64 x3] 3)).drew (fun e w' => e = .returned (.int .i64 O) ∧ Below w.heap.size w w' ∧ ∃ q os', w' = grow (w.drewN q) os')) := Lib.hid (by
  have hr := blkRd (b := w.heap.size + 1) 1 3 HBO (by omega) (by unfold maxLen; omega) rfl
  have h := orN_calls (w.heap.size + 1) _ 3 3 [x1, x2, x3] _ hr
  rw [HE] at h
  refine h.mono ?_
  rintro e w' ⟨he, nq, rfl⟩
  exact ⟨he, below_call SA (below_drewN (Below.refl _ _) nq) (Nat.le_refl _), grw_oneD w _ nq⟩)
 clear HBO hO hx1 hx2 hx3 HE hc
 go_enter Tryz.func116, Tryz.ntmps116
 go_upto_region 1 with (fail)
 obtain ⟨k0, k1', k2', k3, k4, k5⟩ := HC.out _ S0
 go_region_held3 (fun V => V.cell? ⟨g1, 2, none⟩ = some (.string i1) ∧ V.cell? ⟨g1, 6, none⟩ = some (.int .i64 t1) ∧ V.cell? ⟨g1, 7, none⟩ = some (.int .i64 d1) ∧ V.cell? ⟨g2, 2, none⟩ = some (.string i2) ∧ V.cell? ⟨g2, 6, none⟩ = some (.int .i64 t2) ∧ V.cell? ⟨g2, 7, none⟩ = some (.int .i64 d2))
  (first | with_reducible exact HC.out _ S1 | with_reducible exact HC.out _ SA | exact HC.out _ SA | with_reducible exact HC.out _ S9)
  (first
   | (go_at_call 62; ((with_reducible refine (H1.out _).mono ?_); rintro e w4 ⟨rfl, rfl⟩))
   | (go_at_call 62; ((with_reducible refine (H2.out _).mono ?_); rintro e w4 ⟨rfl, rfl⟩))
   | (go_at_call 92; ((with_reducible refine (H3.out _).mono ?_); rintro e w5 ⟨rfl, rfl⟩))
   | (go_at_call 115; ((with_reducible refine HO2.out.mono ?_); rintro e w9 ⟨rfl, S9, HG⟩)))
 all_goals
  go_wp2_with fail
  go_ret
  exact ⟨rfl, HG⟩
end Go.Proofs.YtapgnaimbgjcnaaGreatDoor
/-
  slices.SortFunc at elements of one cell, whatever they are. No Go text is named here.
-/
namespace Go.Proofs.YtapgnaimbgjcnaaGreatDoor
open Go Go.RowKit Go.Sort
theorem flat1 {α : Type} [Inhabited α] (enc : α → Value) (d : Array α) (j : Nat) (h : j < d.size) : (flatK (fun x => [enc x]) 1 d)[j]! = enc d[j]! := by
 rw [get_flatK _ _ _ _ (by omega), Nat.div_one, Nat.mod_one]
 rfl
theorem sortW1 {α : Type} [Inhabited α] (enc : α → Value) (w : World) (blk off m : Nat) (dk : Array α) (os : Array Obj) : sortWorld enc w blk off m dk os = sortWorldK (fun x => [enc x]) 1 w blk off m dk os := by
 unfold sortWorld sortWorldK putRowK putRow
 have e : putCells enc off dk = putCells id off (flatK (fun x => [enc x]) 1 dk) := by
  funext c
  unfold putCells
  congr 1
  funext k x
  rw [size_flatK, Nat.mul_one]
  by_cases h : off ≤ k ∧ k < off + dk.size
  · rw [if_pos h, if_pos h, flat1 enc dk _ (by omega)]
    rfl
  · rw [if_neg h, if_neg h]
 rw [e]
section
variable {α : Type} {P : α → Prop} [Inhabited {x : α // P x}] {enc : α → Value}
theorem srt1_calls {ρ : Shelf.Ren} (L : SlLaysF.n6 Tryz.prog ρ) (h1 : ∀ x, (enc x).oneCell' = true)
 (cf : α → α → Int) (hO : Ord3 cf) (f : Nat) (cb : Array Value) (eg : ∀ args w, (callFunc f args).run Tryz.prog w = .ok (.enter f args) w) {e : TypeId} (w0 w : World) (g n c : Nat) (xs : List α) (l : List Rsc) (hxs : ∀ x ∈ xs, P x) (hn : n ≤ 100000)
 (hc : ∀ (x y : α) (W : World), P x → P y → ButG g w W → Calls Tryz.prog f (#[enc x, enc y] ++ cb) W (GrwT (.int .i64 (cf x y)) W))
 (hS : Sq w0 w (rOwn w0.heap.size e 1 (.slice (some ⟨g, 0, none⟩) n c) n (xs.flatMap (fun x => [enc x])) :: l)) :
 Calls Tryz.prog (ρ.f 6) #[.slice (some ⟨g, 0, none⟩) n c, .func (.func f) #[] cb] w (SrtT w0 e 1 (fun x => [enc x]) g n c xs cf l) := by
 obtain ⟨ds, rfl⟩ := sub_list xs hxs
 have hown : w.ownsRow w0.heap.size e 1 (.slice (some ⟨g, 0, none⟩) n c) n (ds.flatMap (fun x => [enc x.1])) := by
  have := hS.head
  rw [← sub_flat (fun x => [enc x])] at this
  exact this
 have hlen : ds.toArray.size = n := by
  have := hown.1
  rw [flat_len (fun x : {x : α // P x} => [enc x.1]) 1 (fun _ => rfl)] at this
  have h2 : ds.length = n := by omega
  simpa using h2
 have hl2 : ds.length = n := by simpa using hlen
 have hK : HoldsK (fun x : {x : α // P x} => [enc x.1]) 1 w g 0 ds.toArray := holdsK_own _ 1 (fun _ => rfl) Nat.one_pos ds.toArray (by simpa using hown)
 have hH : Holds (fun x : {x : α // P x} => enc x.1) w g 0 ds.toArray := fun j hj => by
  have h := hK j (by rw [size_flatK]; omega)
  rw [flat1 (fun x : {x : α // P x} => enc x.1) ds.toArray j hj] at h
  exact h
 have hO2 : SWO (ltOf fun x y : {x : α // P x} => cf x.1 y.1) := Ord3.swo ⟨fun x y => hO.neg x.1 y.1, fun x y z => hO.trans x.1 y.1 z.1⟩
 have h := Any.slices_SortFunc L (fun x : {x : α // P x} => enc x.1) (fun x => h1 x.1) (fun x y => cf x.1 y.1) hO2 f cb g 0 c ds.toArray w eg
  (fun m os dk _ x y => by
   rw [sortW1]
   exact hc x.1 y.1 _ x.2 y.2 (sortW_but (fun x : {x : α // P x} => [enc x.1]) 1 w g m dk os)) hH (hown.lt g rfl).2 (by rw [hlen]; omega)
 rw [hlen] at h
 refine Calls.mono h ?_
 rintro en w' ⟨rfl, d', m, os, hp, hs, rfl⟩
 rw [sortW1]
 exact srt_out (enc := fun x => [enc x]) (k := 1) (fun _ => rfl) Nat.one_pos hl2 hp hs hS
end
end Go.Proofs.YtapgnaimbgjcnaaGreatDoor
/-
  DERIVED: THE SHELF's CONTRACTS AT THIS DUMP, IN PLAIN WORDS (tools/lay-plain.mjs out of 'TryzShelf.lean', which tools/lay-shelf.mjs wrote): THE SAME DECLARATIONS UNDER THE SAME NAMES: 'import', 'namespace', 'open', 'def', 'theorem' AND NOTHING ELSE: no command of the shelf's: FOR A HAND-IN. Each laying: the table of numbers ('.._ren') and one theorem, a field a fact of the dump's own or the kernel's comparison; each contract: ONE APPLICATION.
-/
namespace Go.Proofs
open Go.Shelf
def Tryz.sortRun_ren : Go.Shelf.Ren := ⟨fun | 6 => 113 | 15 => 129 | 14 => 159 | 28 => 175 | 29 => 176 | 20 => 206 | 21 => 207 | 22 => 208 | 23 => 209 | 24 => 210 | 25 => 211 | 26 => 212 | 27 => 213 | 46 => 253 | 47 => 231 | 48 => 232 | 49 => 254 | 50 => 255 | 57 => 280 | n => n, fun | 22 => 163 | 24 => 166 | 25 => 169 | 3 => 3 | 39 => 179 | 0 => 0 | 53 => 216 | 55 => 218 | 4 => 4 | 46 => 210 | 45 => 209 | 50 => 46 | 5 => 5 | 9 => 9 | 66 => 265 | 70 => 269 | 76 => 300 | 77 => 301 | n => n, fun | n => n⟩
theorem Tryz.sortRun : Go.Proofs.SlLaysF.n6 Tryz.prog Tryz.sortRun_ren := {
 mixed := by kernel_rfl
 f6 := ⟨Tryz.f113.name, by decide, Tryz.func113.trans (congrArg some (by kernel_rfl))⟩
 f14 := ⟨Tryz.f159.name, by decide, Tryz.func159.trans (congrArg some (by kernel_rfl))⟩
 f15 := Tryz.func129.trans (congrArg some (by kernel_rfl))
 f20 := ⟨Tryz.f206.name, by decide, Tryz.func206.trans (congrArg some (by kernel_rfl))⟩
 f21 := ⟨Tryz.f207.name, by decide, Tryz.func207.trans (congrArg some (by kernel_rfl))⟩
 f22 := ⟨Tryz.f208.name, by decide, Tryz.func208.trans (congrArg some (by kernel_rfl))⟩
 f23 := ⟨Tryz.f209.name, by decide, Tryz.func209.trans (congrArg some (by kernel_rfl))⟩
 f24 := ⟨Tryz.f210.name, by decide, Tryz.func210.trans (congrArg some (by kernel_rfl))⟩
 f25 := ⟨Tryz.f211.name, by decide, Tryz.func211.trans (congrArg some (by kernel_rfl))⟩
 f26 := ⟨Tryz.f212.name, by decide, Tryz.func212.trans (congrArg some (by kernel_rfl))⟩
 f27 := ⟨Tryz.f213.name, by decide, Tryz.func213.trans (congrArg some (by kernel_rfl))⟩
 f28 := Tryz.func175.trans (congrArg some (by kernel_rfl))
 f29 := Tryz.func176.trans (congrArg some (by kernel_rfl))
 f46 := ⟨Tryz.f253.name, by decide, Tryz.func253.trans (congrArg some (by kernel_rfl))⟩
 f47 := Tryz.func231.trans (congrArg some (by kernel_rfl))
 f48 := Tryz.func232.trans (congrArg some (by kernel_rfl))
 f49 := ⟨Tryz.f254.name, by decide, Tryz.func254.trans (congrArg some (by kernel_rfl))⟩
 f50 := ⟨Tryz.f255.name, by decide, Tryz.func255.trans (congrArg some (by kernel_rfl))⟩
 f57 := ⟨Tryz.f280.name, by decide, Tryz.func280.trans (congrArg some (by kernel_rfl))⟩
 t0 := Tryz.underlying0
 a0 := Tryz.isAgg0
 z0 := Tryz.sizeOf0
 v0 := Tryz.zeroValue0
 t3 := Tryz.underlying3
 a3 := Tryz.isAgg3
 z3 := Tryz.sizeOf3
 v3 := Tryz.zeroValue3
 t4 := Tryz.underlying4
 a4 := Tryz.isAgg4
 z4 := Tryz.sizeOf4
 v4 := Tryz.zeroValue4
 t5 := Tryz.underlying5
 a5 := Tryz.isAgg5
 z5 := Tryz.sizeOf5
 v5 := Tryz.zeroValue5
 t9 := Tryz.underlying9
 a9 := Tryz.isAgg9
 z9 := Tryz.sizeOf9
 v9 := Tryz.zeroValue9
 t22 := Tryz.underlying163
 a22 := Tryz.isAgg163
 z22 := Tryz.sizeOf163
 v22 := Tryz.zeroValue163
 a24 := Tryz.isAgg166
 z24 := Tryz.sizeOf166
 t25 := Tryz.underlying169
 a25 := Tryz.isAgg169
 z25 := Tryz.sizeOf169
 v25 := Tryz.zeroValue169
 t39 := Tryz.underlying179
 a39 := Tryz.isAgg179
 z39 := Tryz.sizeOf179
 v39 := Tryz.zeroValue179
 t45 := Tryz.underlying209
 a45 := Tryz.isAgg209
 z45 := Tryz.sizeOf209
 v45 := Tryz.zeroValue209
 t46 := Tryz.underlying210
 a46 := Tryz.isAgg210
 z46 := Tryz.sizeOf210
 v46 := Tryz.zeroValue210
 t50 := Tryz.underlying46
 a50 := Tryz.isAgg46
 z50 := Tryz.sizeOf46
 v50 := Tryz.zeroValue46
 t53 := Tryz.underlying216
 a53 := Tryz.isAgg216
 z53 := Tryz.sizeOf216
 v53 := Tryz.zeroValue216
 t55 := Tryz.underlying218
 a55 := Tryz.isAgg218
 z55 := Tryz.sizeOf218
 v55 := Tryz.zeroValue218
 t66 := Tryz.underlying265
 a66 := Tryz.isAgg265
 z66 := Tryz.sizeOf265
 v66 := Tryz.zeroValue265
 t70 := Tryz.underlying269
 a70 := Tryz.isAgg269
 z70 := Tryz.sizeOf269
 v70 := Tryz.zeroValue269
 t76 := Tryz.underlying300
 a76 := Tryz.isAgg300
 z76 := Tryz.sizeOf300
 v76 := Tryz.zeroValue300
 t77 := Tryz.underlying301
 a77 := Tryz.isAgg301
 z77 := Tryz.sizeOf301
 v77 := Tryz.zeroValue301 }
end Go.Proofs
