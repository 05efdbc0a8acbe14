/-
  Memory behind slices.SortFunc at structs: the row alone is turned. No Go text is named here.
-/
import Derived.Test.YthbcogekfdllmaaGreatDoorZSq
import Derived.Shelf.GgSortFunc.InsertionK
import Derived.Test.YthbcogekfdllmaaGreatDoorZRat1
import Derived.Test.YthbcogekfdllmaaGreatDoorZStab
import Derived.Shelf.SlSortCmp.NoneTotal
namespace Go.Proofs.YthbcogekfdllmaaGreatDoor
open Go Go.RowKit Go.Sort

theorem mapBlock_heap (w : World) (blk : Nat) (f : Array Value → Array Value) (k : Nat) (h : k ≠ blk) : (mapBlock w blk f).heap[k]? = w.heap[k]? := by
  unfold mapBlock
  simp only [Array.getElem?_modify]
  rw [if_neg (fun e => h e.symm)]
theorem mapBlock_size (w : World) (blk : Nat) (f : Array Value → Array Value) : (mapBlock w blk f).heap.size = w.heap.size := by
  unfold mapBlock
  simp
theorem mapBlock_at (w : World) (blk : Nat) (f : Array Value → Array Value) {c : Array Value} {e : TypeId} {fr : Nat × Nat} (h : w.heap[blk]? = some (.cells c e fr)) : (mapBlock w blk f).heap[blk]? = some (.cells (f c) e fr) := by
  unfold mapBlock
  simp only [Array.getElem?_modify]
  rw [if_pos trivial, h]
  rfl
theorem sortW_heap {α : Type} [Inhabited α] (enc : α → List Value) (k : Nat) (w : World) (blk m : Nat) (dk : Array α) (os : Array Obj) (i : Nat) (hi : i < w.heap.size) :
    (sortWorldK enc k w blk 0 m dk os).heap[i]? = (mapBlock w blk (putCells id 0 (flatK enc k dk))).heap[i]? := by
  have e : (sortWorldK enc k w blk 0 m dk os).heap = (mapBlock w blk (putCells id 0 (flatK enc k dk))).heap ++ os := rfl
  rw [e, Array.getElem?_append_left (by rw [mapBlock_size]; exact hi)]
theorem sortW_grown {α : Type} [Inhabited α] (enc : α → List Value) (k : Nat) (w : World) (blk m : Nat) (dk : Array α) (os : Array Obj) : w.grownBy (sortWorldK enc k w blk 0 m dk os) (some blk) := by
  refine ⟨rfl, rfl, rfl, ?_, fun i hi hn => ?_⟩
  · have e : (sortWorldK enc k w blk 0 m dk os).heap = (mapBlock w blk (putCells id 0 (flatK enc k dk))).heap ++ os := rfl
    rw [e, Array.size_append, mapBlock_size]
    omega
  · rw [sortW_heap enc k w blk m dk os i hi, mapBlock_heap _ _ _ _ (fun e => hn (by rw [e]))]
theorem sortW_own {α : Type} [Inhabited α] (enc : α → List Value) (k : Nat) (hk : ∀ x, (enc x).length = k) (h0 : 0 < k) {w : World} {base blk n cap : Nat} {e : TypeId} {xs : List Value} (h : w.ownsRow base e k (.slice (some ⟨blk, 0, none⟩) n cap) n xs) (m : Nat) (dk : Array α) (hd : dk.size = n) (os : Array Obj) :
    (sortWorldK enc k w blk 0 m dk os).ownsRow base e k (.slice (some ⟨blk, 0, none⟩) n cap) n (dk.toList.flatMap enc) := by
  have hlt := (h.lt blk rfl).2
  refine ⟨by rw [flat_len enc k hk, Array.length_toList, hd], ?_⟩
  rcases h.2 with ⟨he, _⟩ | ⟨g, cap', cur, he, hb, hg, h1, h2, h3, h4⟩
  · cases he
  · injection he with he1 he2 he3
    injection he1 with he1
    injection he1 with he1
    subst he1 he3
    refine .inr ⟨blk, cap, putCells id 0 (flatK enc k dk) cur, rfl, hb, ?_, h1, h2, ?_, ?_⟩
    · rw [sortW_heap enc k w blk m dk os blk hlt, mapBlock_at w blk _ hg]
    · unfold putCells; rw [Array.size_mapIdx, h3]
    · have hnk : n * k ≤ cap * k := Nat.mul_le_mul_right _ h1
      refine List.ext_getElem? fun j => ?_
      rcases Nat.lt_or_ge j (n * k) with hj | hj
      · rw [List.getElem?_take_of_lt hj, Array.getElem?_toList]
        unfold putCells
        rw [Array.getElem?_mapIdx, Array.getElem?_eq_getElem (by omega)]
        simp only [Option.map_some, size_flatK]
        rw [if_pos ⟨Nat.zero_le _, by rw [hd]; omega⟩, Nat.sub_zero, get_flatK enc k dk j (by rw [hd]; exact hj)]
        have hq : j / k < dk.size := by rw [hd]; exact (Nat.div_lt_iff_lt_mul h0).2 hj
        have hr : j % k < k := Nat.mod_lt _ h0
        have hfl := flat_get enc k hk dk.toList (j / k) (j % k) (by simpa using hq) hr
        rw [Nat.div_add_mod' j k] at hfl
        rw [hfl, getElem!_pos dk _ hq, Array.getElem_toList]
        have hlen : j % k < (enc dk[j / k]).length := by rw [hk]; exact hr
        rw [List.getElem?_eq_getElem hlen, getElem!_pos (enc dk[j / k]) (j % k) hlen]
        rfl
      · rw [List.getElem?_eq_none (by rw [List.length_take, Array.length_toList]; omega), List.getElem?_eq_none (by rw [flat_len enc k hk, Array.length_toList, hd]; exact hj)]
theorem holdsK_own {α : Type} [Inhabited α] (enc : α → List Value) (k : Nat) (hk : ∀ x, (enc x).length = k) (h0 : 0 < k) {w : World} {base blk n cap : Nat} {e : TypeId} (dk : Array α) (h : w.ownsRow base e k (.slice (some ⟨blk, 0, none⟩) n cap) n (dk.toList.flatMap enc)) : HoldsK enc k w blk 0 dk := by
  have hl : dk.size = n := by
    have := h.1
    rw [flat_len enc k hk, Array.length_toList] at this
    exact Nat.eq_of_mul_eq_mul_right h0 this
  intro j hj
  rw [size_flatK] at hj
  have hq : j / k < dk.size := (Nat.div_lt_iff_lt_mul h0).2 hj
  have hr : j % k < k := Nat.mod_lt _ h0
  have hc := own_cell enc k hk h (j / k) (j % k) (by simpa using hq) (by omega) hr
  rw [Nat.div_add_mod' j k, Array.getElem_toList] at hc
  rw [Nat.zero_add, get_flatK enc k dk j hj, getElem!_pos dk _ hq]
  have hlen : j % k < (enc dk[j / k]).length := by rw [hk]; exact hr
  rw [List.getElem?_eq_getElem hlen] at hc
  rw [hc, getElem!_pos (enc dk[j / k]) (j % k) hlen]
  exact ⟨rfl, h.frozenAt _⟩
end Go.Proofs.YthbcogekfdllmaaGreatDoor
/-
  slices.SortFunc and insertionSortCmpFunc at structs, whatever they are; a stable sort of few. No Go text is named here.
-/
namespace Go.Proofs.YthbcogekfdllmaaGreatDoor
open Go Go.RowKit Go.Sort

/-- behind a call that made blocks and drew -/
def GrwT (v : Value) (w : World) (e : Ending) (w' : World) : Prop := e = .returned v ∧ ∃ q os', w' = grow (w.drewN q) os'
theorem grw_two (w : World) (o o2 : Obj) (n : Nat) : ∃ q os', ((w.alloc o).alloc o2).drewN n = grow (w.drewN q) os' := ⟨n, #[o, o2], by rw [alloc_eq_grow, alloc_eq_grow, grow_grow]; rfl⟩
/-- memory but for one block, as it was -/
def ButG (g : Nat) (w W : World) : Prop := w.heap.size ≤ W.heap.size ∧ ∀ i, i < w.heap.size → i ≠ g → W.heap[i]? = w.heap[i]?
theorem sub_list {α : Type} {P : α → Prop} (xs : List α) (h : ∀ x ∈ xs, P x) : ∃ ds : List {x : α // P x}, ds.map (·.1) = xs := by
  induction xs with
  | nil => exact ⟨[], rfl⟩
  | cons a l ih =>
    obtain ⟨ds, hd⟩ := ih (fun x hx => h x (List.mem_cons_of_mem _ hx))
    exact ⟨⟨a, h a (List.mem_cons_self ..)⟩ :: ds, by simp [hd]⟩
theorem sub_flat {α : Type} {P : α → Prop} (enc : α → List Value) (ds : List {x : α // P x}) : ds.flatMap (fun x => enc x.1) = (ds.map (·.1)).flatMap enc := by
  induction ds with
  | nil => rfl
  | cons a l ih => simp [ih]
theorem sortW_but {α : Type} [Inhabited α] (enc : α → List Value) (k : Nat) (w : World) (blk m : Nat) (dk : Array α) (os : Array Obj) : ButG blk w (sortWorldK enc k w blk 0 m dk os) :=
  ⟨(sortW_grown enc k w blk m dk os).size, fun i hi hn => (sortW_grown enc k w blk m dk os).block i hi (fun e => hn (Option.some.inj e))⟩
/-- sorted elements in the place of the elements -/
def SrtT {α : Type} (w0 : World) (e : TypeId) (k : Nat) (enc : α → List Value) (g n c : Nat) (xs : List α) (cf : α → α → Int) (l : List Rsc) (en : Ending) (w' : World) : Prop :=
  en = .returned (.tuple #[]) ∧ ∃ ys : List α, ys.Perm xs ∧ ys.Pairwise (fun a b => 0 ≤ cf b a) ∧ Sq w0 w' (rOwn w0.heap.size e k (.slice (some ⟨g, 0, none⟩) n c) n (ys.flatMap enc) :: l)
section
variable {α : Type} {P : α → Prop} [Inhabited {x : α // P x}] {enc : α → List Value} {k : Nat}
theorem srt_out (hk : ∀ x, (enc x).length = k) (h0 : 0 < k) {e : TypeId} {w0 w : World} {g n c m : Nat} {ds : List {x : α // P x}} {d' : Array {x : α // P x}} {os : Array Obj} {cf : α → α → Int} {l : List Rsc}
    (hn : ds.length = n) (hp : PermIn 0 n ds.toArray d') (hs : SortedIn (ltOf (fun x y : {x : α // P x} => cf x.1 y.1)) 0 n d')
    (hS : Sq w0 w (rOwn w0.heap.size e k (.slice (some ⟨g, 0, none⟩) n c) n ((ds.map (·.1)).flatMap enc) :: l)) :
    SrtT w0 e k enc g n c (ds.map (·.1)) cf l (.returned (.tuple #[])) (sortWorldK (fun x : {x : α // P x} => enc x.1) k w g 0 m d' os) := by
  have hown : w.ownsRow w0.heap.size e k (.slice (some ⟨g, 0, none⟩) n c) n (ds.flatMap (fun x => enc x.1)) := by rw [sub_flat]; exact hS.head
  have hlen : ds.toArray.size = n := by simpa using hn
  have hd : d'.size = n := by rw [hp.1, hlen]
  have hp2 : d'.toList.Perm ds := by
    obtain ⟨h1, _, h3⟩ := hp
    have e1 : d'.extract 0 n = d' := by rw [← hd]; exact Array.extract_size
    have e2 : ds.toArray.extract 0 n = ds.toArray := by rw [← hlen]; exact Array.extract_size
    rw [e1, e2] at h3
    simpa using h3
  refine ⟨rfl, d'.toList.map (·.1), hp2.map _, ?_, ?_⟩
  · rw [List.pairwise_map, List.pairwise_iff_getElem]
    intro i j hi hj hij
    have hi' : i < d'.size := by simpa using hi
    have hj' : j < d'.size := by simpa using hj
    have := hs i j (Nat.zero_le _) hij (by omega)
    rw [getElem!_pos d' j hj', getElem!_pos d' i hi'] at this
    exact Int.not_lt.1 (of_decide_eq_false this)
  · refine hS.turn (sortW_grown (fun x : {x : α // P x} => enc x.1) k w g m d' os) (fun q hq => by injection hq with hq; subst hq; rfl) ?_ (rOwn_ok _ _ _ _ _ _) (fun q hq => ?_)
    · show World.ownsRow _ _ _ _ _ _ _
      rw [← sub_flat]
      exact sortW_own (fun x : {x : α // P x} => enc x.1) k (fun x => hk x.1) h0 hown m d' hd os
    · have hq : some g = some q := hq
      injection hq with hq
      subst hq
      refine ⟨.inl rfl, ?_⟩
      have := (sortW_grown (fun x : {x : α // P x} => enc x.1) k w g m d' os).size
      have := (hown.lt g rfl).2
      omega
/-- insertionSortCmpFunc of a whole row: stable -/
theorem insT_calls {ρ : Shelf.Ren} (L : SlLaysF0.n20 Tryz.prog ρ) (hk : ∀ x, (enc x).length = k) (h0 : 0 < k) (h1 : ∀ x, ∀ v ∈ enc x, v.oneCell' = true) (aE : ∀ w, (isAgg (ρ.t 24)).run Tryz.prog w = .ok true w) (zE : ∀ w, (Go.sizeOf (ρ.t 24)).run Tryz.prog w = .ok k w)
    (cf cf2 : α → α → Int) (hO : Ord3 cf2) (f : Nat) (cb : Array Value) (eg : ∀ args w, (callFunc f args).run Tryz.prog w = .ok (.enter f args) w) {e : TypeId} (w0 w : World) (g n c : Nat) (xs : List α) (l : List Rsc) (hxs : ∀ x ∈ xs, P x) (hn : n ≤ 100000)
    (hR : xs.Pairwise (fun u v => cf2 v u < 0 ↔ cf v u < 0))
    (hc : ∀ (x y : α) (W : World), P x → P y → ButG g w W → Calls Tryz.prog f (#[.agg (enc x).toArray, .agg (enc y).toArray] ++ cb) W (GrwT (.int .i64 (cf x y)) W))
    (hS : Sq w0 w (rOwn w0.heap.size e k (.slice (some ⟨g, 0, none⟩) n c) n (xs.flatMap enc) :: l)) :
    Calls Tryz.prog (ρ.f 20) #[.slice (some ⟨g, 0, none⟩) n c, .int .i64 0, .int .i64 n, .func (.func f) #[] cb] w (SrtT w0 e k enc g n c xs cf2 l) := by
  obtain ⟨ds, rfl⟩ := sub_list xs hxs
  have hown : w.ownsRow w0.heap.size e k (.slice (some ⟨g, 0, none⟩) n c) n (ds.flatMap (fun x => enc x.1)) := by rw [sub_flat]; exact hS.head
  have hlen : ds.toArray.size = n := by
    have := hown.1
    rw [flat_len (fun x : {x : α // P x} => enc x.1) k (fun x => hk x.1)] at this
    exact Nat.eq_of_mul_eq_mul_right h0 (by simpa using this)
  have hl2 : ds.length = n := by simpa using hlen
  have hH : HoldsK (fun x : {x : α // P x} => enc x.1) k w g 0 ds.toArray := holdsK_own _ k (fun x => hk x.1) h0 ds.toArray (by simpa using hown)
  have hO2 : SWO (ltOf fun x y : {x : α // P x} => cf2 x.1 y.1) := Ord3.swo ⟨fun x y => hO.neg x.1 y.1, fun x y z => hO.trans x.1 y.1 z.1⟩
  have h := AnyQ.insertionSortCmpFunc L k aE zE (fun x : {x : α // P x} => enc x.1) (fun x => hk x.1) (fun x v hv => h1 x.1 v hv) (fun x y => cf x.1 y.1) f cb g 0 c 0 n ds.toArray w eg
    (fun m os dk _ x y => hc x.1 y.1 _ x.2 y.2 (sortW_but _ k w g m dk os)) hH (hown.lt g rfl).2 (Nat.zero_le _) (by rw [hlen]; exact Nat.le_refl _) (by rw [hlen]; omega)
  rw [hlen] at h
  have hst : Go.Sort.insertionSort (ltOf fun x y : {x : α // P x} => cf x.1 y.1) ds.toArray 0 n = Go.Sort.insertionSort (ltOf fun x y : {x : α // P x} => cf2 x.1 y.1) ds.toArray 0 n := by
    have h2 := ins_stable (lt := ltOf fun x y : {x : α // P x} => cf x.1 y.1) (lt2 := ltOf fun x y : {x : α // P x} => cf2 x.1 y.1) (R := fun u v => cf2 v.1 u.1 < 0 ↔ cf v.1 u.1 < 0)
      (fun u v huv => decide_eq_decide.2 huv) ds.toArray (fun p q hpq hq => by
        have hq' : q < ds.length := by simpa using hq
        rw [getElem!_pos ds.toArray p (by omega), getElem!_pos ds.toArray q hq]
        have := List.pairwise_iff_getElem.1 (List.pairwise_map.1 hR) p q (by omega) hq' hpq
        simpa using this)
    rw [hlen] at h2
    exact h2
  refine Calls.mono h ?_
  rintro en w' ⟨rfl, m, os, rfl⟩
  rw [hst]
  obtain ⟨hp, hs⟩ := insertionSort_holds (lt := ltOf fun x y : {x : α // P x} => cf2 x.1 y.1) hO2 ds.toArray 0 n (Nat.zero_le _) (by rw [hlen]; exact Nat.le_refl _)
  exact srt_out hk h0 hl2 hp hs hS
end
end Go.Proofs.YthbcogekfdllmaaGreatDoor
