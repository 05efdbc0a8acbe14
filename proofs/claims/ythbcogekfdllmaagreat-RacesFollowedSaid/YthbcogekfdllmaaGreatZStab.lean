/-
  Insertion sort is stable: by a weak order it makes what it makes by the order in which ties go by their first places. No Go text is named here.
-/
import Derived.Sort.Defs
import Derived.Test.YthbcogekfdllmaaGreatZBase
import Derived.Test.YthbcogekfdllmaaGreatZBid2
import Derived.Test.YthbcogekfdllmaaGreatZSortMem
import Derived.Shelf.SlSortCmp.NoneTotal
namespace Go.Proofs.YthbcogekfdllmaaGreat
open Go Go.RowKit Go.Sort
section
variable {α : Type} [Inhabited α]
theorem swp_get {d : Array α} {i j : Nat} (hi : i < d.size) (hj : j < d.size) (p : Nat) : (swp d i j)[p]! = if p = j then d[i]! else if p = i then d[j]! else d[p]! := by
  unfold swp
  by_cases hp : p < d.size
  · rw [getElem!_pos ((d.setIfInBounds i d[j]!).setIfInBounds j d[i]!) p (by simpa using hp)]
    rw [Array.getElem_setIfInBounds (by simpa using hp)]
    by_cases h1 : p = j
    · rw [if_pos h1.symm, if_pos h1]
    · rw [if_neg (fun e => h1 e.symm), if_neg h1, Array.getElem_setIfInBounds hp]
      by_cases h2 : p = i
      · rw [if_pos h2.symm, if_pos h2]
      · rw [if_neg (fun e => h2 e.symm), if_neg h2, getElem!_pos d p hp]
  · rw [if_neg (by omega), if_neg (by omega), getElem!_neg _ p (by simpa using hp), getElem!_neg d p hp]
theorem swp_size (d : Array α) (i j : Nat) : (swp d i j).size = d.size := by unfold swp; simp
theorem insInner_eq {lt lt2 : α → α → Bool} {R : α → α → Prop} (h : ∀ u v, R u v → lt2 v u = lt v u) (a : Nat) : ∀ (j : Nat) (d : Array α), j < d.size → (∀ i, i < j → R d[i]! d[j]!) → insInner lt a j d = insInner lt2 a j d
  | 0, _, _, _ => rfl
  | j + 1, d, hj, hR => by
    have e := h d[j]! d[j + 1]! (hR j (Nat.lt_succ_self j))
    rw [insInner, insInner, e]
    split
    · refine insInner_eq h a j (swp d (j + 1) j) (by rw [swp_size]; omega) (fun i hi => ?_)
      rw [swp_get hj (by omega), swp_get hj (by omega), if_neg (by omega), if_neg (by omega), if_pos rfl]
      exact hR i (by omega)
    · rfl
theorem insInner_mem (lt : α → α → Bool) (a : Nat) : ∀ (j : Nat) (d : Array α), j < d.size → (insInner lt a j d).size = d.size ∧ (∀ p, j < p → (insInner lt a j d)[p]! = d[p]!) ∧ ∀ p, p ≤ j → ∃ x, x ≤ j ∧ (insInner lt a j d)[p]! = d[x]!
  | 0, d, _ => ⟨rfl, fun _ _ => rfl, fun p hp => ⟨p, hp, rfl⟩⟩
  | j + 1, d, hj => by
    rw [insInner]
    split
    · obtain ⟨h1, h2, h3⟩ := insInner_mem lt a j (swp d (j + 1) j) (by rw [swp_size]; omega)
      refine ⟨by rw [h1, swp_size], fun p hp => ?_, fun p hp => ?_⟩
      · rw [h2 p (by omega), swp_get hj (by omega), if_neg (by omega), if_neg (by omega)]
      · have hx : ∀ x, x ≤ j + 1 → ∃ y, y ≤ j + 1 ∧ (swp d (j + 1) j)[x]! = d[y]! := fun x hx => by
          rw [swp_get hj (by omega)]
          split
          · exact ⟨j + 1, Nat.le_refl _, rfl⟩
          · split
            · exact ⟨j, by omega, rfl⟩
            · exact ⟨x, hx, rfl⟩
        rcases Nat.lt_or_ge j p with hpj | hpj
        · rw [h2 p hpj]
          exact hx p hp
        · obtain ⟨x, hx1, hx2⟩ := h3 p hpj
          rw [hx2]
          exact hx x (by omega)
    · exact ⟨rfl, fun _ _ => rfl, fun p hp => ⟨p, hp, rfl⟩⟩
theorem insOuter_def (lt : α → α → Bool) (a b i : Nat) (d : Array α) : insOuter lt a b i d = if i < b then insOuter lt a b (i + 1) (insInner lt a i d) else d := by rw [insOuter]
theorem insOuter_eq {lt lt2 : α → α → Bool} {R : α → α → Prop} (h : ∀ u v, R u v → lt2 v u = lt v u) (a b : Nat) : ∀ (k i : Nat) (d : Array α), b - i = k → b ≤ d.size → (∀ p q, p < q → i ≤ q → q < d.size → R d[p]! d[q]!) → insOuter lt a b i d = insOuter lt2 a b i d
  | 0, i, d, hk, _, _ => by
    rw [insOuter_def lt a b i d, insOuter_def lt2 a b i d, if_neg (by omega), if_neg (by omega)]
  | k + 1, i, d, hk, hb, hR => by
    rw [insOuter_def lt a b i d, insOuter_def lt2 a b i d, if_pos (by omega), if_pos (by omega)]
    have hi : i < d.size := by omega
    have e := insInner_eq h a i d hi (fun p hp => hR p i hp (Nat.le_refl _) hi)
    rw [← e]
    obtain ⟨h1, h2, h3⟩ := insInner_mem lt a i d hi
    refine insOuter_eq h a b k (i + 1) _ (by omega) (by rw [h1]; exact hb) (fun p q hpq hq hqs => ?_)
    rw [h1] at hqs
    rw [h2 q (by omega)]
    rcases Nat.lt_or_ge i p with hp | hp
    · rw [h2 p hp]
      exact hR p q hpq (by omega) hqs
    · obtain ⟨x, hx1, hx2⟩ := h3 p hp
      rw [hx2]
      exact hR x q (by omega) (by omega) hqs
/-- ties stay as they were -/
theorem ins_stable {lt lt2 : α → α → Bool} {R : α → α → Prop} (h : ∀ u v, R u v → lt2 v u = lt v u) (d : Array α) (hR : ∀ p q, p < q → q < d.size → R d[p]! d[q]!) : insertionSort lt d 0 d.size = insertionSort lt2 d 0 d.size :=
  insOuter_eq h 0 d.size _ 1 d rfl (Nat.le_refl _) (fun p q hpq _ hq => hR p q hpq hq)
end
end Go.Proofs.YthbcogekfdllmaaGreat
/-
  slices.SortFunc and insertionSortCmpFunc at structs, whatever they are; a stable sort of few. No Go text is named here.
-/
namespace Go.Proofs.YthbcogekfdllmaaGreat
open Go Go.RowKit Go.Sort

/-- behind a call that made blocks and drew -/
def GrwT (v : Value) (w : World) (e : Ending) (w' : World) : Prop := e = .returned v ∧ ∃ q os', w' = grow (w.drewN q) os'
theorem grw_two (w : World) (o o2 : Obj) (n : Nat) : ∃ q os', ((w.alloc o).alloc o2).drewN n = grow (w.drewN q) os' := ⟨n, #[o, o2], by rw [alloc_eq_grow, alloc_eq_grow, grow_grow]; rfl⟩
/-- memory but for one block, as it was -/
def ButG (g : Nat) (w W : World) : Prop := w.heap.size ≤ W.heap.size ∧ ∀ i, i < w.heap.size → i ≠ g → W.heap[i]? = w.heap[i]?
theorem sub_list {α : Type} {P : α → Prop} (xs : List α) (h : ∀ x ∈ xs, P x) : ∃ ds : List {x : α // P x}, ds.map (·.1) = xs := by
  induction xs with
  | nil => exact ⟨[], rfl⟩
  | cons a l ih =>
    obtain ⟨ds, hd⟩ := ih (fun x hx => h x (List.mem_cons_of_mem _ hx))
    exact ⟨⟨a, h a (List.mem_cons_self ..)⟩ :: ds, by simp [hd]⟩
theorem sub_flat {α : Type} {P : α → Prop} (enc : α → List Value) (ds : List {x : α // P x}) : ds.flatMap (fun x => enc x.1) = (ds.map (·.1)).flatMap enc := by
  induction ds with
  | nil => rfl
  | cons a l ih => simp [ih]
theorem sortW_but {α : Type} [Inhabited α] (enc : α → List Value) (k : Nat) (w : World) (blk m : Nat) (dk : Array α) (os : Array Obj) : ButG blk w (sortWorldK enc k w blk 0 m dk os) :=
  ⟨(sortW_grown enc k w blk m dk os).size, fun i hi hn => (sortW_grown enc k w blk m dk os).block i hi (fun e => hn (Option.some.inj e))⟩
/-- sorted elements in the place of the elements -/
def SrtT {α : Type} (w0 : World) (e : TypeId) (k : Nat) (enc : α → List Value) (g n c : Nat) (xs : List α) (cf : α → α → Int) (l : List Rsc) (en : Ending) (w' : World) : Prop :=
  en = .returned (.tuple #[]) ∧ ∃ ys : List α, ys.Perm xs ∧ ys.Pairwise (fun a b => 0 ≤ cf b a) ∧ Sq w0 w' (rOwn w0.heap.size e k (.slice (some ⟨g, 0, none⟩) n c) n (ys.flatMap enc) :: l)
section
variable {α : Type} {P : α → Prop} [Inhabited {x : α // P x}] {enc : α → List Value} {k : Nat}
theorem srt_out (hk : ∀ x, (enc x).length = k) (h0 : 0 < k) {e : TypeId} {w0 w : World} {g n c m : Nat} {ds : List {x : α // P x}} {d' : Array {x : α // P x}} {os : Array Obj} {cf : α → α → Int} {l : List Rsc}
    (hn : ds.length = n) (hp : PermIn 0 n ds.toArray d') (hs : SortedIn (ltOf (fun x y : {x : α // P x} => cf x.1 y.1)) 0 n d')
    (hS : Sq w0 w (rOwn w0.heap.size e k (.slice (some ⟨g, 0, none⟩) n c) n ((ds.map (·.1)).flatMap enc) :: l)) :
    SrtT w0 e k enc g n c (ds.map (·.1)) cf l (.returned (.tuple #[])) (sortWorldK (fun x : {x : α // P x} => enc x.1) k w g 0 m d' os) := by
  have hown : w.ownsRow w0.heap.size e k (.slice (some ⟨g, 0, none⟩) n c) n (ds.flatMap (fun x => enc x.1)) := by rw [sub_flat]; exact hS.head
  have hlen : ds.toArray.size = n := by simpa using hn
  have hd : d'.size = n := by rw [hp.1, hlen]
  have hp2 : d'.toList.Perm ds := by
    obtain ⟨h1, _, h3⟩ := hp
    have e1 : d'.extract 0 n = d' := by rw [← hd]; exact Array.extract_size
    have e2 : ds.toArray.extract 0 n = ds.toArray := by rw [← hlen]; exact Array.extract_size
    rw [e1, e2] at h3
    simpa using h3
  refine ⟨rfl, d'.toList.map (·.1), hp2.map _, ?_, ?_⟩
  · rw [List.pairwise_map, List.pairwise_iff_getElem]
    intro i j hi hj hij
    have hi' : i < d'.size := by simpa using hi
    have hj' : j < d'.size := by simpa using hj
    have := hs i j (Nat.zero_le _) hij (by omega)
    rw [getElem!_pos d' j hj', getElem!_pos d' i hi'] at this
    exact Int.not_lt.1 (of_decide_eq_false this)
  · refine hS.turn (sortW_grown (fun x : {x : α // P x} => enc x.1) k w g m d' os) (fun q hq => by injection hq with hq; subst hq; rfl) ?_ (rOwn_ok _ _ _ _ _ _) (fun q hq => ?_)
    · show World.ownsRow _ _ _ _ _ _ _
      rw [← sub_flat]
      exact sortW_own (fun x : {x : α // P x} => enc x.1) k (fun x => hk x.1) h0 hown m d' hd os
    · have hq : some g = some q := hq
      injection hq with hq
      subst hq
      refine ⟨.inl rfl, ?_⟩
      have := (sortW_grown (fun x : {x : α // P x} => enc x.1) k w g m d' os).size
      have := (hown.lt g rfl).2
      omega
/-- slices.SortFunc -/
theorem srtT_calls {ρ : Shelf.Ren} (L : SlLaysF0.n6 Tryz.prog ρ) (hk : ∀ x, (enc x).length = k) (h0 : 0 < k) (h1 : ∀ x, ∀ v ∈ enc x, v.oneCell' = true) (aE : ∀ w, (isAgg (ρ.t 24)).run Tryz.prog w = .ok true w) (zE : ∀ w, (Go.sizeOf (ρ.t 24)).run Tryz.prog w = .ok k w)
    (cf : α → α → Int) (hO : Ord3 cf) (f : Nat) (cb : Array Value) (eg : ∀ args w, (callFunc f args).run Tryz.prog w = .ok (.enter f args) w) {e : TypeId} (w0 w : World) (g n c : Nat) (xs : List α) (l : List Rsc) (hxs : ∀ x ∈ xs, P x) (hn : n ≤ 100000)
    (hc : ∀ (x y : α) (W : World), P x → P y → ButG g w W → Calls Tryz.prog f (#[.agg (enc x).toArray, .agg (enc y).toArray] ++ cb) W (GrwT (.int .i64 (cf x y)) W))
    (hS : Sq w0 w (rOwn w0.heap.size e k (.slice (some ⟨g, 0, none⟩) n c) n (xs.flatMap enc) :: l)) :
    Calls Tryz.prog (ρ.f 6) #[.slice (some ⟨g, 0, none⟩) n c, .func (.func f) #[] cb] w (SrtT w0 e k enc g n c xs cf l) := by
  obtain ⟨ds, rfl⟩ := sub_list xs hxs
  have hown : w.ownsRow w0.heap.size e k (.slice (some ⟨g, 0, none⟩) n c) n (ds.flatMap (fun x => enc x.1)) := by rw [sub_flat]; exact hS.head
  have hlen : ds.toArray.size = n := by
    have := hown.1
    rw [flat_len (fun x : {x : α // P x} => enc x.1) k (fun x => hk x.1)] at this
    exact Nat.eq_of_mul_eq_mul_right h0 (by simpa using this)
  have hl2 : ds.length = n := by simpa using hlen
  have hH : HoldsK (fun x : {x : α // P x} => enc x.1) k w g 0 ds.toArray := holdsK_own _ k (fun x => hk x.1) h0 ds.toArray (by simpa using hown)
  have hO2 : SWO (ltOf fun x y : {x : α // P x} => cf x.1 y.1) := Ord3.swo ⟨fun x y => hO.neg x.1 y.1, fun x y z => hO.trans x.1 y.1 z.1⟩
  have h := AnyQ.slices_SortFunc L k aE zE (fun x : {x : α // P x} => enc x.1) (fun x => hk x.1) (fun x v hv => h1 x.1 v hv) (fun x y => cf x.1 y.1) hO2 f cb g 0 c ds.toArray w eg
    (fun m os dk _ x y => hc x.1 y.1 _ x.2 y.2 (sortW_but _ k w g m dk os)) hH (hown.lt g rfl).2 (by rw [hlen]; omega)
  rw [hlen] at h
  refine Calls.mono h ?_
  rintro en w' ⟨rfl, d', m, os, hp, hs, rfl⟩
  exact srt_out hk h0 hl2 hp hs hS
/-- insertionSortCmpFunc of a whole row: stable -/
theorem insT_calls {ρ : Shelf.Ren} (L : SlLaysF0.n20 Tryz.prog ρ) (hk : ∀ x, (enc x).length = k) (h0 : 0 < k) (h1 : ∀ x, ∀ v ∈ enc x, v.oneCell' = true) (aE : ∀ w, (isAgg (ρ.t 24)).run Tryz.prog w = .ok true w) (zE : ∀ w, (Go.sizeOf (ρ.t 24)).run Tryz.prog w = .ok k w)
    (cf cf2 : α → α → Int) (hO : Ord3 cf2) (f : Nat) (cb : Array Value) (eg : ∀ args w, (callFunc f args).run Tryz.prog w = .ok (.enter f args) w) {e : TypeId} (w0 w : World) (g n c : Nat) (xs : List α) (l : List Rsc) (hxs : ∀ x ∈ xs, P x) (hn : n ≤ 100000)
    (hR : xs.Pairwise (fun u v => cf2 v u < 0 ↔ cf v u < 0))
    (hc : ∀ (x y : α) (W : World), P x → P y → ButG g w W → Calls Tryz.prog f (#[.agg (enc x).toArray, .agg (enc y).toArray] ++ cb) W (GrwT (.int .i64 (cf x y)) W))
    (hS : Sq w0 w (rOwn w0.heap.size e k (.slice (some ⟨g, 0, none⟩) n c) n (xs.flatMap enc) :: l)) :
    Calls Tryz.prog (ρ.f 20) #[.slice (some ⟨g, 0, none⟩) n c, .int .i64 0, .int .i64 n, .func (.func f) #[] cb] w (SrtT w0 e k enc g n c xs cf2 l) := by
  obtain ⟨ds, rfl⟩ := sub_list xs hxs
  have hown : w.ownsRow w0.heap.size e k (.slice (some ⟨g, 0, none⟩) n c) n (ds.flatMap (fun x => enc x.1)) := by rw [sub_flat]; exact hS.head
  have hlen : ds.toArray.size = n := by
    have := hown.1
    rw [flat_len (fun x : {x : α // P x} => enc x.1) k (fun x => hk x.1)] at this
    exact Nat.eq_of_mul_eq_mul_right h0 (by simpa using this)
  have hl2 : ds.length = n := by simpa using hlen
  have hH : HoldsK (fun x : {x : α // P x} => enc x.1) k w g 0 ds.toArray := holdsK_own _ k (fun x => hk x.1) h0 ds.toArray (by simpa using hown)
  have hO2 : SWO (ltOf fun x y : {x : α // P x} => cf2 x.1 y.1) := Ord3.swo ⟨fun x y => hO.neg x.1 y.1, fun x y z => hO.trans x.1 y.1 z.1⟩
  have h := AnyQ.insertionSortCmpFunc L k aE zE (fun x : {x : α // P x} => enc x.1) (fun x => hk x.1) (fun x v hv => h1 x.1 v hv) (fun x y => cf x.1 y.1) f cb g 0 c 0 n ds.toArray w eg
    (fun m os dk _ x y => hc x.1 y.1 _ x.2 y.2 (sortW_but _ k w g m dk os)) hH (hown.lt g rfl).2 (Nat.zero_le _) (by rw [hlen]; exact Nat.le_refl _) (by rw [hlen]; omega)
  rw [hlen] at h
  have hst : Go.Sort.insertionSort (ltOf fun x y : {x : α // P x} => cf x.1 y.1) ds.toArray 0 n = Go.Sort.insertionSort (ltOf fun x y : {x : α // P x} => cf2 x.1 y.1) ds.toArray 0 n := by
    have h2 := ins_stable (lt := ltOf fun x y : {x : α // P x} => cf x.1 y.1) (lt2 := ltOf fun x y : {x : α // P x} => cf2 x.1 y.1) (R := fun u v => cf2 v.1 u.1 < 0 ↔ cf v.1 u.1 < 0)
      (fun u v huv => decide_eq_decide.2 huv) ds.toArray (fun p q hpq hq => by
        have hq' : q < ds.length := by simpa using hq
        rw [getElem!_pos ds.toArray p (by omega), getElem!_pos ds.toArray q hq]
        have := List.pairwise_iff_getElem.1 (List.pairwise_map.1 hR) p q (by omega) hq' hpq
        simpa using this)
    rw [hlen] at h2
    exact h2
  refine Calls.mono h ?_
  rintro en w' ⟨rfl, m, os, rfl⟩
  rw [hst]
  obtain ⟨hp, hs⟩ := insertionSort_holds (lt := ltOf fun x y : {x : α // P x} => cf2 x.1 y.1) hO2 ds.toArray 0 n (Nat.zero_le _) (by rw [hlen]; exact Nat.le_refl _)
  exact srt_out hk h0 hl2 hp hs hS
end
end Go.Proofs.YthbcogekfdllmaaGreat
