/-
  Memory behind slices.SortFunc at structs: the row alone is turned. No Go text is named here.
-/
import Derived.Test.YthbcogekfdllmaaGreatZSq
import Derived.Shelf.GgSortFunc.InsertionK
namespace Go.Proofs.YthbcogekfdllmaaGreat
open Go Go.RowKit Go.Sort

theorem mapBlock_heap (w : World) (blk : Nat) (f : Array Value → Array Value) (k : Nat) (h : k ≠ blk) : (mapBlock w blk f).heap[k]? = w.heap[k]? := by
  unfold mapBlock
  simp only [Array.getElem?_modify]
  rw [if_neg (fun e => h e.symm)]
theorem mapBlock_size (w : World) (blk : Nat) (f : Array Value → Array Value) : (mapBlock w blk f).heap.size = w.heap.size := by
  unfold mapBlock
  simp
theorem mapBlock_at (w : World) (blk : Nat) (f : Array Value → Array Value) {c : Array Value} {e : TypeId} {fr : Nat × Nat} (h : w.heap[blk]? = some (.cells c e fr)) : (mapBlock w blk f).heap[blk]? = some (.cells (f c) e fr) := by
  unfold mapBlock
  simp only [Array.getElem?_modify]
  rw [if_pos trivial, h]
  rfl
theorem sortW_heap {α : Type} [Inhabited α] (enc : α → List Value) (k : Nat) (w : World) (blk m : Nat) (dk : Array α) (os : Array Obj) (i : Nat) (hi : i < w.heap.size) :
    (sortWorldK enc k w blk 0 m dk os).heap[i]? = (mapBlock w blk (putCells id 0 (flatK enc k dk))).heap[i]? := by
  have e : (sortWorldK enc k w blk 0 m dk os).heap = (mapBlock w blk (putCells id 0 (flatK enc k dk))).heap ++ os := rfl
  rw [e, Array.getElem?_append_left (by rw [mapBlock_size]; exact hi)]
theorem sortW_grown {α : Type} [Inhabited α] (enc : α → List Value) (k : Nat) (w : World) (blk m : Nat) (dk : Array α) (os : Array Obj) : w.grownBy (sortWorldK enc k w blk 0 m dk os) (some blk) := by
  refine ⟨rfl, rfl, rfl, ?_, fun i hi hn => ?_⟩
  · have e : (sortWorldK enc k w blk 0 m dk os).heap = (mapBlock w blk (putCells id 0 (flatK enc k dk))).heap ++ os := rfl
    rw [e, Array.size_append, mapBlock_size]
    omega
  · rw [sortW_heap enc k w blk m dk os i hi, mapBlock_heap _ _ _ _ (fun e => hn (by rw [e]))]
theorem sortW_own {α : Type} [Inhabited α] (enc : α → List Value) (k : Nat) (hk : ∀ x, (enc x).length = k) (h0 : 0 < k) {w : World} {base blk n cap : Nat} {e : TypeId} {xs : List Value} (h : w.ownsRow base e k (.slice (some ⟨blk, 0, none⟩) n cap) n xs) (m : Nat) (dk : Array α) (hd : dk.size = n) (os : Array Obj) :
    (sortWorldK enc k w blk 0 m dk os).ownsRow base e k (.slice (some ⟨blk, 0, none⟩) n cap) n (dk.toList.flatMap enc) := by
  have hlt := (h.lt blk rfl).2
  refine ⟨by rw [flat_len enc k hk, Array.length_toList, hd], ?_⟩
  rcases h.2 with ⟨he, _⟩ | ⟨g, cap', cur, he, hb, hg, h1, h2, h3, h4⟩
  · cases he
  · injection he with he1 he2 he3
    injection he1 with he1
    injection he1 with he1
    subst he1 he3
    refine .inr ⟨blk, cap, putCells id 0 (flatK enc k dk) cur, rfl, hb, ?_, h1, h2, ?_, ?_⟩
    · rw [sortW_heap enc k w blk m dk os blk hlt, mapBlock_at w blk _ hg]
    · unfold putCells; rw [Array.size_mapIdx, h3]
    · have hnk : n * k ≤ cap * k := Nat.mul_le_mul_right _ h1
      refine List.ext_getElem? fun j => ?_
      rcases Nat.lt_or_ge j (n * k) with hj | hj
      · rw [List.getElem?_take_of_lt hj, Array.getElem?_toList]
        unfold putCells
        rw [Array.getElem?_mapIdx, Array.getElem?_eq_getElem (by omega)]
        simp only [Option.map_some, size_flatK]
        rw [if_pos ⟨Nat.zero_le _, by rw [hd]; omega⟩, Nat.sub_zero, get_flatK enc k dk j (by rw [hd]; exact hj)]
        have hq : j / k < dk.size := by rw [hd]; exact (Nat.div_lt_iff_lt_mul h0).2 hj
        have hr : j % k < k := Nat.mod_lt _ h0
        have hfl := flat_get enc k hk dk.toList (j / k) (j % k) (by simpa using hq) hr
        rw [Nat.div_add_mod' j k] at hfl
        rw [hfl, getElem!_pos dk _ hq, Array.getElem_toList]
        have hlen : j % k < (enc dk[j / k]).length := by rw [hk]; exact hr
        rw [List.getElem?_eq_getElem hlen, getElem!_pos (enc dk[j / k]) (j % k) hlen]
        rfl
      · rw [List.getElem?_eq_none (by rw [List.length_take, Array.length_toList]; omega), List.getElem?_eq_none (by rw [flat_len enc k hk, Array.length_toList, hd]; exact hj)]
theorem holdsK_own {α : Type} [Inhabited α] (enc : α → List Value) (k : Nat) (hk : ∀ x, (enc x).length = k) (h0 : 0 < k) {w : World} {base blk n cap : Nat} {e : TypeId} (dk : Array α) (h : w.ownsRow base e k (.slice (some ⟨blk, 0, none⟩) n cap) n (dk.toList.flatMap enc)) : HoldsK enc k w blk 0 dk := by
  have hl : dk.size = n := by
    have := h.1
    rw [flat_len enc k hk, Array.length_toList] at this
    exact Nat.eq_of_mul_eq_mul_right h0 this
  intro j hj
  rw [size_flatK] at hj
  have hq : j / k < dk.size := (Nat.div_lt_iff_lt_mul h0).2 hj
  have hr : j % k < k := Nat.mod_lt _ h0
  have hc := own_cell enc k hk h (j / k) (j % k) (by simpa using hq) (by omega) hr
  rw [Nat.div_add_mod' j k, Array.getElem_toList] at hc
  rw [Nat.zero_add, get_flatK enc k dk j hj, getElem!_pos dk _ hq]
  have hlen : j % k < (enc dk[j / k]).length := by rw [hk]; exact hr
  rw [List.getElem?_eq_getElem hlen] at hc
  rw [hc, getElem!_pos (enc dk[j / k]) (j % k) hlen]
  exact ⟨rfl, h.frozenAt _⟩
end Go.Proofs.YthbcogekfdllmaaGreat
