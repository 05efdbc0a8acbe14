/-
  slices.Sort and slices.Compact of strings, on a row of the call's own, by contracts.
-/
import Derived.Test.YtfmljboogkhobaaGreatDoorZSep
import Derived.Test.YtfmljboogkhobaaGreatDoorZOwnSet
import Derived.Test.YtfmljboogkhobaaGreatDoorZSrt
namespace Go.Proofs.YtfmljboogkhobaaGreatDoor
open Go Go.RowKit Go.Sort

def rowW {α : Type} [Inhabited α] (enc : α → Value) (w : World) (blk m : Nat) (d : Array α) (os : Array Obj) : World := grow (putRow enc (Sort.ahead w m) blk 0 d) os
section
variable {α : Type} [Inhabited α] (enc : α → Value) (w : World) (blk m : Nat) (d : Array α) (os : Array Obj)
theorem rowW_heap (i : Nat) (hi : i < w.heap.size) : (rowW enc w blk m d os).heap[i]? = (mapBlock w blk (putCells enc 0 d)).heap[i]? := by
  have e : (rowW enc w blk m d os).heap = (mapBlock w blk (putCells enc 0 d)).heap ++ os := rfl
  rw [e, Array.getElem?_append_left (by unfold mapBlock; simpa using hi)]
theorem rowW_size : w.heap.size ≤ (rowW enc w blk m d os).heap.size := by
  have e : (rowW enc w blk m d os).heap = (mapBlock w blk (putCells enc 0 d)).heap ++ os := rfl
  rw [e, Array.size_append]
  unfold mapBlock
  simp
theorem rowW_grown : w.grownBy (rowW enc w blk m d os) (some blk) := by
  refine ⟨rfl, rfl, rfl, rowW_size enc w blk m d os, fun i hi hn => ?_⟩
  rw [rowW_heap enc w blk m d os i hi]
  unfold mapBlock
  simp only [Array.getElem?_modify]
  rw [if_neg (fun e => hn (by rw [e]))]
theorem rowW_own {base n cap : Nat} {e : TypeId} {xs : List Value} (h : w.ownsRow base e 1 (.slice (some ⟨blk, 0, none⟩) n cap) n xs) (hd : d.size = n) :
    (rowW enc w blk m d os).ownsRow base e 1 (.slice (some ⟨blk, 0, none⟩) n cap) n (d.toList.map enc) := by
  have hlt := (h.lt blk rfl).2
  refine ⟨by rw [List.length_map, Array.length_toList, hd]; omega, ?_⟩
  rcases h.2 with ⟨he, _⟩ | ⟨g, cap', cur, he, hb, hg, h1, h2, h3, h4⟩
  · cases he
  · injection he with he1 he2 he3
    injection he1 with he1
    injection he1 with he1
    subst he1 he3
    refine .inr ⟨blk, cap, putCells enc 0 d cur, rfl, hb, ?_, h1, h2, ?_, ?_⟩
    · rw [rowW_heap enc w blk m d os blk hlt]
      unfold mapBlock
      simp only [Array.getElem?_modify]
      rw [if_pos trivial, hg]
      rfl
    · unfold putCells; rw [Array.size_mapIdx, h3]
    · refine List.ext_getElem? fun j => ?_
      rcases Nat.lt_or_ge j n with hj | hj
      · rw [List.getElem?_take_of_lt (by omega), Array.getElem?_toList]
        unfold putCells
        rw [Array.getElem?_mapIdx, Array.getElem?_eq_getElem (by omega)]
        simp only [Option.map_some]
        rw [if_pos ⟨Nat.zero_le _, by omega⟩, Nat.sub_zero, List.getElem?_map, Array.getElem?_toList, Array.getElem?_eq_getElem (by omega), getElem!_pos d j (by omega)]
        rfl
      · rw [List.getElem?_eq_none (by rw [List.length_take, Array.length_toList]; omega), List.getElem?_eq_none (by rw [List.length_map, Array.length_toList]; omega)]
theorem holds_ownS {base n cap : Nat} {e : TypeId} (h : w.ownsRow base e 1 (.slice (some ⟨blk, 0, none⟩) n cap) n (d.toList.map enc)) : Holds enc w blk 0 d := by
  intro j hj
  have hl : d.size = n := by have := h.1; simpa using this
  have hc := h.cellAt j (by omega)
  rw [List.getElem?_map, Array.getElem?_toList, Array.getElem?_eq_getElem hj] at hc
  rw [Nat.zero_add, getElem!_pos d j hj]
  exact ⟨hc, h.frozenAt _⟩
end
theorem grow_none (W : World) : grow W #[] = W := by
  unfold grow
  simp
theorem compact_le (ls : List (List UInt8)) : (Lib.compact ls).length ≤ ls.length := by
  unfold Lib.compact Lib.compactUpTo
  rw [List.length_map]
  refine Nat.le_trans (List.length_filter_le _ _) ?_
  rw [List.length_range]
  exact Nat.le_refl _
def svB (ls : List (List UInt8)) : List Value := ls.map encStr
def srtL (ls : List (List UInt8)) : List (List UInt8) := ls.mergeSort fun x y => decide (x ≤ y)
theorem srtL_len (ls : List (List UInt8)) : (srtL ls).length = ls.length := List.length_mergeSort ls
theorem svB_len (ls : List (List UInt8)) : (svB ls).length = ls.length := by unfold svB; simp
theorem sortS_calls (w0 w : World) (rs : List Rsc) (A : Option Addr) (n c : Nat) (ls : List (List UInt8)) (hn : n ≤ 1000000) (hS : Sq w0 w (rOwn w0.heap.size 9 1 (.slice A n c) n (svB ls) :: rs)) :
    Calls Tryz.prog 106 #[.slice A n c] w fun e w' => e = .returned (.tuple #[]) ∧ Sq w0 w' (rOwn w0.heap.size 9 1 (.slice A n c) n (svB (srtL ls)) :: rs) := by
  have hown : w.ownsRow w0.heap.size 9 1 (.slice A n c) n (svB ls) := hS.head
  have hlen : ls.length = n := by have := hown.1; rw [svB_len] at this; omega
  by_cases h0 : n = 0
  · subst h0
    have : ls = [] := List.eq_nil_of_length_eq_zero hlen
    subst this
    have e0 : srtL [] = [] := by unfold srtL; simp
    rw [e0]
    refine (Tryz.slices_Sort_string_none A c w).mono ?_
    rintro e w' ⟨rfl, rfl⟩
    exact ⟨rfl, hS⟩
  · obtain ⟨g, c', hv, _, hlt⟩ := hown.form (by omega)
    injection hv with hv1 _ hv3
    subst hv1 hv3
    have h := Tryz.slices_Sort_string g 0 c ls w (holds_ownS encStr w g ls.toArray (by simpa [svB] using hown)) (hown.lt g rfl).2 (by omega)
    rw [hlen] at h
    refine h.mono ?_
    rintro e w' ⟨rfl, m, os, rfl⟩
    refine ⟨rfl, hS.turn (rowW_grown encStr w g m (srtL ls).toArray os) (fun k hk => by injection hk with hk; subst hk; rfl) ?_ (rOwn_ok _ _ _ _ _ _) (fun k hk => ?_)⟩
    · have h9 : (rowW encStr w g m (srtL ls).toArray os).ownsRow w0.heap.size 9 1 (.slice (some ⟨g, 0, none⟩) n c) n (svB (srtL ls)) := by
        have := rowW_own encStr w g m (srtL ls).toArray os hown (by simp [srtL_len, hlen])
        simpa [svB] using this
      exact h9
    · have hk : some g = some k := hk
      injection hk with hk
      subst hk
      exact ⟨.inl rfl, Nat.lt_of_lt_of_le (hown.lt g rfl).2 (rowW_size encStr w g m (srtL ls).toArray os)⟩
theorem compS_calls (w0 w : World) (rs : List Rsc) (A : Option Addr) (n c : Nat) (ls : List (List UInt8)) (hn : n ≤ 1000000) (hS : Sq w0 w (rOwn w0.heap.size 9 1 (.slice A n c) n (svB ls) :: rs)) :
    Calls Tryz.prog 107 #[.slice A n c] w fun e w' => e = .returned (.slice A (Lib.compact ls).length c) ∧ Sq w0 w' (rOwn w0.heap.size 9 1 (.slice A (Lib.compact ls).length c) (Lib.compact ls).length (svB (Lib.compact ls)) :: rs) := by
  have hown : w.ownsRow w0.heap.size 9 1 (.slice A n c) n (svB ls) := hS.head
  have hlen : ls.length = n := by have := hown.1; rw [svB_len] at this; omega
  by_cases h0 : n = 0
  · subst h0
    have : ls = [] := List.eq_nil_of_length_eq_zero hlen
    subst this
    refine (Tryz.slices_Compact_string_empty A c w).mono ?_
    rintro e w' ⟨rfl, rfl⟩
    exact ⟨rfl, hS⟩
  · obtain ⟨g, c', hv, _, hlt⟩ := hown.form (by omega)
    injection hv with hv1 _ hv3
    subst hv1 hv3
    have h := Tryz.slices_Compact_string g 0 c ls w (holds_ownS encStr w g ls.toArray (by simpa [svB] using hown)) (by omega) (by rw [hlen]; exact (own_cap hown).1)
    rw [hlen] at h
    have hle : (Lib.compact ls).length ≤ n := by rw [← hlen]; exact compact_le ls
    refine h.mono ?_
    rintro e w' ⟨rfl, q, hw⟩
    have hw : w' = rowW encStr w g q (Lib.compact ls ++ List.replicate (n - (Lib.compact ls).length) []).toArray #[] := by
      rw [hw]
      unfold rowW
      rw [grow_none]
    subst hw
    obtain ⟨D, hD⟩ : ∃ D, (Lib.compact ls ++ List.replicate (n - (Lib.compact ls).length) []) = D := ⟨_, rfl⟩
    have hDl : D.length = n := by rw [← hD]; simp; omega
    have hDt : D.take (Lib.compact ls).length = Lib.compact ls := by rw [← hD]; exact List.take_left
    rw [hD]
    have hS2 : Sq w0 (rowW encStr w g q D.toArray #[]) (rOwn w0.heap.size 9 1 (.slice (some ⟨g, 0, none⟩) n c) n (svB D) :: rs) := by
      refine hS.turn (rowW_grown encStr w g q D.toArray #[]) (fun k hk => by injection hk with hk; subst hk; rfl) ?_ (rOwn_ok _ _ _ _ _ _) (fun k hk => ?_)
      · have h9 : (rowW encStr w g q D.toArray #[]).ownsRow w0.heap.size 9 1 (.slice (some ⟨g, 0, none⟩) n c) n (svB D) := by
          have := rowW_own encStr w g q D.toArray #[] hown (by simp [hDl])
          simpa [svB] using this
        exact h9
      · have hk : some g = some k := hk
        injection hk with hk
        subst hk
        exact ⟨.inl rfl, Nat.lt_of_lt_of_le (hown.lt g rfl).2 (rowW_size encStr w g q D.toArray #[])⟩
    have hS3 := hS2.short hle
    have e : (svB D).take ((Lib.compact ls).length * 1) = svB (Lib.compact ls) := by
      unfold svB
      rw [Nat.mul_one, ← List.map_take, hDt]
    rw [e] at hS3
    exact ⟨rfl, hS3⟩
end Go.Proofs.YtfmljboogkhobaaGreatDoor
