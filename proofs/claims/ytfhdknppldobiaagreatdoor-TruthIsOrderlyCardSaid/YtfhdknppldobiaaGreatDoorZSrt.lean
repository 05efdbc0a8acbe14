/-
  DERIVED: THE SHELF's CONTRACTS AT THIS DUMP, IN PLAIN WORDS (tools/lay-plain.mjs out of 'TryzShelf.lean', which tools/lay-shelf.mjs wrote): THE SAME DECLARATIONS UNDER THE SAME NAMES: 'import', 'namespace', 'open', 'def', 'theorem' AND NOTHING ELSE: no command of the shelf's: FOR A HAND-IN. Each laying: the table of numbers ('.._ren') and one theorem, a field a fact of the dump's own or the kernel's comparison; each contract: ONE APPLICATION.
-/
import Derived.Shelf.Strings.Builder1
import Derived.Shelf.Strings.Builder2
import Derived.Shelf.Strings.OnBuilder
import Derived.Shelf.Small.Bits
import Derived.Shelf.Small.Strs
import Derived.Shelf.Small.Wraps
import Derived.Shelf.Strings.BuilderF
import Derived.Shelf.Strconv.Atoi
import Derived.Shelf.LaysM
import Derived.Shelf.Strings.Search1
import Derived.Shelf.Strings.Search2
import Derived.Shelf.Strings.Search3
import Derived.Shelf.Strings.Cut
import Derived.Shelf.Strings.Count
import Derived.Shelf.Strings.Shaped
import Derived.Shelf.Sort.Plain
import Derived.Shelf.Strings.Prefix
import Derived.Shelf.Strings.Split
import Derived.Shelf.Strings.SplitShaped
import Derived.Shelf.Slices.Turned
import Derived.Shelf.Slices.CompactS
import Derived.Shelf.Slices.In.SortNone
import Derived.Ground.SlgnProg
import Derived.Test.YtfhdknppldobiaaGreatDoorProg
import Derived.Test.YtfhdknppldobiaaGreatDoorZSq
import Derived.Test.YtfhdknppldobiaaGreatDoorZClk
import Derived.Test.YtfhdknppldobiaaGreatDoorZRst1
import Derived.Test.YtfhdknppldobiaaGreatDoorZTidPure
import Derived.Deep.DeepCutAuto
import Derived.Test.YtfhdknppldobiaaGreatDoorZChkPure2
import Derived.Test.YtfhdknppldobiaaGreatDoorZRule1
import Derived.Test.YtfhdknppldobiaaGreatDoorZRun1
import Derived.Test.YtfhdknppldobiaaGreatDoorZRatMake4
import Derived.Test.YtfhdknppldobiaaGreatDoorZRule3
import Derived.Deep.CutBlock
namespace Go.Proofs
open Go.Shelf
def Tryz.lays190_ren : Go.Shelf.Ren := ⟨fun | 190 => 105 | 125 => 157 | 258 => 156 | 128 => 198 | 129 => 199 | 302 => 190 | 303 => 191 | 304 => 192 | 305 => 193 | 306 => 194 | 307 => 195 | 308 => 186 | 309 => 196 | 310 => 197 | 333 => 235 | 329 => 236 | 330 => 237 | 334 => 238 | 335 => 239 | 336 => 233 | 344 => 258 | n => n, fun | 31 => 37 | 9 => 9 | 3 => 3 | 46 => 190 | 0 => 0 | 51 => 227 | 53 => 229 | 4 => 4 | 183 => 221 | 182 => 220 | 131 => 156 | 5 => 5 | 218 => 250 | 222 => 254 | 228 => 270 | 229 => 271 | n => n, fun | n => n⟩
theorem Tryz.lays190 : Go.Proofs.Lays.n190 Tryz.prog Tryz.lays190_ren := {
  mixed := by kernel_rfl
  f125 := Tryz.func157.trans (congrArg some (by kernel_rfl))
  f128 := Tryz.func198.trans (congrArg some (by kernel_rfl))
  f129 := Tryz.func199.trans (congrArg some (by kernel_rfl))
  f190 := Tryz.func105.trans (congrArg some (by kernel_rfl))
  f258 := Tryz.func156.trans (congrArg some (by kernel_rfl))
  f302 := Tryz.func190.trans (congrArg some (by kernel_rfl))
  f303 := Tryz.func191.trans (congrArg some (by kernel_rfl))
  f304 := Tryz.func192.trans (congrArg some (by kernel_rfl))
  f305 := Tryz.func193.trans (congrArg some (by kernel_rfl))
  f306 := Tryz.func194.trans (congrArg some (by kernel_rfl))
  f307 := Tryz.func195.trans (congrArg some (by kernel_rfl))
  f308 := Tryz.func186.trans (congrArg some (by kernel_rfl))
  f309 := Tryz.func196.trans (congrArg some (by kernel_rfl))
  f310 := Tryz.func197.trans (congrArg some (by kernel_rfl))
  f329 := Tryz.func236.trans (congrArg some (by kernel_rfl))
  f330 := Tryz.func237.trans (congrArg some (by kernel_rfl))
  f333 := Tryz.func235.trans (congrArg some (by kernel_rfl))
  f334 := Tryz.func238.trans (congrArg some (by kernel_rfl))
  f335 := Tryz.func239.trans (congrArg some (by kernel_rfl))
  f336 := Tryz.func233.trans (congrArg some (by kernel_rfl))
  f344 := Tryz.func258.trans (congrArg some (by kernel_rfl))
  t0 := Tryz.underlying0
  a0 := Tryz.isAgg0
  z0 := Tryz.sizeOf0
  v0 := Tryz.zeroValue0
  t3 := Tryz.underlying3
  a3 := Tryz.isAgg3
  z3 := Tryz.sizeOf3
  v3 := Tryz.zeroValue3
  t4 := Tryz.underlying4
  a4 := Tryz.isAgg4
  z4 := Tryz.sizeOf4
  v4 := Tryz.zeroValue4
  t5 := Tryz.underlying5
  a5 := Tryz.isAgg5
  z5 := Tryz.sizeOf5
  v5 := Tryz.zeroValue5
  t9 := Tryz.underlying9
  a9 := Tryz.isAgg9
  z9 := Tryz.sizeOf9
  v9 := Tryz.zeroValue9
  t31 := Tryz.underlying37
  a31 := Tryz.isAgg37
  z31 := Tryz.sizeOf37
  v31 := Tryz.zeroValue37
  t46 := Tryz.underlying190
  a46 := Tryz.isAgg190
  z46 := Tryz.sizeOf190
  v46 := Tryz.zeroValue190
  t51 := Tryz.underlying227
  a51 := Tryz.isAgg227
  z51 := Tryz.sizeOf227
  v51 := Tryz.zeroValue227
  t53 := Tryz.underlying229
  a53 := Tryz.isAgg229
  z53 := Tryz.sizeOf229
  v53 := Tryz.zeroValue229
  t131 := Tryz.underlying156
  a131 := Tryz.isAgg156
  z131 := Tryz.sizeOf156
  v131 := Tryz.zeroValue156
  t182 := Tryz.underlying220
  a182 := Tryz.isAgg220
  z182 := Tryz.sizeOf220
  v182 := Tryz.zeroValue220
  t183 := Tryz.underlying221
  a183 := Tryz.isAgg221
  z183 := Tryz.sizeOf221
  v183 := Tryz.zeroValue221
  t218 := Tryz.underlying250
  a218 := Tryz.isAgg250
  z218 := Tryz.sizeOf250
  v218 := Tryz.zeroValue250
  t222 := Tryz.underlying254
  a222 := Tryz.isAgg254
  z222 := Tryz.sizeOf254
  v222 := Tryz.zeroValue254
  t228 := Tryz.underlying270
  a228 := Tryz.isAgg270
  z228 := Tryz.sizeOf270
  v228 := Tryz.zeroValue270
  t229 := Tryz.underlying271
  a229 := Tryz.isAgg271
  z229 := Tryz.sizeOf271
  v229 := Tryz.zeroValue271 }
open Go.Sort Go.RowKit in
theorem Tryz.slices_Sort_string (blk off cap : Nat) (ss : List (List UInt8)) (w : World) (hH : Holds encStr w blk off ss.toArray) (hblk : blk < w.heap.size) (hsz : ss.length < 4611686018427387904) :
    Calls Tryz.prog 105 #[.slice (some ⟨blk, off, none⟩) ss.length cap] w fun e w' =>
      e = .returned (.tuple #[]) ∧ ∃ n os, w' = grow (putRow encStr (Sort.ahead w n) blk off (ss.mergeSort fun x y => decide (x ≤ y)).toArray) os := Any.slices_Sort_string Tryz.lays190 blk off cap ss w hH hblk hsz
def Tryz.lays194_ren : Go.Shelf.Ren := ⟨fun | 194 => 106 | n => n, fun | 31 => 37 | 9 => 9 | 3 => 3 | 4 => 4 | 0 => 0 | n => n, fun | n => n⟩
theorem Tryz.lays194 : Go.Proofs.Lays.n194 Tryz.prog Tryz.lays194_ren := {
  mixed := by kernel_rfl
  f194 := Tryz.func106.trans (congrArg some (by kernel_rfl))
  t0 := Tryz.underlying0
  a0 := Tryz.isAgg0
  z0 := Tryz.sizeOf0
  v0 := Tryz.zeroValue0
  t3 := Tryz.underlying3
  a3 := Tryz.isAgg3
  z3 := Tryz.sizeOf3
  v3 := Tryz.zeroValue3
  t4 := Tryz.underlying4
  a4 := Tryz.isAgg4
  z4 := Tryz.sizeOf4
  v4 := Tryz.zeroValue4
  t9 := Tryz.underlying9
  a9 := Tryz.isAgg9
  z9 := Tryz.sizeOf9
  v9 := Tryz.zeroValue9
  t31 := Tryz.underlying37
  a31 := Tryz.isAgg37
  z31 := Tryz.sizeOf37
  v31 := Tryz.zeroValue37 }
open Go.RowKit Go.Lib Go.Sort in
/-- slices.Compact at []string: "Compact replaces consecutive runs of equal elements with a single copy. This is like the uniq command found on Unix. Compact modifies the contents of the slice s and returns the modified slice, which may have a smaller length. Compact zeroes the elements between the new length and the original length. The result preserves the nilness of s.": IT RETURNS THE SLICE CUT TO 'Lib.compact zs'; ITS CELLS HOLD 'Lib.compact zs', THEN ZERO VALUES up to the old length; all else is as it was, but for the count of draws. IN THE WORDS OF slices.Sort's CONTRACT ('Holds', 'putRow'): so the everyday 'slices.Sort(xs); xs = slices.Compact(xs)' goes from the one contract to the other. It asks 'zs.length ≤ cap' (every slice's: the reslicing 's[:k]' looks at it). Length 0, nil: '.._empty'. (LAID: no walk: one application.) -/
theorem Tryz.slices_Compact_string (blk off cap : Nat) (zs : List (List UInt8)) (w : World) (hH : Holds encStr w blk off zs.toArray) (hsz : zs.length ≤ 9223372036854775807) (hcap : zs.length ≤ cap) :
    Calls Tryz.prog 106 #[.slice (some ⟨blk, off, none⟩) zs.length cap] w fun e w' => e = .returned (.slice (some ⟨blk, off, none⟩) (Lib.compact zs).length cap) ∧ ∃ q, w' = putRow encStr (Sort.ahead w q) blk off (Lib.compact zs ++ List.replicate (zs.length - (Lib.compact zs).length) []).toArray := Any.slices_Compact_string Tryz.lays194 blk off cap zs w hH hsz hcap
open Go.RowKit Go.Lib Go.Sort in
/-- The same at a slice of length 0, a nil one too: it comes back as it is. (LAID: no walk: one application.) -/
theorem Tryz.slices_Compact_string_empty (a : Option Addr) (cap : Nat) (w : World) :
    Calls Tryz.prog 106 #[.slice a 0 cap] w fun e w' => e = .returned (.slice a 0 cap) ∧ w' = w := Any.slices_Compact_string_empty Tryz.lays194 a cap w
open Go.RowKit Go.Sort in
/-- .. and plain. (LAID: no walk: one application.) -/
theorem Tryz.slices_Sort_string_none (p : Option Addr) (cap : Nat) (w : World) :
    Calls Tryz.prog 105 #[.slice p 0 cap] w fun e w' => e = .returned (.tuple #[]) ∧ w' = w := Any.slices_Sort_string_none Tryz.lays190 p cap w
end Go.Proofs
/-
  slices.Sort and slices.Compact of strings, on a row of the call's own, by contracts.
-/
namespace Go.Proofs.YtfhdknppldobiaaGreatDoor
open Go Go.RowKit Go.Sort

def rowW {α : Type} [Inhabited α] (enc : α → Value) (w : World) (blk m : Nat) (d : Array α) (os : Array Obj) : World := grow (putRow enc (Sort.ahead w m) blk 0 d) os
section
variable {α : Type} [Inhabited α] (enc : α → Value) (w : World) (blk m : Nat) (d : Array α) (os : Array Obj)
theorem rowW_heap (i : Nat) (hi : i < w.heap.size) : (rowW enc w blk m d os).heap[i]? = (mapBlock w blk (putCells enc 0 d)).heap[i]? := by
  have e : (rowW enc w blk m d os).heap = (mapBlock w blk (putCells enc 0 d)).heap ++ os := rfl
  rw [e, Array.getElem?_append_left (by unfold mapBlock; simpa using hi)]
theorem rowW_size : w.heap.size ≤ (rowW enc w blk m d os).heap.size := by
  have e : (rowW enc w blk m d os).heap = (mapBlock w blk (putCells enc 0 d)).heap ++ os := rfl
  rw [e, Array.size_append]
  unfold mapBlock
  simp
theorem rowW_grown : w.grownBy (rowW enc w blk m d os) (some blk) := by
  refine ⟨rfl, rfl, rfl, rowW_size enc w blk m d os, fun i hi hn => ?_⟩
  rw [rowW_heap enc w blk m d os i hi]
  unfold mapBlock
  simp only [Array.getElem?_modify]
  rw [if_neg (fun e => hn (by rw [e]))]
theorem rowW_own {base n cap : Nat} {e : TypeId} {xs : List Value} (h : w.ownsRow base e 1 (.slice (some ⟨blk, 0, none⟩) n cap) n xs) (hd : d.size = n) :
    (rowW enc w blk m d os).ownsRow base e 1 (.slice (some ⟨blk, 0, none⟩) n cap) n (d.toList.map enc) := by
  have hlt := (h.lt blk rfl).2
  refine ⟨by rw [List.length_map, Array.length_toList, hd]; omega, ?_⟩
  rcases h.2 with ⟨he, _⟩ | ⟨g, cap', cur, he, hb, hg, h1, h2, h3, h4⟩
  · cases he
  · injection he with he1 he2 he3
    injection he1 with he1
    injection he1 with he1
    subst he1 he3
    refine .inr ⟨blk, cap, putCells enc 0 d cur, rfl, hb, ?_, h1, h2, ?_, ?_⟩
    · rw [rowW_heap enc w blk m d os blk hlt]
      unfold mapBlock
      simp only [Array.getElem?_modify]
      rw [if_pos trivial, hg]
      rfl
    · unfold putCells; rw [Array.size_mapIdx, h3]
    · refine List.ext_getElem? fun j => ?_
      rcases Nat.lt_or_ge j n with hj | hj
      · rw [List.getElem?_take_of_lt (by omega), Array.getElem?_toList]
        unfold putCells
        rw [Array.getElem?_mapIdx, Array.getElem?_eq_getElem (by omega)]
        simp only [Option.map_some]
        rw [if_pos ⟨Nat.zero_le _, by omega⟩, Nat.sub_zero, List.getElem?_map, Array.getElem?_toList, Array.getElem?_eq_getElem (by omega), getElem!_pos d j (by omega)]
        rfl
      · rw [List.getElem?_eq_none (by rw [List.length_take, Array.length_toList]; omega), List.getElem?_eq_none (by rw [List.length_map, Array.length_toList]; omega)]
theorem holds_ownS {base n cap : Nat} {e : TypeId} (h : w.ownsRow base e 1 (.slice (some ⟨blk, 0, none⟩) n cap) n (d.toList.map enc)) : Holds enc w blk 0 d := by
  intro j hj
  have hl : d.size = n := by have := h.1; simpa using this
  have hc := h.cellAt j (by omega)
  rw [List.getElem?_map, Array.getElem?_toList, Array.getElem?_eq_getElem hj] at hc
  rw [Nat.zero_add, getElem!_pos d j hj]
  exact ⟨hc, h.frozenAt _⟩
end
theorem grow_none (W : World) : grow W #[] = W := by
  unfold grow
  simp
theorem compact_le (ls : List (List UInt8)) : (Lib.compact ls).length ≤ ls.length := by
  unfold Lib.compact Lib.compactUpTo
  rw [List.length_map]
  refine Nat.le_trans (List.length_filter_le _ _) ?_
  rw [List.length_range]
  exact Nat.le_refl _
def svB (ls : List (List UInt8)) : List Value := ls.map encStr
def srtL (ls : List (List UInt8)) : List (List UInt8) := ls.mergeSort fun x y => decide (x ≤ y)
theorem srtL_len (ls : List (List UInt8)) : (srtL ls).length = ls.length := List.length_mergeSort ls
theorem svB_len (ls : List (List UInt8)) : (svB ls).length = ls.length := by unfold svB; simp
theorem sortS_calls (w0 w : World) (rs : List Rsc) (A : Option Addr) (n c : Nat) (ls : List (List UInt8)) (hn : n ≤ 1000000) (hS : Sq w0 w (rOwn w0.heap.size 9 1 (.slice A n c) n (svB ls) :: rs)) :
    Calls Tryz.prog 105 #[.slice A n c] w fun e w' => e = .returned (.tuple #[]) ∧ Sq w0 w' (rOwn w0.heap.size 9 1 (.slice A n c) n (svB (srtL ls)) :: rs) := by
  have hown : w.ownsRow w0.heap.size 9 1 (.slice A n c) n (svB ls) := hS.head
  have hlen : ls.length = n := by have := hown.1; rw [svB_len] at this; omega
  by_cases h0 : n = 0
  · subst h0
    have : ls = [] := List.eq_nil_of_length_eq_zero hlen
    subst this
    have e0 : srtL [] = [] := by unfold srtL; simp
    rw [e0]
    refine (Tryz.slices_Sort_string_none A c w).mono ?_
    rintro e w' ⟨rfl, rfl⟩
    exact ⟨rfl, hS⟩
  · obtain ⟨g, c', hv, _, hlt⟩ := hown.form (by omega)
    injection hv with hv1 _ hv3
    subst hv1 hv3
    have h := Tryz.slices_Sort_string g 0 c ls w (holds_ownS encStr w g ls.toArray (by simpa [svB] using hown)) (hown.lt g rfl).2 (by omega)
    rw [hlen] at h
    refine h.mono ?_
    rintro e w' ⟨rfl, m, os, rfl⟩
    refine ⟨rfl, hS.turn (rowW_grown encStr w g m (srtL ls).toArray os) (fun k hk => by injection hk with hk; subst hk; rfl) ?_ (rOwn_ok _ _ _ _ _ _) (fun k hk => ?_)⟩
    · have h9 : (rowW encStr w g m (srtL ls).toArray os).ownsRow w0.heap.size 9 1 (.slice (some ⟨g, 0, none⟩) n c) n (svB (srtL ls)) := by
        have := rowW_own encStr w g m (srtL ls).toArray os hown (by simp [srtL_len, hlen])
        simpa [svB] using this
      exact h9
    · have hk : some g = some k := hk
      injection hk with hk
      subst hk
      exact ⟨.inl rfl, Nat.lt_of_lt_of_le (hown.lt g rfl).2 (rowW_size encStr w g m (srtL ls).toArray os)⟩
theorem compS_calls (w0 w : World) (rs : List Rsc) (A : Option Addr) (n c : Nat) (ls : List (List UInt8)) (hn : n ≤ 1000000) (hS : Sq w0 w (rOwn w0.heap.size 9 1 (.slice A n c) n (svB ls) :: rs)) :
    Calls Tryz.prog 106 #[.slice A n c] w fun e w' => e = .returned (.slice A (Lib.compact ls).length c) ∧ Sq w0 w' (rOwn w0.heap.size 9 1 (.slice A (Lib.compact ls).length c) (Lib.compact ls).length (svB (Lib.compact ls)) :: rs) := by
  have hown : w.ownsRow w0.heap.size 9 1 (.slice A n c) n (svB ls) := hS.head
  have hlen : ls.length = n := by have := hown.1; rw [svB_len] at this; omega
  by_cases h0 : n = 0
  · subst h0
    have : ls = [] := List.eq_nil_of_length_eq_zero hlen
    subst this
    refine (Tryz.slices_Compact_string_empty A c w).mono ?_
    rintro e w' ⟨rfl, rfl⟩
    exact ⟨rfl, hS⟩
  · obtain ⟨g, c', hv, _, hlt⟩ := hown.form (by omega)
    injection hv with hv1 _ hv3
    subst hv1 hv3
    have h := Tryz.slices_Compact_string g 0 c ls w (holds_ownS encStr w g ls.toArray (by simpa [svB] using hown)) (by omega) (by rw [hlen]; exact (own_cap hown).1)
    rw [hlen] at h
    have hle : (Lib.compact ls).length ≤ n := by rw [← hlen]; exact compact_le ls
    refine h.mono ?_
    rintro e w' ⟨rfl, q, hw⟩
    have hw : w' = rowW encStr w g q (Lib.compact ls ++ List.replicate (n - (Lib.compact ls).length) []).toArray #[] := by
      rw [hw]
      unfold rowW
      rw [grow_none]
    subst hw
    obtain ⟨D, hD⟩ : ∃ D, (Lib.compact ls ++ List.replicate (n - (Lib.compact ls).length) []) = D := ⟨_, rfl⟩
    have hDl : D.length = n := by rw [← hD]; simp; omega
    have hDt : D.take (Lib.compact ls).length = Lib.compact ls := by rw [← hD]; exact List.take_left
    rw [hD]
    have hS2 : Sq w0 (rowW encStr w g q D.toArray #[]) (rOwn w0.heap.size 9 1 (.slice (some ⟨g, 0, none⟩) n c) n (svB D) :: rs) := by
      refine hS.turn (rowW_grown encStr w g q D.toArray #[]) (fun k hk => by injection hk with hk; subst hk; rfl) ?_ (rOwn_ok _ _ _ _ _ _) (fun k hk => ?_)
      · have h9 : (rowW encStr w g q D.toArray #[]).ownsRow w0.heap.size 9 1 (.slice (some ⟨g, 0, none⟩) n c) n (svB D) := by
          have := rowW_own encStr w g q D.toArray #[] hown (by simp [hDl])
          simpa [svB] using this
        exact h9
      · have hk : some g = some k := hk
        injection hk with hk
        subst hk
        exact ⟨.inl rfl, Nat.lt_of_lt_of_le (hown.lt g rfl).2 (rowW_size encStr w g q D.toArray #[])⟩
    have hS3 := hS2.short hle
    have e : (svB D).take ((Lib.compact ls).length * 1) = svB (Lib.compact ls) := by
      unfold svB
      rw [Nat.mul_one, ← List.map_take, hDt]
    rw [e] at hS3
    exact ⟨rfl, hS3⟩
end Go.Proofs.YtfhdknppldobiaaGreatDoor
/-
  DERIVED: THE SHELF's CONTRACTS AT THIS DUMP, IN PLAIN WORDS (tools/lay-plain.mjs out of 'TryzShelf.lean', which tools/lay-shelf.mjs wrote): THE SAME DECLARATIONS UNDER THE SAME NAMES: 'import', 'namespace', 'open', 'def', 'theorem' AND NOTHING ELSE: no command of the shelf's: FOR A HAND-IN. Each laying: the table of numbers ('.._ren') and one theorem, a field a fact of the dump's own or the kernel's comparison; each contract: ONE APPLICATION.
-/
namespace Go.Proofs
open Go.Shelf
def Tryz.lays156_ren : Go.Shelf.Ren := ⟨fun | 156 => 153 | 165 => 189 | 166 => 119 | 169 => 121 | 240 => 167 | 241 => 234 | 276 => 218 | 277 => 257 | n => n, fun | 31 => 37 | 9 => 9 | 3 => 3 | 4 => 4 | 0 => 0 | 20 => 20 | 72 => 150 | 76 => 153 | 70 => 147 | 37 => 148 | 75 => 152 | 127 => 199 | 164 => 241 | 5 => 5 | 80 => 66 | n => n, fun | n => n⟩
theorem Tryz.lays156 : Go.Proofs.Lays.n156 Tryz.prog Tryz.lays156_ren := {
  mixed := by kernel_rfl
  f156 := Tryz.func153.trans (congrArg some (by kernel_rfl))
  f165 := Tryz.func189.trans (congrArg some (by kernel_rfl))
  f166 := Tryz.func119.trans (congrArg some (by kernel_rfl))
  f169 := Tryz.func121.trans (congrArg some (by kernel_rfl))
  f240 := Tryz.func167.trans (congrArg some (by kernel_rfl))
  f241 := Tryz.func234.trans (congrArg some (by kernel_rfl))
  f276 := Tryz.func218.trans (congrArg some (by kernel_rfl))
  f277 := Tryz.func257.trans (congrArg some (by kernel_rfl))
  t0 := Tryz.underlying0
  a0 := Tryz.isAgg0
  z0 := Tryz.sizeOf0
  v0 := Tryz.zeroValue0
  t3 := Tryz.underlying3
  a3 := Tryz.isAgg3
  z3 := Tryz.sizeOf3
  v3 := Tryz.zeroValue3
  t4 := Tryz.underlying4
  a4 := Tryz.isAgg4
  z4 := Tryz.sizeOf4
  v4 := Tryz.zeroValue4
  t9 := Tryz.underlying9
  a9 := Tryz.isAgg9
  z9 := Tryz.sizeOf9
  v9 := Tryz.zeroValue9
  t20 := Tryz.underlying20
  a20 := Tryz.isAgg20
  z20 := Tryz.sizeOf20
  v20 := Tryz.zeroValue20
  t31 := Tryz.underlying37
  a31 := Tryz.isAgg37
  z31 := Tryz.sizeOf37
  v31 := Tryz.zeroValue37
  t37 := Tryz.underlying148
  a37 := Tryz.isAgg148
  z37 := Tryz.sizeOf148
  v37 := Tryz.zeroValue148
  t70 := Tryz.underlying147
  a70 := Tryz.isAgg147
  z70 := Tryz.sizeOf147
  v70 := Tryz.zeroValue147
  t72 := Tryz.underlying150
  a72 := Tryz.isAgg150
  z72 := Tryz.sizeOf150
  v72 := Tryz.zeroValue150
  t75 := Tryz.underlying152
  a75 := Tryz.isAgg152
  z75 := Tryz.sizeOf152
  v75 := Tryz.zeroValue152
  t76 := Tryz.underlying153
  a76 := Tryz.isAgg153
  z76 := Tryz.sizeOf153
  v76 := Tryz.zeroValue153
  t127 := Tryz.underlying199
  a127 := Tryz.isAgg199
  z127 := Tryz.sizeOf199
  v127 := Tryz.zeroValue199
  t164 := Tryz.underlying241
  a164 := Tryz.isAgg241
  z164 := Tryz.sizeOf241
  v164 := Tryz.zeroValue241 }
theorem Tryz.Builder_Extra_156 : Builder.Extra Tryz.prog Tryz.lays156_ren := {
  sizeBuilder := by kernel_rfl
  liesBuilder := by kernel_rfl
  t5 := Tryz.underlying5
  a5 := Tryz.isAgg5
  z5 := Tryz.sizeOf5
  v5 := Tryz.zeroValue5
  infoByte := by kernel_rfl
  cellsByte := by kernel_rfl
  sizeByte := by kernel_rfl
  neB5 := by decide }
open Go.RowKit in
/-- No element: the empty string; the world is as it was. (Whatever the slice's address and capacity: a nil slice too.) (LAID: no walk: one application.) -/
theorem Tryz.strings_Join_none (a : Option Addr) (c : Nat) (sep : ByteArray) (w : World) :
    Calls Tryz.prog 153 #[.slice a 0 c, .string sep] w fun e w' => e = .returned (.string ⟨#[]⟩) ∧ w' = w := Any.strings_Join_none Tryz.lays156 Tryz.Builder_Extra_156 a c sep w
open Go.RowKit in
/-- strings.Join: "Join concatenates the elements of its first argument to create a single string. The separator string sep is placed between elements in the resulting string.": HOWEVER MANY ELEMENTS. Below the heap's end the world is as it was. (LAID: no walk: one application.) -/
theorem Tryz.strings_Join (bk o c : Nat) (xs : List ByteArray) (sep : ByteArray) (w : World) (hcells : ∀ (j : Nat) x, xs[j]? = some x → w.cell? ⟨bk, o + j, none⟩ = some (.string x)) (hbk : bk < w.heap.size) (hN : xs.length ≤ 140737488355328) (hcap : xs.length ≤ c) (hlen : (Lib.join (xs.map (·.data.toList)) sep.data.toList).length ≤ 140737488355328) :
    Calls Tryz.prog 153 #[.slice (some ⟨bk, o, none⟩) xs.length c, .string sep] w fun e w' => e = .returned (.string ⟨(Lib.join (xs.map (·.data.toList)) sep.data.toList).toArray⟩) ∧ Below w.heap.size w w' := Any.strings_Join Tryz.lays156 Tryz.Builder_Extra_156 bk o c xs sep w hcells hbk hN hcap hlen
end Go.Proofs
/-
  The reference's atoms of a tree, AtomsOf by contracts. (Printed by gen_atq.py.)
-/
namespace Go.Proofs.YtfhdknppldobiaaGreatDoor
open Go Go.RowKit
attribute [local go_sem ↓] Go.wp_at_zero Go.wp_at_succ

theorem svB_cells (ls : List BL) : ∀ u ∈ svB ls, u.oneCell' = true := by
  intro u hu
  unfold svB at hu
  obtain ⟨x, _, rfl⟩ := List.mem_map.1 hu
  rfl
theorem svB_app (a b : List BL) : svB (a ++ b) = svB a ++ svB b := by unfold svB; simp
end Go.Proofs.YtfhdknppldobiaaGreatDoor
/-
  Whether the reference's tree holds: (node).truth by contract.
-/
namespace Go.Proofs.YtfhdknppldobiaaGreatDoor
open Go Go.RowKit
attribute [local go_sem ↓] Go.wp_at_zero Go.wp_at_succ

theorem NqV.row {w : World} {P : Nat → Prop} {A : Option Addr} {c : Nat} {op atom : ByteArray} {ks : List Nq} (h : NqV w P (A, c) (.node op atom ks)) :
    ∃ ps : List Qn, ks = ps.map (·.2) ∧ w.ownsRow 0 139 3 (.slice A ps.length c) ps.length (ps.flatMap qnC) ∧ ∀ p ∈ ps, NqV w P p.1 p.2 := by
  cases h with
  | mk A c op atom ps h1 h2 h3 => exact ⟨ps, rfl, h1, h3⟩
end Go.Proofs.YtfhdknppldobiaaGreatDoor
