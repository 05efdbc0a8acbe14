/-
  DERIVED: THE SHELF's CONTRACTS AT THIS DUMP, IN PLAIN WORDS (tools/lay-plain.mjs out of 'TryzShelf.lean', which tools/lay-shelf.mjs wrote): THE SAME DECLARATIONS UNDER THE SAME NAMES: 'import', 'namespace', 'open', 'def', 'theorem' AND NOTHING ELSE: no command of the shelf's: FOR A HAND-IN. Each laying: the table of numbers ('.._ren') and one theorem, a field a fact of the dump's own or the kernel's comparison; each contract: ONE APPLICATION.
-/
import Derived.Shelf.Strings.Builder1
import Derived.Shelf.Strings.Builder2
import Derived.Shelf.Strings.OnBuilder
import Derived.Shelf.Small.Strs
import Derived.Shelf.Strings.BuilderF
import Derived.Shelf.Strconv.Atoi
import Derived.Shelf.LaysM
import Derived.Shelf.Strings.Search1
import Derived.Shelf.Strings.Search2
import Derived.Shelf.Strings.Search3
import Derived.Shelf.Strings.Count
import Derived.Shelf.Strings.Shaped
import Derived.Shelf.Strings.Prefix
import Derived.Shelf.Strings.Split
import Derived.Shelf.Strings.SplitShaped
import Derived.Shelf.Slices.Turned
import Derived.Shelf.Slices.CompactS
import Derived.Test.YtlkapcjofgpiiaaGreatDoorProg
import Derived.Test.YtlkapcjofgpiiaaGreatDoorZSq
import Derived.Test.YtlkapcjofgpiiaaGreatDoorZOwnSet
import Derived.Sort.Grow
import Derived.Test.YtlkapcjofgpiiaaGreatDoorZTidPure
import Derived.Test.YtlkapcjofgpiiaaGreatDoorZPsd
import Derived.Test.YtlkapcjofgpiiaaGreatDoorZAppAny
import Derived.Test.YtlkapcjofgpiiaaGreatDoorZSlot1
import Derived.Deep.DeepCutAuto
namespace Go.Proofs
open Go.Shelf
def Tryz.lays194_ren : Go.Shelf.Ren := ⟨fun | 194 => 90 | n => n, fun | 31 => 37 | 9 => 9 | 3 => 3 | 4 => 4 | 0 => 0 | n => n, fun | n => n⟩
theorem Tryz.lays194 : Go.Proofs.Lays.n194 Tryz.prog Tryz.lays194_ren := {
  mixed := by kernel_rfl
  f194 := Tryz.func90.trans (congrArg some (by kernel_rfl))
  t0 := Tryz.underlying0
  a0 := Tryz.isAgg0
  z0 := Tryz.sizeOf0
  v0 := Tryz.zeroValue0
  t3 := Tryz.underlying3
  a3 := Tryz.isAgg3
  z3 := Tryz.sizeOf3
  v3 := Tryz.zeroValue3
  t4 := Tryz.underlying4
  a4 := Tryz.isAgg4
  z4 := Tryz.sizeOf4
  v4 := Tryz.zeroValue4
  t9 := Tryz.underlying9
  a9 := Tryz.isAgg9
  z9 := Tryz.sizeOf9
  v9 := Tryz.zeroValue9
  t31 := Tryz.underlying37
  a31 := Tryz.isAgg37
  z31 := Tryz.sizeOf37
  v31 := Tryz.zeroValue37 }
open Go.RowKit Go.Lib Go.Sort in
/-- slices.Compact at []string: "Compact replaces consecutive runs of equal elements with a single copy. This is like the uniq command found on Unix. Compact modifies the contents of the slice s and returns the modified slice, which may have a smaller length. Compact zeroes the elements between the new length and the original length. The result preserves the nilness of s.": IT RETURNS THE SLICE CUT TO 'Lib.compact zs'; ITS CELLS HOLD 'Lib.compact zs', THEN ZERO VALUES up to the old length; all else is as it was, but for the count of draws. IN THE WORDS OF slices.Sort's CONTRACT ('Holds', 'putRow'): so the everyday 'slices.Sort(xs); xs = slices.Compact(xs)' goes from the one contract to the other. It asks 'zs.length ≤ cap' (every slice's: the reslicing 's[:k]' looks at it). Length 0, nil: '.._empty'. (LAID: no walk: one application.) -/
theorem Tryz.slices_Compact_string (blk off cap : Nat) (zs : List (List UInt8)) (w : World) (hH : Holds encStr w blk off zs.toArray) (hsz : zs.length ≤ 9223372036854775807) (hcap : zs.length ≤ cap) :
    Calls Tryz.prog 90 #[.slice (some ⟨blk, off, none⟩) zs.length cap] w fun e w' => e = .returned (.slice (some ⟨blk, off, none⟩) (Lib.compact zs).length cap) ∧ ∃ q, w' = putRow encStr (Sort.ahead w q) blk off (Lib.compact zs ++ List.replicate (zs.length - (Lib.compact zs).length) []).toArray := Any.slices_Compact_string Tryz.lays194 blk off cap zs w hH hsz hcap
open Go.RowKit Go.Lib Go.Sort in
/-- The same at a slice of length 0, a nil one too: it comes back as it is. (LAID: no walk: one application.) -/
theorem Tryz.slices_Compact_string_empty (a : Option Addr) (cap : Nat) (w : World) :
    Calls Tryz.prog 90 #[.slice a 0 cap] w fun e w' => e = .returned (.slice a 0 cap) ∧ w' = w := Any.slices_Compact_string_empty Tryz.lays194 a cap w
end Go.Proofs
/-
  slices.Sort and slices.Compact of strings, on a row of the call's own, by contracts.
-/
namespace Go.Proofs.YtlkapcjofgpiiaaGreatDoor
open Go Go.RowKit Go.Sort

def rowW {α : Type} [Inhabited α] (enc : α → Value) (w : World) (blk m : Nat) (d : Array α) (os : Array Obj) : World := grow (putRow enc (Sort.ahead w m) blk 0 d) os
section
variable {α : Type} [Inhabited α] (enc : α → Value) (w : World) (blk m : Nat) (d : Array α) (os : Array Obj)
theorem rowW_heap (i : Nat) (hi : i < w.heap.size) : (rowW enc w blk m d os).heap[i]? = (mapBlock w blk (putCells enc 0 d)).heap[i]? := by
  have e : (rowW enc w blk m d os).heap = (mapBlock w blk (putCells enc 0 d)).heap ++ os := rfl
  rw [e, Array.getElem?_append_left (by unfold mapBlock; simpa using hi)]
theorem rowW_size : w.heap.size ≤ (rowW enc w blk m d os).heap.size := by
  have e : (rowW enc w blk m d os).heap = (mapBlock w blk (putCells enc 0 d)).heap ++ os := rfl
  rw [e, Array.size_append]
  unfold mapBlock
  simp
theorem rowW_grown : w.grownBy (rowW enc w blk m d os) (some blk) := by
  refine ⟨rfl, rfl, rfl, rowW_size enc w blk m d os, fun i hi hn => ?_⟩
  rw [rowW_heap enc w blk m d os i hi]
  unfold mapBlock
  simp only [Array.getElem?_modify]
  rw [if_neg (fun e => hn (by rw [e]))]
theorem rowW_own {base n cap : Nat} {e : TypeId} {xs : List Value} (h : w.ownsRow base e 1 (.slice (some ⟨blk, 0, none⟩) n cap) n xs) (hd : d.size = n) :
    (rowW enc w blk m d os).ownsRow base e 1 (.slice (some ⟨blk, 0, none⟩) n cap) n (d.toList.map enc) := by
  have hlt := (h.lt blk rfl).2
  refine ⟨by rw [List.length_map, Array.length_toList, hd]; omega, ?_⟩
  rcases h.2 with ⟨he, _⟩ | ⟨g, cap', cur, he, hb, hg, h1, h2, h3, h4⟩
  · cases he
  · injection he with he1 he2 he3
    injection he1 with he1
    injection he1 with he1
    subst he1 he3
    refine .inr ⟨blk, cap, putCells enc 0 d cur, rfl, hb, ?_, h1, h2, ?_, ?_⟩
    · rw [rowW_heap enc w blk m d os blk hlt]
      unfold mapBlock
      simp only [Array.getElem?_modify]
      rw [if_pos trivial, hg]
      rfl
    · unfold putCells; rw [Array.size_mapIdx, h3]
    · refine List.ext_getElem? fun j => ?_
      rcases Nat.lt_or_ge j n with hj | hj
      · rw [List.getElem?_take_of_lt (by omega), Array.getElem?_toList]
        unfold putCells
        rw [Array.getElem?_mapIdx, Array.getElem?_eq_getElem (by omega)]
        simp only [Option.map_some]
        rw [if_pos ⟨Nat.zero_le _, by omega⟩, Nat.sub_zero, List.getElem?_map, Array.getElem?_toList, Array.getElem?_eq_getElem (by omega), getElem!_pos d j (by omega)]
        rfl
      · rw [List.getElem?_eq_none (by rw [List.length_take, Array.length_toList]; omega), List.getElem?_eq_none (by rw [List.length_map, Array.length_toList]; omega)]
theorem holds_ownS {base n cap : Nat} {e : TypeId} (h : w.ownsRow base e 1 (.slice (some ⟨blk, 0, none⟩) n cap) n (d.toList.map enc)) : Holds enc w blk 0 d := by
  intro j hj
  have hl : d.size = n := by have := h.1; simpa using this
  have hc := h.cellAt j (by omega)
  rw [List.getElem?_map, Array.getElem?_toList, Array.getElem?_eq_getElem hj] at hc
  rw [Nat.zero_add, getElem!_pos d j hj]
  exact ⟨hc, h.frozenAt _⟩
end
theorem grow_none (W : World) : grow W #[] = W := by
  unfold grow
  simp
theorem compact_le (ls : List (List UInt8)) : (Lib.compact ls).length ≤ ls.length := by
  unfold Lib.compact Lib.compactUpTo
  rw [List.length_map]
  refine Nat.le_trans (List.length_filter_le _ _) ?_
  rw [List.length_range]
  exact Nat.le_refl _
def svB (ls : List (List UInt8)) : List Value := ls.map encStr
theorem svB_len (ls : List (List UInt8)) : (svB ls).length = ls.length := by unfold svB; simp
theorem compS_calls (w0 w : World) (rs : List Rsc) (A : Option Addr) (n c : Nat) (ls : List (List UInt8)) (hn : n ≤ 1000000) (hS : Sq w0 w (rOwn w0.heap.size 9 1 (.slice A n c) n (svB ls) :: rs)) :
    Calls Tryz.prog 90 #[.slice A n c] w fun e w' => e = .returned (.slice A (Lib.compact ls).length c) ∧ Sq w0 w' (rOwn w0.heap.size 9 1 (.slice A (Lib.compact ls).length c) (Lib.compact ls).length (svB (Lib.compact ls)) :: rs) := by
  have hown : w.ownsRow w0.heap.size 9 1 (.slice A n c) n (svB ls) := hS.head
  have hlen : ls.length = n := by have := hown.1; rw [svB_len] at this; omega
  by_cases h0 : n = 0
  · subst h0
    have : ls = [] := List.eq_nil_of_length_eq_zero hlen
    subst this
    refine (Tryz.slices_Compact_string_empty A c w).mono ?_
    rintro e w' ⟨rfl, rfl⟩
    exact ⟨rfl, hS⟩
  · obtain ⟨g, c', hv, _, hlt⟩ := hown.form (by omega)
    injection hv with hv1 _ hv3
    subst hv1 hv3
    have h := Tryz.slices_Compact_string g 0 c ls w (holds_ownS encStr w g ls.toArray (by simpa [svB] using hown)) (by omega) (by rw [hlen]; exact (own_cap hown).1)
    rw [hlen] at h
    have hle : (Lib.compact ls).length ≤ n := by rw [← hlen]; exact compact_le ls
    refine h.mono ?_
    rintro e w' ⟨rfl, q, hw⟩
    have hw : w' = rowW encStr w g q (Lib.compact ls ++ List.replicate (n - (Lib.compact ls).length) []).toArray #[] := by
      rw [hw]
      unfold rowW
      rw [grow_none]
    subst hw
    obtain ⟨D, hD⟩ : ∃ D, (Lib.compact ls ++ List.replicate (n - (Lib.compact ls).length) []) = D := ⟨_, rfl⟩
    have hDl : D.length = n := by rw [← hD]; simp; omega
    have hDt : D.take (Lib.compact ls).length = Lib.compact ls := by rw [← hD]; exact List.take_left
    rw [hD]
    have hS2 : Sq w0 (rowW encStr w g q D.toArray #[]) (rOwn w0.heap.size 9 1 (.slice (some ⟨g, 0, none⟩) n c) n (svB D) :: rs) := by
      refine hS.turn (rowW_grown encStr w g q D.toArray #[]) (fun k hk => by injection hk with hk; subst hk; rfl) ?_ (rOwn_ok _ _ _ _ _ _) (fun k hk => ?_)
      · have h9 : (rowW encStr w g q D.toArray #[]).ownsRow w0.heap.size 9 1 (.slice (some ⟨g, 0, none⟩) n c) n (svB D) := by
          have := rowW_own encStr w g q D.toArray #[] hown (by simp [hDl])
          simpa [svB] using this
        exact h9
      · have hk : some g = some k := hk
        injection hk with hk
        subst hk
        exact ⟨.inl rfl, Nat.lt_of_lt_of_le (hown.lt g rfl).2 (rowW_size encStr w g q D.toArray #[])⟩
    have hS3 := hS2.short hle
    have e : (svB D).take ((Lib.compact ls).length * 1) = svB (Lib.compact ls) := by
      unfold svB
      rw [Nat.mul_one, ← List.map_take, hDt]
    rw [e] at hS3
    exact ⟨rfl, hS3⟩
end Go.Proofs.YtlkapcjofgpiiaaGreatDoor
/-
  DERIVED: THE SHELF's CONTRACTS AT THIS DUMP, IN PLAIN WORDS (tools/lay-plain.mjs out of 'TryzShelf.lean', which tools/lay-shelf.mjs wrote): THE SAME DECLARATIONS UNDER THE SAME NAMES: 'import', 'namespace', 'open', 'def', 'theorem' AND NOTHING ELSE: no command of the shelf's: FOR A HAND-IN. Each laying: the table of numbers ('.._ren') and one theorem, a field a fact of the dump's own or the kernel's comparison; each contract: ONE APPLICATION.
-/
namespace Go.Proofs
open Go.Shelf
def Tryz.lays156_ren : Go.Shelf.Ren := ⟨fun | 156 => 100 | 165 => 120 | 166 => 121 | 169 => 122 | 240 => 140 | 241 => 141 | 276 => 156 | 277 => 157 | n => n, fun | 31 => 37 | 9 => 9 | 3 => 3 | 4 => 4 | 0 => 0 | 20 => 20 | 72 => 166 | 76 => 157 | 70 => 163 | 37 => 164 | 75 => 156 | 127 => 180 | 164 => 194 | 5 => 5 | 80 => 114 | n => n, fun | n => n⟩
theorem Tryz.lays156 : Go.Proofs.Lays.n156 Tryz.prog Tryz.lays156_ren := {
  mixed := by kernel_rfl
  f156 := Tryz.func100.trans (congrArg some (by kernel_rfl))
  f165 := Tryz.func120.trans (congrArg some (by kernel_rfl))
  f166 := Tryz.func121.trans (congrArg some (by kernel_rfl))
  f169 := Tryz.func122.trans (congrArg some (by kernel_rfl))
  f240 := Tryz.func140.trans (congrArg some (by kernel_rfl))
  f241 := Tryz.func141.trans (congrArg some (by kernel_rfl))
  f276 := Tryz.func156.trans (congrArg some (by kernel_rfl))
  f277 := Tryz.func157.trans (congrArg some (by kernel_rfl))
  t0 := Tryz.underlying0
  a0 := Tryz.isAgg0
  z0 := Tryz.sizeOf0
  v0 := Tryz.zeroValue0
  t3 := Tryz.underlying3
  a3 := Tryz.isAgg3
  z3 := Tryz.sizeOf3
  v3 := Tryz.zeroValue3
  t4 := Tryz.underlying4
  a4 := Tryz.isAgg4
  z4 := Tryz.sizeOf4
  v4 := Tryz.zeroValue4
  t9 := Tryz.underlying9
  a9 := Tryz.isAgg9
  z9 := Tryz.sizeOf9
  v9 := Tryz.zeroValue9
  t20 := Tryz.underlying20
  a20 := Tryz.isAgg20
  z20 := Tryz.sizeOf20
  v20 := Tryz.zeroValue20
  t31 := Tryz.underlying37
  a31 := Tryz.isAgg37
  z31 := Tryz.sizeOf37
  v31 := Tryz.zeroValue37
  t37 := Tryz.underlying164
  a37 := Tryz.isAgg164
  z37 := Tryz.sizeOf164
  v37 := Tryz.zeroValue164
  t70 := Tryz.underlying163
  a70 := Tryz.isAgg163
  z70 := Tryz.sizeOf163
  v70 := Tryz.zeroValue163
  t72 := Tryz.underlying166
  a72 := Tryz.isAgg166
  z72 := Tryz.sizeOf166
  v72 := Tryz.zeroValue166
  t75 := Tryz.underlying156
  a75 := Tryz.isAgg156
  z75 := Tryz.sizeOf156
  v75 := Tryz.zeroValue156
  t76 := Tryz.underlying157
  a76 := Tryz.isAgg157
  z76 := Tryz.sizeOf157
  v76 := Tryz.zeroValue157
  t127 := Tryz.underlying180
  a127 := Tryz.isAgg180
  z127 := Tryz.sizeOf180
  v127 := Tryz.zeroValue180
  t164 := Tryz.underlying194
  a164 := Tryz.isAgg194
  z164 := Tryz.sizeOf194
  v164 := Tryz.zeroValue194 }
theorem Tryz.Builder_Extra_156 : Builder.Extra Tryz.prog Tryz.lays156_ren := {
  sizeBuilder := by kernel_rfl
  liesBuilder := by kernel_rfl
  t5 := Tryz.underlying5
  a5 := Tryz.isAgg5
  z5 := Tryz.sizeOf5
  v5 := Tryz.zeroValue5
  infoByte := by kernel_rfl
  cellsByte := by kernel_rfl
  sizeByte := by kernel_rfl
  neB5 := by decide }
open Go.RowKit in
/-- No element: the empty string; the world is as it was. (Whatever the slice's address and capacity: a nil slice too.) (LAID: no walk: one application.) -/
theorem Tryz.strings_Join_none (a : Option Addr) (c : Nat) (sep : ByteArray) (w : World) :
    Calls Tryz.prog 100 #[.slice a 0 c, .string sep] w fun e w' => e = .returned (.string ⟨#[]⟩) ∧ w' = w := Any.strings_Join_none Tryz.lays156 Tryz.Builder_Extra_156 a c sep w
open Go.RowKit in
/-- strings.Join: "Join concatenates the elements of its first argument to create a single string. The separator string sep is placed between elements in the resulting string.": HOWEVER MANY ELEMENTS. Below the heap's end the world is as it was. (LAID: no walk: one application.) -/
theorem Tryz.strings_Join (bk o c : Nat) (xs : List ByteArray) (sep : ByteArray) (w : World) (hcells : ∀ (j : Nat) x, xs[j]? = some x → w.cell? ⟨bk, o + j, none⟩ = some (.string x)) (hbk : bk < w.heap.size) (hN : xs.length ≤ 140737488355328) (hcap : xs.length ≤ c) (hlen : (Lib.join (xs.map (·.data.toList)) sep.data.toList).length ≤ 140737488355328) :
    Calls Tryz.prog 100 #[.slice (some ⟨bk, o, none⟩) xs.length c, .string sep] w fun e w' => e = .returned (.string ⟨(Lib.join (xs.map (·.data.toList)) sep.data.toList).toArray⟩) ∧ Below w.heap.size w w' := Any.strings_Join Tryz.lays156 Tryz.Builder_Extra_156 bk o c xs sep w hcells hbk hN hcap hlen
end Go.Proofs
/-
  Whether the reference's tree holds: (node).truth by contract.
-/
namespace Go.Proofs.YtlkapcjofgpiiaaGreatDoor
open Go Go.RowKit
attribute [local go_sem ↓] Go.wp_at_zero Go.wp_at_succ

/-- the closures that a tree's truth is asked with -/
def FidT (fid : Nat) : Prop := fid = 93
theorem FidT.hold : FidT 93 := rfl
/-- what the closure answers for an atom's text, in any later world -/
def IsQ (G : ByteArray → Prop) (isQ : ByteArray → Bool) (fid bx : Nat) (w0 : World) : Prop := ∀ a W, G a → Below w0.heap.size w0 W → Calls Tryz.prog fid #[.string a, .pointer (some ⟨bx, 0, none⟩)] W (BRet (.bool (isQ a)) W)
theorem IsQ.below {G : ByteArray → Prop} {isQ : ByteArray → Bool} {fid bx : Nat} {w0 W : World} (h : IsQ G isQ fid bx w0) (hb : Below w0.heap.size w0 W) : IsQ G isQ fid bx W := fun a V ha hV => h a V ha (below_call hb hV (Nat.le_refl _))
def TruH (G : ByteArray → Prop) (isQ : ByteArray → Bool) (t : Nq) : Prop := ∀ (w : World) (fid bx : Nat) (A : Option Addr) (c : Nat) (P : Nat → Prop), NqV w P (A, c) t → (∀ k, P k → k < w.heap.size) → IsQ G isQ fid bx w → FidT fid →
  Calls Tryz.prog 92 #[.agg #[.string t.op, .string t.atom, .slice A t.kids.length c], .func (.func fid) #[] #[.pointer (some ⟨bx, 0, none⟩)]] w (BRet (.bool (truQ isQ t)) w)
set_option maxRecDepth 100000 in
theorem truLeaf_calls (G : ByteArray → Prop) (isQ : ByteArray → Bool) (a : ByteArray) (ha : G a) : TruH G isQ (.node noB a []) := by
  intro w fid bx A c P h hP hI hf
  simp only [Nq.op, Nq.atom, Nq.kids, List.length_nil]
  rw [tru_leaf]
  have hS1 := (Sq.start w).add #[.string noB, .string a, .slice A 0 c] 135
  have HC := Lib.hid (hI a _ ha hS1.below)
  have HB := Lib.hid hS1.below
  obtain ⟨v9, hv9⟩ : ∃ z, isQ a = z := ⟨_, rfl⟩
  rw [hv9] at HC ⊢
  have hnb : noB.toList.isEmpty = true := by rw [Lib.toList_data]; rfl
  clear h hP hI hS1 hv9
  cases hf
  all_goals
    go_enter Tryz.func92, Tryz.ntmps92
    go_wp2_with fail
    refine HC.out.mono ?_
    rintro e w2 ⟨rfl, hb2⟩
    go_wp2_with fail
    go_ret
    exact ⟨rfl, below_call HB.out hb2 (Nat.le_refl _)⟩
theorem NqV.row {w : World} {P : Nat → Prop} {A : Option Addr} {c : Nat} {op atom : ByteArray} {ks : List Nq} (h : NqV w P (A, c) (.node op atom ks)) :
    ∃ ps : List Qn, ks = ps.map (·.2) ∧ w.ownsRow 0 135 3 (.slice A ps.length c) ps.length (ps.flatMap qnC) ∧ ∀ p ∈ ps, NqV w P p.1 p.2 := by
  cases h with
  | mk A c op atom ps h1 h2 h3 => exact ⟨ps, rfl, h1, h3⟩
set_option maxRecDepth 100000 in
theorem truNot_calls (G : ByteArray → Prop) (isQ : ByteArray → Bool) (k : Nq) (IH : TruH G isQ k) : TruH G isQ (.node sNot noB [k]) := by
  intro w fid bx A c P h hP hI hf
  simp only [Nq.op, Nq.atom, Nq.kids, List.length_singleton]
  rw [tru_not]
  obtain ⟨ps, hps, h1, h3⟩ := h.row
  obtain ⟨p, rfl⟩ : ∃ p, ps = [p] := by
    match ps, hps with
    | [p], _ => exact ⟨p, rfl⟩
  obtain rfl : k = p.2 := by simpa using hps
  obtain ⟨g, c', hv, _, _⟩ := h1.form (by simp)
  injection hv with hv1 _ hv3
  subst hv1
  have hS1 := (Sq.start w).add #[.string sNot, .string noB, .slice (some ⟨g, 0, none⟩) 1 c] 135
  have c0 := own_cell qnC 3 qnC_len h1 0 0 (by simp) (by simp) (by omega)
  have c1 := own_cell qnC 3 qnC_len h1 0 1 (by simp) (by simp) (by omega)
  have c2 := own_cell qnC 3 qnC_len h1 0 2 (by simp) (by simp) (by omega)
  obtain ⟨⟨A6, c6⟩, t6⟩ := p
  have d0 : (w.alloc (.cells #[.string sNot, .string noB, .slice (some ⟨g, 0, none⟩) 1 c] 135)).cell? ⟨g, 0, none⟩ = some (.string t6.op) := below_cell hS1.below c0
  have d1 : (w.alloc (.cells #[.string sNot, .string noB, .slice (some ⟨g, 0, none⟩) 1 c] 135)).cell? ⟨g, 1, none⟩ = some (.string t6.atom) := below_cell hS1.below c1
  have d2 : (w.alloc (.cells #[.string sNot, .string noB, .slice (some ⟨g, 0, none⟩) 1 c] 135)).cell? ⟨g, 2, none⟩ = some (.slice A6 t6.kids.length c6) := below_cell hS1.below c2
  have HC := Lib.hid (IH _ fid bx A6 c6 P ((h3 ((A6, c6), t6) (by simp)).keep (fun q hq => hS1.below.block q (hP q hq))) (fun q hq => Nat.lt_of_lt_of_le (hP q hq) hS1.size) (hI.below hS1.below) hf)
  have HB := Lib.hid hS1.below
  simp only at HC
  obtain ⟨v9, hv9⟩ : ∃ z, truQ isQ t6 = z := ⟨_, rfl⟩
  rw [hv9] at HC ⊢
  obtain ⟨o6, ho6⟩ : ∃ o6, t6.op = o6 := ⟨_, rfl⟩
  obtain ⟨a6, ha6⟩ : ∃ a6, t6.atom = a6 := ⟨_, rfl⟩
  obtain ⟨l6, hl6⟩ : ∃ l6, t6.kids.length = l6 := ⟨_, rfl⟩
  rw [ho6, ha6, hl6] at HC
  rw [ho6] at d0
  rw [ha6] at d1
  rw [hl6] at d2
  have hnb : sNot.toList.isEmpty = false := by rw [Lib.toList_data]; rfl
  have hnt : (sNot.toList == [110, 111, 116]) = true := (tokB sNot [110, 111, 116] sNot rfl).trans (decide_eq_true rfl)
  clear h hP hI hS1 hv9 h1 h3 IH c0 c1 c2 hps hv3 ho6 ha6 hl6
  go_enter Tryz.func92, Tryz.ntmps92
  go_wp2_with fail
  refine HC.out.mono ?_
  rintro e w2 ⟨rfl, hb2⟩
  go_wp2_with fail
  go_ret
  exact ⟨rfl, below_call HB.out hb2 (Nat.le_refl _)⟩
set_option maxRecDepth 100000 in
set_option maxHeartbeats 1000000 in
theorem truList_calls (G : ByteArray → Prop) (isQ : ByteArray → Bool) (op : ByteArray) (hop : op = sOr ∨ op = sAnd) (ks : List Nq) (h2 : 2 ≤ ks.length) (hn : ks.length ≤ 100000) (IH : ∀ k ∈ ks, TruH G isQ k) : TruH G isQ (.node op noB ks) := by
  intro w fid bx A c P h hP hI hf
  obtain ⟨o, ho⟩ : ∃ z : Bool, decide (op = sOr) = z := ⟨_, rfl⟩
  have e0 : op.toList.isEmpty = false := by rcases hop with rfl | rfl <;> (rw [Lib.toList_data]; rfl)
  have e1 : (op.toList == [110, 111, 116]) = false := (tokB op [110, 111, 116] sNot rfl).trans (decide_eq_false (by rcases hop with rfl | rfl <;> decide))
  have e2 : (op.toList == [111, 114]) = o := by rw [← ho]; exact tokB op [111, 114] sOr rfl
  have e3 : (op.toList == [97, 110, 100]) = !o := by rw [← ho]; refine (tokB op [97, 110, 100] sAnd rfl).trans ?_; rcases hop with rfl | rfl <;> decide
  have eN : op ≠ noB := by rcases hop with rfl | rfl <;> decide
  have eT : op ≠ sNot := by rcases hop with rfl | rfl <;> decide
  simp only [Nq.op, Nq.atom, Nq.kids]
  obtain ⟨ps, rfl, h1, h3⟩ := h.row
  rw [List.length_map] at h2 hn ⊢
  obtain ⟨n, hnn⟩ : ∃ n, ps.length = n := ⟨_, rfl⟩
  rw [hnn] at h2 hn h1 ⊢
  obtain ⟨g, c', hv, _, _⟩ := h1.form (by omega)
  injection hv with hv1 _ hv3
  subst hv1
  obtain ⟨v9, hv9⟩ : ∃ z, truQ isQ (.node op noB (ps.map (·.2))) = z := ⟨_, rfl⟩
  have HV1 : Hid (∀ (k : Nat) (hk : k < ps.length), truQ isQ ps[k].2 = o → v9 = o) := Lib.hid (fun k hk he => by
    rw [← hv9, truQ_eq, if_neg eN, if_neg eT]
    have hm : truQ isQ ps[k].2 ∈ (ps.map (·.2)).map (truQ isQ) := List.mem_map.2 ⟨_, List.mem_map.2 ⟨_, List.getElem_mem hk, rfl⟩, rfl⟩
    rw [he] at hm
    by_cases hs : op = sOr
    · rw [if_pos hs]
      obtain rfl : true = o := by rw [← ho]; exact (decide_eq_true hs).symm
      exact List.any_eq_true.2 ⟨true, hm, rfl⟩
    · rw [if_neg hs]
      obtain rfl : false = o := by rw [← ho]; exact (decide_eq_false hs).symm
      exact List.all_eq_false.2 ⟨false, hm, by decide⟩)
  have HV2 : Hid ((∀ (k : Nat) (hk : k < ps.length), truQ isQ ps[k].2 = !o) → v9 = !o) := Lib.hid (fun he => by
    rw [← hv9, truQ_eq, if_neg eN, if_neg eT]
    have hm : ∀ x ∈ (ps.map (·.2)).map (truQ isQ), x = !o := fun x hx => by
      obtain ⟨y, hy, rfl⟩ := List.mem_map.1 hx
      obtain ⟨p, hp, rfl⟩ := List.mem_map.1 hy
      obtain ⟨i, hi, rfl⟩ := List.getElem_of_mem hp
      exact he i hi
    by_cases hs : op = sOr
    · rw [if_pos hs]
      obtain rfl : true = o := by rw [← ho]; exact (decide_eq_true hs).symm
      show _ = false
      rw [List.any_eq_false]
      intro x hx
      rw [hm x hx]; decide
    · rw [if_neg hs]
      obtain rfl : false = o := by rw [← ho]; exact (decide_eq_false hs).symm
      show _ = true
      rw [List.all_eq_true]
      intro x hx
      rw [hm x hx]; rfl)
  have HIH : Hid (∀ k (hk : k < ps.length) W, Below w.heap.size w W → Calls Tryz.prog 92 #[.agg #[.string ps[k].2.op, .string ps[k].2.atom, .slice ps[k].1.1 ps[k].2.kids.length ps[k].1.2], .func (.func fid) #[] #[.pointer (some ⟨bx, 0, none⟩)]] W (BRet (.bool (truQ isQ ps[k].2)) W)) := Lib.hid (fun k hk W hW =>
    IH ps[k].2 (List.mem_map.2 ⟨ps[k], List.getElem_mem hk, rfl⟩) W fid bx _ _ P ((h3 _ (List.getElem_mem hk)).keep (fun q hq => hW.block q (hP q hq))) (fun q hq => Nat.lt_of_lt_of_le (hP q hq) hW.size) (hI.below hW) hf)
  have HROW : Hid (∀ k (hk : k < ps.length), w.cell? ⟨g, k * 3, none⟩ = some (.string ps[k].2.op) ∧ w.cell? ⟨g, k * 3 + 1, none⟩ = some (.string ps[k].2.atom) ∧ w.cell? ⟨g, k * 3 + 2, none⟩ = some (.slice ps[k].1.1 ps[k].2.kids.length ps[k].1.2)) := Lib.hid (fun k hk =>
    ⟨own_cell qnC 3 qnC_len h1 k 0 hk (by omega) (by omega), own_cell qnC 3 qnC_len h1 k 1 hk (by omega) (by omega), own_cell qnC 3 qnC_len h1 k 2 hk (by omega) (by omega)⟩)
  have HN := Lib.hid hnn
  have hS1 := (Sq.start w).add #[.string op, .string noB, .slice (some ⟨g, 0, none⟩) n c] 135
  rw [hv9]
  clear h1 h3 h hP hI IH hnn hv9 ho eN eT hop hv3 hf
  go_enter Tryz.func92, Tryz.ntmps92
  go_wp2_with fail
  go_loopw [27] (fun i wr => ∃ k : Nat, k ≤ n ∧ i = .int .i64 k ∧ Sq w wr [rBlk w.heap.size 135 #[.string op, .string noB, .slice (some ⟨g, 0, none⟩) n c]] ∧ Hid (∀ j (hj : j < ps.length), j < k → truQ isQ ps[j].2 = !o)) (fun i _ => n - (intOf i).toNat)
  case atStart => exact ⟨0, Nat.zero_le _, rfl, hS1, Lib.hid (fun j hj h => by omega)⟩
  case round =>
    clear hS1
    obtain ⟨k, hk, rfl, hS, HF⟩ := hrel
    by_cases hlt : k < n
    · have hkp : k < ps.length := by rw [HN.out]; exact hlt
      obtain ⟨c0, c1, c2⟩ := HROW.out k hkp
      have d0 := below_cell hS.below c0
      have d1 := below_cell hS.below c1
      have d2 := below_cell hS.below c2
      have HC := Lib.hid (HIH.out k hkp)
      have HVV := Lib.hid (HV1.out k hkp)
      have HFF : Hid (truQ isQ ps[k].2 = !o → ∀ j (hj : j < ps.length), j < k + 1 → truQ isQ ps[j].2 = !o) := Lib.hid (fun h j hj hjk => by
        by_cases he : j = k
        · subst he; exact h
        · exact HF.out j hj (by omega))
      obtain ⟨⟨⟨A6, c6⟩, t6⟩, hp⟩ : ∃ p, ps[k] = p := ⟨_, rfl⟩
      rw [hp] at d0 d1 d2 HC HVV HFF
      simp only at d0 d1 d2 HC
      obtain ⟨vk, hvk⟩ : ∃ z, truQ isQ t6 = z := ⟨_, rfl⟩
      rw [show truQ isQ ((A6, c6), t6).2 = vk from hvk] at HVV HFF
      rw [hvk] at HC
      obtain ⟨o6, ho6⟩ : ∃ o6, t6.op = o6 := ⟨_, rfl⟩
      obtain ⟨a6, ha6⟩ : ∃ a6, t6.atom = a6 := ⟨_, rfl⟩
      obtain ⟨l6, hl6⟩ : ∃ l6, t6.kids.length = l6 := ⟨_, rfl⟩
      rw [ho6, ha6, hl6] at HC
      rw [ho6] at d0
      rw [ha6] at d1
      rw [hl6] at d2
      have hk0 : (0 : Int) ≤ (k : Int) := by omega
      have hkn : (k : Int) < (n : Int) := by omega
      clear c0 c1 c2 hp hvk ho6 ha6 hl6
      have b2 := Blk.cell (hS.nth 0 rfl) 0
      have hSb := hS.add #[.string o6, .string a6, .slice A6 l6 c6] 135
      have g0 : (wr.alloc (.cells #[.string o6, .string a6, .slice A6 l6 c6] 135)).cell? ⟨w.heap.size, 0, none⟩ = some (.string op) := Blk.cell (hSb.nth 1 rfl) 0
      have hSa := hSb.drew
      clear hSb
      have hbd := hSa.below
      by_cases hq : vk = o
      · have HV0 := Lib.hid (HVV.out hq)
        subst hq
        clear HVV HFF
        cases vk
        · go_wp2_with fail
          go_region_law (go_simp; go_at_call 92; ((with_reducible refine (HC.out _ hbd).mono ?_); rintro e w3 ⟨rfl, hb3⟩; have hS3 := hSa.callB hb3; have f0 := Blk.cell (hS3.nth 1 rfl) 0; have HS3 := Lib.hid hS3.tail))
          all_goals
            go_wp2_with fail
            go_ret
            exact ⟨by rw [HV0.out]; rfl, HS3.out.below⟩
        · go_wp2_with fail
          go_region_law (go_simp; go_at_call 92; ((with_reducible refine (HC.out _ hbd).mono ?_); rintro e w3 ⟨rfl, hb3⟩; have hS3 := hSa.callB hb3; have f0 := Blk.cell (hS3.nth 1 rfl) 0; have HS3 := Lib.hid hS3.tail))
          all_goals
            go_wp2_with fail
            go_ret
            exact ⟨by rw [HV0.out]; rfl, HS3.out.below⟩
      · cases o
        · obtain rfl : vk = true := by cases vk; exact absurd rfl hq; rfl
          have HF0 := Lib.hid (HFF.out rfl)
          clear hq HVV HFF
          go_wp2_with fail
          go_region_law (go_simp; go_at_call 92; ((with_reducible refine (HC.out _ hbd).mono ?_); rintro e w3 ⟨rfl, hb3⟩; have hS3 := hSa.callB hb3; have f0 := Blk.cell (hS3.nth 1 rfl) 0; have HS3 := Lib.hid hS3.tail))
          all_goals
            go_wp2_with fail
            go_roundw
            case rel => exact ⟨k + 1, hlt, by go_num, HS3.out, HF0⟩
            case measure => simp [intOf]; omega
        · obtain rfl : vk = false := by cases vk; rfl; exact absurd rfl hq
          have HF0 := Lib.hid (HFF.out rfl)
          clear hq HVV HFF
          go_wp2_with fail
          go_region_law (go_simp; go_at_call 92; ((with_reducible refine (HC.out _ hbd).mono ?_); rintro e w3 ⟨rfl, hb3⟩; have hS3 := hSa.callB hb3; have f0 := Blk.cell (hS3.nth 1 rfl) 0; have HS3 := Lib.hid hS3.tail))
          all_goals
            go_wp2_with fail
            go_roundw
            case rel => exact ⟨k + 1, hlt, by go_num, HS3.out, HF0⟩
            case measure => simp [intOf]; omega
    · obtain rfl : k = n := by omega
      have HZ := Lib.hid (HV2.out (fun j hj => HF.out j hj (by rw [← HN.out]; exact hj)))
      have b0 := Blk.cell (hS.nth 0 rfl) 0
      have HB9 := Lib.hid hS.below
      clear hS
      go_wp2_with fail
      go_ret
      exact ⟨by rw [HZ.out]; rfl, HB9.out⟩
theorem tru_calls {G : ByteArray → Prop} (isQ : ByteArray → Bool) {t : Nq} (h : AllQ G t) (hc : cntQ t ≤ 100000) : TruH G isQ t := by
  induction h with
  | leaf a h => exact truLeaf_calls G isQ a h
  | not k h ih =>
    have e := cntQ_eq sNot noB [k]
    simp only [List.map_cons, List.map_nil, List.sum_cons, List.sum_nil] at e
    exact truNot_calls G isQ k (ih (by omega))
  | list op ks hop h2 h ih =>
    have e := cntQ_eq op noB ks
    have hkc : ∀ k ∈ ks, cntQ k ≤ 100000 := fun k hk => by have := mem_sumQ cntQ ks k hk; omega
    have hl := len_sumQ cntQ (fun k => cntQ_pos k) ks
    exact truList_calls G isQ op hop ks h2 (by omega) (fun k hk => ih k hk (hkc k hk))
end Go.Proofs.YtlkapcjofgpiiaaGreatDoor
