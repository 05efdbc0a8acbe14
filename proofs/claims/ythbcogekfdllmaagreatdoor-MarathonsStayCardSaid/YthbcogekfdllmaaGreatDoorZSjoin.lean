/-
  DERIVED: THE SHELF's CONTRACTS AT THIS DUMP, IN PLAIN WORDS (tools/lay-plain.mjs out of 'TryzShelf.lean', which tools/lay-shelf.mjs wrote): THE SAME DECLARATIONS UNDER THE SAME NAMES: 'import', 'namespace', 'open', 'def', 'theorem' AND NOTHING ELSE: no command of the shelf's: FOR A HAND-IN. Each laying: the table of numbers ('.._ren') and one theorem, a field a fact of the dump's own or the kernel's comparison; each contract: ONE APPLICATION.
-/
import Derived.Shelf.Strings.Builder1
import Derived.Shelf.Strings.Builder2
import Derived.Shelf.Strings.OnBuilder
import Derived.Shelf.LaysM
import Derived.Ground.Names2Prog
import Derived.Ground.SlgnProg
import Derived.Ground.SlgmProg
import Derived.Test.YthbcogekfdllmaaGreatDoorProg
import Derived.Test.YthbcogekfdllmaaGreatDoorZRule5
import Derived.Test.YthbcogekfdllmaaGreatDoorZSlot3
namespace Go.Proofs
open Go.Shelf
def Tryz.lays156_ren : Go.Shelf.Ren := ⟨fun | 156 => 167 | 165 => 219 | 166 => 102 | 169 => 104 | 240 => 154 | 241 => 247 | 276 => 201 | 277 => 264 | n => n, fun | 31 => 57 | 9 => 9 | 3 => 3 | 4 => 4 | 0 => 0 | 20 => 20 | 72 => 189 | 76 => 192 | 70 => 186 | 37 => 187 | 75 => 191 | 127 => 241 | 164 => 282 | 5 => 5 | 80 => 108 | n => n, fun | n => n⟩
theorem Tryz.lays156 : Go.Proofs.Lays.n156 Tryz.prog Tryz.lays156_ren := {
  mixed := by kernel_rfl
  f156 := Tryz.func167.trans (congrArg some (by kernel_rfl))
  f165 := Tryz.func219.trans (congrArg some (by kernel_rfl))
  f166 := Tryz.func102.trans (congrArg some (by kernel_rfl))
  f169 := Tryz.func104.trans (congrArg some (by kernel_rfl))
  f240 := Tryz.func154.trans (congrArg some (by kernel_rfl))
  f241 := Tryz.func247.trans (congrArg some (by kernel_rfl))
  f276 := Tryz.func201.trans (congrArg some (by kernel_rfl))
  f277 := Tryz.func264.trans (congrArg some (by kernel_rfl))
  t0 := Tryz.underlying0
  a0 := Tryz.isAgg0
  z0 := Tryz.sizeOf0
  v0 := Tryz.zeroValue0
  t3 := Tryz.underlying3
  a3 := Tryz.isAgg3
  z3 := Tryz.sizeOf3
  v3 := Tryz.zeroValue3
  t4 := Tryz.underlying4
  a4 := Tryz.isAgg4
  z4 := Tryz.sizeOf4
  v4 := Tryz.zeroValue4
  t9 := Tryz.underlying9
  a9 := Tryz.isAgg9
  z9 := Tryz.sizeOf9
  v9 := Tryz.zeroValue9
  t20 := Tryz.underlying20
  a20 := Tryz.isAgg20
  z20 := Tryz.sizeOf20
  v20 := Tryz.zeroValue20
  t31 := Tryz.underlying57
  a31 := Tryz.isAgg57
  z31 := Tryz.sizeOf57
  v31 := Tryz.zeroValue57
  t37 := Tryz.underlying187
  a37 := Tryz.isAgg187
  z37 := Tryz.sizeOf187
  v37 := Tryz.zeroValue187
  t70 := Tryz.underlying186
  a70 := Tryz.isAgg186
  z70 := Tryz.sizeOf186
  v70 := Tryz.zeroValue186
  t72 := Tryz.underlying189
  a72 := Tryz.isAgg189
  z72 := Tryz.sizeOf189
  v72 := Tryz.zeroValue189
  t75 := Tryz.underlying191
  a75 := Tryz.isAgg191
  z75 := Tryz.sizeOf191
  v75 := Tryz.zeroValue191
  t76 := Tryz.underlying192
  a76 := Tryz.isAgg192
  z76 := Tryz.sizeOf192
  v76 := Tryz.zeroValue192
  t127 := Tryz.underlying241
  a127 := Tryz.isAgg241
  z127 := Tryz.sizeOf241
  v127 := Tryz.zeroValue241
  t164 := Tryz.underlying282
  a164 := Tryz.isAgg282
  z164 := Tryz.sizeOf282
  v164 := Tryz.zeroValue282 }
theorem Tryz.Builder_Extra_156 : Builder.Extra Tryz.prog Tryz.lays156_ren := {
  sizeBuilder := by kernel_rfl
  liesBuilder := by kernel_rfl
  t5 := Tryz.underlying5
  a5 := Tryz.isAgg5
  z5 := Tryz.sizeOf5
  v5 := Tryz.zeroValue5
  infoByte := by kernel_rfl
  cellsByte := by kernel_rfl
  sizeByte := by kernel_rfl
  neB5 := by decide }
open Go.RowKit in
/-- No element: the empty string; the world is as it was. (Whatever the slice's address and capacity: a nil slice too.) (LAID: no walk: one application.) -/
theorem Tryz.strings_Join_none (a : Option Addr) (c : Nat) (sep : ByteArray) (w : World) :
    Calls Tryz.prog 167 #[.slice a 0 c, .string sep] w fun e w' => e = .returned (.string ⟨#[]⟩) ∧ w' = w := Any.strings_Join_none Tryz.lays156 Tryz.Builder_Extra_156 a c sep w
open Go.RowKit in
/-- strings.Join: "Join concatenates the elements of its first argument to create a single string. The separator string sep is placed between elements in the resulting string.": HOWEVER MANY ELEMENTS. Below the heap's end the world is as it was. (LAID: no walk: one application.) -/
theorem Tryz.strings_Join (bk o c : Nat) (xs : List ByteArray) (sep : ByteArray) (w : World) (hcells : ∀ (j : Nat) x, xs[j]? = some x → w.cell? ⟨bk, o + j, none⟩ = some (.string x)) (hbk : bk < w.heap.size) (hN : xs.length ≤ 140737488355328) (hcap : xs.length ≤ c) (hlen : (Lib.join (xs.map (·.data.toList)) sep.data.toList).length ≤ 140737488355328) :
    Calls Tryz.prog 167 #[.slice (some ⟨bk, o, none⟩) xs.length c, .string sep] w fun e w' => e = .returned (.string ⟨(Lib.join (xs.map (·.data.toList)) sep.data.toList).toArray⟩) ∧ Below w.heap.size w w' := Any.strings_Join Tryz.lays156 Tryz.Builder_Extra_156 bk o c xs sep w hcells hbk hN hcap hlen
end Go.Proofs
/-
  Tidy of rules: an atom's text, a node that is an atom, an or of atoms; Tidy at one string. (Printed by gen_rule6.py.)
-/
namespace Go.Proofs.YthbcogekfdllmaaGreatDoor
open Go Go.RowKit
attribute [local go_sem ↓] Go.wp_at_zero Go.wp_at_succ

def textF (a : Atm) : ByteArray :=
  if a.word = sTrue then ⟨#[116, 114, 117, 101]⟩ else if a.word = sHas then ⟨#[104, 97, 115, 32]⟩ ++ a.name else if a.word = sEq then (a.name ++ ⟨#[32, 61, 32]⟩) ++ a.value else ((⟨#[116, 105, 109, 101, 32]⟩ ++ a.word) ++ ⟨#[32]⟩) ++ a.value
set_option maxRecDepth 100000 in
theorem text_calls (a : Atm) (w : World) (ha : a.word.size ≤ 100000 ∧ a.name.size ≤ 100000 ∧ a.value.size ≤ 100000) : Calls Tryz.prog 166 #[.agg #[.string a.word, .string a.name, .string a.value, .int .i64 a.n]] w (BRet (.string (textF a)) w) := by
  have hB : Below w.heap.size w (w.alloc (.cells #[.string a.word, .string a.name, .string a.value, .int .i64 a.n] 238)) := (Below.refl _ _).alloc (Nat.le_refl _) _
  have hF : textF a = if a.word = sTrue then ⟨#[116, 114, 117, 101]⟩ else if a.word = sHas then ⟨#[104, 97, 115, 32]⟩ ++ a.name else if a.word = sEq then (a.name ++ ⟨#[32, 61, 32]⟩) ++ a.value else ((⟨#[116, 105, 109, 101, 32]⟩ ++ a.word) ++ ⟨#[32]⟩) ++ a.value := rfl
  obtain ⟨T, hT⟩ : ∃ T, a.word = T := ⟨_, rfl⟩
  rw [hT] at hF
  rw [hT] at hB ha ⊢
  obtain ⟨b1, b2, b3⟩ := ha
  by_cases h1 : T = sTrue
  · have e1 : (T.toList == [116, 114, 117, 101]) = true := (tokB T [116, 114, 117, 101] sTrue rfl).trans (decide_eq_true h1)
    rw [if_pos h1] at hF
    rw [hF]
    clear hF h1 hT
    go_enter Tryz.func166, Tryz.ntmps166
    go_wp2_with fail
    go_ret
    exact ⟨rfl, hB⟩
  have e1 : (T.toList == [116, 114, 117, 101]) = false := (tokB T [116, 114, 117, 101] sTrue rfl).trans (decide_eq_false h1)
  rw [if_neg h1] at hF
  by_cases h2 : T = sHas
  · have e2 : (T.toList == [104, 97, 115]) = true := (tokB T [104, 97, 115] sHas rfl).trans (decide_eq_true h2)
    rw [if_pos h2] at hF
    rw [hF]
    clear hF h1 h2 hT
    go_enter Tryz.func166, Tryz.ntmps166
    go_wp2_with fail
    go_ret
    exact ⟨rfl, hB⟩
  have e2 : (T.toList == [104, 97, 115]) = false := (tokB T [104, 97, 115] sHas rfl).trans (decide_eq_false h2)
  rw [if_neg h2] at hF
  by_cases h3 : T = sEq
  · have e3 : (T.toList == [61]) = true := (tokB T [61] sEq rfl).trans (decide_eq_true h3)
    rw [if_pos h3] at hF
    rw [hF]
    clear hF h1 h2 h3 hT
    go_enter Tryz.func166, Tryz.ntmps166
    go_wp2_with fail
    go_ret
    exact ⟨rfl, hB⟩
  · have e3 : (T.toList == [61]) = false := (tokB T [61] sEq rfl).trans (decide_eq_false h3)
    rw [if_neg h3] at hF
    rw [hF]
    clear hF h1 h2 h3 hT
    go_enter Tryz.func166, Tryz.ntmps166
    go_wp2_with fail
    go_ret
    exact ⟨rfl, hB⟩

def leaf (a : Atm) : Nd := .node 4 [] a
theorem NodeAt.top {w : World} {lo hi g : Nat} {kind : Int} {ks : List Nd} {a : Atm} (h : NodeAt w lo hi g (.node kind ks a)) :
    ∃ (v : Value) (gs : List Nat), Blk w g 240 (nodeC kind v a) ∧ w.ownsRow lo 179 1 v ks.length (gs.map ptrV) ∧ gs.length = ks.length ∧ ∀ i (hi_ : i < gs.length) (hk : i < ks.length), NodeAt w lo hi gs[i] ks[i] := by
  cases h with
  | mk g kind a v gs ks h1 h2 h3 h4 h5 h6 => exact ⟨v, gs, h2, h3, h5, h6⟩
theorem nodeC_cell {w : World} {g : Nat} {kind : Int} {v : Value} {a : Atm} (h : Blk w g 240 (nodeC kind v a)) :
    w.cell? ⟨g, 0, none⟩ = some (.int .i64 kind) ∧ w.cell? ⟨g, 1, none⟩ = some v ∧ w.cell? ⟨g, 2, none⟩ = some (.string a.word) ∧ w.cell? ⟨g, 3, none⟩ = some (.string a.name) ∧ w.cell? ⟨g, 4, none⟩ = some (.string a.value) ∧ w.cell? ⟨g, 5, none⟩ = some (.int .i64 a.n) :=
  ⟨h.cell 0, h.cell 1, h.cell 2, h.cell 3, h.cell 4, h.cell 5⟩
set_option maxRecDepth 100000 in
theorem tidyLeaf_calls (a : Atm) (g lo hi : Nat) (w : World) (ha : a.word.size ≤ 100000 ∧ a.name.size ≤ 100000 ∧ a.value.size ≤ 100000) (h : NodeAt w lo hi g (leaf a)) : Calls Tryz.prog 120 #[.pointer (some ⟨g, 0, none⟩)] w (BRet (.string (textF a)) w) := by
  obtain ⟨v, gs, h2, _⟩ := h.top
  obtain ⟨c0, c1, c2, c3, c4, c5⟩ := nodeC_cell h2
  have HC := Lib.hid (text_calls a w ha)
  clear h h2
  go_enter Tryz.func120, Tryz.ntmps120
  go_wp2_with fail
  refine HC.out.mono ?_
  rintro e w2 ⟨rfl, hb⟩
  go_wp2_with fail
  go_ret
  exact ⟨rfl, hb⟩

def txV (ats : List Atm) : List Value := ats.map fun a => .string (textF a)
def orText (ats : List Atm) : ByteArray := ⟨(Lib.join ((ats.map textF).map (·.data.toList)) [32, 111, 114, 32]).toArray⟩
set_option maxRecDepth 100000 in
set_option maxHeartbeats 1000000 in
theorem tidyOr_calls (ats : List Atm) (g lo hi : Nat) (w : World) (h : NodeAt w lo hi g (.node 1 (ats.map leaf) atm0)) (hhi : hi ≤ w.heap.size) (hsz : ∀ a ∈ ats, a.word.size ≤ 100000 ∧ a.name.size ≤ 100000 ∧ a.value.size ≤ 100000) (h1 : 1 ≤ ats.length) (h2 : ats.length ≤ 100000) (hlen : (Lib.join ((ats.map textF).map (·.data.toList)) [32, 111, 114, 32]).length ≤ 140737488355328) :
    Calls Tryz.prog 120 #[.pointer (some ⟨g, 0, none⟩)] w (BRet (.string (orText ats)) w) := by
  obtain ⟨j0, hj, hy0, hy1, hy2⟩ := info_parts info_str
  obtain ⟨v, gs, hB, hrow, hgs, hkids⟩ := h.top
  obtain ⟨c0, c1, c2, c3, c4, c5⟩ := nodeC_cell hB
  obtain ⟨n, hn⟩ : ∃ n, ats.length = n := ⟨_, rfl⟩
  rw [List.length_map, hn] at hrow hgs
  rw [hn] at h1 h2
  obtain ⟨gk, ck, hv, hck, _⟩ := hrow.form (by omega)
  subst hv
  have hlk : n ≤ ck := (own_cap hrow).1
  have HRW : Hid (∀ i, i < n → ∀ (hi_ : i < gs.length), w.cell? ⟨gk, i, none⟩ = some (ptrV gs[i])) := fun i hin hi_ => by
    rw [hrow.cellAt i (by omega), List.getElem?_map, List.getElem?_eq_getElem hi_]; rfl
  have HK : Hid (∀ i (hi_ : i < gs.length) (hk : i < ats.length), NodeAt w lo hi gs[i] (leaf ats[i])) := fun i hi_ hk => by
    have := hkids i hi_ (by rw [List.length_map]; exact hk)
    rw [List.getElem_map] at this
    exact this
  have HSZ := Lib.hid hsz
  have HN := Lib.hid hn
  have HGS := Lib.hid hgs
  have HJ : Hid (∀ W bk c, n ≤ c → bk < W.heap.size → (∀ (j : Nat) x, (ats.map textF)[j]? = some x → W.cell? ⟨bk, 0 + j, none⟩ = some (.string x)) → Calls Tryz.prog 167 #[.slice (some ⟨bk, 0, none⟩) n c, .string ⟨#[32, 111, 114, 32]⟩] W (BRet (.string (orText ats)) W)) := fun W bk c hc hbk hcl => by
    have := Tryz.strings_Join bk 0 c (ats.map textF) ⟨#[32, 111, 114, 32]⟩ W hcl hbk (by rw [List.length_map, hn]; omega) (by rw [List.length_map, hn]; exact hc) hlen
    rw [List.length_map, hn] at this
    exact this
  have hS0 := (Sq.start w).nil w.heap.size 9 1
  clear h hB hrow hkids hn hgs hlen hsz
  go_enter Tryz.func120, Tryz.ntmps120
  go_wp2_with fail
  go_loopw [5, 54] (fun s5 i wr => ∃ k : Nat, k ≤ n ∧ i = .int .i64 k ∧ Sq w wr [rOwn w.heap.size 9 1 s5 k (txV (ats.take k))]) (fun _ i _ => n - (intOf i).toNat)
  case atStart => exact ⟨0, Nat.zero_le _, rfl, hS0⟩
  case round =>
    clear hS0
    obtain ⟨k, hk, rfl, hS⟩ := hrel
    have d0 := below_cell hS.below c0
    by_cases hlt : k < n
    · have hkg : k < gs.length := by rw [HGS.out]; exact hlt
      have hka : k < ats.length := by rw [HN.out]; exact hlt
      have d1 := below_cell hS.below (HRW.out k hlt hkg)
      have hnode := (HK.out k hkg hka).keep (w' := wr) (fun q _ hq => hS.below.block q (by omega))
      have HC := Lib.hid (tidyLeaf_calls ats[k] gs[k] lo hi wr (HSZ.out _ (List.getElem_mem hka)) hnode)
      have hk0 : (0 : Int) ≤ (k : Int) := by omega
      have hkn : (k : Int) < (n : Int) := by omega
      obtain ⟨x, hx⟩ : ∃ x, textF ats[k] = x := ⟨_, rfl⟩
      rw [hx] at HC
      have HX := Lib.hid hx
      clear hx hnode
      go_wp2_with fail
      refine HC.out.mono ?_
      rintro e w2 ⟨rfl, hb2⟩
      have hS2 := hS.callB hb2
      have d2 := below_cell hS2.below c0
      have hsz2 := hS2.size
      have HO : w2.ownsRow w.heap.size 9 1 u5 k (txV (ats.take k)) := hS2.head
      clear d0 d1 hS
      go_wp2_with (first
        | (at_builtin; refine wpList_append_own_at _ rfl _ _ 57 rfl w.heap.size 9 j0 (.string ⟨#[]⟩) 1 16 Tryz.underlying57 hj hy0 hy1 hy2 rfl (by decide) _ _ _ rfl (HO.alloc _) ⟨w2.heap.size, 0, none⟩ 1 1 [.string x] rfl rfl (World.news_of_block (heap_alloc_new _ _)) (one1 rfl) (by unfold maxLen; omega) (by omega) (by simp; omega) ?_; intro v' w8 hown' hgrow _ hblk; have hS8 := (hS2.alloc _).append hown' hgrow hblk; clear hown' hgrow hblk))
      go_roundw
      case rel =>
        refine ⟨k + 1, hlt, by go_num, ?_⟩
        rw [List.take_succ_eq_append_getElem hka]
        unfold txV
        rw [List.map_append, List.map_singleton, HX.out]
        exact hS8
      case measure => simp [intOf]; omega
    · obtain rfl : k = n := by omega
      have ho : wr.ownsRow w.heap.size 9 1 u5 k (txV (ats.take k)) := hS.head
      rw [List.take_of_length_le (by rw [HN.out]; exact Nat.le_refl _)] at ho
      obtain ⟨bk, cap, hv, hcap, _⟩ := ho.form (by omega)
      subst hv
      have hcl : ∀ (j : Nat) x, (ats.map textF)[j]? = some x → wr.cell? ⟨bk, 0 + j, none⟩ = some (.string x) := fun j x hx => by
        obtain ⟨hjl, hjx⟩ := List.getElem?_eq_some_iff.1 hx
        rw [List.length_map, HN.out] at hjl
        rw [Nat.zero_add, ho.cellAt j (by omega)]
        unfold txV
        rw [List.getElem?_map] at hx ⊢
        cases hg : ats[j]? with
        | none => rw [hg] at hx; cases hx
        | some y => rw [hg] at hx; simp at hx; simp [hx]
      have HC := Lib.hid (HJ.out wr bk cap (own_cap ho).1 (ho.lt bk rfl).2 hcl)
      clear ho hcl
      go_wp2_with fail
      refine HC.out.mono ?_
      rintro e w2 ⟨rfl, hb2⟩
      go_wp2_with fail
      go_ret
      exact ⟨rfl, below_call hS.below hb2 (Nat.le_refl _)⟩

def litT : ByteArray := ⟨#[40, 97, 61, 120, 41, 111, 114, 32, 104, 97, 115, 32, 98]⟩
def noNum (_ : ByteArray) : Int × Bool := (0, false)
def litA : List Atm := [⟨⟨#[61]⟩, ⟨#[97]⟩, ⟨#[120]⟩, 0⟩, ⟨⟨#[104, 97, 115]⟩, ⟨#[98]⟩, ⟨#[]⟩, 0⟩]
theorem lit_noTime : NoTime litT := by
  intro i
  by_cases h : i < 13
  · have : (List.range 13).all (fun i => !((litT.extract i (tokE litT i)).data.toList == sTime.data.toList)) = true := by decide +kernel
    rw [List.all_eq_true] at this
    have := this i (by simpa using h)
    intro e
    rw [e] at this
    simp at this
  · intro e
    have h1 : (litT.extract i (tokE litT i)).size = 4 := by rw [e]; rfl
    rw [ByteArray.size_extract] at h1
    have h2 : litT.size = 13 := rfl
    omega
theorem lit_parse : (parseT noNum litT).1 = .node 1 (litA.map leaf) atm0 := by kernel_rfl
theorem lit_parseE : parseE noNum litT = (0, 0) := by decide +kernel
theorem lit_text : orText litA = ⟨#[97, 32, 61, 32, 120, 32, 111, 114, 32, 104, 97, 115, 32, 98]⟩ := by kernel_rfl
set_option maxRecDepth 100000 in
theorem tidyLit_calls (w : World) : Calls Tryz.prog 57 #[.string ⟨#[40, 97, 61, 120, 41, 111, 114, 32, 104, 97, 115, 32, 98]⟩] w (BRet (.tuple #[.string ⟨#[97, 32, 61, 32, 120, 32, 111, 114, 32, 104, 97, 115, 32, 98]⟩, .int .i64 0, .int .i64 0]) w) := by
  have HP := Lib.hid (parse_calls noNum litT w (by decide) (.inl lit_noTime))
  go_enter Tryz.func57, Tryz.ntmps57
  go_wp2_with fail
  refine HP.out.mono ?_
  rintro e w2 ⟨v, rfl, hb2, hN⟩
  rw [lit_parseE] at hN
  obtain ⟨g, rfl, hnode⟩ := hN rfl
  rw [lit_parse] at hnode
  rw [lit_parseE]
  have HT := Lib.hid (tidyOr_calls litA g _ _ w2 hnode (Nat.le_refl _) (by decide) (by decide) (by decide) (by decide))
  rw [lit_text] at HT
  clear hN hnode
  go_wp2_with fail
  refine HT.out.mono ?_
  rintro e w3 ⟨rfl, hb3⟩
  go_wp2_with fail
  go_ret3
  exact ⟨rfl, below_call hb2 hb3 (Nat.le_refl _)⟩
end Go.Proofs.YthbcogekfdllmaaGreatDoor
