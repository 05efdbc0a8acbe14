/-
  Tidy of rules: an atom's text, a node that is an atom, an or of atoms; Tidy at one string. (Printed by gen_rule6.py.)
-/
import Derived.Test.YthbcogekfdllmaaGreatDoorZRule5
import Derived.Test.YthbcogekfdllmaaGreatDoorZRatMake4
import Derived.Test.YthbcogekfdllmaaGreatDoorZSjoin
import Derived.Test.YthbcogekfdllmaaGreatDoorZTidPure
namespace Go.Proofs.YthbcogekfdllmaaGreatDoor
open Go Go.RowKit
attribute [local go_sem ↓] Go.wp_at_zero Go.wp_at_succ

def textF (a : Atm) : ByteArray :=
  if a.word = sTrue then ⟨#[116, 114, 117, 101]⟩ else if a.word = sHas then ⟨#[104, 97, 115, 32]⟩ ++ a.name else if a.word = sEq then (a.name ++ ⟨#[32, 61, 32]⟩) ++ a.value else ((⟨#[116, 105, 109, 101, 32]⟩ ++ a.word) ++ ⟨#[32]⟩) ++ a.value
set_option maxRecDepth 100000 in
theorem text_calls (a : Atm) (w : World) (ha : a.word.size ≤ 100000 ∧ a.name.size ≤ 100000 ∧ a.value.size ≤ 100000) : Calls Tryz.prog 166 #[.agg #[.string a.word, .string a.name, .string a.value, .int .i64 a.n]] w (BRet (.string (textF a)) w) := by
  have hB : Below w.heap.size w (w.alloc (.cells #[.string a.word, .string a.name, .string a.value, .int .i64 a.n] 238)) := (Below.refl _ _).alloc (Nat.le_refl _) _
  have hF : textF a = if a.word = sTrue then ⟨#[116, 114, 117, 101]⟩ else if a.word = sHas then ⟨#[104, 97, 115, 32]⟩ ++ a.name else if a.word = sEq then (a.name ++ ⟨#[32, 61, 32]⟩) ++ a.value else ((⟨#[116, 105, 109, 101, 32]⟩ ++ a.word) ++ ⟨#[32]⟩) ++ a.value := rfl
  obtain ⟨T, hT⟩ : ∃ T, a.word = T := ⟨_, rfl⟩
  rw [hT] at hF
  rw [hT] at hB ha ⊢
  obtain ⟨b1, b2, b3⟩ := ha
  by_cases h1 : T = sTrue
  · have e1 : (T.toList == [116, 114, 117, 101]) = true := (tokB T [116, 114, 117, 101] sTrue rfl).trans (decide_eq_true h1)
    rw [if_pos h1] at hF
    rw [hF]
    clear hF h1 hT
    go_enter Tryz.func166, Tryz.ntmps166
    go_wp2_with fail
    go_ret
    exact ⟨rfl, hB⟩
  have e1 : (T.toList == [116, 114, 117, 101]) = false := (tokB T [116, 114, 117, 101] sTrue rfl).trans (decide_eq_false h1)
  rw [if_neg h1] at hF
  by_cases h2 : T = sHas
  · have e2 : (T.toList == [104, 97, 115]) = true := (tokB T [104, 97, 115] sHas rfl).trans (decide_eq_true h2)
    rw [if_pos h2] at hF
    rw [hF]
    clear hF h1 h2 hT
    go_enter Tryz.func166, Tryz.ntmps166
    go_wp2_with fail
    go_ret
    exact ⟨rfl, hB⟩
  have e2 : (T.toList == [104, 97, 115]) = false := (tokB T [104, 97, 115] sHas rfl).trans (decide_eq_false h2)
  rw [if_neg h2] at hF
  by_cases h3 : T = sEq
  · have e3 : (T.toList == [61]) = true := (tokB T [61] sEq rfl).trans (decide_eq_true h3)
    rw [if_pos h3] at hF
    rw [hF]
    clear hF h1 h2 h3 hT
    go_enter Tryz.func166, Tryz.ntmps166
    go_wp2_with fail
    go_ret
    exact ⟨rfl, hB⟩
  · have e3 : (T.toList == [61]) = false := (tokB T [61] sEq rfl).trans (decide_eq_false h3)
    rw [if_neg h3] at hF
    rw [hF]
    clear hF h1 h2 h3 hT
    go_enter Tryz.func166, Tryz.ntmps166
    go_wp2_with fail
    go_ret
    exact ⟨rfl, hB⟩

def leaf (a : Atm) : Nd := .node 4 [] a
theorem NodeAt.top {w : World} {lo hi g : Nat} {kind : Int} {ks : List Nd} {a : Atm} (h : NodeAt w lo hi g (.node kind ks a)) :
    ∃ (v : Value) (gs : List Nat), Blk w g 240 (nodeC kind v a) ∧ w.ownsRow lo 179 1 v ks.length (gs.map ptrV) ∧ gs.length = ks.length ∧ ∀ i (hi_ : i < gs.length) (hk : i < ks.length), NodeAt w lo hi gs[i] ks[i] := by
  cases h with
  | mk g kind a v gs ks h1 h2 h3 h4 h5 h6 => exact ⟨v, gs, h2, h3, h5, h6⟩
theorem nodeC_cell {w : World} {g : Nat} {kind : Int} {v : Value} {a : Atm} (h : Blk w g 240 (nodeC kind v a)) :
    w.cell? ⟨g, 0, none⟩ = some (.int .i64 kind) ∧ w.cell? ⟨g, 1, none⟩ = some v ∧ w.cell? ⟨g, 2, none⟩ = some (.string a.word) ∧ w.cell? ⟨g, 3, none⟩ = some (.string a.name) ∧ w.cell? ⟨g, 4, none⟩ = some (.string a.value) ∧ w.cell? ⟨g, 5, none⟩ = some (.int .i64 a.n) :=
  ⟨h.cell 0, h.cell 1, h.cell 2, h.cell 3, h.cell 4, h.cell 5⟩
set_option maxRecDepth 100000 in
theorem tidyLeaf_calls (a : Atm) (g lo hi : Nat) (w : World) (ha : a.word.size ≤ 100000 ∧ a.name.size ≤ 100000 ∧ a.value.size ≤ 100000) (h : NodeAt w lo hi g (leaf a)) : Calls Tryz.prog 120 #[.pointer (some ⟨g, 0, none⟩)] w (BRet (.string (textF a)) w) := by
  obtain ⟨v, gs, h2, _⟩ := h.top
  obtain ⟨c0, c1, c2, c3, c4, c5⟩ := nodeC_cell h2
  have HC := Lib.hid (text_calls a w ha)
  clear h h2
  go_enter Tryz.func120, Tryz.ntmps120
  go_wp2_with fail
  refine HC.out.mono ?_
  rintro e w2 ⟨rfl, hb⟩
  go_wp2_with fail
  go_ret
  exact ⟨rfl, hb⟩

def txV (ats : List Atm) : List Value := ats.map fun a => .string (textF a)
def orText (ats : List Atm) : ByteArray := ⟨(Lib.join ((ats.map textF).map (·.data.toList)) [32, 111, 114, 32]).toArray⟩
set_option maxRecDepth 100000 in
set_option maxHeartbeats 1000000 in
theorem tidyOr_calls (ats : List Atm) (g lo hi : Nat) (w : World) (h : NodeAt w lo hi g (.node 1 (ats.map leaf) atm0)) (hhi : hi ≤ w.heap.size) (hsz : ∀ a ∈ ats, a.word.size ≤ 100000 ∧ a.name.size ≤ 100000 ∧ a.value.size ≤ 100000) (h1 : 1 ≤ ats.length) (h2 : ats.length ≤ 100000) (hlen : (Lib.join ((ats.map textF).map (·.data.toList)) [32, 111, 114, 32]).length ≤ 140737488355328) :
    Calls Tryz.prog 120 #[.pointer (some ⟨g, 0, none⟩)] w (BRet (.string (orText ats)) w) := by
  obtain ⟨j0, hj, hy0, hy1, hy2⟩ := info_parts info_str
  obtain ⟨v, gs, hB, hrow, hgs, hkids⟩ := h.top
  obtain ⟨c0, c1, c2, c3, c4, c5⟩ := nodeC_cell hB
  obtain ⟨n, hn⟩ : ∃ n, ats.length = n := ⟨_, rfl⟩
  rw [List.length_map, hn] at hrow hgs
  rw [hn] at h1 h2
  obtain ⟨gk, ck, hv, hck, _⟩ := hrow.form (by omega)
  subst hv
  have hlk : n ≤ ck := (own_cap hrow).1
  have HRW : Hid (∀ i, i < n → ∀ (hi_ : i < gs.length), w.cell? ⟨gk, i, none⟩ = some (ptrV gs[i])) := fun i hin hi_ => by
    rw [hrow.cellAt i (by omega), List.getElem?_map, List.getElem?_eq_getElem hi_]; rfl
  have HK : Hid (∀ i (hi_ : i < gs.length) (hk : i < ats.length), NodeAt w lo hi gs[i] (leaf ats[i])) := fun i hi_ hk => by
    have := hkids i hi_ (by rw [List.length_map]; exact hk)
    rw [List.getElem_map] at this
    exact this
  have HSZ := Lib.hid hsz
  have HN := Lib.hid hn
  have HGS := Lib.hid hgs
  have HJ : Hid (∀ W bk c, n ≤ c → bk < W.heap.size → (∀ (j : Nat) x, (ats.map textF)[j]? = some x → W.cell? ⟨bk, 0 + j, none⟩ = some (.string x)) → Calls Tryz.prog 167 #[.slice (some ⟨bk, 0, none⟩) n c, .string ⟨#[32, 111, 114, 32]⟩] W (BRet (.string (orText ats)) W)) := fun W bk c hc hbk hcl => by
    have := Tryz.strings_Join bk 0 c (ats.map textF) ⟨#[32, 111, 114, 32]⟩ W hcl hbk (by rw [List.length_map, hn]; omega) (by rw [List.length_map, hn]; exact hc) hlen
    rw [List.length_map, hn] at this
    exact this
  have hS0 := (Sq.start w).nil w.heap.size 9 1
  clear h hB hrow hkids hn hgs hlen hsz
  go_enter Tryz.func120, Tryz.ntmps120
  go_wp2_with fail
  go_loopw [5, 54] (fun s5 i wr => ∃ k : Nat, k ≤ n ∧ i = .int .i64 k ∧ Sq w wr [rOwn w.heap.size 9 1 s5 k (txV (ats.take k))]) (fun _ i _ => n - (intOf i).toNat)
  case atStart => exact ⟨0, Nat.zero_le _, rfl, hS0⟩
  case round =>
    clear hS0
    obtain ⟨k, hk, rfl, hS⟩ := hrel
    have d0 := below_cell hS.below c0
    by_cases hlt : k < n
    · have hkg : k < gs.length := by rw [HGS.out]; exact hlt
      have hka : k < ats.length := by rw [HN.out]; exact hlt
      have d1 := below_cell hS.below (HRW.out k hlt hkg)
      have hnode := (HK.out k hkg hka).keep (w' := wr) (fun q _ hq => hS.below.block q (by omega))
      have HC := Lib.hid (tidyLeaf_calls ats[k] gs[k] lo hi wr (HSZ.out _ (List.getElem_mem hka)) hnode)
      have hk0 : (0 : Int) ≤ (k : Int) := by omega
      have hkn : (k : Int) < (n : Int) := by omega
      obtain ⟨x, hx⟩ : ∃ x, textF ats[k] = x := ⟨_, rfl⟩
      rw [hx] at HC
      have HX := Lib.hid hx
      clear hx hnode
      go_wp2_with fail
      refine HC.out.mono ?_
      rintro e w2 ⟨rfl, hb2⟩
      have hS2 := hS.callB hb2
      have d2 := below_cell hS2.below c0
      have hsz2 := hS2.size
      have HO : w2.ownsRow w.heap.size 9 1 u5 k (txV (ats.take k)) := hS2.head
      clear d0 d1 hS
      go_wp2_with (first
        | (at_builtin; refine wpList_append_own_at _ rfl _ _ 57 rfl w.heap.size 9 j0 (.string ⟨#[]⟩) 1 16 Tryz.underlying57 hj hy0 hy1 hy2 rfl (by decide) _ _ _ rfl (HO.alloc _) ⟨w2.heap.size, 0, none⟩ 1 1 [.string x] rfl rfl (World.news_of_block (heap_alloc_new _ _)) (one1 rfl) (by unfold maxLen; omega) (by omega) (by simp; omega) ?_; intro v' w8 hown' hgrow _ hblk; have hS8 := (hS2.alloc _).append hown' hgrow hblk; clear hown' hgrow hblk))
      go_roundw
      case rel =>
        refine ⟨k + 1, hlt, by go_num, ?_⟩
        rw [List.take_succ_eq_append_getElem hka]
        unfold txV
        rw [List.map_append, List.map_singleton, HX.out]
        exact hS8
      case measure => simp [intOf]; omega
    · obtain rfl : k = n := by omega
      have ho : wr.ownsRow w.heap.size 9 1 u5 k (txV (ats.take k)) := hS.head
      rw [List.take_of_length_le (by rw [HN.out]; exact Nat.le_refl _)] at ho
      obtain ⟨bk, cap, hv, hcap, _⟩ := ho.form (by omega)
      subst hv
      have hcl : ∀ (j : Nat) x, (ats.map textF)[j]? = some x → wr.cell? ⟨bk, 0 + j, none⟩ = some (.string x) := fun j x hx => by
        obtain ⟨hjl, hjx⟩ := List.getElem?_eq_some_iff.1 hx
        rw [List.length_map, HN.out] at hjl
        rw [Nat.zero_add, ho.cellAt j (by omega)]
        unfold txV
        rw [List.getElem?_map] at hx ⊢
        cases hg : ats[j]? with
        | none => rw [hg] at hx; cases hx
        | some y => rw [hg] at hx; simp at hx; simp [hx]
      have HC := Lib.hid (HJ.out wr bk cap (own_cap ho).1 (ho.lt bk rfl).2 hcl)
      clear ho hcl
      go_wp2_with fail
      refine HC.out.mono ?_
      rintro e w2 ⟨rfl, hb2⟩
      go_wp2_with fail
      go_ret
      exact ⟨rfl, below_call hS.below hb2 (Nat.le_refl _)⟩

def litT : ByteArray := ⟨#[40, 97, 61, 120, 41, 111, 114, 32, 104, 97, 115, 32, 98]⟩
def noNum (_ : ByteArray) : Int × Bool := (0, false)
def litA : List Atm := [⟨⟨#[61]⟩, ⟨#[97]⟩, ⟨#[120]⟩, 0⟩, ⟨⟨#[104, 97, 115]⟩, ⟨#[98]⟩, ⟨#[]⟩, 0⟩]
theorem lit_noTime : NoTime litT := by
  intro i
  by_cases h : i < 13
  · have : (List.range 13).all (fun i => !((litT.extract i (tokE litT i)).data.toList == sTime.data.toList)) = true := by decide +kernel
    rw [List.all_eq_true] at this
    have := this i (by simpa using h)
    intro e
    rw [e] at this
    simp at this
  · intro e
    have h1 : (litT.extract i (tokE litT i)).size = 4 := by rw [e]; rfl
    rw [ByteArray.size_extract] at h1
    have h2 : litT.size = 13 := rfl
    omega
theorem lit_parse : (parseT noNum litT).1 = .node 1 (litA.map leaf) atm0 := by kernel_rfl
theorem lit_parseE : parseE noNum litT = (0, 0) := by decide +kernel
theorem lit_text : orText litA = ⟨#[97, 32, 61, 32, 120, 32, 111, 114, 32, 104, 97, 115, 32, 98]⟩ := by kernel_rfl
set_option maxRecDepth 100000 in
theorem tidyLit_calls (w : World) : Calls Tryz.prog 57 #[.string ⟨#[40, 97, 61, 120, 41, 111, 114, 32, 104, 97, 115, 32, 98]⟩] w (BRet (.tuple #[.string ⟨#[97, 32, 61, 32, 120, 32, 111, 114, 32, 104, 97, 115, 32, 98]⟩, .int .i64 0, .int .i64 0]) w) := by
  have HP := Lib.hid (parse_calls noNum litT w (by decide) (.inl lit_noTime))
  go_enter Tryz.func57, Tryz.ntmps57
  go_wp2_with fail
  refine HP.out.mono ?_
  rintro e w2 ⟨v, rfl, hb2, hN⟩
  rw [lit_parseE] at hN
  obtain ⟨g, rfl, hnode⟩ := hN rfl
  rw [lit_parse] at hnode
  rw [lit_parseE]
  have HT := Lib.hid (tidyOr_calls litA g _ _ w2 hnode (Nat.le_refl _) (by decide) (by decide) (by decide) (by decide))
  rw [lit_text] at HT
  clear hN hnode
  go_wp2_with fail
  refine HT.out.mono ?_
  rintro e w3 ⟨rfl, hb3⟩
  go_wp2_with fail
  go_ret3
  exact ⟨rfl, below_call hb2 hb3 (Nat.le_refl _)⟩
end Go.Proofs.YthbcogekfdllmaaGreatDoor
/-
  Tidy of any tree that was read, by a contract; Check, Tidy. (Printed by gen_tid.py.)
-/
namespace Go.Proofs.YthbcogekfdllmaaGreatDoor
open Go Go.RowKit
attribute [local go_sem ↓] Go.wp_at_zero Go.wp_at_succ

/-- a kid's kind stands in its node -/
theorem NodeAt.kind {w : World} {lo hi g : Nat} {k : Nd} (h : NodeAt w lo hi g k) : w.cell? ⟨g, 0, none⟩ = some (.int .i64 (kindOf k)) := by
  cases h with
  | mk g kind a v gs ks h1 h2 h3 h4 h5 h6 => exact h2.cell 0
set_option maxRecDepth 100000 in
theorem check_calls (num : ByteArray → Int × Bool) (hc : NumC num) (s : ByteArray) (w : World) (hs : s.size ≤ 99000) :
    Calls Tryz.prog 149 #[.string s] w (BRet (.tuple #[.int .i64 (parseE num s).1, .int .i64 (parseE num s).2]) w) := by
  have HP := Lib.hid (parse_calls num s w (by omega) (.inr hc))
  obtain ⟨q, hq⟩ : ∃ q, parseE num s = q := ⟨_, rfl⟩
  rw [hq]
  have HQ := Lib.hid hq
  clear hq
  go_enter Tryz.func149, Tryz.ntmps149
  go_wp2_with fail
  refine HP.out.mono ?_
  rintro e w2 ⟨v, rfl, hb2, _⟩
  rw [HQ.out]
  go_wp2_with fail
  go_ret2
  exact ⟨rfl, hb2⟩
end Go.Proofs.YthbcogekfdllmaaGreatDoor
