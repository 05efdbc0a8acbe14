/-
  The atoms of a tree as the program has them: names$1, atoms, names, Atoms by contracts. (Printed by gen_ats.py.)
-/
import Derived.Test.YtfhdknppldobiaaGreatDoorZRule6
import Derived.Test.YtfhdknppldobiaaGreatDoorZSrt
import Derived.Test.YtfhdknppldobiaaGreatDoorZRst1
import Derived.Deep.DeepCutAuto
namespace Go.Proofs.YtfhdknppldobiaaGreatDoor
open Go Go.RowKit
attribute [local go_sem ↓] Go.wp_at_zero Go.wp_at_succ

def tl (x : ByteArray) : List UInt8 := x.data.toList
theorem svB_snoc (ls : List (List UInt8)) (x : ByteArray) : svB (ls ++ [tl x]) = svB ls ++ [.string x] := by
  unfold svB
  rw [List.map_append]
  rfl
/-- what the closure of names holds -/
def AtS (w0 W : World) (gv : Nat) (ls : List (List UInt8)) : Prop := ∃ A c, Sq w0 W [rBlk gv 37 #[.slice A ls.length c], rOwn w0.heap.size 9 1 (.slice A ls.length c) ls.length (svB ls)]
theorem step_app_st {w0 V : World} {x : ByteArray} {L : List Rsc} {A : Option Addr} {n c : Nat} {ys : List Value} {gl : Nat} {ops : Array Oper} {o : Oper} {a : Act} {K : Act → World → Prop} {Q : Exit → Act → World → Prop} {E : Prop} (hgd : o.guard = none) (s y : Operand) (ho : o.op = .call { callee := .builtin .append, args := #[s, y], argTypes := #[37, 37] })
    (hT : Sq w0 V (rBlk gl 9 #[.string x] :: rOwn w0.heap.size 9 1 (.slice A n c) n ys :: L)) (hn : n ≤ 200000) (hs : a.eval s = .slice A n c) (hx : a.eval y = .slice (some ⟨gl, 0, none⟩) 1 1)
    (h : ∀ A' c' V', Sq w0 V' (rOwn w0.heap.size 9 1 (.slice A' (n + 1) c') (n + 1) (ys ++ [.string x]) :: L) → K (a.put o.dst (.slice A' (n + 1) c')) V') :
    if Region.wanted o (yielded ops a.tmps) = true then Oper.wp Tryz.prog o a V K Q else E := by
  obtain ⟨i0, hi, hz0, hz1, hz2⟩ := info_parts info_str
  have hw : Region.wanted o (yielded ops a.tmps) = true := by simp [Region.wanted, hgd]
  rw [if_pos hw]
  have hb' : Blk V gl 9 #[.string x] := hT.head
  have hS1 := hT.tail
  have hown : V.ownsRow w0.heap.size 9 1 (.slice A n c) n ys := hS1.head
  have hr : Rd V (gl + 1) 1 (.slice (some ⟨gl, 0, none⟩) 1 1) 1 [.string x] := blkRd 1 1 hb' (by omega) (by decide) rfl
  refine wp_app_rd V s y 37 ho w0.heap.size 9 i0 (.string ⟨#[]⟩) 1 16 Tryz.underlying37 hi hz0 hz1 hz2 rfl (by decide) _ n _ hs hown (gl + 1) _ 1 1 [.string x] hx hr (one1 rfl) (by unfold maxLen; omega) (by omega) hT.size ?_
  intro v' w' h1 h2 h3
  obtain ⟨A', c', rfl⟩ := own_form h1
  exact h A' c' w' (hS1.append h1 h2 h3)

set_option maxRecDepth 100000 in
set_option maxHeartbeats 1000000 in
theorem names1_calls (w0 : World) (gv : Nat) (ls : List (List UInt8)) (a : Atm) (W : World) (h : AtS w0 W gv ls) (hl : ls.length ≤ 100000) (ha : a.word.size ≤ 100000 ∧ a.name.size ≤ 100000 ∧ a.value.size ≤ 100000) :
    Calls Tryz.prog 155 #[.agg #[.string a.word, .string a.name, .string a.value, .int .i64 a.n], .pointer (some ⟨gv, 0, none⟩)] W fun e w' => e = .returned (.tuple #[]) ∧ AtS w0 w' gv (ls ++ [tl (txtA a)]) := by
  obtain ⟨A, c, hS⟩ := h
  have hS1 := hS.add #[.string a.word, .string a.name, .string a.value, .int .i64 a.n] 175
  have HC : Hid (∀ V, Calls Tryz.prog 148 #[.agg #[.string a.word, .string a.name, .string a.value, .int .i64 a.n]] V (BRet (.string (txtA a)) V)) := Lib.hid (fun V => by rw [← textF_eq]; exact text_calls a V ha)
  obtain ⟨n, hn⟩ : ∃ n, ls.length = n := ⟨_, rfl⟩
  rw [hn] at hS1 hl
  have HN := Lib.hid hn
  obtain ⟨x, hx⟩ : ∃ x, txtA a = x := ⟨_, rfl⟩
  rw [hx] at HC
  rw [hx]
  have HSN := Lib.hid (svB_snoc ls x)
  obtain ⟨ys, hys⟩ : ∃ ys, svB ls = ys := ⟨_, rfl⟩
  rw [hys] at hS1 HSN
  obtain ⟨a0, ha0⟩ : ∃ z, a.word = z := ⟨_, rfl⟩
  obtain ⟨a1, ha1⟩ : ∃ z, a.name = z := ⟨_, rfl⟩
  obtain ⟨a2, ha2⟩ : ∃ z, a.value = z := ⟨_, rfl⟩
  obtain ⟨a3, ha3⟩ : ∃ z, a.n = z := ⟨_, rfl⟩
  rw [ha0, ha1, ha2, ha3] at hS1 HC ⊢
  clear hS hn hx hys ha ha0 ha1 ha2 ha3
  go_enter Tryz.func155, Tryz.ntmps155
  go_wp2_with fail
  obtain ⟨W1, hW1, hS1⟩ : ∃ W1, W1 = W.alloc (.cells #[.string a0, .string a1, .string a2, .int .i64 a3] 175) ∧ Sq w0 W1 [rBlk W.heap.size 175 #[.string a0, .string a1, .string a2, .int .i64 a3], rBlk gv 37 #[.slice A n c], rOwn w0.heap.size 9 1 (.slice A n c) n ys] := ⟨_, rfl, hS1⟩
  rw [← hW1]
  clear hW1
  have b0 : W1.cell? ⟨W.heap.size, 0, none⟩ = some (.string a0) := (hS1.nth 0 rfl : Blk W1 W.heap.size _ _).cell 0
  have b1 : W1.cell? ⟨W.heap.size, 1, none⟩ = some (.string a1) := (hS1.nth 0 rfl : Blk W1 W.heap.size _ _).cell 1
  have b2 : W1.cell? ⟨W.heap.size, 2, none⟩ = some (.string a2) := (hS1.nth 0 rfl : Blk W1 W.heap.size _ _).cell 2
  have b3 : W1.cell? ⟨W.heap.size, 3, none⟩ = some (.int .i64 a3) := (hS1.nth 0 rfl : Blk W1 W.heap.size _ _).cell 3
  have v0 : W1.cell? ⟨gv, 0, none⟩ = some (.slice A n c) := (hS1.nth 1 rfl : Blk W1 gv _ _).cell 0
  have hS1d := hS1.drew
  have HCD := Lib.hid (HC.out W1.drew)
  clear hS1 HC
  go_region_law (first
    | (go_simp; go_at_call 148; ((with_reducible refine HCD.out.mono ?_); rintro e w3 ⟨rfl, hb3⟩; have hS3 := (hS1d.callB hb3).tail.front 1 rfl rfl; have e32 : w3.cell? ⟨gv, 0, none⟩ = some (.slice A n c) := (hS3.nth 1 rfl : Blk w3 gv _ _).cell 0; have hT3 := hS3.add #[.string x] 9; have e42 : (w3.alloc (.cells #[.string x] 9)).cell? ⟨gv, 0, none⟩ = some (.slice A n c) := (hT3.nth 2 rfl : Blk _ gv _ _).cell 0; have hz3 := hS3.size))
    | ((with_reducible refine step_app_st rfl _ _ rfl hT3 (by omega) rfl rfl ?_); intro A8 c8 w8 hS8; have cb8 : w8.cell? ⟨gv, 0, none⟩ = some (.slice A n c) := (hS8.nth 1 rfl : Blk w8 gv _ _).cell 0; have fb8 : w8.frozen? ⟨gv, 0, none⟩ = false := (hS8.nth 1 rfl : Blk w8 gv _ _).frozen 0; have hz8 := hS8.size))
  all_goals
    go_wp2_with fail
    go_end0
    refine ⟨rfl, A8, c8, ?_⟩
    rw [List.length_append, HN.out, HSN.out]
    exact (hS8.front 1 rfl rfl).set_ 0 (.slice A8 (n + 1) c8)

def txs (t : Nd) : List (List UInt8) := (atsF t).map fun a => tl (txtA a)
theorem txs_in {kind : Int} (h : kind ≠ 4) (ks : List Nd) (a : Atm) : txs (.node kind ks a) = ks.flatMap txs := by
  unfold txs
  rw [ats_in h, List.map_flatMap]
theorem txs_leaf (a : Atm) : txs (.node 4 [] a) = [tl (txtA a)] := by unfold txs; rw [ats_leaf]; rfl
theorem txs_len (t : Nd) : (txs t).length = (atsF t).length := by unfold txs; rw [List.length_map]
theorem txs_take (ks : List Nd) (k : Nat) (hk : k < ks.length) : (ks.take (k + 1)).flatMap txs = (ks.take k).flatMap txs ++ txs ks[k] := by
  rw [List.take_succ_eq_append_getElem hk, List.flatMap_append]
  simp
theorem txs_le (ks : List Nd) (k : Nat) : ((ks.take k).flatMap txs).length ≤ (ks.flatMap txs).length := by
  have e := congrArg List.length (congrArg (List.flatMap txs) (List.take_append_drop k ks))
  rw [List.flatMap_append, List.length_append] at e
  omega
def AtmH (t : Nd) : Prop := ∀ w0 gv g lo hi W ls, NodeAt w0 lo hi g t → hi ≤ w0.heap.size → AtS w0 W gv ls → ls.length + (txs t).length ≤ 100000 →
  Calls Tryz.prog 154 #[.pointer (some ⟨g, 0, none⟩), .func (.func 155) #[] #[.pointer (some ⟨gv, 0, none⟩)]] W fun e w' => e = .returned (.tuple #[]) ∧ AtS w0 w' gv (ls ++ txs t)
theorem AtS.below {w0 W : World} {gv : Nat} {ls : List (List UInt8)} (h : AtS w0 W gv ls) : Below w0.heap.size w0 W := by
  obtain ⟨A, c, hS⟩ := h
  exact hS.below
set_option maxRecDepth 100000 in
theorem atmLeaf_calls (a : Atm) (ha : a.word.size ≤ 100000 ∧ a.name.size ≤ 100000 ∧ a.value.size ≤ 100000) : AtmH (.node 4 [] a) := by
  intro w0 gv g lo hi W ls hn hhi hA hl
  obtain ⟨v, gs, hB, hrow, _, _⟩ := hn.top
  obtain ⟨c0, c1, c2, c3, c4, c5⟩ := nodeC_cell hB
  obtain ⟨A', c', hv⟩ := own_form hrow
  subst hv
  have hb := hA.below
  have d0 := below_cell hb c0
  have d2 := below_cell hb c2
  have d3 := below_cell hb c3
  have d4 := below_cell hb c4
  have d5 := below_cell hb c5
  rw [txs_leaf] at hl ⊢
  have HC := Lib.hid (names1_calls w0 gv ls a W hA (by omega) ha)
  clear hB hrow hn hA hb
  go_enter Tryz.func154, Tryz.ntmps154
  go_wp2_with fail
  refine HC.out.mono ?_
  rintro e w2 ⟨rfl, hA2⟩
  have e1 : w2.cell? ⟨g, 1, none⟩ = some (.slice A' ([] : List Nd).length c') := below_cell hA2.below c1
  have HA2 := Lib.hid hA2
  clear d0 d2 d3 d4 d5 hA2
  go_wp2_with fail
  go_loopw [22] (fun i wr => i = .int .i64 0 ∧ wr = w2) (fun _ _ => 0)
  case atStart => exact ⟨rfl, rfl⟩
  case round =>
    obtain ⟨rfl, rfl⟩ := hrel
    go_wp2_with fail
    go_end0
    exact ⟨rfl, HA2.out⟩
set_option maxRecDepth 100000 in
set_option maxHeartbeats 1000000 in
theorem atmIn_calls (kind : Int) (hk4 : kind ≠ 4) (ks : List Nd) (a : Atm) (hn1 : 1 ≤ ks.length) (IH : ∀ k ∈ ks, AtmH k) : AtmH (.node kind ks a) := by
  intro w0 gv g lo hi W ls hn hhi hA hl
  obtain ⟨v, gs, hB, hrow, hgs, hkids⟩ := hn.top
  obtain ⟨c0, c1, c2, c3, c4, c5⟩ := nodeC_cell hB
  obtain ⟨n, hnn⟩ : ∃ n, ks.length = n := ⟨_, rfl⟩
  rw [hnn] at hrow hgs hn1
  obtain ⟨gk, ck, hv, hck, _⟩ := hrow.form (by omega)
  subst hv
  obtain ⟨hcp1, hcp2⟩ := own_cap hrow
  unfold maxLen at hcp2
  have HRW : Hid (∀ i, i < n → ∀ (hi_ : i < gs.length), w0.cell? ⟨gk, i, none⟩ = some (ptrV gs[i])) := fun i hin hi_ => by
    rw [hrow.cellAt i (by omega), List.getElem?_map, List.getElem?_eq_getElem hi_]; rfl
  rw [txs_in hk4] at hl ⊢
  have HIH : Hid (∀ i (hi_ : i < gs.length) (hk : i < ks.length) V (lv : List (List UInt8)), AtS w0 V gv lv → lv.length + (txs ks[i]).length ≤ 100000 → Calls Tryz.prog 154 #[ptrV gs[i], .func (.func 155) #[] #[.pointer (some ⟨gv, 0, none⟩)]] V fun e w' => e = .returned (.tuple #[]) ∧ AtS w0 w' gv (lv ++ txs ks[i])) :=
    Lib.hid (fun i hi_ hk V lv hV hlv => IH _ (List.getElem_mem hk) w0 gv gs[i] lo hi V lv (hkids i hi_ hk) hhi hV hlv)
  have HN := Lib.hid hnn
  have HGS := Lib.hid hgs
  have HL := Lib.hid hl
  have hb := hA.below
  have d0 := below_cell hb c0
  have d1 := below_cell hb c1
  have hkne : (kind == 4) = false := by simpa using hk4
  have HA := Lib.hid hA
  clear hB hrow hn hA hkids hgs hnn IH hl
  go_enter Tryz.func154, Tryz.ntmps154
  go_wp2_with fail
  go_loopw [22] (fun i wr => ∃ k : Nat, k ≤ n ∧ i = .int .i64 k ∧ Hid (AtS w0 wr gv (ls ++ (ks.take k).flatMap txs))) (fun i _ => n - (intOf i).toNat)
  case atStart => exact ⟨0, Nat.zero_le _, rfl, by simpa using HA⟩
  case round =>
    clear d0 d1
    obtain ⟨k, hk, rfl, HS⟩ := hrel
    by_cases hlt : k < n
    · have hkg : k < gs.length := by rw [HGS.out]; exact hlt
      have hka : k < ks.length := by rw [HN.out]; exact hlt
      have e1 := below_cell HS.out.below (HRW.out k hlt hkg)
      have hlk : (ls ++ (ks.take k).flatMap txs).length + (txs ks[k]).length ≤ 100000 := by
        have h1 := txs_le ks (k + 1)
        rw [txs_take ks k hka, List.length_append] at h1
        have := HL.out
        rw [List.length_append]
        omega
      have HC := Lib.hid (HIH.out k hkg hka wr _ HS.out hlk)
      have HTK := Lib.hid (txs_take ks k hka)
      have hk0 : (0 : Int) ≤ (k : Int) := by omega
      have hkn : (k : Int) < (n : Int) := by omega
      clear hlk
      go_wp2_with fail
      refine HC.out.mono ?_
      rintro e w2 ⟨rfl, hA2⟩
      have HA2 := Lib.hid hA2
      clear hA2 e1
      go_wp2_with fail
      go_roundw
      case rel => exact ⟨k + 1, hlt, by go_num, by rw [HTK.out, ← List.append_assoc]; exact HA2⟩
      case measure => simp [intOf]; omega
    · obtain rfl : k = n := by omega
      have e9 : ks.take k = ks := List.take_of_length_le (by rw [HN.out]; exact Nat.le_refl _)
      rw [e9] at HS
      clear e9
      go_wp2_with fail
      go_end0
      exact ⟨rfl, HS.out⟩
theorem atm_calls {num : ByteArray → Int × Bool} (hz : NumZ num) {t : Nd} (h : NdOk num t) : AtmH t := by
  induction h with
  | atom a h => exact atmLeaf_calls a (atm_sizes hz h)
  | not k _ ih => exact atmIn_calls 3 (by decide) [k] atm0 (by simp) (fun x hx => by simp at hx; subst hx; exact ih)
  | or ks h2 _ ih => exact atmIn_calls 1 (by decide) ks atm0 (by omega) ih
  | and ks h2 _ ih => exact atmIn_calls 2 (by decide) ks atm0 (by omega) ih
/-- the different atoms of a tree, sorted -/
def namL (t : Nd) : List (List UInt8) := Lib.compact (srtL (txs t))
theorem namL_len (t : Nd) : (namL t).length ≤ (txs t).length := by
  unfold namL
  have := compact_le (srtL (txs t))
  rw [srtL_len] at this
  exact this
set_option maxRecDepth 100000 in
theorem names_calls {num : ByteArray → Int × Bool} (hz : NumZ num) {t : Nd} (h : NdOk num t) (hc : cntN t ≤ 100000) (g lo hi : Nat) (w : World) (hn : NodeAt w lo hi g t) (hhi : hi ≤ w.heap.size) :
    Calls Tryz.prog 103 #[.pointer (some ⟨g, 0, none⟩)] w fun e w' => ∃ A c, e = .returned (.slice A (namL t).length c) ∧ w'.ownsRow w.heap.size 9 1 (.slice A (namL t).length c) (namL t).length (svB (namL t)) ∧ Below w.heap.size w w' := by
  have hl := ats_len h
  rw [← txs_len] at hl
  have hS0 := ((Sq.start w).nil w.heap.size 9 1).add #[.slice none 0 0] 37
  have HA0 : Hid (AtS w (w.alloc (.cells #[.slice none 0 0] 37)) w.heap.size []) := Lib.hid ⟨none, 0, hS0⟩
  have HC := Lib.hid (atm_calls hz h w w.heap.size g lo hi _ [] hn hhi HA0.out (by simp; omega))
  rw [List.nil_append] at HC
  have HSO := Lib.hid (fun W rs A n c ls h1 h2 => sortS_calls w W rs A n c ls h1 h2)
  have HCO := Lib.hid (fun W rs A n c ls h1 h2 => compS_calls w W rs A n c ls h1 h2)
  obtain ⟨x, hx⟩ : ∃ x, txs t = x := ⟨_, rfl⟩
  have HNL : Hid (namL t = Lib.compact (srtL x)) := Lib.hid (by rw [← hx]; rfl)
  rw [hx] at HC hl
  clear hS0 HA0 hx
  rw [HNL.out]
  go_enter Tryz.func103, Tryz.ntmps103
  go_wp2_with fail
  refine HC.out.mono ?_
  rintro e w2 ⟨rfl, A, c, hS2⟩
  have k0 : w2.cell? ⟨w.heap.size, 0, none⟩ = some (.slice A x.length c) := Blk.cell (hS2.nth 0 rfl) 0
  have HS1 := Lib.hid (HSO.out w2 _ A x.length c x (by omega) (hS2.front 1 rfl rfl))
  clear hS2
  go_wp2_with fail
  refine HS1.out.mono ?_
  rintro e w3 ⟨rfl, hS3⟩
  have k1 : w3.cell? ⟨w.heap.size, 0, none⟩ = some (.slice A x.length c) := Blk.cell (hS3.nth 1 rfl) 0
  have HS2 := Lib.hid (HCO.out w3 _ A x.length c (srtL x) (by omega) hS3)
  clear hS3 k0
  go_wp2_with fail
  refine HS2.out.mono ?_
  rintro e w4 ⟨rfl, hS4⟩
  go_wp2_with fail
  go_ret
  exact ⟨A, c, rfl, hS4.head, hS4.below⟩
end Go.Proofs.YtfhdknppldobiaaGreatDoor
