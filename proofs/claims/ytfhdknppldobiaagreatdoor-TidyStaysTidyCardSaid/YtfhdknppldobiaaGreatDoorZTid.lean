/-
  Tidy of any tree that was read, by a contract; Check, Tidy. (Printed by gen_tid.py.)
-/
import Derived.Test.YtfhdknppldobiaaGreatDoorZTidPure
import Derived.Test.YtfhdknppldobiaaGreatDoorZSjoin
namespace Go.Proofs.YtfhdknppldobiaaGreatDoor
open Go Go.RowKit
attribute [local go_sem ↓] Go.wp_at_zero Go.wp_at_succ

theorem ba_ext {x y : ByteArray} (h : x.data.toList = y.data.toList) : x = y := by
  cases x; cases y
  congr
  exact Array.toList_inj.1 h
theorem textF_eq (a : Atm) : textF a = txtA a := by
  unfold textF txtA
  split
  · rfl
  · split
    · rfl
    · split
      · exact ba_ext (by simp [triQ, sBl, sEq])
      · exact ba_ext (by simp [triQ, sBl, sTime])
/-- a kid's kind stands in its node -/
theorem NodeAt.kind {w : World} {lo hi g : Nat} {k : Nd} (h : NodeAt w lo hi g k) : w.cell? ⟨g, 0, none⟩ = some (.int .i64 (kindOf k)) := by
  cases h with
  | mk g kind a v gs ks h1 h2 h3 h4 h5 h6 => exact h2.cell 0
theorem kid_par {kind : Int} {k : Nd} {x : ByteArray} (h : kindOf k = 1) (hk : kind = 2 ∨ kind = 3) : kidT kind k x = parB x := by
  unfold kidT parIf
  rw [h]
  rcases hk with rfl | rfl <;> rfl
theorem kid_par2 {k : Nd} {x : ByteArray} (h : kindOf k = 2) : kidT 3 k x = parB x := by
  unfold kidT parIf
  rw [h]
  rfl
theorem kid_bare {k : Nd} {x : ByteArray} : kidT 1 k x = x := by
  unfold kidT parIf
  simp
theorem kid_bare2 {k : Nd} {x : ByteArray} (h : kindOf k ≠ 1) : kidT 2 k x = x := by
  unfold kidT parIf
  simp [h]
theorem kid_bare3 {k : Nd} {x : ByteArray} (h : kindOf k ≠ 1) (h2 : kindOf k ≠ 2) : kidT 3 k x = x := by
  unfold kidT parIf
  simp [h, h2]
/-- what the contract of tidy asks of a tree -/
def TidC (t : Nd) : Prop := ∀ (g lo hi : Nat) (w : World), NodeAt w lo hi g t → hi ≤ w.heap.size → Calls Tryz.prog 102 #[.pointer (some ⟨g, 0, none⟩)] w (BRet (.string (tidF t)) w)

set_option maxRecDepth 100000 in
set_option maxHeartbeats 1000000 in
theorem tidyNot_calls (k : Nd) (hk : (tidF k).size ≤ 10000000) (IH : TidC k) : TidC (.node 3 [k] atm0) := by
  intro g lo hi w h hhi
  obtain ⟨v, gs, hB, hrow, hgs, hkids⟩ := h.top
  obtain ⟨c0, c1, c2, c3, c4, c5⟩ := nodeC_cell hB
  obtain ⟨gk, ck, hv, hck, _⟩ := hrow.form (by simp)
  subst hv
  have hl : gs.length = 1 := hgs
  obtain ⟨g0, rfl⟩ : ∃ g0, gs = [g0] := by
    cases gs with
    | nil => cases hl
    | cons a t => cases t with
      | nil => exact ⟨a, rfl⟩
      | cons _ _ => cases hl
  have r0 : w.cell? ⟨gk, 0, none⟩ = some (ptrV g0) := by rw [hrow.cellAt 0 (by simp)]; rfl
  have hn0 : NodeAt w lo hi g0 k := hkids 0 (by simp) (by simp)
  have q0 := hn0.kind
  have HC := Lib.hid (IH g0 lo hi w hn0 hhi)
  have HK := Lib.hid (tid_not k atm0)
  obtain ⟨x, hx⟩ : ∃ x, tidF k = x := ⟨_, rfl⟩
  rw [hx] at HC HK hk
  have HPR1 : Hid (kindOf k = 1 → kidT 3 k x = parB x) := Lib.hid (fun h => kid_par h (.inr rfl))
  have HPR2 : Hid (kindOf k = 2 → kidT 3 k x = parB x) := Lib.hid (fun h => kid_par2 h)
  have HPR3 : Hid (kindOf k ≠ 1 → kindOf k ≠ 2 → kidT 3 k x = x) := Lib.hid (fun h1 h2 => kid_bare3 h1 h2)
  have HPB : Hid (parB x = (⟨#[40]⟩ ++ x) ++ ⟨#[41]⟩) := Lib.hid rfl
  have HNT : Hid (∀ y, notT ++ y = (⟨#[110, 111, 116, 32]⟩ : ByteArray) ++ y) := Lib.hid (fun y => rfl)
  obtain ⟨kd, hkd⟩ : ∃ kd, kindOf k = kd := ⟨_, rfl⟩
  rw [hkd] at q0 HPR1 HPR2 HPR3
  clear h hB hrow hgs hkids hn0 hl hx hkd
  rw [HK.out]
  by_cases h1 : kd = 1
  · subst h1
    rw [HPR1.out rfl, HNT.out, HPB.out]
    clear HPR1 HPR2 HPR3 HK
    go_enter Tryz.func102, Tryz.ntmps102
    go_wp2_with fail
    refine HC.out.mono ?_
    rintro e w2 ⟨rfl, hb2⟩
    have d1 := below_cell hb2 c1
    have d2 := below_cell hb2 r0
    have d3 := below_cell hb2 q0
    go_wp2_with fail
    go_ret
    exact ⟨rfl, hb2⟩
  · by_cases h2 : kd = 2
    · subst h2
      rw [HPR2.out rfl, HNT.out, HPB.out]
      clear HPR1 HPR2 HPR3 HK
      go_enter Tryz.func102, Tryz.ntmps102
      go_wp2_with fail
      refine HC.out.mono ?_
      rintro e w2 ⟨rfl, hb2⟩
      have d1 := below_cell hb2 c1
      have d2 := below_cell hb2 r0
      have d3 := below_cell hb2 q0
      go_wp2_with fail
      go_ret
      exact ⟨rfl, hb2⟩
    · have e1 : (kd == 1) = false := by simpa using h1
      have e2 : (kd == 2) = false := by simpa using h2
      rw [HPR3.out h1 h2, HNT.out]
      clear HPR1 HPR2 HPR3 HK HPB
      go_enter Tryz.func102, Tryz.ntmps102
      go_wp2_with fail
      refine HC.out.mono ?_
      rintro e w2 ⟨rfl, hb2⟩
      have d1 := below_cell hb2 c1
      have d2 := below_cell hb2 r0
      have d3 := below_cell hb2 q0
      go_wp2_with fail
      go_ret
      exact ⟨rfl, hb2⟩

def kidV (kind : Int) (ks : List Nd) : List Value := ks.map fun k => .string (kidT kind k (tidF k))

set_option maxRecDepth 100000 in
set_option maxHeartbeats 2000000 in
theorem tidyOrs_calls (ks : List Nd) (h1 : 2 ≤ ks.length) (h2 : ks.length ≤ 100000) (hsz : (tidF (.node 1 ks atm0)).size ≤ 10000000) (hk : ∀ k ∈ ks, (tidF k).size ≤ 10000000) (IH : ∀ k ∈ ks, TidC k) : TidC (.node 1 ks atm0) := by
  intro g lo hi w h hhi
  obtain ⟨j0, hj, hy0, hy1, hy2⟩ := info_parts info_str
  obtain ⟨v, gs, hB, hrow, hgs, hkids⟩ := h.top
  obtain ⟨c0, c1, c2, c3, c4, c5⟩ := nodeC_cell hB
  obtain ⟨n, hn⟩ : ∃ n, ks.length = n := ⟨_, rfl⟩
  rw [hn] at hrow hgs h1 h2
  obtain ⟨gk, ck, hv, hck, _⟩ := hrow.form (by omega)
  subst hv
  have hlk : n ≤ ck := (own_cap hrow).1
  have HRW : Hid (∀ i, i < n → ∀ (hi_ : i < gs.length), w.cell? ⟨gk, i, none⟩ = some (ptrV gs[i])) := fun i hin hi_ => by
    rw [hrow.cellAt i (by omega), List.getElem?_map, List.getElem?_eq_getElem hi_]; rfl
  have HK : Hid (∀ i (hi_ : i < gs.length) (hk : i < ks.length), NodeAt w lo hi gs[i] ks[i]) := hkids
  have HIH : Hid (∀ i (hk : i < ks.length), TidC ks[i]) := fun i hk => IH _ (List.getElem_mem hk)
  have HZ : Hid (∀ i (hk : i < ks.length), (tidF ks[i]).size ≤ 10000000) := fun i hi_ => hk _ (List.getElem_mem hi_)
  have HN := Lib.hid hn
  have HGS := Lib.hid hgs
  have hT : tidF (.node 1 ks atm0) = joinB sepOr (ks.map fun k => kidT 1 k (tidF k)) := tid_or ks atm0
  have hjl : (Lib.join ((ks.map fun k => kidT 1 k (tidF k)).map (·.data.toList)) [32, 111, 114, 32]).length ≤ 140737488355328 := by
    rw [hT] at hsz
    have : (joinB sepOr (ks.map fun k => kidT 1 k (tidF k))).size = (Lib.join ((ks.map fun k => kidT 1 k (tidF k)).map (·.data.toList)) [32, 111, 114, 32]).length := by
      show (Lib.join ((ks.map fun k => kidT 1 k (tidF k)).map (·.data.toList)) [32, 111, 114, 32]).toArray.size = _
      simp
    omega
  have HJ : Hid (∀ W bk c, n ≤ c → bk < W.heap.size → (∀ (j : Nat) x, (ks.map fun k => kidT 1 k (tidF k))[j]? = some x → W.cell? ⟨bk, 0 + j, none⟩ = some (.string x)) → Calls Tryz.prog 153 #[.slice (some ⟨bk, 0, none⟩) n c, .string ⟨#[32, 111, 114, 32]⟩] W (BRet (.string (tidF (.node 1 ks atm0))) W)) := fun W bk c hc hbk hcl => by
    have := Tryz.strings_Join bk 0 c (ks.map fun k => kidT 1 k (tidF k)) ⟨#[32, 111, 114, 32]⟩ W hcl hbk (by rw [List.length_map, hn]; omega) (by rw [List.length_map, hn]; exact hc) hjl
    rw [List.length_map, hn] at this
    rw [hT]
    exact this
  have hS0 := (Sq.start w).nil w.heap.size 9 1
  obtain ⟨TX, hTX⟩ : ∃ TX, tidF (.node 1 ks atm0) = TX := ⟨_, rfl⟩
  rw [hTX] at HJ ⊢
  clear h hB hrow hkids hn hgs hjl hsz hT hk IH hTX
  go_enter Tryz.func102, Tryz.ntmps102
  go_wp2_with fail
  go_loopw [5, 54] (fun s5 i wr => ∃ k : Nat, k ≤ n ∧ i = .int .i64 k ∧ Sq w wr [rOwn w.heap.size 9 1 s5 k (kidV 1 (ks.take k))]) (fun _ i _ => n - (intOf i).toNat)
  case atStart => exact ⟨0, Nat.zero_le _, rfl, hS0⟩
  case round =>
    clear hS0
    obtain ⟨k, hk, rfl, hS⟩ := hrel
    have d0 := below_cell hS.below c0
    by_cases hlt : k < n
    · have hkg : k < gs.length := by rw [HGS.out]; exact hlt
      have hka : k < ks.length := by rw [HN.out]; exact hlt
      have d1 := below_cell hS.below (HRW.out k hlt hkg)
      have hnode := (HK.out k hkg hka).keep (w' := wr) (fun q _ hq => hS.below.block q (by omega))
      have hz := HZ.out k hka
      have HC := Lib.hid (HIH.out k hka gs[k] lo hi wr hnode (Nat.le_trans hhi hS.size))
      have q0 := hnode.kind
      have hk0 : (0 : Int) ≤ (k : Int) := by omega
      have hkn : (k : Int) < (n : Int) := by omega
      obtain ⟨x, hx⟩ : ∃ x, tidF ks[k] = x := ⟨_, rfl⟩
      rw [hx] at HC hz
      obtain ⟨y, hy⟩ : ∃ y, kidT 1 ks[k] x = y := ⟨_, rfl⟩
      have HX : Hid (kidT 1 ks[k] (tidF ks[k]) = y) := by rw [hx]; exact Lib.hid hy
      have e1 : x = y := by rw [← hy]; exact kid_bare.symm
      subst e1
      clear hx hy hnode hz
      go_wp2_with fail
      refine HC.out.mono ?_
      rintro e w2 ⟨rfl, hb2⟩
      have hS2 := hS.callB hb2
      have d2 := below_cell hS2.below c0
      have hsz2 := hS2.size
      have HO : w2.ownsRow w.heap.size 9 1 u5 k (kidV 1 (ks.take k)) := hS2.head
      have q2 := below_cell hb2 q0
      clear d0 d1 hS q0
      go_wp2_with (first
        | (at_builtin; refine wpList_append_own_at _ rfl _ _ 37 rfl w.heap.size 9 j0 (.string ⟨#[]⟩) 1 16 Tryz.underlying37 hj hy0 hy1 hy2 rfl (by decide) _ _ _ rfl (HO.alloc _) ⟨w2.heap.size, 0, none⟩ 1 1 [.string x] rfl rfl (World.news_of_block (heap_alloc_new _ _)) (one1 rfl) (by unfold maxLen; omega) (by omega) (by simp; omega) ?_; intro v' w8 hown' hgrow _ hblk; have hS8 := (hS2.alloc _).append hown' hgrow hblk; clear hown' hgrow hblk))
      go_roundw
      case rel =>
        refine ⟨k + 1, hlt, by go_num, ?_⟩
        rw [List.take_succ_eq_append_getElem hka]
        unfold kidV
        rw [List.map_append, List.map_singleton, HX.out]
        exact hS8
      case measure => simp [intOf]; omega
    · obtain rfl : k = n := by omega
      have ho : wr.ownsRow w.heap.size 9 1 u5 k (kidV 1 (ks.take k)) := hS.head
      rw [List.take_of_length_le (by rw [HN.out]; exact Nat.le_refl _)] at ho
      obtain ⟨bk, cap, hv, hcap, _⟩ := ho.form (by omega)
      subst hv
      have hcl : ∀ (j : Nat) x, (ks.map fun k => kidT 1 k (tidF k))[j]? = some x → wr.cell? ⟨bk, 0 + j, none⟩ = some (.string x) := fun j x hx => by
        obtain ⟨hjl, hjx⟩ := List.getElem?_eq_some_iff.1 hx
        rw [List.length_map, HN.out] at hjl
        rw [Nat.zero_add, ho.cellAt j (by omega)]
        unfold kidV
        rw [List.getElem?_map] at hx ⊢
        cases hg : ks[j]? with
        | none => rw [hg] at hx; cases hx
        | some y => rw [hg] at hx; simp at hx; simp [hx]
      have HC := Lib.hid (HJ.out wr bk cap (own_cap ho).1 (ho.lt bk rfl).2 hcl)
      clear ho hcl
      go_wp2_with fail
      refine HC.out.mono ?_
      rintro e w2 ⟨rfl, hb2⟩
      go_wp2_with fail
      go_ret
      exact ⟨rfl, below_call hS.below hb2 (Nat.le_refl _)⟩

set_option maxRecDepth 100000 in
set_option maxHeartbeats 2000000 in
theorem tidyAnds_calls (ks : List Nd) (h1 : 2 ≤ ks.length) (h2 : ks.length ≤ 100000) (hsz : (tidF (.node 2 ks atm0)).size ≤ 10000000) (hk : ∀ k ∈ ks, (tidF k).size ≤ 10000000) (IH : ∀ k ∈ ks, TidC k) : TidC (.node 2 ks atm0) := by
  intro g lo hi w h hhi
  obtain ⟨j0, hj, hy0, hy1, hy2⟩ := info_parts info_str
  obtain ⟨v, gs, hB, hrow, hgs, hkids⟩ := h.top
  obtain ⟨c0, c1, c2, c3, c4, c5⟩ := nodeC_cell hB
  obtain ⟨n, hn⟩ : ∃ n, ks.length = n := ⟨_, rfl⟩
  rw [hn] at hrow hgs h1 h2
  obtain ⟨gk, ck, hv, hck, _⟩ := hrow.form (by omega)
  subst hv
  have hlk : n ≤ ck := (own_cap hrow).1
  have HRW : Hid (∀ i, i < n → ∀ (hi_ : i < gs.length), w.cell? ⟨gk, i, none⟩ = some (ptrV gs[i])) := fun i hin hi_ => by
    rw [hrow.cellAt i (by omega), List.getElem?_map, List.getElem?_eq_getElem hi_]; rfl
  have HK : Hid (∀ i (hi_ : i < gs.length) (hk : i < ks.length), NodeAt w lo hi gs[i] ks[i]) := hkids
  have HIH : Hid (∀ i (hk : i < ks.length), TidC ks[i]) := fun i hk => IH _ (List.getElem_mem hk)
  have HZ : Hid (∀ i (hk : i < ks.length), (tidF ks[i]).size ≤ 10000000) := fun i hi_ => hk _ (List.getElem_mem hi_)
  have HN := Lib.hid hn
  have HGS := Lib.hid hgs
  have hT : tidF (.node 2 ks atm0) = joinB sepAnd (ks.map fun k => kidT 2 k (tidF k)) := tid_and ks atm0
  have hjl : (Lib.join ((ks.map fun k => kidT 2 k (tidF k)).map (·.data.toList)) [32, 97, 110, 100, 32]).length ≤ 140737488355328 := by
    rw [hT] at hsz
    have : (joinB sepAnd (ks.map fun k => kidT 2 k (tidF k))).size = (Lib.join ((ks.map fun k => kidT 2 k (tidF k)).map (·.data.toList)) [32, 97, 110, 100, 32]).length := by
      show (Lib.join ((ks.map fun k => kidT 2 k (tidF k)).map (·.data.toList)) [32, 97, 110, 100, 32]).toArray.size = _
      simp
    omega
  have HJ : Hid (∀ W bk c, n ≤ c → bk < W.heap.size → (∀ (j : Nat) x, (ks.map fun k => kidT 2 k (tidF k))[j]? = some x → W.cell? ⟨bk, 0 + j, none⟩ = some (.string x)) → Calls Tryz.prog 153 #[.slice (some ⟨bk, 0, none⟩) n c, .string ⟨#[32, 97, 110, 100, 32]⟩] W (BRet (.string (tidF (.node 2 ks atm0))) W)) := fun W bk c hc hbk hcl => by
    have := Tryz.strings_Join bk 0 c (ks.map fun k => kidT 2 k (tidF k)) ⟨#[32, 97, 110, 100, 32]⟩ W hcl hbk (by rw [List.length_map, hn]; omega) (by rw [List.length_map, hn]; exact hc) hjl
    rw [List.length_map, hn] at this
    rw [hT]
    exact this
  have hS0 := (Sq.start w).nil w.heap.size 9 1
  obtain ⟨TX, hTX⟩ : ∃ TX, tidF (.node 2 ks atm0) = TX := ⟨_, rfl⟩
  rw [hTX] at HJ ⊢
  clear h hB hrow hkids hn hgs hjl hsz hT hk IH hTX
  go_enter Tryz.func102, Tryz.ntmps102
  go_wp2_with fail
  go_loopw [5, 54] (fun s5 i wr => ∃ k : Nat, k ≤ n ∧ i = .int .i64 k ∧ Sq w wr [rOwn w.heap.size 9 1 s5 k (kidV 2 (ks.take k))]) (fun _ i _ => n - (intOf i).toNat)
  case atStart => exact ⟨0, Nat.zero_le _, rfl, hS0⟩
  case round =>
    clear hS0
    obtain ⟨k, hk, rfl, hS⟩ := hrel
    have d0 := below_cell hS.below c0
    by_cases hlt : k < n
    · have hkg : k < gs.length := by rw [HGS.out]; exact hlt
      have hka : k < ks.length := by rw [HN.out]; exact hlt
      have d1 := below_cell hS.below (HRW.out k hlt hkg)
      have hnode := (HK.out k hkg hka).keep (w' := wr) (fun q _ hq => hS.below.block q (by omega))
      have hz := HZ.out k hka
      have HC := Lib.hid (HIH.out k hka gs[k] lo hi wr hnode (Nat.le_trans hhi hS.size))
      have q0 := hnode.kind
      have hk0 : (0 : Int) ≤ (k : Int) := by omega
      have hkn : (k : Int) < (n : Int) := by omega
      obtain ⟨x, hx⟩ : ∃ x, tidF ks[k] = x := ⟨_, rfl⟩
      rw [hx] at HC hz
      obtain ⟨y, hy⟩ : ∃ y, kidT 2 ks[k] x = y := ⟨_, rfl⟩
      have HX : Hid (kidT 2 ks[k] (tidF ks[k]) = y) := by rw [hx]; exact Lib.hid hy
      have HPB : Hid (parB x = (⟨#[40]⟩ ++ x) ++ ⟨#[41]⟩) := Lib.hid rfl
      have HP1 : Hid (kindOf ks[k] = 1 → y = parB x) := Lib.hid (fun h => by rw [← hy]; exact kid_par h (.inl rfl))
      have HP2 : Hid (kindOf ks[k] ≠ 1 → y = x) := Lib.hid (fun h => by rw [← hy]; exact kid_bare2 h)
      obtain ⟨kd, hkd⟩ : ∃ kd, kindOf ks[k] = kd := ⟨_, rfl⟩
      rw [hkd] at q0 HP1 HP2
      clear hx hy hnode hkd
      by_cases hkd1 : kd = 1
      · subst hkd1
        have HY : Hid (y = (⟨#[40]⟩ ++ x) ++ ⟨#[41]⟩) := Lib.hid ((HP1.out rfl).trans HPB.out)
        rw [HY.out] at HX
        clear HP1 HP2 HPB HY
        go_wp2_with fail
        refine HC.out.mono ?_
        rintro e w2 ⟨rfl, hb2⟩
        have hS2 := hS.callB hb2
        have d2 := below_cell hS2.below c0
        have hsz2 := hS2.size
        have HO : w2.ownsRow w.heap.size 9 1 u5 k (kidV 2 (ks.take k)) := hS2.head
        have q2 := below_cell hb2 q0
        clear d0 d1 hS q0
        go_wp2_with (first
          | (at_builtin; refine wpList_append_own_at _ rfl _ _ 37 rfl w.heap.size 9 j0 (.string ⟨#[]⟩) 1 16 Tryz.underlying37 hj hy0 hy1 hy2 rfl (by decide) _ _ _ rfl (HO.alloc _) ⟨w2.heap.size, 0, none⟩ 1 1 [.string ((⟨#[40]⟩ ++ x) ++ ⟨#[41]⟩)] rfl rfl (World.news_of_block (heap_alloc_new _ _)) (one1 rfl) (by unfold maxLen; omega) (by omega) (by simp; omega) ?_; intro v' w8 hown' hgrow _ hblk; have hS8 := (hS2.alloc _).append hown' hgrow hblk; clear hown' hgrow hblk))
        go_roundw
        case rel =>
          refine ⟨k + 1, hlt, by go_num, ?_⟩
          rw [List.take_succ_eq_append_getElem hka]
          unfold kidV
          rw [List.map_append, List.map_singleton, HX.out]
          exact hS8
        case measure => simp [intOf]; omega
      · have e1 : (kd == 1) = false := by simpa using hkd1
        have HY : Hid (y = x) := Lib.hid (HP2.out hkd1)
        rw [HY.out] at HX
        clear HP1 HP2 HPB HY hz
        go_wp2_with fail
        refine HC.out.mono ?_
        rintro e w2 ⟨rfl, hb2⟩
        have hS2 := hS.callB hb2
        have d2 := below_cell hS2.below c0
        have hsz2 := hS2.size
        have HO : w2.ownsRow w.heap.size 9 1 u5 k (kidV 2 (ks.take k)) := hS2.head
        have q2 := below_cell hb2 q0
        clear d0 d1 hS q0
        go_wp2_with (first
          | (at_builtin; refine wpList_append_own_at _ rfl _ _ 37 rfl w.heap.size 9 j0 (.string ⟨#[]⟩) 1 16 Tryz.underlying37 hj hy0 hy1 hy2 rfl (by decide) _ _ _ rfl (HO.alloc _) ⟨w2.heap.size, 0, none⟩ 1 1 [.string x] rfl rfl (World.news_of_block (heap_alloc_new _ _)) (one1 rfl) (by unfold maxLen; omega) (by omega) (by simp; omega) ?_; intro v' w8 hown' hgrow _ hblk; have hS8 := (hS2.alloc _).append hown' hgrow hblk; clear hown' hgrow hblk))
        go_roundw
        case rel =>
          refine ⟨k + 1, hlt, by go_num, ?_⟩
          rw [List.take_succ_eq_append_getElem hka]
          unfold kidV
          rw [List.map_append, List.map_singleton, HX.out]
          exact hS8
        case measure => simp [intOf]; omega
    · obtain rfl : k = n := by omega
      have ho : wr.ownsRow w.heap.size 9 1 u5 k (kidV 2 (ks.take k)) := hS.head
      rw [List.take_of_length_le (by rw [HN.out]; exact Nat.le_refl _)] at ho
      obtain ⟨bk, cap, hv, hcap, _⟩ := ho.form (by omega)
      subst hv
      have hcl : ∀ (j : Nat) x, (ks.map fun k => kidT 2 k (tidF k))[j]? = some x → wr.cell? ⟨bk, 0 + j, none⟩ = some (.string x) := fun j x hx => by
        obtain ⟨hjl, hjx⟩ := List.getElem?_eq_some_iff.1 hx
        rw [List.length_map, HN.out] at hjl
        rw [Nat.zero_add, ho.cellAt j (by omega)]
        unfold kidV
        rw [List.getElem?_map] at hx ⊢
        cases hg : ks[j]? with
        | none => rw [hg] at hx; cases hx
        | some y => rw [hg] at hx; simp at hx; simp [hx]
      have HC := Lib.hid (HJ.out wr bk cap (own_cap ho).1 (ho.lt bk rfl).2 hcl)
      clear ho hcl
      go_wp2_with fail
      refine HC.out.mono ?_
      rintro e w2 ⟨rfl, hb2⟩
      go_wp2_with fail
      go_ret
      exact ⟨rfl, below_call hS.below hb2 (Nat.le_refl _)⟩

theorem tidy_calls_ {num : ByteArray → Int × Bool} (hz : NumZ num) {t : Nd} (h : NdOk num t) (hc : cntN t ≤ 100000) : TidC t := by
  induction h with
  | atom a h =>
    intro g lo hi w hn _
    have hb := atm_sizes hz h
    rw [tid_leaf, ← textF_eq]
    exact tidyLeaf_calls a g lo hi w hb hn
  | not k h ih =>
    have e := cntN_eq 3 [k] atm0
    simp only [List.map_cons, List.map_nil, List.sum_cons, List.sum_nil] at e
    have := tid_size hz h
    exact tidyNot_calls k (by omega) (ih (by omega))
  | or ks h2 h ih =>
    have e := cntN_eq 1 ks atm0
    have hs := tid_size hz (NdOk.or ks h2 h)
    have hkc : ∀ k ∈ ks, cntN k ≤ 100000 := fun k hk => by have := mem_sum cntN ks k hk; omega
    have hl := len_sum cntN (fun k => cntN_pos k) ks
    exact tidyOrs_calls ks h2 (by omega) (by omega) (fun k hk => by have := tid_size hz (h k hk); have := hkc k hk; omega) (fun k hk => ih k hk (hkc k hk))
  | and ks h2 h ih =>
    have e := cntN_eq 2 ks atm0
    have hs := tid_size hz (NdOk.and ks h2 h)
    have hkc : ∀ k ∈ ks, cntN k ≤ 100000 := fun k hk => by have := mem_sum cntN ks k hk; omega
    have hl := len_sum cntN (fun k => cntN_pos k) ks
    exact tidyAnds_calls ks h2 (by omega) (by omega) (fun k hk => by have := tid_size hz (h k hk); have := hkc k hk; omega) (fun k hk => ih k hk (hkc k hk))

/-- what Tidy answers -/
def tdE (num : ByteArray → Int × Bool) (s : ByteArray) : Int := if (parseE num s).2 = 0 then (if 2000 < (tidF (parseT num s).1).size then 2 else 0) else (parseE num s).2
def tdI (num : ByteArray → Int × Bool) (s : ByteArray) : Int := if (parseE num s).2 = 0 then 0 else (parseE num s).1
def tdS (num : ByteArray → Int × Bool) (s : ByteArray) : ByteArray := if tdE num s = 0 then tidF (parseT num s).1 else ⟨#[]⟩
set_option maxRecDepth 100000 in
theorem tidyR_calls (num : ByteArray → Int × Bool) (hc : NumC num) (hnum : NumOk num) (hz : NumZ num) (s : ByteArray) (w : World) (hs : s.size ≤ 90000) :
    Calls Tryz.prog 51 #[.string s] w (BRet (.tuple #[.string (tdS num s), .int .i64 (tdI num s), .int .i64 (tdE num s)]) w) := by
  have HP := Lib.hid (parse_calls num s w (by omega) (.inr hc))
  have HK := Lib.hid (check_parse num hnum s).2
  obtain ⟨q, hq⟩ : ∃ q, parseE num s = q := ⟨_, rfl⟩
  have hE : tdE num s = if q.2 = 0 then (if 2000 < (tidF (parseT num s).1).size then 2 else 0) else q.2 := by unfold tdE; rw [hq]
  have hI : tdI num s = if q.2 = 0 then 0 else q.1 := by unfold tdI; rw [hq]
  have HQ := Lib.hid hq
  rw [hq] at HK
  by_cases h0 : q.2 = 0
  · rw [if_pos h0] at hE hI
    obtain ⟨hok, hcn, _⟩ := HK.out h0
    obtain ⟨t, ht⟩ : ∃ t, (parseT num s).1 = t := ⟨_, rfl⟩
    have HT : Hid (TidC t) := by rw [← ht]; exact Lib.hid (tidy_calls_ hz hok (by omega))
    rw [ht] at hE
    have hS : tdS num s = if (if 2000 < (tidF t).size then (2 : Int) else 0) = 0 then tidF t else ⟨#[]⟩ := by unfold tdS; rw [hE, ht]
    have HTT := Lib.hid ht
    obtain ⟨x, hx⟩ : ∃ x, tidF t = x := ⟨_, rfl⟩
    have HX := Lib.hid hx
    rw [hx] at hE hS
    have HQ0 := Lib.hid h0
    clear hok hcn hx ht h0 HK hq
    by_cases hbig : 2000 < x.size
    · rw [if_pos hbig] at hE hS
      rw [if_neg (by decide)] at hS
      rw [hE, hI, hS]
      clear hE hI hS
      go_enter Tryz.func51, Tryz.ntmps51
      go_wp2_with fail
      refine HP.out.mono ?_
      rintro e w2 ⟨v, rfl, hb2, hN⟩
      rw [HQ.out] at hN ⊢
      obtain ⟨g, rfl, hnode⟩ := hN HQ0.out
      rw [HTT.out] at hnode
      rw [HQ0.out]
      have HC := Lib.hid (HT.out g _ _ w2 hnode (Nat.le_refl _))
      rw [HX.out] at HC
      clear hN hnode
      go_wp2_with fail
      refine HC.out.mono ?_
      rintro e w3 ⟨rfl, hb3⟩
      go_wp2_with fail
      go_ret3
      exact ⟨rfl, below_call hb2 hb3 (Nat.le_refl _)⟩
    · rw [if_neg hbig] at hE hS
      rw [if_pos rfl] at hS
      rw [hE, hI, hS]
      clear hE hI hS
      go_enter Tryz.func51, Tryz.ntmps51
      go_wp2_with fail
      refine HP.out.mono ?_
      rintro e w2 ⟨v, rfl, hb2, hN⟩
      rw [HQ.out] at hN ⊢
      obtain ⟨g, rfl, hnode⟩ := hN HQ0.out
      rw [HTT.out] at hnode
      rw [HQ0.out]
      have HC := Lib.hid (HT.out g _ _ w2 hnode (Nat.le_refl _))
      rw [HX.out] at HC
      clear hN hnode
      go_wp2_with fail
      refine HC.out.mono ?_
      rintro e w3 ⟨rfl, hb3⟩
      go_wp2_with fail
      go_ret3
      exact ⟨rfl, below_call hb2 hb3 (Nat.le_refl _)⟩
  · rw [if_neg h0] at hE hI
    have hS : tdS num s = ⟨#[]⟩ := by unfold tdS; rw [hE, if_neg h0]
    rw [hE, hI, hS]
    obtain ⟨q1, q2⟩ := q
    simp only at h0 ⊢
    have hne : (q2 != 0) = true := by rw [bne_iff_ne]; exact h0
    clear hE hI hS HK hq
    go_enter Tryz.func51, Tryz.ntmps51
    go_wp2_with fail
    refine HP.out.mono ?_
    rintro e w2 ⟨v, rfl, hb2, _⟩
    rw [HQ.out]
    go_wp2_with fail
    go_ret3
    exact ⟨rfl, hb2⟩
end Go.Proofs.YtfhdknppldobiaaGreatDoor
