/-
  Whom the program blames: (*node).blame by contract.
-/
import Derived.Test.YtfhdknppldobiaaGreatDoorZHld1
namespace Go.Proofs.YtfhdknppldobiaaGreatDoor
open Go Go.RowKit
attribute [local go_sem ↓] Go.wp_at_zero Go.wp_at_succ

def BlmH (tm : Int) (fs : List Pr) (t : Nd) : Prop := ∀ w0 bx g lo hi W want A c ls, NodeAt w0 lo hi g t → hi ≤ w0.heap.size → RnA w0 bx tm fs → Sq w0 W [rOwn w0.heap.size 9 1 (.slice A ls.length c) ls.length (svB ls)] → ls.length + (txs t).length ≤ 100000 →
  Calls Tryz.prog 104 #[.pointer (some ⟨g, 0, none⟩), .func (.func 139) #[] #[.pointer (some ⟨bx, 0, none⟩)], .bool want, .slice A ls.length c] W fun e w' => ∃ A' c', e = .returned (.slice A' (ls ++ blmF (atP tm fs) want t).length c') ∧
    Sq w0 w' [rOwn w0.heap.size 9 1 (.slice A' (ls ++ blmF (atP tm fs) want t).length c') (ls ++ blmF (atP tm fs) want t).length (svB (ls ++ blmF (atP tm fs) want t))]
theorem blm_leaf (is : Atm → Bool) (want : Bool) (a : Atm) : blmF is want (.node 4 [] a) = [tl (txtA a)] := by rw [blmF_eq, if_pos rfl]; rfl
theorem blm_not (is : Atm → Bool) (want : Bool) (k : Nd) (a : Atm) : blmF is want (.node 3 [k] a) = blmF is (!want) k := by rw [blmF_eq, if_neg (by decide), if_pos rfl]; simp
set_option maxRecDepth 100000 in
set_option maxHeartbeats 1000000 in
theorem blmLeaf_calls (tm : Int) (fs : List Pr) (a : Atm) (ha : a.word.size ≤ 100000 ∧ a.name.size ≤ 100000 ∧ a.value.size ≤ 100000) : BlmH tm fs (.node 4 [] a) := by
  intro w0 bx g lo hi W want A c ls hn hhi hr hS hl
  obtain ⟨v, gs, hB, hrow, _, _⟩ := hn.top
  obtain ⟨c0, c1, c2, c3, c4, c5⟩ := nodeC_cell hB
  have hb := hS.below
  have d0 := below_cell hb c0
  have d2 := below_cell hb c2
  have d3 := below_cell hb c3
  have d4 := below_cell hb c4
  have d5 := below_cell hb c5
  rw [txs_leaf] at hl
  simp only [List.length_singleton] at hl
  have HC : Hid (Calls Tryz.prog 148 #[.agg #[.string a.word, .string a.name, .string a.value, .int .i64 a.n]] W (BRet (.string (txtA a)) W)) := Lib.hid (by rw [← textF_eq]; exact text_calls a W ha)
  rw [blm_leaf]
  obtain ⟨x, hx⟩ : ∃ x, txtA a = x := ⟨_, rfl⟩
  rw [hx] at HC ⊢
  have HSN := Lib.hid (svB_snoc ls x)
  obtain ⟨ys, hys⟩ : ∃ ys, svB ls = ys := ⟨_, rfl⟩
  rw [hys] at hS HSN
  obtain ⟨n, hnn⟩ : ∃ n, ls.length = n := ⟨_, rfl⟩
  have HLN : Hid ((ls ++ [tl x]).length = n + 1) := Lib.hid (by rw [List.length_append, hnn]; rfl)
  obtain ⟨LL, hLL⟩ : ∃ z, ls ++ [tl x] = z := ⟨_, rfl⟩
  rw [hLL] at HSN HLN ⊢
  rw [hnn] at hS hl ⊢
  clear hB hrow hn hr hb c0 c1 c2 c3 c4 c5 hx hnn hys hLL
  obtain ⟨i0, hi0, hz0, hz1, hz2⟩ := info_parts info_str
  go_enter Tryz.func104, Tryz.ntmps104
  go_wp2_with fail
  refine HC.out.mono ?_
  rintro e w2 ⟨rfl, hb2⟩
  have hS2 := hS.callB hb2
  have hT := hS2.add #[.string x] 9
  have hbk : Blk (w2.alloc (.cells #[.string x] 9)) w2.heap.size 9 #[.string x] := hT.head
  have hr : Rd (w2.alloc (.cells #[.string x] 9)) (w2.heap.size + 1) 1 (.slice (some ⟨w2.heap.size, 0, none⟩) 1 1) 1 [.string x] := blkRd 1 1 hbk (by omega) (by decide) rfl
  have hT1 := hT.tail
  have HO : (w2.alloc (.cells #[.string x] 9)).ownsRow w0.heap.size 9 1 (.slice A n c) n ys := hT1.head
  have hsz2 := hT1.size
  clear hS hS2 hT hbk hb2 d0 d2 d3 d4 d5
  go_wp2_with (first
    | (at_builtin; refine wpList_app_rd _ rfl _ _ 37 rfl w0.heap.size 9 i0 (.string ⟨#[]⟩) 1 16 Tryz.underlying37 hi0 hz0 hz1 hz2 rfl (by decide) _ n _ rfl HO (w2.heap.size + 1) _ 1 1 [.string x] rfl hr (one1 rfl) (by unfold maxLen; omega) (by omega) hsz2 ?_; intro v' w8 hown' hgrow hblk; have hS8 := hT1.append hown' hgrow hblk; obtain ⟨A8, c8, hv8⟩ := own_form hown'; subst hv8; clear hown' hgrow hblk HO hr))
  go_ret
  rw [HLN.out, HSN.out]
  exact ⟨A8, c8, rfl, hS8⟩
theorem txs_not (k : Nd) (a : Atm) : txs (.node 3 [k] a) = txs k := by rw [txs_in (by decide)]; simp
set_option maxRecDepth 100000 in
theorem blmNot_calls (tm : Int) (fs : List Pr) (k : Nd) (a : Atm) (IH : BlmH tm fs k) : BlmH tm fs (.node 3 [k] a) := by
  intro w0 bx g lo hi W want A c ls hn hhi hr hS hl
  obtain ⟨v, gs, hB, hrow, hgs, hkids⟩ := hn.top
  obtain ⟨c0, c1, c2, c3, c4, c5⟩ := nodeC_cell hB
  obtain ⟨gk, ck, hv, hck, _⟩ := hrow.form (by simp)
  subst hv
  obtain ⟨g1, rfl⟩ : ∃ g1, gs = [g1] := by
    match gs, hgs with
    | [g1], _ => exact ⟨g1, rfl⟩
  have r0 : w0.cell? ⟨gk, 0, none⟩ = some (.pointer (some ⟨g1, 0, none⟩)) := by rw [hrow.cellAt 0 (by simp)]; rfl
  have hb := hS.below
  have d0 := below_cell hb c0
  have d1 := below_cell hb c1
  have e0 := below_cell hb r0
  rw [txs_not] at hl
  rw [blm_not]
  have HC := Lib.hid (IH w0 bx g1 lo hi W (!want) A c ls (hkids 0 (by simp) (by simp)) hhi hr hS hl)
  obtain ⟨LL, hLL⟩ : ∃ z, ls ++ blmF (atP tm fs) (!want) k = z := ⟨_, rfl⟩
  rw [hLL] at HC ⊢
  obtain ⟨n, hnn⟩ : ∃ n, ls.length = n := ⟨_, rfl⟩
  rw [hnn] at HC ⊢
  clear hB hrow hn hr hb hLL hkids hgs IH c0 c1 c2 c3 c4 c5 r0 hS hnn hl
  go_enter Tryz.func104, Tryz.ntmps104
  go_wp2_with fail
  refine HC.out.mono ?_
  rintro e w2 ⟨A', c', rfl, hS2⟩
  go_wp2_with fail
  go_ret
  exact ⟨A', c', rfl, hS2⟩
/-- blame of the parts of a list -/
def blL (is : Atm → Bool) (want : Bool) (ks : List Nd) : List BL := ks.flatMap fun k => if holF is k = want then [] else blmF is want k
theorem blL_take (is : Atm → Bool) (want : Bool) (ks : List Nd) (k : Nat) (hk : k < ks.length) : blL is want (ks.take (k + 1)) = blL is want (ks.take k) ++ (if holF is ks[k] = want then [] else blmF is want ks[k]) := by
  unfold blL
  rw [List.take_succ_eq_append_getElem hk, List.flatMap_append]
  simp
theorem blm_in (is : Atm → Bool) (want : Bool) {kind : Int} (h3 : kind ≠ 3) (h4 : kind ≠ 4) (ks : List Nd) (a : Atm) : blmF is want (.node kind ks a) = blL is want ks := by rw [blmF_eq, if_neg h4, if_neg h3]; rfl
set_option maxRecDepth 100000 in
set_option maxHeartbeats 1000000 in
theorem blmIn_calls (tm : Int) (fs : List Pr) (kind : Int) (hk3 : kind ≠ 3) (hk4 : kind ≠ 4) (ks : List Nd) (a : Atm) (hn1 : 1 ≤ ks.length) (HH : ∀ k ∈ ks, HolH tm fs k) (HL0 : ∀ k ∈ ks, ∀ is want, (blmF is want k).length ≤ (txs k).length) (IH : ∀ k ∈ ks, BlmH tm fs k) : BlmH tm fs (.node kind ks a) := by
  intro w0 bx g lo hi W want A c ls hn hhi hr hS hl
  obtain ⟨v, gs, hB, hrow, hgs, hkids⟩ := hn.top
  obtain ⟨c0, c1, c2, c3, c4, c5⟩ := nodeC_cell hB
  obtain ⟨n, hnn⟩ : ∃ n, ks.length = n := ⟨_, rfl⟩
  rw [hnn] at hrow hgs hn1
  obtain ⟨gk, ck, hv, hck, _⟩ := hrow.form (by omega)
  subst hv
  obtain ⟨hcp1, hcp2⟩ := own_cap hrow
  unfold maxLen at hcp2
  have HRW : Hid (∀ i, i < n → ∀ (hi_ : i < gs.length), w0.cell? ⟨gk, i, none⟩ = some (ptrV gs[i])) := fun i hin hi_ => by
    rw [hrow.cellAt i (by omega), List.getElem?_map, List.getElem?_eq_getElem hi_]; rfl
  have HHO : Hid (∀ i (hi_ : i < gs.length) (hk : i < ks.length) V, Below w0.heap.size w0 V → Calls Tryz.prog 79 #[ptrV gs[i], .func (.func 139) #[] #[.pointer (some ⟨bx, 0, none⟩)]] V (BRet (.bool (holF (atP tm fs) ks[i])) V)) :=
    Lib.hid (fun i hi_ hk V hV => HH _ (List.getElem_mem hk) w0 bx gs[i] lo hi V (hkids i hi_ hk) hhi hr hV)
  have HIH : Hid (∀ i (hi_ : i < gs.length) (hk : i < ks.length) V (lv : List BL) (A : Option Addr) (c m : Nat), lv.length = m → Sq w0 V [rOwn w0.heap.size 9 1 (.slice A m c) m (svB lv)] → lv.length + (txs ks[i]).length ≤ 100000 →
      Calls Tryz.prog 104 #[ptrV gs[i], .func (.func 139) #[] #[.pointer (some ⟨bx, 0, none⟩)], .bool want, .slice A m c] V fun e w' => ∃ A' c', e = .returned (.slice A' (lv ++ blmF (atP tm fs) want ks[i]).length c') ∧
        Sq w0 w' [rOwn w0.heap.size 9 1 (.slice A' (lv ++ blmF (atP tm fs) want ks[i]).length c') (lv ++ blmF (atP tm fs) want ks[i]).length (svB (lv ++ blmF (atP tm fs) want ks[i]))]) :=
    Lib.hid (fun i hi_ hk V lv A c m hm hV hlv => by
      subst hm
      exact IH _ (List.getElem_mem hk) w0 bx gs[i] lo hi V want A c lv (hkids i hi_ hk) hhi hr hV hlv)
  rw [txs_in hk4] at hl
  have HN := Lib.hid hnn
  have HGS := Lib.hid hgs
  have HLB : Hid (∀ k (hk : k < ks.length), ls.length + (blL (atP tm fs) want (ks.take k)).length + (txs ks[k]).length ≤ 100000) := Lib.hid (fun k hk => by
    have h1 : ∀ j, j ≤ ks.length → (blL (atP tm fs) want (ks.take j)).length ≤ ((ks.take j).flatMap txs).length := by
      intro j
      induction j with
      | zero => intro _; simp [blL]
      | succ j ih =>
        intro hj
        rw [blL_take _ _ _ _ (by omega), txs_take _ _ (by omega), List.length_append, List.length_append]
        have h2 := ih (by omega)
        have h3 := HL0 ks[j] (List.getElem_mem (by omega)) (atP tm fs) want
        split
        · show _ + 0 ≤ _; omega
        · omega
    have h4 := h1 k (by omega)
    have h5 := txs_le ks (k + 1)
    rw [txs_take ks k hk, List.length_append] at h5
    omega)
  rw [blm_in _ _ hk3 hk4]
  have hb := hS.below
  have d0 := below_cell hb c0
  have d1 := below_cell hb c1
  have hk3b : (kind == 3) = false := by simpa using hk3
  have hk4b : (kind == 4) = false := by simpa using hk4
  obtain ⟨m0, hm0⟩ : ∃ m, ls.length = m := ⟨_, rfl⟩
  rw [hm0] at hS ⊢
  have HM0 := Lib.hid hm0
  clear hB hrow hn hkids hgs hnn IH HH HL0 hr hl hb hm0 hk3 hk4
  go_enter Tryz.func104, Tryz.ntmps104
  go_wp2_with fail
  go_loopw [3, 43] (fun o i wr => ∃ (k m : Nat) (A' : Option Addr) (c' : Nat) (lv : List BL), k ≤ n ∧ i = .int .i64 k ∧ o = .slice A' m c' ∧ Hid (lv.length = m) ∧ Hid (lv = ls ++ blL (atP tm fs) want (ks.take k)) ∧ Hid (Sq w0 wr [rOwn w0.heap.size 9 1 (.slice A' m c') m (svB lv)])) (fun _ i _ => n - (intOf i).toNat)
  case atStart => exact ⟨0, m0, A, c, ls, Nat.zero_le _, rfl, rfl, HM0, Lib.hid (by simp [blL]), Lib.hid hS⟩
  case round =>
    clear d0 d1 hS
    obtain ⟨k, m, A', c', lv, hk, rfl, rfl, HM, HLV, HS⟩ := hrel
    by_cases hlt : k < n
    · have hkg : k < gs.length := by rw [HGS.out]; exact hlt
      have hka : k < ks.length := by rw [HN.out]; exact hlt
      have hb1 := HS.out.below
      have e1 := below_cell hb1 (HRW.out k hlt hkg)
      have HC := Lib.hid (HHO.out k hkg hka wr hb1)
      have HCB : Hid (∀ V, Sq w0 V [rOwn w0.heap.size 9 1 (.slice A' m c') m (svB lv)] → _) := Lib.hid (fun V hV => HIH.out k hkg hka V lv A' c' m HM.out hV (by have := HLB.out k hka; rw [HLV.out, List.length_append]; omega))
      have HTK := Lib.hid (blL_take (atP tm fs) want ks k hka)
      obtain ⟨vk, hvk⟩ : ∃ z, holF (atP tm fs) ks[k] = z := ⟨_, rfl⟩
      rw [hvk] at HC HTK
      obtain ⟨bl, hbl⟩ : ∃ z, blmF (atP tm fs) want ks[k] = z := ⟨_, rfl⟩
      rw [hbl] at HCB HTK
      obtain ⟨G, hG⟩ : ∃ z, ptrV gs[k] = z := ⟨_, rfl⟩
      rw [hG] at HC HCB e1
      have hk0 : (0 : Int) ≤ (k : Int) := by omega
      have hkn : (k : Int) < (n : Int) := by omega
      clear hvk hbl hG hb1
      by_cases hq : vk = want
      · rw [if_pos hq] at HTK
        clear HCB
        subst hq
        go_wp2_with fail
        refine HC.out.mono ?_
        rintro e w2 ⟨rfl, hb2⟩
        have HS2 := Lib.hid (HS.out.callB hb2)
        clear hb2 e1
        go_wp2_with fail
        go_roundw
        case rel => exact ⟨k + 1, m, A', c', lv, hlt, by go_num, rfl, HM, Lib.hid (by rw [HTK.out, List.append_nil]; exact HLV.out), HS2⟩
        case measure => simp [intOf]; omega
      · rw [if_neg hq] at HTK
        obtain ⟨L2, hL2⟩ : ∃ z, lv ++ bl = z := ⟨_, rfl⟩
        rw [hL2] at HCB
        obtain ⟨q2, hq2⟩ : ∃ z, L2.length = z := ⟨_, rfl⟩
        rw [hq2] at HCB
        have HL2 := Lib.hid hL2
        have HQ2 := Lib.hid hq2
        have hqb : (vk == want) = false := by simpa using hq
        clear hL2 hq2 hq
        go_wp2_with fail
        refine HC.out.mono ?_
        rintro e w2 ⟨rfl, hb2⟩
        have HC2 := Lib.hid (HCB.out w2 (HS.out.callB hb2))
        clear hb2 e1 HC
        go_wp2_with fail
        refine HC2.out.mono ?_
        rintro e w3 ⟨A9, c9, rfl, hS3⟩
        go_wp2_with fail
        go_roundw
        case rel => exact ⟨k + 1, q2, A9, c9, L2, hlt, by go_num, rfl, HQ2, Lib.hid (by rw [HTK.out, ← List.append_assoc, ← HLV.out, HL2.out]), Lib.hid hS3⟩
        case measure => simp [intOf]; omega
    · obtain rfl : k = n := by omega
      have e9 : ks.take k = ks := List.take_of_length_le (by rw [HN.out]; exact Nat.le_refl _)
      rw [e9] at HLV
      clear e9
      go_wp2_with fail
      go_ret
      rw [← HLV.out, HM.out]
      exact ⟨A', c', rfl, HS.out⟩
theorem blL_len (is : Atm → Bool) (want : Bool) : ∀ ks : List Nd, (∀ k ∈ ks, (blmF is want k).length ≤ (txs k).length) → (blL is want ks).length ≤ (ks.flatMap txs).length
  | [], _ => by simp [blL]
  | k :: ks, h => by
    have h1 := blL_len is want ks (fun x hx => h x (List.mem_cons_of_mem _ hx))
    have h2 := h k (List.mem_cons_self ..)
    unfold blL at h1 ⊢
    rw [List.flatMap_cons, List.flatMap_cons, List.length_append, List.length_append]
    split
    · show 0 + _ ≤ _; omega
    · omega
theorem blm_len {num : ByteArray → Int × Bool} {t : Nd} (h : NdOk num t) (is : Atm → Bool) : ∀ want, (blmF is want t).length ≤ (txs t).length := by
  induction h with
  | atom a h => intro want; rw [blm_leaf, txs_leaf]; exact Nat.le_refl _
  | not k _ ih => intro want; rw [blm_not, txs_not]; exact ih _
  | or ks h2 _ ih => intro want; rw [blm_in _ _ (by decide) (by decide), txs_in (by decide)]; exact blL_len is want ks (fun k hk => ih k hk want)
  | and ks h2 _ ih => intro want; rw [blm_in _ _ (by decide) (by decide), txs_in (by decide)]; exact blL_len is want ks (fun k hk => ih k hk want)
theorem blm_calls (tm : Int) (fs : List Pr) {num : ByteArray → Int × Bool} (hz : NumZ num) {t : Nd} (h : NdOk num t) : BlmH tm fs t := by
  induction h with
  | atom a h => exact blmLeaf_calls tm fs a (atm_sizes hz h)
  | not k _ ih => exact blmNot_calls tm fs k atm0 ih
  | or ks h2 h ih => exact blmIn_calls tm fs 1 (by decide) (by decide) ks atm0 (by omega) (fun k hk => hol_calls tm fs (h k hk)) (fun k hk is want => blm_len (h k hk) is want) ih
  | and ks h2 h ih => exact blmIn_calls tm fs 2 (by decide) (by decide) ks atm0 (by omega) (fun k hk => hol_calls tm fs (h k hk)) (fun k hk is want => blm_len (h k hk) is want) ih
end Go.Proofs.YtfhdknppldobiaaGreatDoor
