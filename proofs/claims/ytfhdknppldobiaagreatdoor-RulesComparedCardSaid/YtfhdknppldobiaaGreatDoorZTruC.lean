/-
  Whether the reference's tree holds, at EachChoice's closure. (Printed by gen_twin.py out of XTru.)
-/
import Derived.Test.YtfhdknppldobiaaGreatDoorZSjoin
namespace Go.Proofs.YtfhdknppldobiaaGreatDoor
open Go Go.RowKit
attribute [local go_sem ↓] Go.wp_at_zero Go.wp_at_succ

/-- what the closure answers for an atom's text, in any later world -/
def IsC (G : ByteArray → Prop) (isQ : ByteArray → Bool) (ba bm : Nat) (w0 : World) : Prop := ∀ a W, G a → Below w0.heap.size w0 W → Calls Tryz.prog 151 #[.string a, .pointer (some ⟨ba, 0, none⟩), .pointer (some ⟨bm, 0, none⟩)] W (BRet (.bool (isQ a)) W)
theorem IsC.below {G : ByteArray → Prop} {isQ : ByteArray → Bool} {ba bm : Nat} {w0 W : World} (h : IsC G isQ ba bm w0) (hb : Below w0.heap.size w0 W) : IsC G isQ ba bm W := fun a V ha hV => h a V ha (below_call hb hV (Nat.le_refl _))
def TruCH (G : ByteArray → Prop) (isQ : ByteArray → Bool) (t : Nq) : Prop := ∀ (w : World) (ba bm : Nat) (A : Option Addr) (c : Nat) (P : Nat → Prop), NqV w P (A, c) t → (∀ k, P k → k < w.heap.size) → IsC G isQ ba bm w →
  Calls Tryz.prog 108 #[.agg #[.string t.op, .string t.atom, .slice A t.kids.length c], .func (.func 151) #[] #[.pointer (some ⟨ba, 0, none⟩), .pointer (some ⟨bm, 0, none⟩)]] w (BRet (.bool (truQ isQ t)) w)
set_option maxRecDepth 100000 in
theorem trucLeaf_calls (G : ByteArray → Prop) (isQ : ByteArray → Bool) (a : ByteArray) (ha : G a) : TruCH G isQ (.node noB a []) := by
  intro w ba bm A c P h hP hI
  simp only [Nq.op, Nq.atom, Nq.kids, List.length_nil]
  rw [tru_leaf]
  have hS1 := (Sq.start w).add #[.string noB, .string a, .slice A 0 c] 139
  have HC := Lib.hid (hI a _ ha hS1.below)
  have HB := Lib.hid hS1.below
  obtain ⟨v9, hv9⟩ : ∃ z, isQ a = z := ⟨_, rfl⟩
  rw [hv9] at HC ⊢
  have hnb : noB.toList.isEmpty = true := by rw [Lib.toList_data]; rfl
  clear h hP hI hS1 hv9
  go_enter Tryz.func108, Tryz.ntmps108
  go_wp2_with fail
  refine HC.out.mono ?_
  rintro e w2 ⟨rfl, hb2⟩
  go_wp2_with fail
  go_ret
  exact ⟨rfl, below_call HB.out hb2 (Nat.le_refl _)⟩
set_option maxRecDepth 100000 in
theorem trucNot_calls (G : ByteArray → Prop) (isQ : ByteArray → Bool) (k : Nq) (IH : TruCH G isQ k) : TruCH G isQ (.node sNot noB [k]) := by
  intro w ba bm A c P h hP hI
  simp only [Nq.op, Nq.atom, Nq.kids, List.length_singleton]
  rw [tru_not]
  obtain ⟨ps, hps, h1, h3⟩ := h.row
  obtain ⟨p, rfl⟩ : ∃ p, ps = [p] := by
    match ps, hps with
    | [p], _ => exact ⟨p, rfl⟩
  obtain rfl : k = p.2 := by simpa using hps
  obtain ⟨g, c', hv, _, _⟩ := h1.form (by simp)
  injection hv with hv1 _ hv3
  subst hv1
  have hS1 := (Sq.start w).add #[.string sNot, .string noB, .slice (some ⟨g, 0, none⟩) 1 c] 139
  have c0 := own_cell qnC 3 qnC_len h1 0 0 (by simp) (by simp) (by omega)
  have c1 := own_cell qnC 3 qnC_len h1 0 1 (by simp) (by simp) (by omega)
  have c2 := own_cell qnC 3 qnC_len h1 0 2 (by simp) (by simp) (by omega)
  obtain ⟨⟨A6, c6⟩, t6⟩ := p
  have d0 : (w.alloc (.cells #[.string sNot, .string noB, .slice (some ⟨g, 0, none⟩) 1 c] 139)).cell? ⟨g, 0, none⟩ = some (.string t6.op) := below_cell hS1.below c0
  have d1 : (w.alloc (.cells #[.string sNot, .string noB, .slice (some ⟨g, 0, none⟩) 1 c] 139)).cell? ⟨g, 1, none⟩ = some (.string t6.atom) := below_cell hS1.below c1
  have d2 : (w.alloc (.cells #[.string sNot, .string noB, .slice (some ⟨g, 0, none⟩) 1 c] 139)).cell? ⟨g, 2, none⟩ = some (.slice A6 t6.kids.length c6) := below_cell hS1.below c2
  have HC := Lib.hid (IH _ ba bm A6 c6 P ((h3 ((A6, c6), t6) (by simp)).keep (fun q hq => hS1.below.block q (hP q hq))) (fun q hq => Nat.lt_of_lt_of_le (hP q hq) hS1.size) (hI.below hS1.below))
  have HB := Lib.hid hS1.below
  simp only at HC
  obtain ⟨v9, hv9⟩ : ∃ z, truQ isQ t6 = z := ⟨_, rfl⟩
  rw [hv9] at HC ⊢
  obtain ⟨o6, ho6⟩ : ∃ o6, t6.op = o6 := ⟨_, rfl⟩
  obtain ⟨a6, ha6⟩ : ∃ a6, t6.atom = a6 := ⟨_, rfl⟩
  obtain ⟨l6, hl6⟩ : ∃ l6, t6.kids.length = l6 := ⟨_, rfl⟩
  rw [ho6, ha6, hl6] at HC
  rw [ho6] at d0
  rw [ha6] at d1
  rw [hl6] at d2
  have hnb : sNot.toList.isEmpty = false := by rw [Lib.toList_data]; rfl
  have hnt : (sNot.toList == [110, 111, 116]) = true := (tokB sNot [110, 111, 116] sNot rfl).trans (decide_eq_true rfl)
  clear h hP hI hS1 hv9 h1 h3 IH c0 c1 c2 hps hv3 ho6 ha6 hl6
  go_enter Tryz.func108, Tryz.ntmps108
  go_wp2_with fail
  refine HC.out.mono ?_
  rintro e w2 ⟨rfl, hb2⟩
  go_wp2_with fail
  go_ret
  exact ⟨rfl, below_call HB.out hb2 (Nat.le_refl _)⟩
set_option maxRecDepth 100000 in
set_option maxHeartbeats 1000000 in
theorem trucList_calls (G : ByteArray → Prop) (isQ : ByteArray → Bool) (op : ByteArray) (hop : op = sOr ∨ op = sAnd) (ks : List Nq) (h2 : 2 ≤ ks.length) (hn : ks.length ≤ 100000) (IH : ∀ k ∈ ks, TruCH G isQ k) : TruCH G isQ (.node op noB ks) := by
  intro w ba bm A c P h hP hI
  obtain ⟨o, ho⟩ : ∃ z : Bool, decide (op = sOr) = z := ⟨_, rfl⟩
  have e0 : op.toList.isEmpty = false := by rcases hop with rfl | rfl <;> (rw [Lib.toList_data]; rfl)
  have e1 : (op.toList == [110, 111, 116]) = false := (tokB op [110, 111, 116] sNot rfl).trans (decide_eq_false (by rcases hop with rfl | rfl <;> decide))
  have e2 : (op.toList == [111, 114]) = o := by rw [← ho]; exact tokB op [111, 114] sOr rfl
  have e3 : (op.toList == [97, 110, 100]) = !o := by rw [← ho]; refine (tokB op [97, 110, 100] sAnd rfl).trans ?_; rcases hop with rfl | rfl <;> decide
  have eN : op ≠ noB := by rcases hop with rfl | rfl <;> decide
  have eT : op ≠ sNot := by rcases hop with rfl | rfl <;> decide
  simp only [Nq.op, Nq.atom, Nq.kids]
  obtain ⟨ps, rfl, h1, h3⟩ := h.row
  rw [List.length_map] at h2 hn ⊢
  obtain ⟨n, hnn⟩ : ∃ n, ps.length = n := ⟨_, rfl⟩
  rw [hnn] at h2 hn h1 ⊢
  obtain ⟨g, c', hv, _, _⟩ := h1.form (by omega)
  injection hv with hv1 _ hv3
  subst hv1
  obtain ⟨v9, hv9⟩ : ∃ z, truQ isQ (.node op noB (ps.map (·.2))) = z := ⟨_, rfl⟩
  have HV1 : Hid (∀ (k : Nat) (hk : k < ps.length), truQ isQ ps[k].2 = o → v9 = o) := Lib.hid (fun k hk he => by
    rw [← hv9, truQ_eq, if_neg eN, if_neg eT]
    have hm : truQ isQ ps[k].2 ∈ (ps.map (·.2)).map (truQ isQ) := List.mem_map.2 ⟨_, List.mem_map.2 ⟨_, List.getElem_mem hk, rfl⟩, rfl⟩
    rw [he] at hm
    by_cases hs : op = sOr
    · rw [if_pos hs]
      obtain rfl : true = o := by rw [← ho]; exact (decide_eq_true hs).symm
      exact List.any_eq_true.2 ⟨true, hm, rfl⟩
    · rw [if_neg hs]
      obtain rfl : false = o := by rw [← ho]; exact (decide_eq_false hs).symm
      exact List.all_eq_false.2 ⟨false, hm, by decide⟩)
  have HV2 : Hid ((∀ (k : Nat) (hk : k < ps.length), truQ isQ ps[k].2 = !o) → v9 = !o) := Lib.hid (fun he => by
    rw [← hv9, truQ_eq, if_neg eN, if_neg eT]
    have hm : ∀ x ∈ (ps.map (·.2)).map (truQ isQ), x = !o := fun x hx => by
      obtain ⟨y, hy, rfl⟩ := List.mem_map.1 hx
      obtain ⟨p, hp, rfl⟩ := List.mem_map.1 hy
      obtain ⟨i, hi, rfl⟩ := List.getElem_of_mem hp
      exact he i hi
    by_cases hs : op = sOr
    · rw [if_pos hs]
      obtain rfl : true = o := by rw [← ho]; exact (decide_eq_true hs).symm
      show _ = false
      rw [List.any_eq_false]
      intro x hx
      rw [hm x hx]; decide
    · rw [if_neg hs]
      obtain rfl : false = o := by rw [← ho]; exact (decide_eq_false hs).symm
      show _ = true
      rw [List.all_eq_true]
      intro x hx
      rw [hm x hx]; rfl)
  have HIH : Hid (∀ k (hk : k < ps.length) W, Below w.heap.size w W → Calls Tryz.prog 108 #[.agg #[.string ps[k].2.op, .string ps[k].2.atom, .slice ps[k].1.1 ps[k].2.kids.length ps[k].1.2], .func (.func 151) #[] #[.pointer (some ⟨ba, 0, none⟩), .pointer (some ⟨bm, 0, none⟩)]] W (BRet (.bool (truQ isQ ps[k].2)) W)) := Lib.hid (fun k hk W hW =>
    IH ps[k].2 (List.mem_map.2 ⟨ps[k], List.getElem_mem hk, rfl⟩) W ba bm _ _ P ((h3 _ (List.getElem_mem hk)).keep (fun q hq => hW.block q (hP q hq))) (fun q hq => Nat.lt_of_lt_of_le (hP q hq) hW.size) (hI.below hW))
  have HROW : Hid (∀ k (hk : k < ps.length), w.cell? ⟨g, k * 3, none⟩ = some (.string ps[k].2.op) ∧ w.cell? ⟨g, k * 3 + 1, none⟩ = some (.string ps[k].2.atom) ∧ w.cell? ⟨g, k * 3 + 2, none⟩ = some (.slice ps[k].1.1 ps[k].2.kids.length ps[k].1.2)) := Lib.hid (fun k hk =>
    ⟨own_cell qnC 3 qnC_len h1 k 0 hk (by omega) (by omega), own_cell qnC 3 qnC_len h1 k 1 hk (by omega) (by omega), own_cell qnC 3 qnC_len h1 k 2 hk (by omega) (by omega)⟩)
  have HN := Lib.hid hnn
  have hS1 := (Sq.start w).add #[.string op, .string noB, .slice (some ⟨g, 0, none⟩) n c] 139
  rw [hv9]
  clear h1 h3 h hP hI IH hnn hv9 ho eN eT hop hv3
  go_enter Tryz.func108, Tryz.ntmps108
  go_wp2_with fail
  go_loopw [27] (fun i wr => ∃ k : Nat, k ≤ n ∧ i = .int .i64 k ∧ Sq w wr [rBlk w.heap.size 139 #[.string op, .string noB, .slice (some ⟨g, 0, none⟩) n c]] ∧ Hid (∀ j (hj : j < ps.length), j < k → truQ isQ ps[j].2 = !o)) (fun i _ => n - (intOf i).toNat)
  case atStart => exact ⟨0, Nat.zero_le _, rfl, hS1, Lib.hid (fun j hj h => by omega)⟩
  case round =>
    clear hS1
    obtain ⟨k, hk, rfl, hS, HF⟩ := hrel
    by_cases hlt : k < n
    · have hkp : k < ps.length := by rw [HN.out]; exact hlt
      obtain ⟨c0, c1, c2⟩ := HROW.out k hkp
      have d0 := below_cell hS.below c0
      have d1 := below_cell hS.below c1
      have d2 := below_cell hS.below c2
      have HC := Lib.hid (HIH.out k hkp)
      have HVV := Lib.hid (HV1.out k hkp)
      have HFF : Hid (truQ isQ ps[k].2 = !o → ∀ j (hj : j < ps.length), j < k + 1 → truQ isQ ps[j].2 = !o) := Lib.hid (fun h j hj hjk => by
        by_cases he : j = k
        · subst he; exact h
        · exact HF.out j hj (by omega))
      obtain ⟨⟨⟨A6, c6⟩, t6⟩, hp⟩ : ∃ p, ps[k] = p := ⟨_, rfl⟩
      rw [hp] at d0 d1 d2 HC HVV HFF
      simp only at d0 d1 d2 HC
      obtain ⟨vk, hvk⟩ : ∃ z, truQ isQ t6 = z := ⟨_, rfl⟩
      rw [show truQ isQ ((A6, c6), t6).2 = vk from hvk] at HVV HFF
      rw [hvk] at HC
      obtain ⟨o6, ho6⟩ : ∃ o6, t6.op = o6 := ⟨_, rfl⟩
      obtain ⟨a6, ha6⟩ : ∃ a6, t6.atom = a6 := ⟨_, rfl⟩
      obtain ⟨l6, hl6⟩ : ∃ l6, t6.kids.length = l6 := ⟨_, rfl⟩
      rw [ho6, ha6, hl6] at HC
      rw [ho6] at d0
      rw [ha6] at d1
      rw [hl6] at d2
      have hk0 : (0 : Int) ≤ (k : Int) := by omega
      have hkn : (k : Int) < (n : Int) := by omega
      clear c0 c1 c2 hp hvk ho6 ha6 hl6
      have b2 := Blk.cell (hS.nth 0 rfl) 0
      have hSb := hS.add #[.string o6, .string a6, .slice A6 l6 c6] 139
      have g0 : (wr.alloc (.cells #[.string o6, .string a6, .slice A6 l6 c6] 139)).cell? ⟨w.heap.size, 0, none⟩ = some (.string op) := Blk.cell (hSb.nth 1 rfl) 0
      have hSa := hSb.drew
      clear hSb
      have hbd := hSa.below
      by_cases hq : vk = o
      · have HV0 := Lib.hid (HVV.out hq)
        subst hq
        clear HVV HFF
        cases vk
        · go_wp2_with fail
          go_region_law (go_simp; go_at_call 108; ((with_reducible refine (HC.out _ hbd).mono ?_); rintro e w3 ⟨rfl, hb3⟩; have hS3 := hSa.callB hb3; have f0 := Blk.cell (hS3.nth 1 rfl) 0; have HS3 := Lib.hid hS3.tail))
          all_goals
            go_wp2_with fail
            go_ret
            exact ⟨by rw [HV0.out]; rfl, HS3.out.below⟩
        · go_wp2_with fail
          go_region_law (go_simp; go_at_call 108; ((with_reducible refine (HC.out _ hbd).mono ?_); rintro e w3 ⟨rfl, hb3⟩; have hS3 := hSa.callB hb3; have f0 := Blk.cell (hS3.nth 1 rfl) 0; have HS3 := Lib.hid hS3.tail))
          all_goals
            go_wp2_with fail
            go_ret
            exact ⟨by rw [HV0.out]; rfl, HS3.out.below⟩
      · cases o
        · obtain rfl : vk = true := by cases vk; exact absurd rfl hq; rfl
          have HF0 := Lib.hid (HFF.out rfl)
          clear hq HVV HFF
          go_wp2_with fail
          go_region_law (go_simp; go_at_call 108; ((with_reducible refine (HC.out _ hbd).mono ?_); rintro e w3 ⟨rfl, hb3⟩; have hS3 := hSa.callB hb3; have f0 := Blk.cell (hS3.nth 1 rfl) 0; have HS3 := Lib.hid hS3.tail))
          all_goals
            go_wp2_with fail
            go_roundw
            case rel => exact ⟨k + 1, hlt, by go_num, HS3.out, HF0⟩
            case measure => simp [intOf]; omega
        · obtain rfl : vk = false := by cases vk; rfl; exact absurd rfl hq
          have HF0 := Lib.hid (HFF.out rfl)
          clear hq HVV HFF
          go_wp2_with fail
          go_region_law (go_simp; go_at_call 108; ((with_reducible refine (HC.out _ hbd).mono ?_); rintro e w3 ⟨rfl, hb3⟩; have hS3 := hSa.callB hb3; have f0 := Blk.cell (hS3.nth 1 rfl) 0; have HS3 := Lib.hid hS3.tail))
          all_goals
            go_wp2_with fail
            go_roundw
            case rel => exact ⟨k + 1, hlt, by go_num, HS3.out, HF0⟩
            case measure => simp [intOf]; omega
    · obtain rfl : k = n := by omega
      have HZ := Lib.hid (HV2.out (fun j hj => HF.out j hj (by rw [← HN.out]; exact hj)))
      have b0 := Blk.cell (hS.nth 0 rfl) 0
      have HB9 := Lib.hid hS.below
      clear hS
      go_wp2_with fail
      go_ret
      exact ⟨by rw [HZ.out]; rfl, HB9.out⟩
theorem truc_calls {G : ByteArray → Prop} (isQ : ByteArray → Bool) {t : Nq} (h : AllQ G t) (hc : cntQ t ≤ 100000) : TruCH G isQ t := by
  induction h with
  | leaf a h => exact trucLeaf_calls G isQ a h
  | not k h ih =>
    have e := cntQ_eq sNot noB [k]
    simp only [List.map_cons, List.map_nil, List.sum_cons, List.sum_nil] at e
    exact trucNot_calls G isQ k (ih (by omega))
  | list op ks hop h2 h ih =>
    have e := cntQ_eq op noB ks
    have hkc : ∀ k ∈ ks, cntQ k ≤ 100000 := fun k hk => by have := mem_sumQ cntQ ks k hk; omega
    have hl := len_sumQ cntQ (fun k => cntQ_pos k) ks
    exact trucList_calls G isQ op hop ks h2 (by omega) (fun k hk => ih k hk (hkc k hk))
end Go.Proofs.YtfhdknppldobiaaGreatDoor
