/-
  Whom the reference blames: (node).blame by contract.
-/
import Derived.Test.YtfhdknppldobiaaGreatDoorZTru
namespace Go.Proofs.YtfhdknppldobiaaGreatDoor
open Go Go.RowKit
attribute [local go_sem ↓] Go.wp_at_zero Go.wp_at_succ

def BlqH (G : ByteArray → Prop) (isQ : ByteArray → Bool) (t : Nq) : Prop := ∀ (w : World) (fid bx : Nat) (want : Bool) (A : Option Addr) (c : Nat) (P : Nat → Prop), NqV w P (A, c) t → (∀ k, P k → k < w.heap.size) → IsQ G isQ fid bx w → (fid = 109 ∨ fid = 112) →
  Calls Tryz.prog 111 #[.agg #[.string t.op, .string t.atom, .slice A t.kids.length c], .bool want, .func (.func fid) #[] #[.pointer (some ⟨bx, 0, none⟩)]] w (AtqS (blmQ isQ want t) w)
theorem blq_nil {isQ : ByteArray → Bool} {want : Bool} {t : Nq} (h : truQ isQ t = want) : blmQ isQ want t = [] := blmQ_nil h
theorem blq_leaf {isQ : ByteArray → Bool} {want : Bool} {a : ByteArray} (h : isQ a ≠ want) : blmQ isQ want (.node noB a []) = [a.data.toList] := by
  rw [blmQ_eq, if_neg (by rw [tru_leaf]; exact h), if_pos rfl]
theorem blq_not {isQ : ByteArray → Bool} {want : Bool} {k : Nq} (h : truQ isQ (.node sNot noB [k]) ≠ want) : blmQ isQ want (.node sNot noB [k]) = blmQ isQ (!want) k := by
  rw [blmQ_eq, if_neg h, if_neg (by decide), if_pos rfl]; simp
theorem blq_list {isQ : ByteArray → Bool} {want : Bool} {op : ByteArray} (hop : op = sOr ∨ op = sAnd) {ks : List Nq} (h : truQ isQ (.node op noB ks) ≠ want) : blmQ isQ want (.node op noB ks) = ks.flatMap (blmQ isQ want) := by
  rw [blmQ_eq, if_neg h, if_neg (by rcases hop with rfl | rfl <;> decide), if_neg (by rcases hop with rfl | rfl <;> decide)]
set_option maxRecDepth 100000 in
theorem blqLeaf_calls (G : ByteArray → Prop) (isQ : ByteArray → Bool) (a : ByteArray) (ha : G a) : BlqH G isQ (.node noB a []) := by
  intro w fid bx want A c P h hP hI hf
  have hS1 := (Sq.start w).add #[.string noB, .string a, .slice A 0 c] 139
  have hC := truLeaf_calls G isQ a ha (w.alloc (.cells #[.string noB, .string a, .slice A 0 c] 139)) fid bx A c P (h.keep (fun q hq => hS1.below.block q (hP q hq))) (fun q hq => Nat.lt_of_lt_of_le (hP q hq) hS1.size) (hI.below hS1.below) hf
  simp only [Nq.op, Nq.atom, Nq.kids, List.length_nil] at hC ⊢
  rw [tru_leaf] at hC
  have HC := Lib.hid hC
  have HS1 := Lib.hid hS1
  have hnb : noB.toList.isEmpty = true := by rw [Lib.toList_data]; rfl
  have HN : Hid (isQ a = want → blmQ isQ want (.node noB a []) = []) := Lib.hid (fun h => blq_nil (by rw [tru_leaf]; exact h))
  have HL : Hid (isQ a ≠ want → blmQ isQ want (.node noB a []) = [a.data.toList]) := Lib.hid blq_leaf
  obtain ⟨v9, hv9⟩ : ∃ z, isQ a = z := ⟨_, rfl⟩
  obtain ⟨L, hL⟩ : ∃ z, blmQ isQ want (.node noB a []) = z := ⟨_, rfl⟩
  rw [hv9] at HC HN HL
  rw [hL] at HN HL ⊢
  clear h hP hI hS1 hv9 hC hf hL
  by_cases hq : v9 = want
  · have HN0 := Lib.hid (HN.out hq)
    subst hq
    clear HN HL
    go_enter Tryz.func111, Tryz.ntmps111
    go_wp2_with fail
    refine HC.out.mono ?_
    rintro e w2 ⟨rfl, hb2⟩
    have HB2 := Lib.hid (HS1.out.callB hb2)
    clear hb2
    go_wp2_with fail
    go_ret
    rw [HN0.out]
    exact ⟨none, 0, rfl, World.ownsRow_nil _ _ _ _, HB2.out.below⟩
  · have HL0 := Lib.hid (HL.out hq)
    have hqb : (v9 == want) = false := by simpa using hq
    clear HN HL hq
    go_enter Tryz.func111, Tryz.ntmps111
    go_wp2_with fail
    refine HC.out.mono ?_
    rintro e w2 ⟨rfl, hb2⟩
    have hS2 := HS1.out.callB hb2
    have b0 := Blk.cell (hS2.nth 0 rfl) 0
    have b1 := Blk.cell (hS2.nth 0 rfl) 1
    have HS2 := Lib.hid (hS2.addRowQ #[.string a] 9 1 1 rfl (by decide))
    clear hb2 hS2
    go_wp2_with fail
    go_ret
    rw [HL0.out]
    exact ⟨_, _, rfl, HS2.out.head, HS2.out.below⟩
set_option maxRecDepth 100000 in
theorem blqNot_calls (G : ByteArray → Prop) (isQ : ByteArray → Bool) (k : Nq) (IT : TruH G isQ (.node sNot noB [k])) (IH : BlqH G isQ k) : BlqH G isQ (.node sNot noB [k]) := by
  intro w fid bx want A c P h hP hI hf
  have hS1 := (Sq.start w).add #[.string sNot, .string noB, .slice A 1 c] 139
  have hC := IT (w.alloc (.cells #[.string sNot, .string noB, .slice A 1 c] 139)) fid bx A c P (h.keep (fun q hq => hS1.below.block q (hP q hq))) (fun q hq => Nat.lt_of_lt_of_le (hP q hq) hS1.size) (hI.below hS1.below) hf
  simp only [Nq.op, Nq.atom, Nq.kids, List.length_singleton] at hC ⊢
  have HC := Lib.hid hC
  have HS1 := Lib.hid hS1
  obtain ⟨ps, hps, h1, h3⟩ := h.row
  obtain ⟨p, rfl⟩ : ∃ p, ps = [p] := by
    match ps, hps with
    | [p], _ => exact ⟨p, rfl⟩
  obtain rfl : k = p.2 := by simpa using hps
  obtain ⟨g, c', hv, _, _⟩ := h1.form (by simp)
  injection hv with hv1 _ hv3
  subst hv1
  have c0 := own_cell qnC 3 qnC_len h1 0 0 (by simp) (by simp) (by omega)
  have c1 := own_cell qnC 3 qnC_len h1 0 1 (by simp) (by simp) (by omega)
  have c2 := own_cell qnC 3 qnC_len h1 0 2 (by simp) (by simp) (by omega)
  obtain ⟨⟨A6, c6⟩, t6⟩ := p
  have HCE : Hid (∀ V, Below w.heap.size w V → V.cell? ⟨g, 0, none⟩ = some (.string t6.op) ∧ V.cell? ⟨g, 1, none⟩ = some (.string t6.atom) ∧ V.cell? ⟨g, 2, none⟩ = some (.slice A6 t6.kids.length c6)) := Lib.hid (fun V hV => ⟨below_cell hV c0, below_cell hV c1, below_cell hV c2⟩)
  have HIH : Hid (∀ V, Below w.heap.size w V → Calls Tryz.prog 111 #[.agg #[.string t6.op, .string t6.atom, .slice A6 t6.kids.length c6], .bool (!want), .func (.func fid) #[] #[.pointer (some ⟨bx, 0, none⟩)]] V (AtqS (blmQ isQ (!want) t6) V)) := Lib.hid (fun V hV =>
    IH V fid bx (!want) A6 c6 P ((h3 ((A6, c6), t6) (by simp)).keep (fun q hq => hV.block q (hP q hq))) (fun q hq => Nat.lt_of_lt_of_le (hP q hq) hV.size) (hI.below hV) hf)
  have hnb : sNot.toList.isEmpty = false := by rw [Lib.toList_data]; rfl
  have hnt : (sNot.toList == [110, 111, 116]) = true := (tokB sNot [110, 111, 116] sNot rfl).trans (decide_eq_true rfl)
  simp only at HC HIH
  have HN : Hid (truQ isQ (.node sNot noB [t6]) = want → blmQ isQ want (.node sNot noB [t6]) = []) := Lib.hid blq_nil
  have HL : Hid (truQ isQ (.node sNot noB [t6]) ≠ want → blmQ isQ want (.node sNot noB [t6]) = blmQ isQ (!want) t6) := Lib.hid blq_not
  obtain ⟨v9, hv9⟩ : ∃ z, truQ isQ (.node sNot noB [t6]) = z := ⟨_, rfl⟩
  obtain ⟨L, hL⟩ : ∃ z, blmQ isQ want (.node sNot noB [t6]) = z := ⟨_, rfl⟩
  obtain ⟨L1, hL1⟩ : ∃ z, blmQ isQ (!want) t6 = z := ⟨_, rfl⟩
  rw [hv9] at HC HN HL
  rw [hL] at HN HL ⊢
  rw [hL1] at HL HIH
  obtain ⟨o6, ho6⟩ : ∃ o6, t6.op = o6 := ⟨_, rfl⟩
  obtain ⟨a6, ha6⟩ : ∃ a6, t6.atom = a6 := ⟨_, rfl⟩
  obtain ⟨l6, hl6⟩ : ∃ l6, t6.kids.length = l6 := ⟨_, rfl⟩
  rw [ho6, ha6, hl6] at HIH HCE
  clear h hP hI hS1 hv9 hC hf hL hL1 h1 h3 IH IT c0 c1 c2 hps hv3 ho6 ha6 hl6
  by_cases hq : v9 = want
  · have HN0 := Lib.hid (HN.out hq)
    subst hq
    clear HN HL HIH HCE
    go_enter Tryz.func111, Tryz.ntmps111
    go_wp2_with fail
    refine HC.out.mono ?_
    rintro e w2 ⟨rfl, hb2⟩
    have HB2 := Lib.hid (HS1.out.callB hb2)
    clear hb2
    go_wp2_with fail
    go_ret
    rw [HN0.out]
    exact ⟨none, 0, rfl, World.ownsRow_nil _ _ _ _, HB2.out.below⟩
  · have HL0 := Lib.hid (HL.out hq)
    have hqb : (v9 == want) = false := by simpa using hq
    clear HN HL hq
    go_enter Tryz.func111, Tryz.ntmps111
    go_wp2_with fail
    refine HC.out.mono ?_
    rintro e w2 ⟨rfl, hb2⟩
    have hS2 := HS1.out.callB hb2
    have b0 := Blk.cell (hS2.nth 0 rfl) 0
    have b2 := Blk.cell (hS2.nth 0 rfl) 2
    obtain ⟨e0, e1, e2⟩ := HCE.out w2 hS2.below
    have HC2 := Lib.hid (HIH.out w2 hS2.below)
    have HB2 := Lib.hid hS2.below
    clear hb2 hS2 HCE HIH
    go_wp2_with fail
    refine HC2.out.mono ?_
    rintro e w3 ⟨A3, c3, rfl, ho3, hb3⟩
    go_wp2_with fail
    go_ret
    rw [HL0.out]
    exact ⟨A3, c3, rfl, own_base ho3 HB2.out.size, below_call HB2.out hb3 (Nat.le_refl _)⟩
theorem take_fl (f : Nq → List BL) (ks : List Nq) (k : Nat) (hk : k < ks.length) : (ks.take (k + 1)).flatMap f = (ks.take k).flatMap f ++ f ks[k] := by
  rw [List.take_succ_eq_append_getElem hk, List.flatMap_append]
  simp
theorem take_flLe (f : Nq → List BL) (ks : List Nq) (k : Nat) : ((ks.take k).flatMap f).length ≤ (ks.flatMap f).length := by
  have e := congrArg List.length (congrArg (List.flatMap f) (List.take_append_drop k ks))
  rw [List.flatMap_append, List.length_append] at e
  omega
set_option maxRecDepth 100000 in
set_option maxHeartbeats 2000000 in
theorem blqList_calls (G : ByteArray → Prop) (isQ : ByteArray → Bool) (op : ByteArray) (hop : op = sOr ∨ op = sAnd) (ks : List Nq) (h2 : 2 ≤ ks.length) (hn : ks.length ≤ 100000) (hl : ∀ want, (ks.flatMap (blmQ isQ want)).length ≤ 100000) (IT : TruH G isQ (.node op noB ks)) (IH : ∀ k ∈ ks, BlqH G isQ k) : BlqH G isQ (.node op noB ks) := by
  intro w fid bx want A c P h hP hI hf
  have hl := hl want
  have hS1 := (Sq.start w).add #[.string op, .string noB, .slice A ks.length c] 139
  have hC := IT (w.alloc (.cells #[.string op, .string noB, .slice A ks.length c] 139)) fid bx A c P (h.keep (fun q hq => hS1.below.block q (hP q hq))) (fun q hq => Nat.lt_of_lt_of_le (hP q hq) hS1.size) (hI.below hS1.below) hf
  have e0 : op.toList.isEmpty = false := by rcases hop with rfl | rfl <;> (rw [Lib.toList_data]; rfl)
  have e1 : (op.toList == [110, 111, 116]) = false := (tokB op [110, 111, 116] sNot rfl).trans (decide_eq_false (by rcases hop with rfl | rfl <;> decide))
  have HN : Hid (truQ isQ (.node op noB ks) = want → blmQ isQ want (.node op noB ks) = []) := Lib.hid blq_nil
  have HL : Hid (truQ isQ (.node op noB ks) ≠ want → blmQ isQ want (.node op noB ks) = ks.flatMap (blmQ isQ want)) := Lib.hid (blq_list hop)
  simp only [Nq.op, Nq.atom, Nq.kids] at hC ⊢
  obtain ⟨v9, hv9⟩ : ∃ z, truQ isQ (.node op noB ks) = z := ⟨_, rfl⟩
  obtain ⟨L, hL⟩ : ∃ z, blmQ isQ want (.node op noB ks) = z := ⟨_, rfl⟩
  rw [hv9] at hC HN HL
  rw [hL] at HN HL ⊢
  obtain ⟨ps, rfl, h1, h3⟩ := h.row
  rw [List.length_map] at h2 hn hS1 hC ⊢
  obtain ⟨n, hnn⟩ : ∃ n, ps.length = n := ⟨_, rfl⟩
  rw [hnn] at h2 hn h1 hS1 hC ⊢
  obtain ⟨g, c', hv, _, _⟩ := h1.form (by omega)
  injection hv with hv1 _ hv3
  subst hv1
  have HC := Lib.hid hC
  have HS1 := Lib.hid hS1
  have HROW : Hid (∀ k (hk : k < ps.length), w.cell? ⟨g, k * 3, none⟩ = some (.string ps[k].2.op) ∧ w.cell? ⟨g, k * 3 + 1, none⟩ = some (.string ps[k].2.atom) ∧ w.cell? ⟨g, k * 3 + 2, none⟩ = some (.slice ps[k].1.1 ps[k].2.kids.length ps[k].1.2)) := Lib.hid (fun k hk =>
    ⟨own_cell qnC 3 qnC_len h1 k 0 hk (by omega) (by omega), own_cell qnC 3 qnC_len h1 k 1 hk (by omega) (by omega), own_cell qnC 3 qnC_len h1 k 2 hk (by omega) (by omega)⟩)
  have HIH : Hid (∀ k (hk : k < ps.length) W, Below w.heap.size w W → Calls Tryz.prog 111 #[.agg #[.string ps[k].2.op, .string ps[k].2.atom, .slice ps[k].1.1 ps[k].2.kids.length ps[k].1.2], .bool want, .func (.func fid) #[] #[.pointer (some ⟨bx, 0, none⟩)]] W (AtqS (blmQ isQ want ps[k].2) W)) := Lib.hid (fun k hk W hW =>
    IH ps[k].2 (List.mem_map.2 ⟨ps[k], List.getElem_mem hk, rfl⟩) W fid bx want _ _ P ((h3 _ (List.getElem_mem hk)).keep (fun q hq => hW.block q (hP q hq))) (fun q hq => Nat.lt_of_lt_of_le (hP q hq) hW.size) (hI.below hW) hf)
  have HNN := Lib.hid hnn
  have HLL := Lib.hid hl
  obtain ⟨j0, hj, hy0, hy1, hy2⟩ := info_parts info_str
  clear h1 h3 h hP hI IH hnn hv9 hop hv3 hf hS1 hC IT hL hl
  by_cases hq : v9 = want
  · have HN0 := Lib.hid (HN.out hq)
    subst hq
    clear HN HL HIH HROW
    go_enter Tryz.func111, Tryz.ntmps111
    go_wp2_with fail
    refine HC.out.mono ?_
    rintro e w2 ⟨rfl, hb2⟩
    have HB2 := Lib.hid (HS1.out.callB hb2)
    clear hb2
    go_wp2_with fail
    go_ret
    rw [HN0.out]
    exact ⟨none, 0, rfl, World.ownsRow_nil _ _ _ _, HB2.out.below⟩
  · have HL0 := Lib.hid (HL.out hq)
    have hqb : (v9 == want) = false := by simpa using hq
    clear HN HL hq
    go_enter Tryz.func111, Tryz.ntmps111
    go_wp2_with fail
    refine HC.out.mono ?_
    rintro e w2 ⟨rfl, hb2⟩
    have hS2 := (HS1.out.callB hb2).nil w.heap.size 9 1
    have b0 := Blk.cell (hS2.nth 1 rfl) 0
    have b2 := Blk.cell (hS2.nth 1 rfl) 2
    clear hb2
    go_wp2_with fail
    go_loopw [7, 38] (fun s3 i wr => ∃ (k : Nat) (lv : List BL) (A4 : Option Addr) (c4 : Nat), k ≤ n ∧ i = .int .i64 k ∧ s3 = .slice A4 lv.length c4 ∧ Hid (lv = ((ps.map (·.2)).take k).flatMap (blmQ isQ want)) ∧ Sq w wr [rOwn w.heap.size 9 1 (.slice A4 lv.length c4) lv.length (svB lv), rBlk w.heap.size 139 #[.string op, .string noB, .slice (some ⟨g, 0, none⟩) n c]]) (fun _ i _ => n - (intOf i).toNat)
    case atStart => exact ⟨0, [], none, 0, Nat.zero_le _, rfl, rfl, Lib.hid (by simp), hS2⟩
    case round =>
      clear hS2 b0 b2
      obtain ⟨k, lv, A4, c4, hk, rfl, rfl, HLV, hS⟩ := hrel
      obtain ⟨m, hm⟩ : ∃ m, lv.length = m := ⟨_, rfl⟩
      have HM := Lib.hid hm
      have hmb : m ≤ 100001 := by
        rw [← hm, HLV.out]
        have h1 := take_flLe (blmQ isQ want) (ps.map (·.2)) k
        have := HLL.out
        omega
      rw [hm] at hS ⊢
      clear hm
      by_cases hlt : k < n
      · have hkp : k < ps.length := by rw [HNN.out]; exact hlt
        obtain ⟨c0, c1, c2⟩ := HROW.out k hkp
        have d0 := below_cell hS.below c0
        have d1 := below_cell hS.below c1
        have d2 := below_cell hS.below c2
        have HC := Lib.hid (HIH.out k hkp)
        obtain ⟨⟨⟨A6, c6⟩, t6⟩, hp⟩ : ∃ p, ps[k] = p := ⟨_, rfl⟩
        rw [hp] at d0 d1 d2 HC
        simp only at d0 d1 d2 HC
        have hkm : k < (ps.map (·.2)).length := by rw [List.length_map]; exact hkp
        have HSN : Hid (((ps.map (·.2)).take (k + 1)).flatMap (blmQ isQ want) = ((ps.map (·.2)).take k).flatMap (blmQ isQ want) ++ blmQ isQ want t6) := Lib.hid (by
          rw [take_fl _ _ k hkm, List.getElem_map, hp])
        obtain ⟨x, hx⟩ : ∃ x, blmQ isQ want t6 = x := ⟨_, rfl⟩
        rw [hx] at HC HSN
        have hxb : m + x.length ≤ 100001 := by
          have h1 := take_flLe (blmQ isQ want) (ps.map (·.2)) (k + 1)
          rw [HSN.out, List.length_append] at h1
          have h2 := HLL.out
          rw [← HM.out, HLV.out]
          omega
        obtain ⟨q, hq⟩ : ∃ q, x.length = q := ⟨_, rfl⟩
        have HXL := Lib.hid hq
        obtain ⟨o6, ho6⟩ : ∃ o6, t6.op = o6 := ⟨_, rfl⟩
        obtain ⟨a6, ha6⟩ : ∃ a6, t6.atom = a6 := ⟨_, rfl⟩
        obtain ⟨l6, hl6⟩ : ∃ l6, t6.kids.length = l6 := ⟨_, rfl⟩
        rw [ho6, ha6, hl6] at HC
        rw [ho6] at d0
        rw [ha6] at d1
        rw [hl6] at d2
        have hk0 : (0 : Int) ≤ (k : Int) := by omega
        have hkn : (k : Int) < (n : Int) := by omega
        have hS1 := hS.alloc (.cells #[.string o6, .string a6, .slice A6 l6 c6] 139)
        have HC1 := Lib.hid (HC.out _ hS1.below)
        have hlt1 : w.heap.size < (wr.alloc (.cells #[.string o6, .string a6, .slice A6 l6 c6] 139)).heap.size := by have := hS.size; simp; omega
        unfold AtqS at HC1
        rw [hq] at hxb HC1
        clear hS c0 c1 c2 hp hx hq ho6 ha6 hl6 HC
        go_wp2_with fail
        refine HC1.out.mono ?_
        rintro e w2 ⟨A7, c7, rfl, ho7, hb2⟩
        have hS2 := hS1.callB hb2
        have hrd : Rd w2 w.heap.size 1 (.slice A7 q c7) q (svB x) := Rd.own ho7 hlt1
        have hsz2 := hS2.size
        have HO : w2.ownsRow w.heap.size 9 1 (.slice A4 m c4) m (svB lv) := hS2.head
        clear hS1 d0 d1 d2 HC1 hb2 ho7 hlt1
        go_wp2_with (first
          | (at_builtin; refine wpList_app_rd _ rfl _ _ 37 rfl w.heap.size 9 j0 (.string ⟨#[]⟩) 1 16 Tryz.underlying37 hj hy0 hy1 hy2 rfl (by decide) _ _ _ rfl HO w.heap.size _ q c7 (svB x) rfl hrd (svB_cells _) (by unfold maxLen; omega) (by omega) hsz2 ?_; intro v' w8 hown' hgrow hblk; have hS8 := hS2.append hown' hgrow hblk; obtain ⟨A8, c8, hv8⟩ := own_form hown'; subst hv8; clear hown' hgrow hblk HO))
        go_roundw
        case rel => exact ⟨k + 1, lv ++ x, A8, c8, hlt, by go_num, by rw [List.length_append, HM.out, HXL.out], by rw [HSN.out, ← HLV.out]; exact Lib.hid rfl, by rw [List.length_append, HM.out, HXL.out, svB_app]; exact hS8⟩
        case measure => simp [intOf]; omega
      · obtain rfl : k = n := by omega
        have ht : (ps.map (·.2)).take k = ps.map (·.2) := List.take_of_length_le (by rw [List.length_map, HNN.out]; exact Nat.le_refl _)
        rw [ht, ← HL0.out] at HLV
        have HS := Lib.hid hS
        clear hS ht
        go_wp2_with fail
        go_ret
        rw [← HLV.out]
        exact ⟨A4, c4, by rw [HM.out]; rfl, by rw [HM.out]; exact HS.out.head, HS.out.below⟩
theorem blqQ_len {G : ByteArray → Prop} (isQ : ByteArray → Bool) {t : Nq} (h : AllQ G t) : ∀ want, (blmQ isQ want t).length ≤ cntQ t := by
  induction h with
  | leaf a h =>
    intro want
    by_cases hq : truQ isQ (.node noB a []) = want
    · rw [blq_nil hq]; exact Nat.zero_le _
    · rw [blq_leaf (by rw [tru_leaf] at hq; exact hq)]; exact cntQ_pos _
  | not k h ih =>
    intro want
    have e := cntQ_eq sNot noB [k]
    simp only [List.map_cons, List.map_nil, List.sum_cons, List.sum_nil] at e
    by_cases hq : truQ isQ (.node sNot noB [k]) = want
    · rw [blq_nil hq]; exact Nat.zero_le _
    · rw [blq_not hq]; have := ih (!want); omega
  | list op ks hop h2 h ih =>
    intro want
    have e := cntQ_eq op noB ks
    by_cases hq : truQ isQ (.node op noB ks) = want
    · rw [blq_nil hq]; exact Nat.zero_le _
    · rw [blq_list hop hq]; have := flat_lenQ (blmQ isQ want) ks (fun k hk => ih k hk want); omega
theorem blq_calls {G : ByteArray → Prop} (isQ : ByteArray → Bool) {t : Nq} (h : AllQ G t) (hc : cntQ t ≤ 100000) : BlqH G isQ t := by
  induction h with
  | leaf a h => exact blqLeaf_calls G isQ a h
  | not k h ih =>
    have e := cntQ_eq sNot noB [k]
    simp only [List.map_cons, List.map_nil, List.sum_cons, List.sum_nil] at e
    exact blqNot_calls G isQ k (tru_calls isQ (.not k h) hc) (ih (by omega))
  | list op ks hop h2 h ih =>
    have e := cntQ_eq op noB ks
    have hkc : ∀ k ∈ ks, cntQ k ≤ 100000 := fun k hk => by have := mem_sumQ cntQ ks k hk; omega
    have hl := len_sumQ cntQ (fun k => cntQ_pos k) ks
    exact blqList_calls G isQ op hop ks h2 (by omega) (fun want => by have := flat_lenQ (blmQ isQ want) ks (fun k hk => blqQ_len isQ (h k hk) want); omega) (tru_calls isQ (.list op ks hop h2 h) hc) (fun k hk => ih k hk (hkc k hk))
end Go.Proofs.YtfhdknppldobiaaGreatDoor
