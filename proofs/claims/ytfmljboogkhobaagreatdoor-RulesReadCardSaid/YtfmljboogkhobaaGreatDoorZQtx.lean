/-
  The reference's text of a tree, TidyOf by contracts. (Printed by gen_qtx.py.)
-/
import Derived.Test.YtfmljboogkhobaaGreatDoorZPsd
import Derived.Test.YtfmljboogkhobaaGreatDoorZRulPure
import Derived.Test.YtfmljboogkhobaaGreatDoorZSlot4
import Derived.Test.YtfmljboogkhobaaGreatDoorZSjoin
namespace Go.Proofs.YtfmljboogkhobaaGreatDoor
open Go Go.RowKit
attribute [local go_sem ↓] Go.wp_at_zero Go.wp_at_succ

def QtxH (t : Nq) : Prop := ∀ (w : World) (A : Option Addr) (c : Nat) (P : Nat → Prop), NqV w P (A, c) t → (∀ k, P k → k < w.heap.size) →
  Calls Tryz.prog 66 #[.agg #[.string t.op, .string t.atom, .slice A t.kids.length c]] w (BRet (.string (txtQ t)) w)
def qkV (op : ByteArray) (ks : List Nq) : List Value := ks.map fun k => .string (partQ op k (txtQ k))
theorem qkV_snoc (op : ByteArray) (ks : List Nq) (k : Nq) : qkV op (ks ++ [k]) = qkV op ks ++ [.string (partQ op k (txtQ k))] := by unfold qkV; simp
theorem emB (t : ByteArray) : (t.toList == ([] : List UInt8)) = decide (t = noB) ∧ t.toList.isEmpty = decide (t = noB) := by
  obtain ⟨h1, h2⟩ := em_tok t
  have e : decide (t.size = 0) = decide (t = noB) := decide_eq_decide.2 ⟨fun h => ba_nil h, fun h => by rw [h]; rfl⟩
  rw [← e]
  exact ⟨h1, h2⟩

set_option maxRecDepth 100000 in
set_option maxHeartbeats 4000000 in
theorem qtx_step (op atom : ByteArray) (ks : List Nq) (hop : op = noB ∨ (op = sNot ∧ 1 ≤ ks.length) ∨ ((op = sOr ∨ op = sAnd) ∧ 1 ≤ ks.length)) (hn : ks.length ≤ 100000) (hz : ∀ k ∈ ks, (txtQ k).size ≤ 10000000) (hzz : (txtQ (.node op atom ks)).size ≤ 10000000) (IH : ∀ k ∈ ks, QtxH k) : QtxH (.node op atom ks) := by
  intro w A c P h hP
  obtain ⟨j0, hj, hy0, hy1, hy2⟩ := info_parts info_str
  obtain ⟨ps, rfl, h1, h3⟩ : ∃ ps : List Qn, ks = ps.map (·.2) ∧ w.ownsRow 0 103 3 (.slice A ps.length c) ps.length (ps.flatMap qnC) ∧ ∀ p ∈ ps, NqV w P p.1 p.2 := by
    cases h with
    | mk A c op atom ps h1 h2 h3 => exact ⟨ps, rfl, h1, h3⟩
  rw [List.length_map] at hn hop
  simp only [Nq.op, Nq.atom, Nq.kids, List.length_map]
  obtain ⟨n, hnn⟩ : ∃ n, ps.length = n := ⟨_, rfl⟩
  rw [hnn] at hn h1 hop ⊢
  obtain ⟨TX, hTX⟩ : ∃ TX, txtQ (.node op atom (ps.map (·.2))) = TX := ⟨_, rfl⟩
  have HTX := Lib.hid hTX
  rw [hTX] at hzz ⊢
  have HROW : Hid (0 < n → ∃ g, A = some ⟨g, 0, none⟩ ∧ ∀ k (hk : k < ps.length), w.cell? ⟨g, k * 3, none⟩ = some (.string ps[k].2.op) ∧ w.cell? ⟨g, k * 3 + 1, none⟩ = some (.string ps[k].2.atom) ∧ w.cell? ⟨g, k * 3 + 2, none⟩ = some (.slice ps[k].1.1 ps[k].2.kids.length ps[k].1.2)) := Lib.hid (fun h0 => by
    obtain ⟨g, c', hv, _, _⟩ := h1.form h0
    injection hv with hv1 _ hv3
    subst hv1 hv3
    exact ⟨g, rfl, fun k hk => ⟨own_cell qnC 3 qnC_len h1 k 0 hk (by omega) (by omega), own_cell qnC 3 qnC_len h1 k 1 hk (by omega) (by omega), own_cell qnC 3 qnC_len h1 k 2 hk (by omega) (by omega)⟩⟩)
  have HIH : Hid (∀ k (hk : k < ps.length) W, Below w.heap.size w W → Calls Tryz.prog 66 #[.agg #[.string ps[k].2.op, .string ps[k].2.atom, .slice ps[k].1.1 ps[k].2.kids.length ps[k].1.2]] W (BRet (.string (txtQ ps[k].2)) W)) := Lib.hid (fun k hk W hW =>
    IH ps[k].2 (List.mem_map.2 ⟨ps[k], List.getElem_mem hk, rfl⟩) W _ _ P ((h3 _ (List.getElem_mem hk)).keep (fun q hq => hW.block q (hP q hq))) (fun q hq => Nat.lt_of_lt_of_le (hP q hq) hW.size))
  have HZ : Hid (∀ k (hk : k < ps.length), (txtQ ps[k].2).size ≤ 10000000) := Lib.hid (fun k hk => hz _ (List.mem_map.2 ⟨ps[k], List.getElem_mem hk, rfl⟩))
  have HN := Lib.hid hnn
  have HOPP := Lib.hid hop
  have hos : op.size ≤ 3 := by
    have e1 : noB.size = 0 := rfl
    have e2 : sNot.size = 3 := rfl
    have e3 : sOr.size = 2 := rfl
    have e4 : sAnd.size = 3 := rfl
    rcases hop with h | ⟨h, _⟩ | ⟨h | h, _⟩ <;> (rw [h]; omega)
  have eN0 := tokB op [110, 111, 116] sNot rfl
  obtain ⟨eE0, eE1⟩ := emB op
  obtain ⟨bN, hbN⟩ : ∃ bN, decide (op = sNot) = bN := ⟨_, rfl⟩
  rw [hbN] at eN0
  have HBN := Lib.hid hbN
  have hS0 := ((Sq.start w).add #[.string op, .string atom, .slice A n c] 103).nil w.heap.size 9 1
  have HE0 := Lib.hid eE0
  have HE1 := Lib.hid eE1
  clear h h1 h3 hP IH hz hnn hop hTX hbN eE0 eE1
  go_enter Tryz.func66, Tryz.ntmps66
  go_wp2_with fail
  go_loopw [3, 10] (fun s3 i wr => ∃ k : Nat, k ≤ n ∧ i = .int .i64 k ∧ Sq w wr [rOwn w.heap.size 9 1 s3 k (qkV op ((ps.map (·.2)).take k)), rBlk w.heap.size 103 #[.string op, .string atom, .slice A n c]]) (fun _ i _ => n - (intOf i).toNat)
  case atStart => exact ⟨0, Nat.zero_le _, rfl, hS0⟩
  case round =>
    clear hS0
    obtain ⟨k, hk, rfl, hS⟩ := hrel
    have b0 : wr.cell? ⟨w.heap.size, 0, none⟩ = some (.string op) := Blk.cell (hS.nth 1 rfl) 0
    have b1 : wr.cell? ⟨w.heap.size, 1, none⟩ = some (.string atom) := Blk.cell (hS.nth 1 rfl) 1
    have b2 : wr.cell? ⟨w.heap.size, 2, none⟩ = some (.slice A n c) := Blk.cell (hS.nth 1 rfl) 2
    by_cases hlt : k < n
    · have hkp : k < ps.length := by rw [HN.out]; exact hlt
      obtain ⟨g, hA, hcs⟩ := HROW.out (by omega)
      subst hA
      obtain ⟨c0, c1, c2⟩ := hcs k hkp
      have d0 := below_cell hS.below c0
      have d1 := below_cell hS.below c1
      have d2 := below_cell hS.below c2
      obtain ⟨⟨⟨A6, c6⟩, t6⟩, hp⟩ : ∃ p, ps[k] = p := ⟨_, rfl⟩
      rw [hp] at d0 d1 d2
      simp only at d0 d1 d2
      have hzk := HZ.out k hkp
      have HC := Lib.hid (HIH.out k hkp)
      rw [hp] at HC hzk
      simp only at HC hzk
      have HSN : Hid ((ps.map (·.2)).take (k + 1) = (ps.map (·.2)).take k ++ [t6]) := Lib.hid (by
        rw [List.take_succ_eq_append_getElem (by rw [List.length_map]; exact hkp), List.getElem_map, hp])
      obtain ⟨x, hx⟩ : ∃ x, txtQ t6 = x := ⟨_, rfl⟩
      rw [hx] at HC hzk
      obtain ⟨y, hy⟩ : ∃ y, partQ op t6 x = y := ⟨_, rfl⟩
      have HY : Hid (qkV op ((ps.map (·.2)).take k ++ [t6]) = qkV op ((ps.map (·.2)).take k) ++ [.string y]) := Lib.hid (by rw [qkV_snoc, hx, hy])
      obtain ⟨o6, ho6⟩ : ∃ o6, t6.op = o6 := ⟨_, rfl⟩
      obtain ⟨a6, ha6⟩ : ∃ a6, t6.atom = a6 := ⟨_, rfl⟩
      obtain ⟨l6, hl6⟩ : ∃ l6, t6.kids.length = l6 := ⟨_, rfl⟩
      rw [ho6, ha6, hl6] at HC
      rw [ho6] at d0
      rw [ha6] at d1
      rw [hl6] at d2
      have eO := tokB o6 [111, 114] sOr rfl
      have eA := tokB o6 [97, 110, 100] sAnd rfl
      obtain ⟨bO, hbO⟩ : ∃ b, decide (o6 = sOr) = b := ⟨_, rfl⟩
      obtain ⟨bA, hbA⟩ : ∃ b, decide (o6 = sAnd) = b := ⟨_, rfl⟩
      rw [hbO] at eO
      rw [hbA] at eA
      have HPY : Hid (y = if (bO || (bA && bN)) = true then (⟨#[40]⟩ ++ x) ++ ⟨#[41]⟩ else x) := Lib.hid (by
        rw [← hy]
        unfold partQ parIf
        rw [ho6, hbO, hbA, HBN.out]
        rfl)
      have hk0 : (0 : Int) ≤ (k : Int) := by omega
      have hkn : (k : Int) < (n : Int) := by omega
      have hS1 := hS.add #[.string o6, .string a6, .slice A6 l6 c6] 103
      have HC1 := Lib.hid (HC.out _ hS1.below)
      clear hcs c0 c1 c2 hp hx hy ho6 ha6 hl6 hbO hbA HC hS
      go_wp2_with fail
      refine HC1.out.mono ?_
      rintro e w2 ⟨rfl, hb2⟩
      have hS2 := hS1.callB hb2
      have k0 : w2.cell? ⟨wr.heap.size, 0, none⟩ = some (.string o6) := Blk.cell (hS2.nth 0 rfl) 0
      have k1 : w2.cell? ⟨w.heap.size, 0, none⟩ = some (.string op) := Blk.cell (hS2.nth 2 rfl) 0
      have hS3 := hS2.tail
      have hsz2 := hS3.size
      have HO : w2.ownsRow w.heap.size 9 1 u3 k (qkV op ((ps.map (·.2)).take k)) := hS3.head
      clear hS1 hS2 b0 b1 b2 d0 d1 d2 HC1 hb2
      cases bO
      · cases bA
        · have HYX : Hid (y = x) := Lib.hid HPY.out
          rw [HYX.out] at HY
          clear HPY HYX
          go_wp2_with (first
            | (at_builtin; refine wpList_append_own_at _ rfl _ _ 32 rfl w.heap.size 9 j0 (.string ⟨#[]⟩) 1 16 Tryz.underlying32 hj hy0 hy1 hy2 rfl (by decide) _ _ _ rfl (HO.alloc _) ⟨w2.heap.size, 0, none⟩ 1 1 [.string x] rfl rfl (World.news_of_block (heap_alloc_new _ _)) (one1 rfl) (by unfold maxLen; omega) (by omega) (by simp; omega) ?_; intro v' w8 hown' hgrow _ hblk; have hS8 := (hS3.alloc _).append hown' hgrow hblk; clear hown' hgrow hblk))
          go_roundw
          case rel => exact ⟨k + 1, hlt, by go_num, by rw [HSN.out, HY.out]; exact hS8⟩
          case measure => simp [intOf]; omega
        · cases bN
          · have HYX : Hid (y = x) := Lib.hid HPY.out
            rw [HYX.out] at HY
            clear HPY HYX
            go_wp2_with (first
              | (at_builtin; refine wpList_append_own_at _ rfl _ _ 32 rfl w.heap.size 9 j0 (.string ⟨#[]⟩) 1 16 Tryz.underlying32 hj hy0 hy1 hy2 rfl (by decide) _ _ _ rfl (HO.alloc _) ⟨w2.heap.size, 0, none⟩ 1 1 [.string x] rfl rfl (World.news_of_block (heap_alloc_new _ _)) (one1 rfl) (by unfold maxLen; omega) (by omega) (by simp; omega) ?_; intro v' w8 hown' hgrow _ hblk; have hS8 := (hS3.alloc _).append hown' hgrow hblk; clear hown' hgrow hblk))
            go_roundw
            case rel => exact ⟨k + 1, hlt, by go_num, by rw [HSN.out, HY.out]; exact hS8⟩
            case measure => simp [intOf]; omega
          · have HYX : Hid (y = (⟨#[40]⟩ ++ x) ++ ⟨#[41]⟩) := Lib.hid HPY.out
            rw [HYX.out] at HY
            clear HPY HYX
            go_wp2_with (first
              | (at_builtin; refine wpList_append_own_at _ rfl _ _ 32 rfl w.heap.size 9 j0 (.string ⟨#[]⟩) 1 16 Tryz.underlying32 hj hy0 hy1 hy2 rfl (by decide) _ _ _ rfl (HO.alloc _) ⟨w2.heap.size, 0, none⟩ 1 1 [.string ((⟨#[40]⟩ ++ x) ++ ⟨#[41]⟩)] rfl rfl (World.news_of_block (heap_alloc_new _ _)) (one1 rfl) (by unfold maxLen; omega) (by omega) (by simp; omega) ?_; intro v' w8 hown' hgrow _ hblk; have hS8 := (hS3.alloc _).append hown' hgrow hblk; clear hown' hgrow hblk))
            go_roundw
            case rel => exact ⟨k + 1, hlt, by go_num, by rw [HSN.out, HY.out]; exact hS8⟩
            case measure => simp [intOf]; omega
      · have HYX : Hid (y = (⟨#[40]⟩ ++ x) ++ ⟨#[41]⟩) := Lib.hid HPY.out
        rw [HYX.out] at HY
        clear HPY HYX
        go_wp2_with (first
          | (at_builtin; refine wpList_append_own_at _ rfl _ _ 32 rfl w.heap.size 9 j0 (.string ⟨#[]⟩) 1 16 Tryz.underlying32 hj hy0 hy1 hy2 rfl (by decide) _ _ _ rfl (HO.alloc _) ⟨w2.heap.size, 0, none⟩ 1 1 [.string ((⟨#[40]⟩ ++ x) ++ ⟨#[41]⟩)] rfl rfl (World.news_of_block (heap_alloc_new _ _)) (one1 rfl) (by unfold maxLen; omega) (by omega) (by simp; omega) ?_; intro v' w8 hown' hgrow _ hblk; have hS8 := (hS3.alloc _).append hown' hgrow hblk; clear hown' hgrow hblk))
        go_roundw
        case rel => exact ⟨k + 1, hlt, by go_num, by rw [HSN.out, HY.out]; exact hS8⟩
        case measure => simp [intOf]; omega
    · obtain rfl : k = n := by omega
      have ht : (ps.map (·.2)).take k = ps.map (·.2) := List.take_of_length_le (by rw [List.length_map, HN.out]; exact Nat.le_refl _)
      rw [ht] at hS
      have hO : wr.ownsRow w.heap.size 9 1 u3 k (qkV op (ps.map (·.2))) := hS.head
      have hbl := hS.below
      have eE0 := HE0.out
      have eE1 := HE1.out
      rcases HOPP.out with q | ⟨q, q1⟩ | ⟨q, q1⟩
      · rw [decide_eq_true q] at eE0 eE1
        have hT : TX = atom := by rw [← HTX.out, q, txtQ_leaf]
        subst q
        rw [hT]
        go_wp2_with fail
        go_ret
        exact ⟨rfl, hbl⟩
      · rw [decide_eq_false (by rw [q]; decide)] at eE0 eE1
        have hbn : bN = true := by rw [← HBN.out, q]; rfl
        obtain ⟨gw, cw, hvw, _, _⟩ := hO.form (by omega)
        subst hvw
        obtain ⟨p0, pr, hpp⟩ : ∃ p0 pr, ps = p0 :: pr := by
          cases ps with
          | nil => have := HN.out; simp at this; omega
          | cons a b => exact ⟨a, b, rfl⟩
        have r0 : wr.cell? ⟨gw, 0, none⟩ = some (.string (partQ op p0.2 (txtQ p0.2))) := by rw [hO.cellAt 0 (by omega), hpp]; rfl
        obtain ⟨y0, hy0⟩ : ∃ y0, partQ op p0.2 (txtQ p0.2) = y0 := ⟨_, rfl⟩
        rw [hy0] at r0
        have hT : TX = notT ++ y0 := by rw [← HTX.out, hpp, txtQ_eq, q, if_neg (by decide), if_pos rfl, ← hy0, q]; rfl
        have HTT : Hid (TX = ⟨#[110, 111, 116, 32]⟩ ++ y0) := Lib.hid hT
        have hyz : y0.size ≤ 10000000 := by rw [hT, ByteArray.size_append] at hzz; omega
        rw [hbn] at eN0
        have e3 : ¬ op.toList = [] := fun h => by rw [h] at eE1; cases eE1
        clear hO hpp hT hy0 q
        go_wp2_with fail
        go_ret
        exact ⟨by rw [HTT.out]; rfl, hbl⟩
      · rw [decide_eq_false (by rcases q with h | h <;> rw [h] <;> decide)] at eE0 eE1
        have hbn : bN = false := by rw [← HBN.out]; exact decide_eq_false (by rcases q with h | h <;> rw [h] <;> decide)
        obtain ⟨gw, cw, hvw, _, _⟩ := hO.form (by omega)
        subst hvw
        have hsep : ((⟨#[32]⟩ ++ op) ++ ⟨#[32]⟩ : ByteArray).data.toList = [32] ++ op.data.toList ++ [32] := by simp
        have hT : TX = joinB ([32] ++ op.data.toList ++ [32]) ((ps.map (·.2)).map fun k => partQ op k (txtQ k)) := by rw [← HTX.out, txtQ_list q]
        have hjl : (Lib.join (((ps.map (·.2)).map fun k => partQ op k (txtQ k)).map (·.data.toList)) ([32] ++ op.data.toList ++ [32])).length ≤ 140737488355328 := by
          rw [hT] at hzz
          have : (joinB ([32] ++ op.data.toList ++ [32]) ((ps.map (·.2)).map fun k => partQ op k (txtQ k))).size = (Lib.join (((ps.map (·.2)).map fun k => partQ op k (txtQ k)).map (·.data.toList)) ([32] ++ op.data.toList ++ [32])).length := by
            show (Lib.join _ _).toArray.size = _
            simp
          omega
        have hcl : ∀ (j : Nat) x, ((ps.map (·.2)).map fun k => partQ op k (txtQ k))[j]? = some x → wr.cell? ⟨gw, 0 + j, none⟩ = some (.string x) := fun j x hx => by
          obtain ⟨hjl, hjx⟩ := List.getElem?_eq_some_iff.1 hx
          rw [List.length_map, List.length_map, HN.out] at hjl
          rw [Nat.zero_add, hO.cellAt j (by omega)]
          unfold qkV
          rw [List.getElem?_map] at hx ⊢
          cases hg : (ps.map (·.2))[j]? with
          | none => rw [hg] at hx; cases hx
          | some y => rw [hg] at hx; simp at hx; simp [hx]
        have HJ : Hid (Calls Tryz.prog 116 #[.slice (some ⟨gw, 0, none⟩) k cw, .string ((⟨#[32]⟩ ++ op) ++ ⟨#[32]⟩)] wr (BRet (.string TX) wr)) := by
          have := Tryz.strings_Join gw 0 cw ((ps.map (·.2)).map fun k => partQ op k (txtQ k)) ((⟨#[32]⟩ ++ op) ++ ⟨#[32]⟩) wr hcl (hO.lt gw rfl).2 (by rw [List.length_map, List.length_map, HN.out]; omega) (by rw [List.length_map, List.length_map, HN.out]; exact (own_cap hO).1) (by rw [hsep]; exact hjl)
          rw [List.length_map, List.length_map, HN.out, hsep] at this
          rw [hT]
          exact Lib.hid this
        rw [hbn] at eN0
        have e3 : ¬ op.toList = [] := fun h => by rw [h] at eE1; cases eE1
        clear hO hcl hjl hT hsep q
        go_wp2_with fail
        refine HJ.out.mono ?_
        rintro e w9 ⟨rfl, hb9⟩
        go_wp2_with fail
        go_ret
        exact ⟨rfl, below_call hbl hb9 (Nat.le_refl _)⟩
theorem qtx_calls {t : Nq} (h : QOk t) (hc : cntQ t ≤ 100000) : QtxH t := by
  induction h with
  | leaf a h => exact qtx_step noB a [] (.inl rfl) (by simp) (fun k hk => by cases hk) (by rw [txtQ_leaf]; omega) (fun k hk => by cases hk)
  | not k h ih =>
    have hs := txtQ_size (QOk.not k h)
    have e := cntQ_eq sNot noB [k]
    simp only [List.map_cons, List.map_nil, List.sum_cons, List.sum_nil] at e
    have hk := txtQ_size h
    exact qtx_step sNot noB [k] (.inr (.inl ⟨rfl, by simp⟩)) (by simp) (fun x hx => by simp at hx; subst hx; omega) (by omega) (fun x hx => by simp at hx; subst hx; exact ih (by omega))
  | list op ks hop h2 h ih =>
    have hs := txtQ_size (QOk.list op ks hop h2 h)
    have e := cntQ_eq op noB ks
    have hkc : ∀ k ∈ ks, cntQ k ≤ 100000 := fun k hk => by have := mem_sumQ cntQ ks k hk; omega
    have hl := len_sumQ cntQ (fun k => cntQ_pos k) ks
    exact qtx_step op noB ks (.inr (.inr ⟨hop, by omega⟩)) (by omega) (fun k hk => by have := txtQ_size (h k hk); have := hkc k hk; omega) (by omega) (fun k hk => ih k hk (hkc k hk))
end Go.Proofs.YtfmljboogkhobaaGreatDoor
