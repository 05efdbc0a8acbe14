/-
  The reference's parser of rules, on: list, parsed by contracts. (Printed by gen_rst.py.)
-/
import Derived.Test.YtlkapcjofgpiiaaGreatDoorZRst1
import Derived.Test.YtlkapcjofgpiiaaGreatDoorZTidPure
import Derived.Test.YtlkapcjofgpiiaaGreatDoorZAppAny
import Derived.Deep.DeepCutAuto
namespace Go.Proofs.YtlkapcjofgpiiaaGreatDoor
open Go Go.RowKit
attribute [local go_sem ↓] Go.wp_at_zero Go.wp_at_succ

theorem info_nq : (Tryz.prog.info? 135).map (fun i => (i.zero, i.size, i.bytes)) = some (some (.agg #[.string ⟨#[]⟩, .string ⟨#[]⟩, .slice none 0 0]), 3, 56) := by kernel_rfl
theorem qn_cells (ps : List Qn) : ∀ u ∈ ps.flatMap qnC, u.oneCell' = true := by
  intro u hu
  rw [List.mem_flatMap] at hu
  obtain ⟨p, _, hu⟩ := hu
  simp [qnC] at hu
  rcases hu with rfl | rfl | rfl <;> rfl
theorem one3q {x y z : Value} (hx : x.oneCell' = true) (hy : y.oneCell' = true) (hz : z.oneCell' = true) : ∀ u ∈ [x, y, z], u.oneCell' = true := by
  intro u hu
  simp at hu
  rcases hu with rfl | rfl | rfl
  · exact hx
  · exact hy
  · exact hz
theorem ba_ext3 {x y : ByteArray} (h : x.data.toList = y.data.toList) : x = y := by
  cases x; cases y
  congr
  exact Array.toList_inj.1 h
theorem RAt.grown {w0 w W W' : World} {b : Nat} {l : List Tk} {v v' : Value} {e : TypeId} {size n n' : Nat} {xs xs' : List Value} (h : RAt w0 W b l) (hg : W.grownBy W' v.ownBlock) (_ : W'.ownsRow w.heap.size e size v' n' xs') (hv : W.ownsRow w.heap.size e size v n xs) (hw : w0.heap.size ≤ w.heap.size) : RAt w0 W' b l := by
  obtain ⟨A, c, h1, h2⟩ := h.ex
  have hn : ∀ k, v.ownBlock = some k → w0.heap.size ≤ k := fun k hk => Nat.le_trans hw (hv.lt k hk).1
  exact ⟨h.lt, h.bx.grown hg (Nat.le_refl _) (fun k hk => .inr (hn k hk)), ⟨A, c, h1.grown hg (fun e => by have := hn b e.symm; have := h.lt; omega), h2⟩, h.z, h.len⟩
/-- how many tokens are left in block b -/
def leftAt (W : World) (b : Nat) : Nat := match W.cell? ⟨b, 0, none⟩ with | some (.slice _ n _) => n | _ => 0
theorem RAt.left {w0 W : World} {b : Nat} {l : List Tk} (h : RAt w0 W b l) : leftAt W b = l.length := by
  obtain ⟨A, c, h1, _⟩ := h.ex
  unfold leftAt
  rw [h1.cell 0]
  rfl
/-- the kids of a node that is held, as a row that can be read, and each of them -/
theorem nqv_kids {W : World} {P : Nat → Prop} {A : Option Addr} {c : Nat} {t : Nq} (h : NqV W P (A, c) t) {b : Nat} (hb : ¬ P b) :
    ∃ ps : List Qn, ps.map (·.2) = t.kids ∧ Rd W b 3 (.slice A ps.length c) ps.length (ps.flatMap qnC) ∧ ∀ p ∈ ps, NqV W P p.1 p.2 := by
  cases h with
  | mk A c op atom ps h1 h2 h3 => exact ⟨ps, rfl, Rd.of_own h1 (fun k hk e => hb (by rw [← e]; exact h2 k hk)), h3⟩

set_option maxRecDepth 100000 in
set_option maxHeartbeats 4000000 in
theorem listAnd_calls (f : Nat) (IP : NotH f) : LstH sAnd (notR f) := by
  intro w0 b l r w h hr
  obtain ⟨i0, hi, hz0, hz1, hz2⟩ := info_parts info_nq
  obtain ⟨q, hq, rfl⟩ := list_go hr
  have hb : b < w.heap.size := Nat.lt_of_lt_of_le h.lt h.size
  have hg0 : w0.heap.size ≤ w.heap.size := h.size
  have hlen := h.len
  have hLP : LenP (notR f) := not_len f
  have HIP := Lib.hid (fun W l1 r1 (hW : RAt w0 W b l1) (hx : notR f l1 = some r1) => IP w0 b l1 r1 W hW hx)
  have HNX := Lib.hid (fun W t l1 (hW : RAt w0 W b (t :: l1)) => restNext_calls w0 b t l1 W hW)
  have HTK := Lib.hid (fun W t l1 (hW : RAt w0 W b (t :: l1)) => restTake_calls w0 b t l1 W hW)
  obtain ⟨part, hpart⟩ : ∃ part, notR f = part := ⟨_, rfl⟩
  rw [hpart] at hq HIP hLP
  have HLP := Lib.hid hLP
  have eOp : (sAnd.toList == [111, 114]) = false := (tokB sAnd [111, 114] sOr rfl).trans (by decide)
  have eEq : (sAnd.toList == sAnd.toList) = true := by simp
  obtain ⟨op, hop⟩ : ∃ op, sAnd = op := ⟨_, rfl⟩
  have HOP := Lib.hid hop
  have hS0 := (((Px.start w hb).add #[.string ⟨#[]⟩, .string ⟨#[]⟩, .slice none 0 0] 135).nil w.heap.size 135 3).nilQ.add #[.string sAnd, .string ⟨#[]⟩, .slice none 0 0] 135
  have hR0 := (h.below ((Below.refl _ _).alloc (Nat.le_refl _) (.cells #[.string ⟨#[]⟩, .string ⟨#[]⟩, .slice none 0 0] 135))).below ((Below.refl _ _).alloc (Nat.le_refl _) (.cells #[.string sAnd, .string ⟨#[]⟩, .slice none 0 0] 135))
  have hz5 : (w.alloc (.cells #[.string ⟨#[]⟩, .string ⟨#[]⟩, .slice none 0 0] 135)).heap.size = w.heap.size + 1 := by simp
  rw [hz5] at hS0
  obtain ⟨g5, hg5⟩ : ∃ g5, w.heap.size + 1 = g5 := ⟨_, rfl⟩
  rw [hop] at hS0 hR0 hq eOp eEq ⊢
  rw [hg5] at hS0
  clear IP hr h hLP hpart hop
  go_enter Tryz.func111, Tryz.ntmps111
  go_wp2_with fail
  go_loopw [] (fun wr => ∃ (ps : List Qn) (lc : List Tk) (m : Nat) (A5 : Option Addr) (c5 : Nat) (P : Nat → Prop), Hid (goR op part m (ps.map (·.2)) lc = some q) ∧ cqs (ps.map (·.2)) + lc.length ≤ l.length ∧ RAt w0 wr b lc ∧ Px w b wr [rBlk g5 135 #[.string op, .string ⟨#[]⟩, .slice A5 ps.length c5], rQ P ps, rOwn w.heap.size 135 3 (.slice A5 ps.length c5) ps.length (ps.flatMap qnC), rBlk w.heap.size 135 #[.string ⟨#[]⟩, .string ⟨#[]⟩, .slice none 0 0]]) (fun wr => leftAt wr b)
  case atStart => exact ⟨[], l, l.length, none, 0, _, Lib.hid hq, (by unfold cqs; simp), hR0, hS0⟩
  case round =>
    clear hS0 hR0 hq
    obtain ⟨ps, lc, m, A5, c5, P, HQ, hcq, hR, hS⟩ := hrel
    have HLF := Lib.hid hR.left
    obtain ⟨r1, t2, l2, hx, hnext⟩ := go_step HQ.out
    have hl1 := HLP.out lc _ hx
    have hspl := cqs_spl op r1
    have hsl := cqs_len (splQ op r1)
    have hps := cqs_len (ps.map (·.2))
    rw [List.length_map] at hps
    simp only [List.length_cons] at hl1
    have HNEXT := Lib.hid hnext
    have hcp := cq_pos r1
    have hS1 := hS.add #[.string ⟨#[]⟩, .string ⟨#[]⟩, .slice none 0 0] 135
    have hR1 := hR.below ((Below.refl _ _).alloc (Nat.le_refl _) (.cells #[.string ⟨#[]⟩, .string ⟨#[]⟩, .slice none 0 0] 135))
    have HC := Lib.hid (HIP.out _ lc _ hR1 hx)
    obtain ⟨n, hn⟩ : ∃ n, ps.length = n := ⟨_, rfl⟩
    rw [hn] at hS1 hps
    have HN := Lib.hid hn
    have hnl : cqs (ps.map (·.2)) + cq r1 + l2.length + 1 ≤ l.length := by omega
    have hwr := hS.size
    have hg5lt : g5 < wr.heap.size := (hS.ge 0 rfl (g := g5) rfl).2
    have hge : w0.heap.size ≤ wr.heap.size := Nat.le_trans hg0 hwr
    clear hS hR HQ hx hnext hR1 hn
    go_wp2_with fail
    refine HC.out.mono ?_
    rintro e w3 ⟨A6, c6, P6, rfl, hN6, hP6, hR3, B3⟩
    simp only at hN6 hR3
    have hS3 := (hS1.nq B3 hN6 hP6).front 1 rfl rfl
    obtain ⟨k0, k1, k2, f0, f1, f2⟩ := Blk.threeQ hS3.head
    have hS4 := hS3.three (.string r1.op) (.string r1.atom) (.slice A6 r1.kids.length c6)
    have hR4 := hR3.three hge (.string r1.op) (.string r1.atom) (.slice A6 r1.kids.length c6)
    obtain ⟨kl, hkl⟩ : ∃ kl, r1.kids.length = kl := ⟨_, rfl⟩
    rw [hkl] at hS4 hR4
    have hlt3 : wr.heap.size < w3.heap.size := (hS3.ge 0 rfl (g := wr.heap.size) rfl).2
    have hlt5 : g5 < w3.heap.size := (hS3.ge 2 rfl (g := g5) rfl).2
    have hne5 : ¬ wr.heap.size = g5 := by omega
    have hne5' : ¬ g5 = wr.heap.size := by omega
    clear hS1 hS3 hR3 B3 hN6 hP6 HC
    rw [hkl]
    obtain ⟨W4, hW4, hS4, hR4⟩ : ∃ W4, W4 = ((w3.setCell ⟨wr.heap.size, 0, none⟩ (.string r1.op)).setCell ⟨wr.heap.size, 1, none⟩ (.string r1.atom)).setCell ⟨wr.heap.size, 2, none⟩ (.slice A6 kl c6) ∧ Px w b W4 [rBlk wr.heap.size 135 #[.string r1.op, .string r1.atom, .slice A6 kl c6], rQ P6 [((A6, c6), r1)], rBlk g5 135 #[.string op, .string ⟨#[]⟩, .slice A5 n c5], rQ P ps, rOwn w.heap.size 135 3 (.slice A5 n c5) n (ps.flatMap qnC), rBlk w.heap.size 135 #[.string ⟨#[]⟩, .string ⟨#[]⟩, .slice none 0 0]] ∧ RAt w0 W4 b (t2 :: l2) := ⟨_, rfl, hS4, hR4⟩
    go_upto_region 6 with (fail)
    rw [← hW4]
    clear hW4 k0 k1 k2 f0 f1 f2
    obtain ⟨k0, k1, k2, f0, f1, f2⟩ := Blk.threeQ (hS4.nth 0 rfl)
    obtain ⟨bK, hbK⟩ : ∃ bK, (r1.op.toList == op.toList) = bK := ⟨_, rfl⟩
    have HBK : Hid (bK = decide (r1.op = op)) := Lib.hid (by
      rw [← hbK]
      by_cases h : r1.op = op
      · rw [h, decide_eq_true rfl]; simp
      · rw [decide_eq_false h, Lib.toList_data, Lib.toList_data]
        have : r1.op.data.toList ≠ op.data.toList := fun e => h (ba_ext3 e)
        simpa using this)
    go_upto_if 19 with (fail)
    clear hbK
    go_cut [] (fun W => ∃ (ps2 : List Qn) (A5 : Option Addr) (c5 : Nat) (P : Nat → Prop), Hid (ps2.map (·.2) = ps.map (·.2) ++ splQ op r1) ∧ RAt w0 W b (t2 :: l2) ∧ Px w b W [rBlk g5 135 #[.string op, .string ⟨#[]⟩, .slice A5 ps2.length c5], rQ P ps2, rOwn w.heap.size 135 3 (.slice A5 ps2.length c5) ps2.length (ps2.flatMap qnC), rBlk w.heap.size 135 #[.string ⟨#[]⟩, .string ⟨#[]⟩, .slice none 0 0]])
    case first =>
      obtain ⟨n0, n1, n2, e0, e1, e2⟩ := Blk.threeQ (hS4.nth 2 rfl)
      have hsz4 := hS4.size
      by_cases hop : r1.op = op
      · have eK : bK = true := by rw [HBK.out]; exact decide_eq_true hop
        subst eK
        have HSPL : Hid (splQ op r1 = r1.kids) := Lib.hid (by unfold splQ; rw [if_pos hop])
        have hN4 := (hS4.nth 1 rfl : ∀ p ∈ [((A6, c6), r1)], NqV _ P6 p.1 p.2) _ (List.mem_singleton.2 rfl)
        obtain ⟨psk, hk1, hrd, hk3⟩ := nqv_kids hN4 (b := b) (fun hP => by have := (hS4.ge 1 rfl (g := b) hP).1; omega)
        have hpl : psk.length = kl := by rw [← hkl, ← hk1, List.length_map]
        rw [hpl] at hrd
        have hS5 := ((((hS4.front 1 rfl rfl).weak (r' := rQ P6 psk) (fun _ => hk3) (rQ_ok _ _) (fun k hk => hk)).front 3 rfl rfl).front 1 rfl rfl).mergeQ.front 3 rfl rfl
        have HK1 := Lib.hid hk1
        have HPL := Lib.hid hpl
        have hkb : kl ≤ 100000 := by have : (splQ op r1).length = kl := by rw [HSPL.out, hkl]
                                     omega
        clear hN4 hk1 hk3 hpl hS4 hkl
        have HO : World.ownsRow _ w.heap.size 135 3 (.slice A5 n c5) n (ps.flatMap qnC) := hS5.head
        go_wp2_with (first
          | (at_builtin; refine wpList_app_rd _ rfl _ _ 133 rfl w.heap.size 135 i0 (.agg #[.string ⟨#[]⟩, .string ⟨#[]⟩, .slice none 0 0]) 3 56 Tryz.underlying133 hi hz0 hz1 hz2 rfl (by decide) _ _ _ rfl HO b _ kl c6 (psk.flatMap qnC) rfl hrd (qn_cells _) (by unfold maxLen; omega) (by omega) hsz4 ?_; intro v' w8 hown' hgrow hblk; have hS8 := hS5.append hown' hgrow hblk; obtain ⟨A8, c8, hv8⟩ := own_form hown'; subst hv8; have z2 := (Blk.threeQ (hS8.nth 3 rfl)).2.2.1; have y2 := (Blk.threeQ (hS8.nth 3 rfl)).2.2.2.2.2; have hS9 := (((((hS8.front 3 rfl rfl).set_ 2 (.slice A8 (n + kl) c8)).drop 3 rfl rfl).front 2 rfl rfl).front 1 rfl rfl); have hR9 := (hR4.grown hgrow hown' HO hg0).far (g := g5) (by omega) 2 (.slice A8 (n + kl) c8); clear hown' hgrow hblk HO))
        go_meet
        exact ⟨ps ++ psk, A8, c8, _, Lib.hid (by rw [List.map_append, HK1.out, HSPL.out]), hR9, by rw [List.length_append, HN.out, HPL.out, List.flatMap_append]; exact hS9⟩
      · have eK : bK = false := by rw [HBK.out]; exact decide_eq_false hop
        subst eK
        have HSPL : Hid (splQ op r1 = [r1]) := Lib.hid (by unfold splQ; rw [if_neg hop])
        have hS5 := ((hS4.front 3 rfl rfl).front 2 rfl rfl).mergeQ.front 3 rfl rfl
        clear hS4
        have HO : World.ownsRow _ w.heap.size 135 3 (.slice A5 n c5) n (ps.flatMap qnC) := hS5.head
        go_wp2_with (first
          | (at_builtin; refine wpList_append_own_at _ rfl _ _ 133 rfl w.heap.size 135 i0 (.agg #[.string ⟨#[]⟩, .string ⟨#[]⟩, .slice none 0 0]) 3 56 Tryz.underlying133 hi hz0 hz1 hz2 rfl (by decide) _ _ _ rfl (HO.alloc _) ⟨_, 0, none⟩ 1 1 [.string r1.op, .string r1.atom, .slice A6 kl c6] rfl rfl (World.news_of_block (heap_alloc_new _ _)) (one3q rfl rfl rfl) (by unfold maxLen; omega) (by omega) (by simp at hsz4 ⊢; omega) ?_; intro v' w8 hown' hgrow _ hblk; have hS8 := (hS5.alloc _).append hown' hgrow hblk; obtain ⟨A8, c8, hv8⟩ := own_form hown'; subst hv8; have z2 := (Blk.threeQ (hS8.nth 3 rfl)).2.2.1; have y2 := (Blk.threeQ (hS8.nth 3 rfl)).2.2.2.2.2; have hS9 := (((((hS8.front 3 rfl rfl).set_ 2 (.slice A8 (n + 1) c8)).drop 3 rfl rfl).front 2 rfl rfl).front 1 rfl rfl); have hR9 := ((hR4.below ((Below.refl _ _).alloc (Nat.le_refl _) _)).grown hgrow hown' (HO.alloc _) hg0).far (g := g5) (by omega) 2 (.slice A8 (n + 1) c8); clear hown' hgrow hblk HO))
        go_meet
        have e9 : (ps ++ [((A6, c6), r1)]).flatMap qnC = ps.flatMap qnC ++ [.string r1.op, .string r1.atom, .slice A6 kl c6] := by rw [List.flatMap_append]; simp [qnC, hkl]
        exact ⟨ps ++ [((A6, c6), r1)], A8, c8, _, Lib.hid (by rw [List.map_append, HSPL.out]; rfl), hR9, by rw [List.length_append, HN.out, e9]; exact hS9⟩
    case rest =>
      obtain ⟨ps2, A7, c7, P7, HM7, hR7, hS7⟩ := hcut
      clear hS4 hR4 k0 k1 k2 f0 f1 f2
      have HE := Lib.hid (HNX.out _ t2 l2 hR7)
      have HT := Lib.hid (HTK.out _ t2 l2 hR7)
      obtain ⟨tt, htt⟩ : ∃ tt, t2.1 = tt := ⟨_, rfl⟩
      rw [htt] at HE
      have HTT := Lib.hid htt
      clear htt
      go_wp2_with fail
      refine HE.out.mono ?_
      rintro e w9 ⟨rfl, rfl⟩
      by_cases hto : tt = op
      · have eT : (tt.toList == op.toList) = true := by rw [hto]; simp
        obtain ⟨m', hm', HQ2⟩ : ∃ m', m = m' + 1 ∧ Hid (goR op part m' (ps.map (·.2) ++ splQ op r1) l2 = some q) := by
          rcases HNEXT.out with ⟨_, m', h1, h2⟩ | ⟨h1, _⟩
          · exact ⟨m', h1, Lib.hid h2⟩
          · exact absurd (HTT.out.trans hto) h1
        clear HNEXT HE
        go_wp2_with fail
        refine HT.out.mono ?_
        rintro e w10 ⟨rfl, hR10, B10⟩
        have hS10 := hS7.call B10
        have hle := hR10.left
        go_wp2_with fail
        go_roundw
        case rel => exact ⟨ps2, l2, m', A7, c7, P7, by rw [HM7.out]; exact HQ2, by rw [HM7.out, cqs_app]; omega, hR10, hS10⟩
        case measure => rw [hle, HLF.out]; omega
      · have eT : (tt.toList == op.toList) = false := by
          rw [Lib.toList_data, Lib.toList_data]
          have : tt.data.toList ≠ op.data.toList := fun e => hto (ba_ext3 e)
          simpa using this
        have HQ2 : Hid (q = (ps.map (·.2) ++ splQ op r1, t2 :: l2)) := by
          rcases HNEXT.out with ⟨h1, _⟩ | ⟨_, h1⟩
          · exact absurd (HTT.out.symm.trans h1) hto
          · exact Lib.hid h1
        rw [← HM7.out] at HQ2
        clear HNEXT HE HT
        obtain ⟨n0, n1, n2, e0, e1, e2⟩ := Blk.threeQ (hS7.nth 0 rfl)
        obtain ⟨d0, d1, d2, g0, g1, g2⟩ := Blk.threeQ (hS7.nth 3 rfl)
        have hO : World.ownsRow _ w.heap.size 135 3 (.slice A7 ps2.length c7) ps2.length (ps2.flatMap qnC) := hS7.nth 2 rfl
        by_cases h1 : ps2.length = 1
        · obtain ⟨p, rfl⟩ : ∃ p, ps2 = [p] := by
            cases ps2 with
            | nil => cases h1
            | cons p t => cases t with
              | nil => exact ⟨p, rfl⟩
              | cons _ _ => cases h1
          obtain ⟨⟨Ap, cp⟩, tp⟩ := p
          obtain ⟨gA, cA, hvA, _, _⟩ := hO.form (by simp)
          injection hvA with hvA1 _ hvA3
          subst hvA1 hvA3
          have x0 := own_cell qnC 3 qnC_len hO 0 0 (by simp) (by simp) (by omega)
          have x1 := own_cell qnC 3 qnC_len hO 0 1 (by simp) (by simp) (by omega)
          have x2 := own_cell qnC 3 qnC_len hO 0 2 (by simp) (by simp) (by omega)
          simp [qnC] at x0 x1 x2
          have hS8 := (hS7.front 3 rfl rfl).three (.string tp.op) (.string tp.atom) (.slice Ap tp.kids.length cp)
          have hR8 := hR7.three (g := w.heap.size) hg0 (.string tp.op) (.string tp.atom) (.slice Ap tp.kids.length cp)
          obtain ⟨r0', r1', r2', _⟩ := Blk.threeQ (hS8.nth 0 rfl)
          have hN8 := (hS8.nth 2 rfl : ∀ p ∈ [((Ap, cp), tp)], NqV _ P7 p.1 p.2) _ (List.mem_singleton.2 rfl)
          have hfp : ∀ k, P7 k → w.heap.size ≤ k ∧ k < _ := fun k hk => hS8.ge 2 rfl hk
          have hbx := hS8.bx
          have hres : (joinQ op q.1, q.2) = (tp, t2 :: l2) := by rw [HQ2.out]; rfl
          have HRES := Lib.hid hres
          clear hS8 hS7 hO hR7 HM7 HQ2 hres
          go_wp2_with fail
          refine bodyPost_ret (v := .agg #[.string tp.op, .string tp.atom, .slice Ap tp.kids.length cp]) (by simp [results, Tryz.results111, go_sem, r0', r1', r2']) rfl ?_
          rw [HRES.out]
          exact ⟨_, _, _, rfl, hN8, hfp, hR8, hbx⟩
        · obtain ⟨n9, hn9⟩ : ∃ n9, ps2.length = n9 := ⟨_, rfl⟩
          rw [hn9] at hS7 n2 h1
          have h1i : ((n9 : Int) == 1) = false := by simp; omega
          have hS8 := (hS7.front 3 rfl rfl).three (.string op) (.string ⟨#[]⟩) (.slice A7 n9 c7)
          have hR8 := hR7.three (g := w.heap.size) hg0 (.string op) (.string ⟨#[]⟩) (.slice A7 n9 c7)
          obtain ⟨r0', r1', r2', _⟩ := Blk.threeQ (hS8.nth 0 rfl)
          have hO8 : World.ownsRow _ w.heap.size 135 3 (.slice A7 n9 c7) n9 (ps2.flatMap qnC) := hS8.nth 3 rfl
          have hN8 : NqV _ (fun k => P7 k ∨ (Value.slice A7 n9 c7).ownBlock = some k) (A7, c7) (.node op noB (ps2.map (·.2))) :=
            .mk A7 c7 op noB ps2 (by rw [hn9]; exact own_base hO8 (Nat.zero_le _)) (fun k hk => .inr (by rw [hn9] at hk; exact hk)) (fun p hp => ((hS8.nth 2 rfl : ∀ p ∈ ps2, NqV _ P7 p.1 p.2) p hp).wide (fun k hk => .inl hk))
          have hfp : ∀ k, (P7 k ∨ (Value.slice A7 n9 c7).ownBlock = some k) → w.heap.size ≤ k ∧ k < _ := fun k hk => by
            rcases hk with hk | hk
            · exact hS8.ge 2 rfl hk
            · exact hS8.ge 3 rfl hk
          have hbx := hS8.bx
          have hres : (joinQ op q.1, q.2) = (.node op noB (ps2.map (·.2)), t2 :: l2) := by
            rw [HQ2.out]
            have : joinQ op (ps2.map (·.2)) = .node op noB (ps2.map (·.2)) := by
              unfold joinQ
              split
              · rename_i k hk
                have := congrArg List.length hk
                rw [List.length_map, hn9] at this
                exact absurd this h1
              · rfl
            simp only [this]
          have HRES := Lib.hid hres
          have HN9 : Hid ((ps2.map (·.2)).length = n9) := Lib.hid (by rw [List.length_map, hn9])
          clear hS8 hS7 hO hR7 HM7 HQ2 hres hO8 hn9
          go_wp2_with fail
          refine bodyPost_ret (v := .agg #[.string op, .string ⟨#[]⟩, .slice A7 n9 c7]) (by simp [results, Tryz.results111, go_sem, r0', r1', r2']) rfl ?_
          rw [HRES.out]
          refine ⟨_, _, _, ?_, hN8, hfp, hR8, hbx⟩
          show _ = Ending.returned (.agg #[.string op, .string noB, .slice A7 (ps2.map (·.2)).length c7])
          rw [HN9.out]
          rfl

set_option maxRecDepth 100000 in
set_option maxHeartbeats 4000000 in
theorem listOr_calls (f : Nat) (IP : LstH sAnd (notR f)) : LstH sOr (listR sAnd (notR f)) := by
  intro w0 b l r w h hr
  obtain ⟨i0, hi, hz0, hz1, hz2⟩ := info_parts info_nq
  obtain ⟨q, hq, rfl⟩ := list_go hr
  have hb : b < w.heap.size := Nat.lt_of_lt_of_le h.lt h.size
  have hg0 : w0.heap.size ≤ w.heap.size := h.size
  have hlen := h.len
  have hLP : LenP (listR sAnd (notR f)) := list_len (not_len f)
  have HIP := Lib.hid (fun W l1 r1 (hW : RAt w0 W b l1) (hx : listR sAnd (notR f) l1 = some r1) => IP w0 b l1 r1 W hW hx)
  have HNX := Lib.hid (fun W t l1 (hW : RAt w0 W b (t :: l1)) => restNext_calls w0 b t l1 W hW)
  have HTK := Lib.hid (fun W t l1 (hW : RAt w0 W b (t :: l1)) => restTake_calls w0 b t l1 W hW)
  obtain ⟨part, hpart⟩ : ∃ part, listR sAnd (notR f) = part := ⟨_, rfl⟩
  rw [hpart] at hq HIP hLP
  have HLP := Lib.hid hLP
  have eOp : (sOr.toList == [111, 114]) = true := (tokB sOr [111, 114] sOr rfl).trans (by decide)
  have eEq : (sOr.toList == sOr.toList) = true := by simp
  obtain ⟨op, hop⟩ : ∃ op, sOr = op := ⟨_, rfl⟩
  have HOP := Lib.hid hop
  have hS0 := (((Px.start w hb).add #[.string ⟨#[]⟩, .string ⟨#[]⟩, .slice none 0 0] 135).nil w.heap.size 135 3).nilQ.add #[.string sOr, .string ⟨#[]⟩, .slice none 0 0] 135
  have hR0 := (h.below ((Below.refl _ _).alloc (Nat.le_refl _) (.cells #[.string ⟨#[]⟩, .string ⟨#[]⟩, .slice none 0 0] 135))).below ((Below.refl _ _).alloc (Nat.le_refl _) (.cells #[.string sOr, .string ⟨#[]⟩, .slice none 0 0] 135))
  have hz5 : (w.alloc (.cells #[.string ⟨#[]⟩, .string ⟨#[]⟩, .slice none 0 0] 135)).heap.size = w.heap.size + 1 := by simp
  rw [hz5] at hS0
  obtain ⟨g5, hg5⟩ : ∃ g5, w.heap.size + 1 = g5 := ⟨_, rfl⟩
  rw [hop] at hS0 hR0 hq eOp eEq ⊢
  rw [hg5] at hS0
  clear IP hr h hLP hpart hop
  go_enter Tryz.func111, Tryz.ntmps111
  go_wp2_with fail
  go_loopw [] (fun wr => ∃ (ps : List Qn) (lc : List Tk) (m : Nat) (A5 : Option Addr) (c5 : Nat) (P : Nat → Prop), Hid (goR op part m (ps.map (·.2)) lc = some q) ∧ cqs (ps.map (·.2)) + lc.length ≤ l.length ∧ RAt w0 wr b lc ∧ Px w b wr [rBlk g5 135 #[.string op, .string ⟨#[]⟩, .slice A5 ps.length c5], rQ P ps, rOwn w.heap.size 135 3 (.slice A5 ps.length c5) ps.length (ps.flatMap qnC), rBlk w.heap.size 135 #[.string ⟨#[]⟩, .string ⟨#[]⟩, .slice none 0 0]]) (fun wr => leftAt wr b)
  case atStart => exact ⟨[], l, l.length, none, 0, _, Lib.hid hq, (by unfold cqs; simp), hR0, hS0⟩
  case round =>
    clear hS0 hR0 hq
    obtain ⟨ps, lc, m, A5, c5, P, HQ, hcq, hR, hS⟩ := hrel
    have HLF := Lib.hid hR.left
    obtain ⟨r1, t2, l2, hx, hnext⟩ := go_step HQ.out
    have hl1 := HLP.out lc _ hx
    have hspl := cqs_spl op r1
    have hsl := cqs_len (splQ op r1)
    have hps := cqs_len (ps.map (·.2))
    rw [List.length_map] at hps
    simp only [List.length_cons] at hl1
    have HNEXT := Lib.hid hnext
    have hcp := cq_pos r1
    have hS1 := hS.add #[.string ⟨#[]⟩, .string ⟨#[]⟩, .slice none 0 0] 135
    have hR1 := hR.below ((Below.refl _ _).alloc (Nat.le_refl _) (.cells #[.string ⟨#[]⟩, .string ⟨#[]⟩, .slice none 0 0] 135))
    have HC := Lib.hid (HIP.out _ lc _ hR1 hx)
    obtain ⟨n, hn⟩ : ∃ n, ps.length = n := ⟨_, rfl⟩
    rw [hn] at hS1 hps
    have HN := Lib.hid hn
    have hnl : cqs (ps.map (·.2)) + cq r1 + l2.length + 1 ≤ l.length := by omega
    have hwr := hS.size
    have hg5lt : g5 < wr.heap.size := (hS.ge 0 rfl (g := g5) rfl).2
    have hge : w0.heap.size ≤ wr.heap.size := Nat.le_trans hg0 hwr
    clear hS hR HQ hx hnext hR1 hn
    go_wp2_with fail
    refine HC.out.mono ?_
    rintro e w3 ⟨A6, c6, P6, rfl, hN6, hP6, hR3, B3⟩
    simp only at hN6 hR3
    have hS3 := (hS1.nq B3 hN6 hP6).front 1 rfl rfl
    obtain ⟨k0, k1, k2, f0, f1, f2⟩ := Blk.threeQ hS3.head
    have hS4 := hS3.three (.string r1.op) (.string r1.atom) (.slice A6 r1.kids.length c6)
    have hR4 := hR3.three hge (.string r1.op) (.string r1.atom) (.slice A6 r1.kids.length c6)
    obtain ⟨kl, hkl⟩ : ∃ kl, r1.kids.length = kl := ⟨_, rfl⟩
    rw [hkl] at hS4 hR4
    have hlt3 : wr.heap.size < w3.heap.size := (hS3.ge 0 rfl (g := wr.heap.size) rfl).2
    have hlt5 : g5 < w3.heap.size := (hS3.ge 2 rfl (g := g5) rfl).2
    have hne5 : ¬ wr.heap.size = g5 := by omega
    have hne5' : ¬ g5 = wr.heap.size := by omega
    clear hS1 hS3 hR3 B3 hN6 hP6 HC
    rw [hkl]
    obtain ⟨W4, hW4, hS4, hR4⟩ : ∃ W4, W4 = ((w3.setCell ⟨wr.heap.size, 0, none⟩ (.string r1.op)).setCell ⟨wr.heap.size, 1, none⟩ (.string r1.atom)).setCell ⟨wr.heap.size, 2, none⟩ (.slice A6 kl c6) ∧ Px w b W4 [rBlk wr.heap.size 135 #[.string r1.op, .string r1.atom, .slice A6 kl c6], rQ P6 [((A6, c6), r1)], rBlk g5 135 #[.string op, .string ⟨#[]⟩, .slice A5 n c5], rQ P ps, rOwn w.heap.size 135 3 (.slice A5 n c5) n (ps.flatMap qnC), rBlk w.heap.size 135 #[.string ⟨#[]⟩, .string ⟨#[]⟩, .slice none 0 0]] ∧ RAt w0 W4 b (t2 :: l2) := ⟨_, rfl, hS4, hR4⟩
    go_upto_region 6 with (fail)
    rw [← hW4]
    clear hW4 k0 k1 k2 f0 f1 f2
    obtain ⟨k0, k1, k2, f0, f1, f2⟩ := Blk.threeQ (hS4.nth 0 rfl)
    obtain ⟨bK, hbK⟩ : ∃ bK, (r1.op.toList == op.toList) = bK := ⟨_, rfl⟩
    have HBK : Hid (bK = decide (r1.op = op)) := Lib.hid (by
      rw [← hbK]
      by_cases h : r1.op = op
      · rw [h, decide_eq_true rfl]; simp
      · rw [decide_eq_false h, Lib.toList_data, Lib.toList_data]
        have : r1.op.data.toList ≠ op.data.toList := fun e => h (ba_ext3 e)
        simpa using this)
    go_upto_if 19 with (fail)
    clear hbK
    go_cut [] (fun W => ∃ (ps2 : List Qn) (A5 : Option Addr) (c5 : Nat) (P : Nat → Prop), Hid (ps2.map (·.2) = ps.map (·.2) ++ splQ op r1) ∧ RAt w0 W b (t2 :: l2) ∧ Px w b W [rBlk g5 135 #[.string op, .string ⟨#[]⟩, .slice A5 ps2.length c5], rQ P ps2, rOwn w.heap.size 135 3 (.slice A5 ps2.length c5) ps2.length (ps2.flatMap qnC), rBlk w.heap.size 135 #[.string ⟨#[]⟩, .string ⟨#[]⟩, .slice none 0 0]])
    case first =>
      obtain ⟨n0, n1, n2, e0, e1, e2⟩ := Blk.threeQ (hS4.nth 2 rfl)
      have hsz4 := hS4.size
      by_cases hop : r1.op = op
      · have eK : bK = true := by rw [HBK.out]; exact decide_eq_true hop
        subst eK
        have HSPL : Hid (splQ op r1 = r1.kids) := Lib.hid (by unfold splQ; rw [if_pos hop])
        have hN4 := (hS4.nth 1 rfl : ∀ p ∈ [((A6, c6), r1)], NqV _ P6 p.1 p.2) _ (List.mem_singleton.2 rfl)
        obtain ⟨psk, hk1, hrd, hk3⟩ := nqv_kids hN4 (b := b) (fun hP => by have := (hS4.ge 1 rfl (g := b) hP).1; omega)
        have hpl : psk.length = kl := by rw [← hkl, ← hk1, List.length_map]
        rw [hpl] at hrd
        have hS5 := ((((hS4.front 1 rfl rfl).weak (r' := rQ P6 psk) (fun _ => hk3) (rQ_ok _ _) (fun k hk => hk)).front 3 rfl rfl).front 1 rfl rfl).mergeQ.front 3 rfl rfl
        have HK1 := Lib.hid hk1
        have HPL := Lib.hid hpl
        have hkb : kl ≤ 100000 := by have : (splQ op r1).length = kl := by rw [HSPL.out, hkl]
                                     omega
        clear hN4 hk1 hk3 hpl hS4 hkl
        have HO : World.ownsRow _ w.heap.size 135 3 (.slice A5 n c5) n (ps.flatMap qnC) := hS5.head
        go_wp2_with (first
          | (at_builtin; refine wpList_app_rd _ rfl _ _ 133 rfl w.heap.size 135 i0 (.agg #[.string ⟨#[]⟩, .string ⟨#[]⟩, .slice none 0 0]) 3 56 Tryz.underlying133 hi hz0 hz1 hz2 rfl (by decide) _ _ _ rfl HO b _ kl c6 (psk.flatMap qnC) rfl hrd (qn_cells _) (by unfold maxLen; omega) (by omega) hsz4 ?_; intro v' w8 hown' hgrow hblk; have hS8 := hS5.append hown' hgrow hblk; obtain ⟨A8, c8, hv8⟩ := own_form hown'; subst hv8; have z2 := (Blk.threeQ (hS8.nth 3 rfl)).2.2.1; have y2 := (Blk.threeQ (hS8.nth 3 rfl)).2.2.2.2.2; have hS9 := (((((hS8.front 3 rfl rfl).set_ 2 (.slice A8 (n + kl) c8)).drop 3 rfl rfl).front 2 rfl rfl).front 1 rfl rfl); have hR9 := (hR4.grown hgrow hown' HO hg0).far (g := g5) (by omega) 2 (.slice A8 (n + kl) c8); clear hown' hgrow hblk HO))
        go_meet
        exact ⟨ps ++ psk, A8, c8, _, Lib.hid (by rw [List.map_append, HK1.out, HSPL.out]), hR9, by rw [List.length_append, HN.out, HPL.out, List.flatMap_append]; exact hS9⟩
      · have eK : bK = false := by rw [HBK.out]; exact decide_eq_false hop
        subst eK
        have HSPL : Hid (splQ op r1 = [r1]) := Lib.hid (by unfold splQ; rw [if_neg hop])
        have hS5 := ((hS4.front 3 rfl rfl).front 2 rfl rfl).mergeQ.front 3 rfl rfl
        clear hS4
        have HO : World.ownsRow _ w.heap.size 135 3 (.slice A5 n c5) n (ps.flatMap qnC) := hS5.head
        go_wp2_with (first
          | (at_builtin; refine wpList_append_own_at _ rfl _ _ 133 rfl w.heap.size 135 i0 (.agg #[.string ⟨#[]⟩, .string ⟨#[]⟩, .slice none 0 0]) 3 56 Tryz.underlying133 hi hz0 hz1 hz2 rfl (by decide) _ _ _ rfl (HO.alloc _) ⟨_, 0, none⟩ 1 1 [.string r1.op, .string r1.atom, .slice A6 kl c6] rfl rfl (World.news_of_block (heap_alloc_new _ _)) (one3q rfl rfl rfl) (by unfold maxLen; omega) (by omega) (by simp at hsz4 ⊢; omega) ?_; intro v' w8 hown' hgrow _ hblk; have hS8 := (hS5.alloc _).append hown' hgrow hblk; obtain ⟨A8, c8, hv8⟩ := own_form hown'; subst hv8; have z2 := (Blk.threeQ (hS8.nth 3 rfl)).2.2.1; have y2 := (Blk.threeQ (hS8.nth 3 rfl)).2.2.2.2.2; have hS9 := (((((hS8.front 3 rfl rfl).set_ 2 (.slice A8 (n + 1) c8)).drop 3 rfl rfl).front 2 rfl rfl).front 1 rfl rfl); have hR9 := ((hR4.below ((Below.refl _ _).alloc (Nat.le_refl _) _)).grown hgrow hown' (HO.alloc _) hg0).far (g := g5) (by omega) 2 (.slice A8 (n + 1) c8); clear hown' hgrow hblk HO))
        go_meet
        have e9 : (ps ++ [((A6, c6), r1)]).flatMap qnC = ps.flatMap qnC ++ [.string r1.op, .string r1.atom, .slice A6 kl c6] := by rw [List.flatMap_append]; simp [qnC, hkl]
        exact ⟨ps ++ [((A6, c6), r1)], A8, c8, _, Lib.hid (by rw [List.map_append, HSPL.out]; rfl), hR9, by rw [List.length_append, HN.out, e9]; exact hS9⟩
    case rest =>
      obtain ⟨ps2, A7, c7, P7, HM7, hR7, hS7⟩ := hcut
      clear hS4 hR4 k0 k1 k2 f0 f1 f2
      have HE := Lib.hid (HNX.out _ t2 l2 hR7)
      have HT := Lib.hid (HTK.out _ t2 l2 hR7)
      obtain ⟨tt, htt⟩ : ∃ tt, t2.1 = tt := ⟨_, rfl⟩
      rw [htt] at HE
      have HTT := Lib.hid htt
      clear htt
      go_wp2_with fail
      refine HE.out.mono ?_
      rintro e w9 ⟨rfl, rfl⟩
      by_cases hto : tt = op
      · have eT : (tt.toList == op.toList) = true := by rw [hto]; simp
        obtain ⟨m', hm', HQ2⟩ : ∃ m', m = m' + 1 ∧ Hid (goR op part m' (ps.map (·.2) ++ splQ op r1) l2 = some q) := by
          rcases HNEXT.out with ⟨_, m', h1, h2⟩ | ⟨h1, _⟩
          · exact ⟨m', h1, Lib.hid h2⟩
          · exact absurd (HTT.out.trans hto) h1
        clear HNEXT HE
        go_wp2_with fail
        refine HT.out.mono ?_
        rintro e w10 ⟨rfl, hR10, B10⟩
        have hS10 := hS7.call B10
        have hle := hR10.left
        go_wp2_with fail
        go_roundw
        case rel => exact ⟨ps2, l2, m', A7, c7, P7, by rw [HM7.out]; exact HQ2, by rw [HM7.out, cqs_app]; omega, hR10, hS10⟩
        case measure => rw [hle, HLF.out]; omega
      · have eT : (tt.toList == op.toList) = false := by
          rw [Lib.toList_data, Lib.toList_data]
          have : tt.data.toList ≠ op.data.toList := fun e => hto (ba_ext3 e)
          simpa using this
        have HQ2 : Hid (q = (ps.map (·.2) ++ splQ op r1, t2 :: l2)) := by
          rcases HNEXT.out with ⟨h1, _⟩ | ⟨_, h1⟩
          · exact absurd (HTT.out.symm.trans h1) hto
          · exact Lib.hid h1
        rw [← HM7.out] at HQ2
        clear HNEXT HE HT
        obtain ⟨n0, n1, n2, e0, e1, e2⟩ := Blk.threeQ (hS7.nth 0 rfl)
        obtain ⟨d0, d1, d2, g0, g1, g2⟩ := Blk.threeQ (hS7.nth 3 rfl)
        have hO : World.ownsRow _ w.heap.size 135 3 (.slice A7 ps2.length c7) ps2.length (ps2.flatMap qnC) := hS7.nth 2 rfl
        by_cases h1 : ps2.length = 1
        · obtain ⟨p, rfl⟩ : ∃ p, ps2 = [p] := by
            cases ps2 with
            | nil => cases h1
            | cons p t => cases t with
              | nil => exact ⟨p, rfl⟩
              | cons _ _ => cases h1
          obtain ⟨⟨Ap, cp⟩, tp⟩ := p
          obtain ⟨gA, cA, hvA, _, _⟩ := hO.form (by simp)
          injection hvA with hvA1 _ hvA3
          subst hvA1 hvA3
          have x0 := own_cell qnC 3 qnC_len hO 0 0 (by simp) (by simp) (by omega)
          have x1 := own_cell qnC 3 qnC_len hO 0 1 (by simp) (by simp) (by omega)
          have x2 := own_cell qnC 3 qnC_len hO 0 2 (by simp) (by simp) (by omega)
          simp [qnC] at x0 x1 x2
          have hS8 := (hS7.front 3 rfl rfl).three (.string tp.op) (.string tp.atom) (.slice Ap tp.kids.length cp)
          have hR8 := hR7.three (g := w.heap.size) hg0 (.string tp.op) (.string tp.atom) (.slice Ap tp.kids.length cp)
          obtain ⟨r0', r1', r2', _⟩ := Blk.threeQ (hS8.nth 0 rfl)
          have hN8 := (hS8.nth 2 rfl : ∀ p ∈ [((Ap, cp), tp)], NqV _ P7 p.1 p.2) _ (List.mem_singleton.2 rfl)
          have hfp : ∀ k, P7 k → w.heap.size ≤ k ∧ k < _ := fun k hk => hS8.ge 2 rfl hk
          have hbx := hS8.bx
          have hres : (joinQ op q.1, q.2) = (tp, t2 :: l2) := by rw [HQ2.out]; rfl
          have HRES := Lib.hid hres
          clear hS8 hS7 hO hR7 HM7 HQ2 hres
          go_wp2_with fail
          refine bodyPost_ret (v := .agg #[.string tp.op, .string tp.atom, .slice Ap tp.kids.length cp]) (by simp [results, Tryz.results111, go_sem, r0', r1', r2']) rfl ?_
          rw [HRES.out]
          exact ⟨_, _, _, rfl, hN8, hfp, hR8, hbx⟩
        · obtain ⟨n9, hn9⟩ : ∃ n9, ps2.length = n9 := ⟨_, rfl⟩
          rw [hn9] at hS7 n2 h1
          have h1i : ((n9 : Int) == 1) = false := by simp; omega
          have hS8 := (hS7.front 3 rfl rfl).three (.string op) (.string ⟨#[]⟩) (.slice A7 n9 c7)
          have hR8 := hR7.three (g := w.heap.size) hg0 (.string op) (.string ⟨#[]⟩) (.slice A7 n9 c7)
          obtain ⟨r0', r1', r2', _⟩ := Blk.threeQ (hS8.nth 0 rfl)
          have hO8 : World.ownsRow _ w.heap.size 135 3 (.slice A7 n9 c7) n9 (ps2.flatMap qnC) := hS8.nth 3 rfl
          have hN8 : NqV _ (fun k => P7 k ∨ (Value.slice A7 n9 c7).ownBlock = some k) (A7, c7) (.node op noB (ps2.map (·.2))) :=
            .mk A7 c7 op noB ps2 (by rw [hn9]; exact own_base hO8 (Nat.zero_le _)) (fun k hk => .inr (by rw [hn9] at hk; exact hk)) (fun p hp => ((hS8.nth 2 rfl : ∀ p ∈ ps2, NqV _ P7 p.1 p.2) p hp).wide (fun k hk => .inl hk))
          have hfp : ∀ k, (P7 k ∨ (Value.slice A7 n9 c7).ownBlock = some k) → w.heap.size ≤ k ∧ k < _ := fun k hk => by
            rcases hk with hk | hk
            · exact hS8.ge 2 rfl hk
            · exact hS8.ge 3 rfl hk
          have hbx := hS8.bx
          have hres : (joinQ op q.1, q.2) = (.node op noB (ps2.map (·.2)), t2 :: l2) := by
            rw [HQ2.out]
            have : joinQ op (ps2.map (·.2)) = .node op noB (ps2.map (·.2)) := by
              unfold joinQ
              split
              · rename_i k hk
                have := congrArg List.length hk
                rw [List.length_map, hn9] at this
                exact absurd this h1
              · rfl
            simp only [this]
          have HRES := Lib.hid hres
          have HN9 : Hid ((ps2.map (·.2)).length = n9) := Lib.hid (by rw [List.length_map, hn9])
          clear hS8 hS7 hO hR7 HM7 HQ2 hres hO8 hn9
          go_wp2_with fail
          refine bodyPost_ret (v := .agg #[.string op, .string ⟨#[]⟩, .slice A7 n9 c7]) (by simp [results, Tryz.results111, go_sem, r0', r1', r2']) rfl ?_
          rw [HRES.out]
          refine ⟨_, _, _, ?_, hN8, hfp, hR8, hbx⟩
          show _ = Ending.returned (.agg #[.string op, .string noB, .slice A7 (ps2.map (·.2)).length c7])
          rw [HN9.out]
          rfl

theorem rest_all : ∀ (f : Nat), NotH f ∧ LstH sAnd (notR f) ∧ LstH sOr (listR sAnd (notR f))
  | 0 => by
    have h0 : NotH 0 := fun w0 b l r w _ h => by cases h
    have h1 := listAnd_calls 0 h0
    exact ⟨h0, h1, listOr_calls 0 h1⟩
  | f + 1 => by
    obtain ⟨a, b, c⟩ := rest_all f
    have h0 := restNot_calls f a c
    have h1 := listAnd_calls (f + 1) h0
    exact ⟨h0, h1, listOr_calls (f + 1) h1⟩
end Go.Proofs.YtlkapcjofgpiiaaGreatDoor
