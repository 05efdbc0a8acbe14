/-
  slices.IndexFunc of bids with both closures; what is wrong with what a gift is for, by contracts. (Printed by gen_bid4.py.)
-/
import Derived.Test.YtohhbkodfidfkaaGreatDoorZBidPure
import Derived.Test.YtohhbkodfidfkaaGreatDoorZSlot1
import Derived.Test.YtohhbkodfidfkaaGreatDoorZSep
import Derived.Deep.DeepCutAuto
namespace Go.Proofs.YtohhbkodfidfkaaGreatDoor
open Go Go.RowKit

theorem eqS_nil (s : ByteArray) : eqS s ⟨#[]⟩ = s.toList.isEmpty := by
  unfold eqS
  have : (⟨#[]⟩ : ByteArray).toList = [] := by rw [Lib.toList_data]
  rw [this]
  cases s.toList <;> rfl
theorem namedF_no {bs : List Bd} {x : Gf} (h : x.bid.toList.isEmpty = true) : namedF bs x = optE [] x.option := by
  unfold namedF
  rw [eqS_nil, h, if_pos rfl]
theorem namedF_none {bs : List Bd} {x : Gf} (h : x.bid.toList.isEmpty = false) (hk : bidAt bs x.bid < 0) : namedF bs x = 8 := by
  unfold namedF
  rw [eqS_nil, h, if_neg (by decide)]
  split
  · rfl
  · rw [if_pos hk]
theorem namedF_at {bs : List Bd} {x : Gf} (h : x.bid.toList.isEmpty = false) {q : Nat} (hk : bidAt bs x.bid = q) (hq : q < bs.length) : namedF bs x = optE bs[q].opts x.option := by
  unfold namedF
  rw [eqS_nil, h, if_neg (by decide), hk]
  simp only [Int.toNat_natCast]
  rw [List.getElem?_eq_getElem hq]
  simp only
  rw [if_neg (by omega)]
theorem optE_nil (o : ByteArray) : optE [] o = if o.toList.isEmpty = true then 0 else 8 := by
  unfold optE
  rw [if_pos rfl, eqS_nil]
theorem optE_len {opts : List ByteArray} (h : opts.length ≠ 0) (o : ByteArray) : optE opts o = if memS opts o = true then 0 else 8 := by
  unfold optE
  rw [if_neg (by intro e; subst e; simp at h)]
theorem bidAt_bd (bs : List Bd) (key : ByteArray) : -1 ≤ bidAt bs key ∧ bidAt bs key < bs.length := ixOf_ge _ bs

set_option maxRecDepth 100000 in
theorem ixG1_calls (g7 : Nat) (gi : ByteArray) (ga gc : Int) (key go : ByteArray) (x : Bd) (w : World) (hg : Blk w g7 61 #[.string gi, .int .i64 ga, .int .i64 gc, .string key, .string go]) :
    Calls Tryz.prog 108 #[.agg #[.string x.key, .string x.before, .int .i64 x.goal, .slice x.oa x.opts.length x.oc], .pointer (some ⟨g7, 0, none⟩)] w (BRet (.bool (eqS x.key key)) w) := by
  have hb : Below w.heap.size w (w.alloc (.cells #[.string x.key, .string x.before, .int .i64 x.goal, .slice x.oa x.opts.length x.oc] 53)) := (Below.refl _ _).alloc (Nat.le_refl _) _
  have g0 := hg.cell 3
  have gl := hg.lt
  obtain ⟨xk, xb, xg, xa, xc, xo⟩ := x
  simp only at hb ⊢
  obtain ⟨m, hm⟩ : ∃ m, xo.length = m := ⟨_, rfl⟩
  rw [hm] at hb ⊢
  have HE : Hid (eqS xk key = (xk.toList == key.toList)) := rfl
  rw [HE.out]
  clear hg hm
  go_enter Tryz.func108, Tryz.ntmps108
  go_wp2_with fail
  go_ret
  exact ⟨rfl, hb⟩
set_option maxRecDepth 100000 in
theorem ixG_calls (b g7 : Nat) (gi : ByteArray) (ga gc : Int) (key go : ByteArray) (A2 : Option Addr) (m c2 : Nat) (hs : List Bd) (w : World) (hg : Blk w g7 61 #[.string gi, .int .i64 ga, .int .i64 gc, .string key, .string go]) (hr2 : Rd w b 4 (.slice A2 m c2) m (hs.flatMap bdC)) :
    Calls Tryz.prog 101 #[.slice A2 m c2, .func (.func 108) #[] #[.pointer (some ⟨g7, 0, none⟩)]] w (BRet (.int .i64 (bidAt hs key)) w) := by
  obtain ⟨hl, hnc, hcm, hcells⟩ := hr2.cells bdC_len (by omega)
  unfold maxLen at hcm
  have HB : Hid (bidAt hs key = ixOf (fun x : Bd => eqS x.key key) hs) := rfl
  rw [HB.out]
  obtain ⟨p, hpp⟩ : ∃ p : Bd → Bool, (fun x : Bd => eqS x.key key) = p := ⟨_, rfl⟩
  have HCC : Hid (∀ W (x : Bd), Below w.heap.size w W → Calls Tryz.prog 108 #[.agg #[.string x.key, .string x.before, .int .i64 x.goal, .slice x.oa x.opts.length x.oc], .pointer (some ⟨g7, 0, none⟩)] W (BRet (.bool (p x)) W)) := fun W x hW => by
    rw [← hpp]
    exact ixG1_calls g7 gi ga gc key go x W (hg.below hW)
  have HL := Lib.hid hl
  have HCL := Lib.hid hcells
  rw [hpp]
  clear hcells hl hr2 hg hpp HB
  go_enter Tryz.func101, Tryz.ntmps101
  go_wp2
  go_loopw [8] (fun i wr => ∃ k : Nat, k ≤ m ∧ i = .int .i64 k ∧ Hid (∀ i (_ : i < k) (hi' : i < hs.length), p hs[i] = false) ∧ Below w.heap.size w wr) (fun i _ => m - (intOf i).toNat)
  case atStart => exact ⟨0, Nat.zero_le _, rfl, (fun i hi => absurd hi (by omega)), Below.refl _ _⟩
  case round =>
    obtain ⟨k, hk, rfl, HF, hbr⟩ := hrel
    by_cases hlt : k < m
    · have hkr : k < hs.length := by rw [HL.out]; exact hlt
      obtain ⟨g, o, hA, _, hcs⟩ := HCL.out (by omega)
      subst hA
      have c0 := below_cell hbr (hcs k hkr 0 (by omega))
      have c1 := below_cell hbr (hcs k hkr 1 (by omega))
      have c2 := below_cell hbr (hcs k hkr 2 (by omega))
      have c3 := below_cell hbr (hcs k hkr 3 (by omega))
      obtain ⟨s, hs'⟩ : ∃ s, hs[k] = s := ⟨_, rfl⟩
      rw [hs'] at c0 c1 c2 c3
      replace c0 : wr.cell? ⟨g, o + k * 4, none⟩ = some (.string s.key) := c0
      replace c1 : wr.cell? ⟨g, o + k * 4 + 1, none⟩ = some (.string s.before) := c1
      replace c2 : wr.cell? ⟨g, o + k * 4 + 2, none⟩ = some (.int .i64 s.goal) := c2
      replace c3 : wr.cell? ⟨g, o + k * 4 + 3, none⟩ = some (.slice s.oa s.opts.length s.oc) := c3
      have HK := Lib.hid (HCC.out wr s hbr)
      clear hcs
      cases hp : p s
      · rw [hp] at HK
        have HF2 : Hid (∀ i (_ : i < k + 1) (hi' : i < hs.length), p hs[i] = false) := by
          intro i hi hi'
          by_cases hik : i = k
          · subst hik; rw [hs']; exact hp
          · exact HF.out i (by omega) hi'
        clear hp hs'
        go_wp2_with (go_at_call 108; refine HK.out.mono ?_; rintro e w2 ⟨rfl, hb2⟩)
        have hb3 := below_call hbr hb2 (Nat.le_refl _)
        go_roundw
        case rel => exact ⟨k + 1, by omega, by go_num, HF2, hb3⟩
        case measure => simp [intOf]; omega
      · rw [hp] at HK
        have HR : Hid (ixOf p hs = k) := ixOf_at _ hs k hkr (fun i hi => HF.out i hi (by omega)) (by rw [hs']; exact hp)
        clear hp hs'
        go_wp2_with (go_at_call 108; refine HK.out.mono ?_; rintro e w2 ⟨rfl, hb2⟩)
        have hb3 := below_call hbr hb2 (Nat.le_refl _)
        go_ret
        exact ⟨ret_int HR.out.symm, hb3⟩
    · obtain rfl : k = m := by omega
      have HR : Hid (ixOf p hs = -1) := ixOf_no _ hs (fun i hi => HF.out i (by rw [← HL.out]; exact hi) hi)
      go_wp2
      go_ret
      exact ⟨ret_int HR.out.symm, hbr⟩

set_option maxRecDepth 100000 in
theorem ixQ1_calls (g7 : Nat) (key : ByteArray) (x : Bd) (w : World) (hg : Blk w g7 9 #[.string key]) :
    Calls Tryz.prog 102 #[.agg #[.string x.key, .string x.before, .int .i64 x.goal, .slice x.oa x.opts.length x.oc], .pointer (some ⟨g7, 0, none⟩)] w (BRet (.bool (eqS x.key key)) w) := by
  have hb : Below w.heap.size w (w.alloc (.cells #[.string x.key, .string x.before, .int .i64 x.goal, .slice x.oa x.opts.length x.oc] 53)) := (Below.refl _ _).alloc (Nat.le_refl _) _
  have g0 := hg.cell 0
  have gl := hg.lt
  obtain ⟨xk, xb, xg, xa, xc, xo⟩ := x
  simp only at hb ⊢
  obtain ⟨m, hm⟩ : ∃ m, xo.length = m := ⟨_, rfl⟩
  rw [hm] at hb ⊢
  have HE : Hid (eqS xk key = (xk.toList == key.toList)) := rfl
  rw [HE.out]
  clear hg hm
  go_enter Tryz.func102, Tryz.ntmps102
  go_wp2_with fail
  go_ret
  exact ⟨rfl, hb⟩
set_option maxRecDepth 100000 in
theorem ixQ_calls (b g7 : Nat) (key : ByteArray) (A2 : Option Addr) (m c2 : Nat) (hs : List Bd) (w : World) (hg : Blk w g7 9 #[.string key]) (hr2 : Rd w b 4 (.slice A2 m c2) m (hs.flatMap bdC)) :
    Calls Tryz.prog 101 #[.slice A2 m c2, .func (.func 102) #[] #[.pointer (some ⟨g7, 0, none⟩)]] w (BRet (.int .i64 (bidAt hs key)) w) := by
  obtain ⟨hl, hnc, hcm, hcells⟩ := hr2.cells bdC_len (by omega)
  unfold maxLen at hcm
  have HB : Hid (bidAt hs key = ixOf (fun x : Bd => eqS x.key key) hs) := rfl
  rw [HB.out]
  obtain ⟨p, hpp⟩ : ∃ p : Bd → Bool, (fun x : Bd => eqS x.key key) = p := ⟨_, rfl⟩
  have HCC : Hid (∀ W (x : Bd), Below w.heap.size w W → Calls Tryz.prog 102 #[.agg #[.string x.key, .string x.before, .int .i64 x.goal, .slice x.oa x.opts.length x.oc], .pointer (some ⟨g7, 0, none⟩)] W (BRet (.bool (p x)) W)) := fun W x hW => by
    rw [← hpp]
    exact ixQ1_calls g7 key x W (hg.below hW)
  have HL := Lib.hid hl
  have HCL := Lib.hid hcells
  rw [hpp]
  clear hcells hl hr2 hg hpp HB
  go_enter Tryz.func101, Tryz.ntmps101
  go_wp2
  go_loopw [8] (fun i wr => ∃ k : Nat, k ≤ m ∧ i = .int .i64 k ∧ Hid (∀ i (_ : i < k) (hi' : i < hs.length), p hs[i] = false) ∧ Below w.heap.size w wr) (fun i _ => m - (intOf i).toNat)
  case atStart => exact ⟨0, Nat.zero_le _, rfl, (fun i hi => absurd hi (by omega)), Below.refl _ _⟩
  case round =>
    obtain ⟨k, hk, rfl, HF, hbr⟩ := hrel
    by_cases hlt : k < m
    · have hkr : k < hs.length := by rw [HL.out]; exact hlt
      obtain ⟨g, o, hA, _, hcs⟩ := HCL.out (by omega)
      subst hA
      have c0 := below_cell hbr (hcs k hkr 0 (by omega))
      have c1 := below_cell hbr (hcs k hkr 1 (by omega))
      have c2 := below_cell hbr (hcs k hkr 2 (by omega))
      have c3 := below_cell hbr (hcs k hkr 3 (by omega))
      obtain ⟨s, hs'⟩ : ∃ s, hs[k] = s := ⟨_, rfl⟩
      rw [hs'] at c0 c1 c2 c3
      replace c0 : wr.cell? ⟨g, o + k * 4, none⟩ = some (.string s.key) := c0
      replace c1 : wr.cell? ⟨g, o + k * 4 + 1, none⟩ = some (.string s.before) := c1
      replace c2 : wr.cell? ⟨g, o + k * 4 + 2, none⟩ = some (.int .i64 s.goal) := c2
      replace c3 : wr.cell? ⟨g, o + k * 4 + 3, none⟩ = some (.slice s.oa s.opts.length s.oc) := c3
      have HK := Lib.hid (HCC.out wr s hbr)
      clear hcs
      cases hp : p s
      · rw [hp] at HK
        have HF2 : Hid (∀ i (_ : i < k + 1) (hi' : i < hs.length), p hs[i] = false) := by
          intro i hi hi'
          by_cases hik : i = k
          · subst hik; rw [hs']; exact hp
          · exact HF.out i (by omega) hi'
        clear hp hs'
        go_wp2_with (go_at_call 102; refine HK.out.mono ?_; rintro e w2 ⟨rfl, hb2⟩)
        have hb3 := below_call hbr hb2 (Nat.le_refl _)
        go_roundw
        case rel => exact ⟨k + 1, by omega, by go_num, HF2, hb3⟩
        case measure => simp [intOf]; omega
      · rw [hp] at HK
        have HR : Hid (ixOf p hs = k) := ixOf_at _ hs k hkr (fun i hi => HF.out i hi (by omega)) (by rw [hs']; exact hp)
        clear hp hs'
        go_wp2_with (go_at_call 102; refine HK.out.mono ?_; rintro e w2 ⟨rfl, hb2⟩)
        have hb3 := below_call hbr hb2 (Nat.le_refl _)
        go_ret
        exact ⟨ret_int HR.out.symm, hb3⟩
    · obtain rfl : k = m := by omega
      have HR : Hid (ixOf p hs = -1) := ixOf_no _ hs (fun i hi => HF.out i (by rw [← HL.out]; exact hi) hi)
      go_wp2
      go_ret
      exact ⟨ret_int HR.out.symm, hbr⟩

set_option maxRecDepth 100000 in
theorem bidAt_calls (b : Nat) (key : ByteArray) (A2 : Option Addr) (m c2 : Nat) (hs : List Bd) (w : World) (hr2 : Rd w b 4 (.slice A2 m c2) m (hs.flatMap bdC)) :
    Calls Tryz.prog 63 #[.slice A2 m c2, .string key] w (BRet (.int .i64 (bidAt hs key)) w) := by
  have hb : Below w.heap.size w (w.alloc (.cells #[.string key] 9)) := (Below.refl _ _).alloc (Nat.le_refl _) _
  have HX := Lib.hid (ixQ_calls b w.heap.size key A2 m c2 hs _ (Blk.new w _ _) (hr2.below hb))
  clear hr2
  go_enter Tryz.func63, Tryz.ntmps63
  go_wp2_with fail
  refine HX.out.mono ?_
  rintro e w1 ⟨rfl, hb1⟩
  go_wp2_with fail
  go_ret
  exact ⟨rfl, below_call hb hb1 (Nat.le_refl _)⟩

theorem blk5 {W : World} {g : Nat} {t : TypeId} {a b c d e : Value} (h : Blk W g t #[a, b, c, d, e]) : W.cell? ⟨g, 0, none⟩ = some a ∧ W.cell? ⟨g, 1, none⟩ = some b ∧ W.cell? ⟨g, 2, none⟩ = some c ∧ W.cell? ⟨g, 3, none⟩ = some d ∧ W.cell? ⟨g, 4, none⟩ = some e := ⟨h.cell 0, h.cell 1, h.cell 2, h.cell 3, h.cell 4⟩
set_option maxRecDepth 100000 in
set_option maxHeartbeats 1000000 in
theorem named_calls (b g : Nat) (A2 : Option Addr) (n c2 : Nat) (bs : List Bd) (x : Gf) (w : World) (hg : Blk w g 54 #[.slice A2 n c2]) (hr : Bds w b A2 n c2 bs) :
    Calls Tryz.prog 107 #[.agg #[.string x.id, .int .i64 x.at_, .int .i64 x.cents, .string x.bid, .string x.option], .pointer (some ⟨g, 0, none⟩)] w (BRet (.int .i64 (namedF bs x)) w) := by
  have hgl := hg.lt
  have hb : Below w.heap.size w (w.alloc (.cells #[.string x.id, .int .i64 x.at_, .int .i64 x.cents, .string x.bid, .string x.option] 61)) := (Below.refl _ _).alloc (Nat.le_refl _) _
  have hno := namedF_no (bs := bs) (x := x)
  have hnn := namedF_none (bs := bs) (x := x)
  have hat := fun h q hk hq => namedF_at (bs := bs) (x := x) h (q := q) hk hq
  have hbd := bidAt_bd bs x.bid
  have hix := ixG_calls b w.heap.size x.id x.at_ x.cents x.bid x.option A2 n c2 bs _ (Blk.new w 61 #[.string x.id, .int .i64 x.at_, .int .i64 x.cents, .string x.bid, .string x.option]) (hr.rd.below hb)
  obtain ⟨hl, hnc, hcm, hcells⟩ := hr.rd.cells bdC_len (by omega)
  unfold maxLen at hcm
  have HG := Lib.hid (hg.below hb)
  have HB0 := Lib.hid (Blk.new w 61 #[.string x.id, .int .i64 x.at_, .int .i64 x.cents, .string x.bid, .string x.option])
  obtain ⟨xi, xa, xc, xb, xo⟩ := x
  simp only at hb hno hnn hat hbd hix HB0 HG ⊢
  have hg0 := HG.out.cell 0
  obtain ⟨N, hN⟩ : ∃ N, namedF bs ⟨xi, xa, xc, xb, xo⟩ = N := ⟨_, rfl⟩
  rw [hN] at hno hnn
  simp only [hN] at hat
  rw [hN]
  obtain ⟨K, hK⟩ : ∃ K, bidAt bs xb = K := ⟨_, rfl⟩
  rw [hK] at hnn hbd hix
  simp only [hK] at hat
  have HIX := Lib.hid hix
  have HR := Lib.hid hr
  have HL := Lib.hid hl
  have HC := Lib.hid hcells
  clear hN hK hix hr hl hcells hg
  cases he : xb.toList.isEmpty
  · have HNN := Lib.hid (hnn he)
    have HAT := Lib.hid (fun q hk hq => hat he q hk hq)
    clear hno hnn hat
    by_cases hk : K < 0
    · have HS := Lib.hid (HNN.out hk)
      clear HNN HAT
      go_enter Tryz.func107, Tryz.ntmps107
      go_wp2_with fail
      refine HIX.out.mono ?_
      rintro e w1 ⟨rfl, hb1⟩
      go_wp2_with fail
      go_ret
      exact ⟨ret_int HS.out.symm, below_call hb hb1 (Nat.le_refl _)⟩
    · obtain ⟨q, rfl⟩ := Int.eq_ofNat_of_zero_le (show 0 ≤ K by omega)
      have hq : q < bs.length := by omega
      have hN := HAT.out q rfl hq
      have hq0 : (0 : Int) ≤ (q : Int) := by omega
      have hqn : (q : Int) < (n : Int) := by rw [← HL.out]; exact hbd.2
      obtain ⟨g2, o, hA, _, hcs⟩ := HC.out (by omega)
      subst hA
      have c3 := hcs q hq 3 (by omega)
      have hok := HR.out.ok _ (List.getElem_mem hq)
      obtain ⟨y, hy⟩ : ∃ y, bs[q] = y := ⟨_, rfl⟩
      rw [hy] at hN c3 hok
      obtain ⟨yk, yb, yg, ya, yc, yo⟩ := y
      have hrd := hok.rd
      obtain ⟨m, hm⟩ : ∃ m, yo.length = m := ⟨_, rfl⟩
      replace c3 : w.cell? ⟨g2, o + q * 4 + 3, none⟩ = some (.slice ya m yc) := by rw [← hm]; exact c3
      have hrd : Rd w b 1 (.slice ya m yc) m (strsV yo) := by rw [← hm]; exact hrd
      have C3 := Lib.hid c3
      have HRD := Lib.hid hrd
      have hN : N = optE yo xo := hN
      clear HNN HAT hcs hy hok c3 hrd hk
      by_cases hm0 : m = 0
      · subst hm0
        have hyo : yo = [] := List.eq_nil_of_length_eq_zero hm
        rw [hyo, optE_nil] at hN
        clear hyo hm
        cases ho : xo.toList.isEmpty
        · have HS := Lib.hid (hN.trans (if_neg (by rw [ho]; decide)))
          clear hN
          go_enter Tryz.func107, Tryz.ntmps107
          go_wp2_with fail
          refine HIX.out.mono ?_
          rintro e w1 ⟨rfl, hb1⟩
          have hbb := below_call hb hb1 (Nat.le_refl _)
          have c3 := below_cell hbb C3.out
          have g0 := below_cell hb1 hg0
          obtain ⟨d0, d1, d2, d3, d4⟩ := blk5 (HB0.out.below hb1)
          go_wp2_with fail
          go_ret
          exact ⟨ret_int HS.out.symm, hbb⟩
        · have HS := Lib.hid (hN.trans (if_pos (by rw [ho])))
          clear hN
          go_enter Tryz.func107, Tryz.ntmps107
          go_wp2_with fail
          refine HIX.out.mono ?_
          rintro e w1 ⟨rfl, hb1⟩
          have hbb := below_call hb hb1 (Nat.le_refl _)
          have c3 := below_cell hbb C3.out
          have g0 := below_cell hb1 hg0
          obtain ⟨d0, d1, d2, d3, d4⟩ := blk5 (HB0.out.below hb1)
          go_wp2_with fail
          go_ret
          exact ⟨ret_int HS.out.symm, hbb⟩
      · rw [optE_len (by rw [hm]; exact hm0)] at hN
        have hmp : 0 < m := by omega
        have hm1 : ((m : Int) == 0) = false := by rw [beq_eq_false_iff_ne]; omega
        obtain ⟨M, hM⟩ : ∃ M, memS yo xo = M := ⟨_, rfl⟩
        rw [hM] at hN
        have HM := Lib.hid hM
        clear hM hm hm0
        cases M
        · have HS := Lib.hid (hN.trans (if_neg (by decide)))
          clear hN
          go_enter Tryz.func107, Tryz.ntmps107
          go_wp2_with fail
          refine HIX.out.mono ?_
          rintro e w1 ⟨rfl, hb1⟩
          have hbb := below_call hb hb1 (Nat.le_refl _)
          have c3 := below_cell hbb C3.out
          have g0 := below_cell hb1 hg0
          obtain ⟨d0, d1, d2, d3, d4⟩ := blk5 (HB0.out.below hb1)
          have HCT := Lib.hid (containsS_calls b ya m yc yo xo w1 (HRD.out.below hbb))
          rw [HM.out] at HCT
          go_wp2_with fail
          refine HCT.out.mono ?_
          rintro e w2 ⟨rfl, nq, rfl⟩
          go_wp2_with fail
          go_ret
          exact ⟨ret_int HS.out.symm, below_drewN hbb nq⟩
        · have HS := Lib.hid (hN.trans (if_pos rfl))
          clear hN
          go_enter Tryz.func107, Tryz.ntmps107
          go_wp2_with fail
          refine HIX.out.mono ?_
          rintro e w1 ⟨rfl, hb1⟩
          have hbb := below_call hb hb1 (Nat.le_refl _)
          have c3 := below_cell hbb C3.out
          have g0 := below_cell hb1 hg0
          obtain ⟨d0, d1, d2, d3, d4⟩ := blk5 (HB0.out.below hb1)
          have HCT := Lib.hid (containsS_calls b ya m yc yo xo w1 (HRD.out.below hbb))
          rw [HM.out] at HCT
          go_wp2_with fail
          refine HCT.out.mono ?_
          rintro e w2 ⟨rfl, nq, rfl⟩
          go_wp2_with fail
          go_ret
          exact ⟨ret_int HS.out.symm, below_drewN hbb nq⟩
  · have hN := hno he
    rw [optE_nil] at hN
    clear hno hnn hat HIX hbd
    cases ho : xo.toList.isEmpty
    · have HS := Lib.hid (hN.trans (if_neg (by rw [ho]; decide)))
      clear hN
      go_enter Tryz.func107, Tryz.ntmps107
      go_wp2_with fail
      go_ret
      exact ⟨ret_int HS.out.symm, hb⟩
    · have HS := Lib.hid (hN.trans (if_pos (by rw [ho])))
      clear hN
      go_enter Tryz.func107, Tryz.ntmps107
      go_wp2_with fail
      go_ret
      exact ⟨ret_int HS.out.symm, hb⟩
end Go.Proofs.YtohhbkodfidfkaaGreatDoor
