/-
  slices.IndexFunc of bids with both closures; what is wrong with what a gift is for, by contracts. (Printed by gen_bid4.py.)
-/
import Derived.Test.YthbcogekfdllmaaGreatDoorZBidPure
import Derived.Test.YthbcogekfdllmaaGreatDoorZSlotPure
import Derived.Test.YthbcogekfdllmaaGreatDoorZBs
import Derived.Deep.DeepCutAuto
import Derived.Test.YthbcogekfdllmaaGreatDoorZSpoil2
import Derived.Test.YthbcogekfdllmaaGreatDoorZKey2
import Derived.Test.YthbcogekfdllmaaGreatDoorZEqLv
namespace Go.Proofs.YthbcogekfdllmaaGreatDoor
open Go Go.RowKit

theorem eqS_nil (s : ByteArray) : eqS s ⟨#[]⟩ = s.toList.isEmpty := by
  unfold eqS
  have : (⟨#[]⟩ : ByteArray).toList = [] := by rw [Lib.toList_data]
  rw [this]
  cases s.toList <;> rfl
theorem namedF_no {bs : List Bd} {x : Gf} (h : x.bid.toList.isEmpty = true) : namedF bs x = optE [] x.option := by
  unfold namedF
  rw [eqS_nil, h, if_pos rfl]
theorem namedF_none {bs : List Bd} {x : Gf} (h : x.bid.toList.isEmpty = false) (hk : bidAt bs x.bid < 0) : namedF bs x = 8 := by
  unfold namedF
  rw [eqS_nil, h, if_neg (by decide)]
  split
  · rfl
  · rw [if_pos hk]
theorem namedF_at {bs : List Bd} {x : Gf} (h : x.bid.toList.isEmpty = false) {q : Nat} (hk : bidAt bs x.bid = q) (hq : q < bs.length) : namedF bs x = optE bs[q].opts x.option := by
  unfold namedF
  rw [eqS_nil, h, if_neg (by decide), hk]
  simp only [Int.toNat_natCast]
  rw [List.getElem?_eq_getElem hq]
  simp only
  rw [if_neg (by omega)]
theorem optE_nil (o : ByteArray) : optE [] o = if o.toList.isEmpty = true then 0 else 8 := by
  unfold optE
  rw [if_pos rfl, eqS_nil]
theorem optE_len {opts : List ByteArray} (h : opts.length ≠ 0) (o : ByteArray) : optE opts o = if memS opts o = true then 0 else 8 := by
  unfold optE
  rw [if_neg (by intro e; subst e; simp at h)]
theorem bidAt_bd (bs : List Bd) (key : ByteArray) : -1 ≤ bidAt bs key ∧ bidAt bs key < bs.length := ixOf_ge _ bs

set_option maxRecDepth 100000 in
theorem ixG1_calls (g7 : Nat) (gi : ByteArray) (ga gc : Int) (key go : ByteArray) (x : Bd) (w : World) (hg : Blk w g7 88 #[.string gi, .int .i64 ga, .int .i64 gc, .string key, .string go]) :
    Calls Tryz.prog 144 #[.agg #[.string x.key, .string x.before, .int .i64 x.goal, .slice x.oa x.opts.length x.oc], .pointer (some ⟨g7, 0, none⟩)] w (BRet (.bool (eqS x.key key)) w) := by
  have hb : Below w.heap.size w (w.alloc (.cells #[.string x.key, .string x.before, .int .i64 x.goal, .slice x.oa x.opts.length x.oc] 77)) := (Below.refl _ _).alloc (Nat.le_refl _) _
  have g0 := hg.cell 3
  have gl := hg.lt
  obtain ⟨xk, xb, xg, xa, xc, xo⟩ := x
  simp only at hb ⊢
  obtain ⟨m, hm⟩ : ∃ m, xo.length = m := ⟨_, rfl⟩
  rw [hm] at hb ⊢
  have HE : Hid (eqS xk key = (xk.toList == key.toList)) := rfl
  rw [HE.out]
  clear hg hm
  go_enter Tryz.func144, Tryz.ntmps144
  go_wp2_with fail
  go_ret
  exact ⟨rfl, hb⟩
set_option maxRecDepth 100000 in
theorem ixG_calls (b g7 : Nat) (gi : ByteArray) (ga gc : Int) (key go : ByteArray) (A2 : Option Addr) (m c2 : Nat) (hs : List Bd) (w : World) (hg : Blk w g7 88 #[.string gi, .int .i64 ga, .int .i64 gc, .string key, .string go]) (hr2 : Rd w b 4 (.slice A2 m c2) m (hs.flatMap bdC)) :
    Calls Tryz.prog 143 #[.slice A2 m c2, .func (.func 144) #[] #[.pointer (some ⟨g7, 0, none⟩)]] w (BRet (.int .i64 (bidAt hs key)) w) := by
  obtain ⟨hl, hnc, hcm, hcells⟩ := hr2.cells bdC_len (by omega)
  unfold maxLen at hcm
  have HB : Hid (bidAt hs key = ixOf (fun x : Bd => eqS x.key key) hs) := rfl
  rw [HB.out]
  obtain ⟨p, hpp⟩ : ∃ p : Bd → Bool, (fun x : Bd => eqS x.key key) = p := ⟨_, rfl⟩
  have HCC : Hid (∀ W (x : Bd), Below w.heap.size w W → Calls Tryz.prog 144 #[.agg #[.string x.key, .string x.before, .int .i64 x.goal, .slice x.oa x.opts.length x.oc], .pointer (some ⟨g7, 0, none⟩)] W (BRet (.bool (p x)) W)) := fun W x hW => by
    rw [← hpp]
    exact ixG1_calls g7 gi ga gc key go x W (hg.below hW)
  have HL := Lib.hid hl
  have HCL := Lib.hid hcells
  rw [hpp]
  clear hcells hl hr2 hg hpp HB
  go_enter Tryz.func143, Tryz.ntmps143
  go_wp2
  go_loopw [8] (fun i wr => ∃ k : Nat, k ≤ m ∧ i = .int .i64 k ∧ Hid (∀ i (_ : i < k) (hi' : i < hs.length), p hs[i] = false) ∧ Below w.heap.size w wr) (fun i _ => m - (intOf i).toNat)
  case atStart => exact ⟨0, Nat.zero_le _, rfl, (fun i hi => absurd hi (by omega)), Below.refl _ _⟩
  case round =>
    obtain ⟨k, hk, rfl, HF, hbr⟩ := hrel
    by_cases hlt : k < m
    · have hkr : k < hs.length := by rw [HL.out]; exact hlt
      obtain ⟨g, o, hA, _, hcs⟩ := HCL.out (by omega)
      subst hA
      have c0 := below_cell hbr (hcs k hkr 0 (by omega))
      have c1 := below_cell hbr (hcs k hkr 1 (by omega))
      have c2 := below_cell hbr (hcs k hkr 2 (by omega))
      have c3 := below_cell hbr (hcs k hkr 3 (by omega))
      obtain ⟨s, hs'⟩ : ∃ s, hs[k] = s := ⟨_, rfl⟩
      rw [hs'] at c0 c1 c2 c3
      replace c0 : wr.cell? ⟨g, o + k * 4, none⟩ = some (.string s.key) := c0
      replace c1 : wr.cell? ⟨g, o + k * 4 + 1, none⟩ = some (.string s.before) := c1
      replace c2 : wr.cell? ⟨g, o + k * 4 + 2, none⟩ = some (.int .i64 s.goal) := c2
      replace c3 : wr.cell? ⟨g, o + k * 4 + 3, none⟩ = some (.slice s.oa s.opts.length s.oc) := c3
      have HK := Lib.hid (HCC.out wr s hbr)
      clear hcs
      cases hp : p s
      · rw [hp] at HK
        have HF2 : Hid (∀ i (_ : i < k + 1) (hi' : i < hs.length), p hs[i] = false) := by
          intro i hi hi'
          by_cases hik : i = k
          · subst hik; rw [hs']; exact hp
          · exact HF.out i (by omega) hi'
        clear hp hs'
        go_wp2_with (go_at_call 144; refine HK.out.mono ?_; rintro e w2 ⟨rfl, hb2⟩)
        have hb3 := below_call hbr hb2 (Nat.le_refl _)
        go_roundw
        case rel => exact ⟨k + 1, by omega, by go_num, HF2, hb3⟩
        case measure => simp [intOf]; omega
      · rw [hp] at HK
        have HR : Hid (ixOf p hs = k) := ixOf_at _ hs k hkr (fun i hi => HF.out i hi (by omega)) (by rw [hs']; exact hp)
        clear hp hs'
        go_wp2_with (go_at_call 144; refine HK.out.mono ?_; rintro e w2 ⟨rfl, hb2⟩)
        have hb3 := below_call hbr hb2 (Nat.le_refl _)
        go_ret
        exact ⟨ret_int HR.out.symm, hb3⟩
    · obtain rfl : k = m := by omega
      have HR : Hid (ixOf p hs = -1) := ixOf_no _ hs (fun i hi => HF.out i (by rw [← HL.out]; exact hi) hi)
      go_wp2
      go_ret
      exact ⟨ret_int HR.out.symm, hbr⟩

theorem blk5 {W : World} {g : Nat} {t : TypeId} {a b c d e : Value} (h : Blk W g t #[a, b, c, d, e]) : W.cell? ⟨g, 0, none⟩ = some a ∧ W.cell? ⟨g, 1, none⟩ = some b ∧ W.cell? ⟨g, 2, none⟩ = some c ∧ W.cell? ⟨g, 3, none⟩ = some d ∧ W.cell? ⟨g, 4, none⟩ = some e := ⟨h.cell 0, h.cell 1, h.cell 2, h.cell 3, h.cell 4⟩
set_option maxRecDepth 100000 in
set_option maxHeartbeats 1000000 in
theorem named_calls (b g : Nat) (A2 : Option Addr) (n c2 : Nat) (bs : List Bd) (x : Gf) (w : World) (hg : Blk w g 53 #[.slice A2 n c2]) (hr : Bds w b A2 n c2 bs) :
    Calls Tryz.prog 142 #[.agg #[.string x.id, .int .i64 x.at_, .int .i64 x.cents, .string x.bid, .string x.option], .pointer (some ⟨g, 0, none⟩)] w (BRet (.int .i64 (namedF bs x)) w) := by
  have hgl := hg.lt
  have hb : Below w.heap.size w (w.alloc (.cells #[.string x.id, .int .i64 x.at_, .int .i64 x.cents, .string x.bid, .string x.option] 88)) := (Below.refl _ _).alloc (Nat.le_refl _) _
  have hno := namedF_no (bs := bs) (x := x)
  have hnn := namedF_none (bs := bs) (x := x)
  have hat := fun h q hk hq => namedF_at (bs := bs) (x := x) h (q := q) hk hq
  have hbd := bidAt_bd bs x.bid
  have hix := ixG_calls b w.heap.size x.id x.at_ x.cents x.bid x.option A2 n c2 bs _ (Blk.new w 88 #[.string x.id, .int .i64 x.at_, .int .i64 x.cents, .string x.bid, .string x.option]) (hr.rd.below hb)
  obtain ⟨hl, hnc, hcm, hcells⟩ := hr.rd.cells bdC_len (by omega)
  unfold maxLen at hcm
  have HG := Lib.hid (hg.below hb)
  have HB0 := Lib.hid (Blk.new w 88 #[.string x.id, .int .i64 x.at_, .int .i64 x.cents, .string x.bid, .string x.option])
  obtain ⟨xi, xa, xc, xb, xo⟩ := x
  simp only at hb hno hnn hat hbd hix HB0 HG ⊢
  have hg0 := HG.out.cell 0
  obtain ⟨N, hN⟩ : ∃ N, namedF bs ⟨xi, xa, xc, xb, xo⟩ = N := ⟨_, rfl⟩
  rw [hN] at hno hnn
  simp only [hN] at hat
  rw [hN]
  obtain ⟨K, hK⟩ : ∃ K, bidAt bs xb = K := ⟨_, rfl⟩
  rw [hK] at hnn hbd hix
  simp only [hK] at hat
  have HIX := Lib.hid hix
  have HR := Lib.hid hr
  have HL := Lib.hid hl
  have HC := Lib.hid hcells
  clear hN hK hix hr hl hcells hg
  cases he : xb.toList.isEmpty
  · have HNN := Lib.hid (hnn he)
    have HAT := Lib.hid (fun q hk hq => hat he q hk hq)
    clear hno hnn hat
    by_cases hk : K < 0
    · have HS := Lib.hid (HNN.out hk)
      clear HNN HAT
      go_enter Tryz.func142, Tryz.ntmps142
      go_wp2_with fail
      refine HIX.out.mono ?_
      rintro e w1 ⟨rfl, hb1⟩
      go_wp2_with fail
      go_ret
      exact ⟨ret_int HS.out.symm, below_call hb hb1 (Nat.le_refl _)⟩
    · obtain ⟨q, rfl⟩ := Int.eq_ofNat_of_zero_le (show 0 ≤ K by omega)
      have hq : q < bs.length := by omega
      have hN := HAT.out q rfl hq
      have hq0 : (0 : Int) ≤ (q : Int) := by omega
      have hqn : (q : Int) < (n : Int) := by rw [← HL.out]; exact hbd.2
      obtain ⟨g2, o, hA, _, hcs⟩ := HC.out (by omega)
      subst hA
      have c3 := hcs q hq 3 (by omega)
      have hok := HR.out.ok _ (List.getElem_mem hq)
      obtain ⟨y, hy⟩ : ∃ y, bs[q] = y := ⟨_, rfl⟩
      rw [hy] at hN c3 hok
      obtain ⟨yk, yb, yg, ya, yc, yo⟩ := y
      have hrd := hok.rd
      obtain ⟨m, hm⟩ : ∃ m, yo.length = m := ⟨_, rfl⟩
      replace c3 : w.cell? ⟨g2, o + q * 4 + 3, none⟩ = some (.slice ya m yc) := by rw [← hm]; exact c3
      have hrd : Rd w b 1 (.slice ya m yc) m (strsV yo) := by rw [← hm]; exact hrd
      have C3 := Lib.hid c3
      have HRD := Lib.hid hrd
      have hN : N = optE yo xo := hN
      clear HNN HAT hcs hy hok c3 hrd hk
      by_cases hm0 : m = 0
      · subst hm0
        have hyo : yo = [] := List.eq_nil_of_length_eq_zero hm
        rw [hyo, optE_nil] at hN
        clear hyo hm
        cases ho : xo.toList.isEmpty
        · have HS := Lib.hid (hN.trans (if_neg (by rw [ho]; decide)))
          clear hN
          go_enter Tryz.func142, Tryz.ntmps142
          go_wp2_with fail
          refine HIX.out.mono ?_
          rintro e w1 ⟨rfl, hb1⟩
          have hbb := below_call hb hb1 (Nat.le_refl _)
          have c3 := below_cell hbb C3.out
          have g0 := below_cell hb1 hg0
          obtain ⟨d0, d1, d2, d3, d4⟩ := blk5 (HB0.out.below hb1)
          go_wp2_with fail
          go_ret
          exact ⟨ret_int HS.out.symm, hbb⟩
        · have HS := Lib.hid (hN.trans (if_pos (by rw [ho])))
          clear hN
          go_enter Tryz.func142, Tryz.ntmps142
          go_wp2_with fail
          refine HIX.out.mono ?_
          rintro e w1 ⟨rfl, hb1⟩
          have hbb := below_call hb hb1 (Nat.le_refl _)
          have c3 := below_cell hbb C3.out
          have g0 := below_cell hb1 hg0
          obtain ⟨d0, d1, d2, d3, d4⟩ := blk5 (HB0.out.below hb1)
          go_wp2_with fail
          go_ret
          exact ⟨ret_int HS.out.symm, hbb⟩
      · rw [optE_len (by rw [hm]; exact hm0)] at hN
        have hmp : 0 < m := by omega
        have hm1 : ((m : Int) == 0) = false := by rw [beq_eq_false_iff_ne]; omega
        obtain ⟨M, hM⟩ : ∃ M, memS yo xo = M := ⟨_, rfl⟩
        rw [hM] at hN
        have HM := Lib.hid hM
        clear hM hm hm0
        cases M
        · have HS := Lib.hid (hN.trans (if_neg (by decide)))
          clear hN
          go_enter Tryz.func142, Tryz.ntmps142
          go_wp2_with fail
          refine HIX.out.mono ?_
          rintro e w1 ⟨rfl, hb1⟩
          have hbb := below_call hb hb1 (Nat.le_refl _)
          have c3 := below_cell hbb C3.out
          have g0 := below_cell hb1 hg0
          obtain ⟨d0, d1, d2, d3, d4⟩ := blk5 (HB0.out.below hb1)
          have HCT := Lib.hid (containsS_calls b ya m yc yo xo w1 (HRD.out.below hbb))
          rw [HM.out] at HCT
          go_wp2_with fail
          refine HCT.out.mono ?_
          rintro e w2 ⟨rfl, nq, rfl⟩
          go_wp2_with fail
          go_ret
          exact ⟨ret_int HS.out.symm, below_drewN hbb nq⟩
        · have HS := Lib.hid (hN.trans (if_pos rfl))
          clear hN
          go_enter Tryz.func142, Tryz.ntmps142
          go_wp2_with fail
          refine HIX.out.mono ?_
          rintro e w1 ⟨rfl, hb1⟩
          have hbb := below_call hb hb1 (Nat.le_refl _)
          have c3 := below_cell hbb C3.out
          have g0 := below_cell hb1 hg0
          obtain ⟨d0, d1, d2, d3, d4⟩ := blk5 (HB0.out.below hb1)
          have HCT := Lib.hid (containsS_calls b ya m yc yo xo w1 (HRD.out.below hbb))
          rw [HM.out] at HCT
          go_wp2_with fail
          refine HCT.out.mono ?_
          rintro e w2 ⟨rfl, nq, rfl⟩
          go_wp2_with fail
          go_ret
          exact ⟨ret_int HS.out.symm, below_drewN hbb nq⟩
  · have hN := hno he
    rw [optE_nil] at hN
    clear hno hnn hat HIX hbd
    cases ho : xo.toList.isEmpty
    · have HS := Lib.hid (hN.trans (if_neg (by rw [ho]; decide)))
      clear hN
      go_enter Tryz.func142, Tryz.ntmps142
      go_wp2_with fail
      go_ret
      exact ⟨ret_int HS.out.symm, hb⟩
    · have HS := Lib.hid (hN.trans (if_pos (by rw [ho])))
      clear hN
      go_enter Tryz.func142, Tryz.ntmps142
      go_wp2_with fail
      go_ret
      exact ⟨ret_int HS.out.symm, hb⟩
end Go.Proofs.YthbcogekfdllmaaGreatDoor
/-
  What a bid has come to: program and reference alike, where bids and gifts are right. No Go text is named here.
-/
namespace Go.Proofs.YthbcogekfdllmaaGreatDoor
open Go Go.RowKit

theorem gtS.ne {a b : ByteArray} (h : gtS a b) : eqS b a = false := by
  cases he : eqS b a
  · rfl
  · have := (eqS_iff b a).1 he
    subst this
    have h2 := (gtS_iff _ _).1 h
    have h3 := gt_irr b.data.toList
    unfold cmpS at h2
    omega
theorem keyB_ne {s : ByteArray} (h : keyB s.data.toList = true) : s.toList.isEmpty = false := by
  refine isEmpty_f ?_
  rcases Nat.eq_zero_or_pos s.size with h0 | h0
  · have : keyB s.data.toList = false := keyB_size (by
      have hs : s.data.toList.length = s.size := by rw [Array.length_toList]; rfl
      omega)
    rw [h] at this
    exact absurd this (by decide)
  · exact h0
theorem rise_mem : ∀ (hs : List ByteArray) (last : ByteArray), riseG last hs = 0 → ∀ h ∈ hs, keyB h.data.toList = true
  | [], _, _ => by intro h hh; cases hh
  | x :: hs, last, h => by
    rw [riseG] at h
    cases hk : keyB x.data.toList
    · rw [if_pos hk] at h; exact absurd h (by decide)
    · rw [if_neg (by rw [hk]; decide)] at h
      split at h
      · exact absurd h (by decide)
      · intro y hy
        rcases List.mem_cons.1 hy with rfl | hy
        · exact hk
        · exact rise_mem hs x h y hy
/-- what is right of bids -/
structure BdR (xs : List Slt) (x : Bd) : Prop where
  key : keyB x.key.data.toList = true
  before : 0 ≤ findL xs x.before
  opts : ∀ s ∈ x.opts, s.toList.isEmpty = false
theorem bidE_opts {x : Bd} (h : bidE x = 0) : ∀ s ∈ x.opts, s.toList.isEmpty = false := by
  unfold bidE at h
  split at h
  · exact absurd h (by decide)
  · split at h
    · exact absurd h (by decide)
    · split at h
      · exact absurd h (by decide)
      · intro s hs
        exact keyB_ne (rise_mem _ _ h s hs)
theorem bidsG_all {xs : List Slt} : ∀ (bs : List Bd) (last : ByteArray), bidsG xs last bs = 0 → (∀ x ∈ bs, BdR xs x ∧ gtS x.key last) ∧ bs.Pairwise (fun a b => gtS b.key a.key)
  | [], _, _ => ⟨(by intro x hx; cases hx), List.Pairwise.nil⟩
  | x :: bs, last, h => by
    rw [bidsG] at h
    cases hk : keyB x.key.data.toList
    · rw [if_pos hk] at h; exact absurd h (by decide)
    rw [if_neg (by rw [hk]; decide)] at h
    cases hl : leS x.key last
    · rw [hl, if_neg (by decide)] at h
      by_cases hf : findL xs x.before < 0
      · rw [if_pos hf] at h; exact absurd h (by decide)
      rw [if_neg hf] at h
      by_cases hb : bidE x = 0
      · rw [if_pos hb] at h
        obtain ⟨i1, i2⟩ := bidsG_all bs x.key h
        refine ⟨fun y hy => ?_, List.pairwise_cons.2 ⟨fun y hy => (i1 y hy).2, i2⟩⟩
        rcases List.mem_cons.1 hy with rfl | hy
        · exact ⟨⟨hk, by omega, bidE_opts hb⟩, hl⟩
        · exact ⟨(i1 y hy).1, (i1 y hy).2.trans hl⟩
      · rw [if_neg hb] at h; exact absurd h hb
    · rw [hl, if_pos rfl] at h; exact absurd h (by decide)
theorem bids_right {xs : List Slt} {bs : List Bd} (h : bidsF xs bs = 0) : (∀ x ∈ bs, BdR xs x) ∧ ∀ i (hi : i < bs.length), bidAt bs bs[i].key = i := by
  unfold bidsF at h
  by_cases h0 : slotsF xs = 0
  · rw [if_pos h0] at h
    by_cases h1 : 200 < bs.length
    · rw [if_pos h1] at h; exact absurd h (by decide)
    · rw [if_neg h1] at h
      obtain ⟨a1, a2⟩ := bidsG_all bs _ h
      refine ⟨fun x hx => (a1 x hx).1, fun i hi => ?_⟩
      refine ixOf_at _ bs i hi (fun j hj => ?_) ((eqS_iff _ _).2 rfl)
      exact ((List.pairwise_iff_getElem.1 a2) j i (by omega) hi hj).ne
  · rw [if_neg h0] at h; exact absurd h h0
/-! ### sums -/
/-! ### the best one -/
end Go.Proofs.YthbcogekfdllmaaGreatDoor
/-
  What came about of bids: program and reference alike. No Go text is named here.
-/
namespace Go.Proofs.YthbcogekfdllmaaGreatDoor
open Go Go.RowKit

theorem seen_from (p : List Lv) (key : ByteArray) : ∀ k, k ≤ p.length → 0 ≤ (seenF (p.take k) key).1 → ∃ y ∈ p, y.2.1 = 1 ∧ y.2.2 = key ∧ (seenF (p.take k) key).1 = y.1
  | 0, _, h => by simp [seenF] at h
  | k + 1, hk, h => by
    have ih := seen_from p key k (by omega)
    rw [List.take_succ_eq_append_getElem hk] at h ⊢
    by_cases hy : key = (p[k]'hk).2.2
    · by_cases h1 : (p[k]'hk).2.1 = 1
      · refine ⟨p[k], List.getElem_mem hk, h1, hy.symm, ?_⟩
        rw [hy, seen_same, if_pos h1]
      · have e : (seenF (p.take k ++ [p[k]]) key).1 = (seenF (p.take k) key).1 := by
          rw [hy, seen_same, if_neg h1]
          split <;> rfl
        rw [e] at h ⊢
        exact ih h
    · rw [seen_other hy] at h ⊢
      exact ih h
theorem bids_short {xs : List Slt} {bs : List Bd} (h : bidsF xs bs = 0) : bs.length ≤ 200 := by
  unfold bidsF at h
  by_cases h0 : slotsF xs = 0
  · rw [if_pos h0] at h
    by_cases h1 : 200 < bs.length
    · rw [if_pos h1] at h; exact absurd h (by decide)
    · omega
  · rw [if_neg h0] at h; exact absurd h h0
/-- when a slot begins by plan -/
def plcAt (f : Int) (xs : List Slt) (key : ByteArray) : Int := fromAt f xs (findL xs key).toNat
/-- and when it began -/
def begP (xs : List Slt) (f : Int) (S : ShowP) (x : Bd) : Int := if (S.st x.before).began = true then (S.st x.before).at_ else plcAt f xs x.before
def begQ (xs : List Slt) (f : Int) (ys : List Lv) (x : Bd) : Int := if 0 ≤ (seenF ys x.before).1 then (seenF ys x.before).1 else plcAt f xs x.before
theorem beg_alike {xs : List Slt} {ys : List Lv} (hI : Inv xs ys) (f : Int) (x : Bd) : begP xs f (stateP ys) x = begQ xs f ys x := by
  unfold begP begQ
  rw [hI.began]
  by_cases h : 0 ≤ (seenF ys x.before).1
  · rw [if_pos (by simpa using h), if_pos h]
    have h2 := seen_from ys x.before ys.length (Nat.le_refl _)
    rw [List.take_length] at h2
    obtain ⟨y, hy, h3, h4, h5⟩ := h2 h
    have := (hI.at_ y hy h3).1
    rw [h4] at this
    rw [this, h5]
  · rw [if_neg (by simpa using h), if_neg h]
/-- what came about, of all bids -/
def metF (g : Bd → ByteArray) (bs : List Bd) : List Pr := bs.map fun x => (x.key, g x)
theorem metF_step (g : Bd → ByteArray) (bs : List Bd) (k : Nat) (hk : k < bs.length) : metF g (bs.take (k + 1)) = metF g (bs.take k) ++ [(bs[k].key, g bs[k])] := by
  unfold metF
  rw [List.take_succ_eq_append_getElem hk, List.map_append]
  rfl
theorem metF_len (g : Bd → ByteArray) (bs : List Bd) (k : Nat) (hk : k ≤ bs.length) : (metF g (bs.take k)).length = k := by
  unfold metF
  rw [List.length_map, List.length_take]
  omega
def metP (xs : List Slt) (f : Int) (gs : List Gf) (S : ShowP) (x : Bd) : ByteArray := bnameB (wonP x gs (begP xs f S x)).1 (wonP x gs (begP xs f S x)).2.2
/-- all is past at the end -/
theorem upTo_end {xs : List Slt} {ys : List Lv} (hI : Inv xs ys) : upTo ys 345686400000 = ys := by
  unfold upTo
  refine List.filter_eq_self.2 fun y hy => ?_
  have := (hI.bd y hy).2
  simp
  omega
end Go.Proofs.YthbcogekfdllmaaGreatDoor
