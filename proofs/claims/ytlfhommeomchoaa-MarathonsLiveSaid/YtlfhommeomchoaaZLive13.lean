/-
  splitref2.ExpectedPlaces by a contract.
-/
import Derived.Test.YtlfhommeomchoaaZLive8
import Derived.Test.YtlfhommeomchoaaZLive9
import Derived.Test.YtlfhommeomchoaaZLive12
namespace Go.Proofs.Ytlfhommeomchoaa
open Go Go.RowKit
attribute [local go_sem ↓] Go.wp_at_zero Go.wp_at_succ run_maxI run_minI

theorem put_eq {K : Act → World → Prop} {a : Act} {d : Option Nat} {V V' : Value} {w : World} (h : V = V') (hk : K (a.put d V') w) : K (a.put d V) w := h ▸ hk
def isB (y : Lv) : Bool := decide (y.2.1 = 1)
def evF (p : List Lv) (y : Lv) : Ev := (y.2.2, y.1, decide (0 ≤ (seenF p y.2.2).2.1), if 0 ≤ (seenF p y.2.2).2.1 then (seenF p y.2.2).2.1 else 0)
theorem evQ_is (p : List Lv) : evQ p = (p.filter isB).map (evF p) := rfl
def cntB (p : List Lv) (j : Nat) : Nat := ((p.take j).filter isB).length
theorem cntB_step (p : List Lv) (j : Nat) (hj : j < p.length) : cntB p (j + 1) = if p[j].2.1 = 1 then cntB p j + 1 else cntB p j := by
  unfold cntB
  rw [List.take_succ_eq_append_getElem hj, List.filter_append]
  by_cases h : p[j].2.1 = 1
  · simp [isB, h]
  · simp [isB, h]
theorem cntB_all (p : List Lv) : cntB p p.length = (evQ p).length := by rw [evQ_is, List.length_map]; unfold cntB; rw [List.take_length]
theorem cntB_le (p : List Lv) (j : Nat) : cntB p j ≤ (evQ p).length := by
  rw [evQ_is, List.length_map]
  exact ((List.take_sublist j p).filter isB).length_le
theorem cnt_le2 (p : List Lv) (j : Nat) : cntB p j ≤ p.length := by
  unfold cntB
  have h1 := List.length_filter_le isB (p.take j)
  have h2 := List.length_take_le j p
  simp at h1 ⊢
  omega
theorem evQ_at (p : List Lv) (j : Nat) (hj : j < p.length) (hb : p[j].2.1 = 1) : ∃ h : cntB p j < (evQ p).length, (evQ p)[cntB p j] = evF p p[j] := by
  have hs : p.filter isB = (p.take j).filter isB ++ (p[j] :: (p.drop (j + 1)).filter isB) := by
    conv => lhs; rw [← List.take_append_drop j p]
    rw [List.filter_append, List.drop_eq_getElem_cons hj, List.filter_cons, if_pos (by simp [isB, hb])]
  have hlen : cntB p j < (p.filter isB).length := by
    rw [hs, List.length_append]
    unfold cntB
    simp
  refine ⟨by rw [evQ_is, List.length_map]; exact hlen, ?_⟩
  simp only [evQ_is, List.getElem_map]
  congr 1
  have : (p.filter isB)[cntB p j]? = some p[j] := by
    rw [hs, List.getElem?_append_right (by unfold cntB; exact Nat.le_refl _)]
    unfold cntB
    simp
  rw [List.getElem?_eq_getElem hlen] at this
  exact Option.some.inj this

set_option maxRecDepth 100000 in
set_option maxHeartbeats 4000000 in
theorem expectedPlaces_calls (b : Nat) (A A2 : Option Addr) (n c m c2 : Nat) (xs : List Slt) (ys : List Lv) (f at_ : Int) (w : World) (hr : Slts w b A n c xs) (hn : n ≤ 1000) (hr2 : Rd w b 3 (.slice A2 m c2) m (ys.flatMap lvC)) (hys : ∀ y ∈ ys, LvOk y) (hm : m ≤ 900)
    (hI : Inv xs (upTo ys at_)) (hf : -4398046511104 ≤ f ∧ f ≤ 4398046511104) (ha : -4398046511104 ≤ at_ ∧ at_ ≤ 4398046511104) (hb : b < w.heap.size) :
    Calls Try.prog 52 #[.slice A n c, .int .i64 f, .slice A2 m c2, .int .i64 at_] w (PlcsS (expF xs f at_ (evQ (upTo ys at_)) (skipQ (upTo ys at_))) w) := by
  obtain ⟨hl, hnc, hcm, hcells⟩ := hr.rd.cells sltC_len (by omega)
  obtain ⟨i0, hi, hz0, hz1, hz2⟩ := info_parts info_plc
  unfold maxLen at hcm
  have hba : Below w.heap.size w (w.alloc (.cells #[.int .i64 at_] 3)) := (Below.refl _ _).alloc (Nat.le_refl _) _
  have hg7 : Blk (w.alloc (.cells #[.int .i64 at_] 3)) w.heap.size 3 #[.int .i64 at_] := Blk.new w _ _
  have HCLN := Lib.hid (cloneLv_calls b A2 m c2 (ys.flatMap lvC) _ (hr2.below hba) (lvC_one ys) (by omega))
  obtain ⟨wA, hwA⟩ : ∃ W, w.alloc (.cells #[.int .i64 at_] 3) = W := ⟨_, rfl⟩
  have hzA : wA.heap.size = w.heap.size + 1 := by rw [← hwA]; simp
  rw [hwA] at hba hg7 HCLN
  have HDEL : Hid (∀ (w1 : World) (v : Value) (A' : Option Addr) (c' : Nat), v = .slice A' m c' → w1.ownsRow wA.heap.size 129 3 v m (ys.flatMap lvC) → Below wA.heap.size wA w1 → Calls Try.prog 106 #[.slice A' m c', .func (.func 108) #[] #[.pointer (some ⟨w.heap.size, 0, none⟩)]] w1 (DelS wA b (upTo ys at_))) := fun w1 v A' c' hv ho hb1 => by
    subst hv
    exact deleteLv_calls wA b w.heap.size at_ A' m c' ys w1 ((Sq.start wA).ownB hb1 ho) hg7 (by omega) hm (by have := hb1.size; omega)
  have hpl : (upTo ys at_).length ≤ m := by
    have h1 : (upTo ys at_).length ≤ ys.length := List.length_filter_le _ _
    have h3 := (hr2.cells lvC_len (by omega)).1
    omega
  have hpok : ∀ y ∈ upTo ys at_, LvOk y := fun y hy => hys y (List.mem_filter.1 hy).1
  have hev : ∀ e ∈ evQ (upTo ys at_), EvOk xs e := by rw [← ev_eq hI]; exact ev_ok hys hI
  obtain ⟨p, hp⟩ : ∃ p, upTo ys at_ = p := ⟨_, rfl⟩
  rw [hp] at HDEL hpl hpok hev hI ⊢
  have HNB := Lib.hid (nxt_bd hr.sml hev hf ha)
  have HLO := Lib.hid hI.lo
  have HEV := Lib.hid hev
  have HPO := Lib.hid hpok
  have HL := Lib.hid hl
  have HC := Lib.hid hcells
  have HR := Lib.hid hr
  have HBA := Lib.hid hba
  have HG := Lib.hid hg7
  obtain ⟨a0, a1⟩ := ha
  clear hl hcells hr hev hp hf hr2 hys hpok hI hba hg7
  go_enter Try.func52, Try.ntmps52
  go_wp2_with fail
  clear hwA
  refine HCLN.out.mono ?_
  rintro e w1 ⟨v, rfl, ho, hb1⟩
  obtain ⟨A3, c3, hv⟩ := own_form ho
  have HD := Lib.hid (HDEL.out w1 v A3 c3 hv ho hb1)
  subst hv
  clear ho hb1 HCLN HDEL
  go_wp2_with fail
  refine HD.out.mono ?_
  rintro e w2 ⟨A', m', c', rfl, hm', hx, hbx⟩
  have HW2 := Lib.hid (below_call HBA.out hbx (Nat.le_refl _))
  have HG2 := Lib.hid (HG.out.below hbx)
  have g7 : w2.cell? ⟨w.heap.size, 0, none⟩ = some (.int .i64 at_) := HG2.out.cell 0
  obtain ⟨hxl, hxc, hxm, hxcells⟩ := hx.cells lvC_len (by omega)
  unfold maxLen at hxm
  have HXC := Lib.hid hxcells
  have HXL := Lib.hid hxl
  have HX := Lib.hid hx
  have hS0 := (Sq.start w2).nil w2.heap.size 80 4
  have hw2z : w.heap.size < w2.heap.size := HG2.out.lt
  have HMM := Lib.hid hm'
  clear hx hbx hxcells HD hxl hm'
  go_wp2_with fail
  go_loopw [9, 10, 29] (fun v nx i wr => ∃ (j r : Nat), j ≤ m' ∧ i = .int .i64 j ∧ Hid (r = cntB p j) ∧ nx = .int .i64 (nxtTo xs f at_ (evQ p) r) ∧ Sq w2 wr [rOwn w2.heap.size 80 4 v (fstTo xs at_ (evQ p) r).length ((fstTo xs at_ (evQ p) r).flatMap plcC)]) (fun _ _ i _ => m' - (intOf i).toNat)
  case atStart => exact ⟨0, 0, Nat.zero_le _, rfl, rfl, rfl, hS0⟩
  case round =>
    clear hS0 g7
    obtain ⟨j, r, hjm, rfl, HRJ, rfl, hS⟩ := hrel
    by_cases hlt : j < m'
    · have hjp : j < p.length := by rw [HXL.out]; exact hlt
      obtain ⟨g2, o2, hA2, _, hxs2⟩ := HXC.out (by omega)
      subst hA2
      obtain ⟨y, hy⟩ : ∃ y, p[j] = y := ⟨_, rfl⟩
      have c0 := below_cell hS.below (hxs2 j hjp 0 (by omega))
      have c1 := below_cell hS.below (hxs2 j hjp 1 (by omega))
      have cc2 := below_cell hS.below (hxs2 j hjp 2 (by omega))
      have hcs := cntB_step p j hjp
      have hea := evQ_at p j hjp
      have hyo := HPO.out _ (List.getElem_mem hjp)
      rw [hy] at c0 c1 cc2 hcs hea hyo
      obtain ⟨a, kd, key⟩ := y
      replace c0 : wr.cell? ⟨g2, o2 + j * 3, none⟩ = some (.int .i64 a) := c0
      replace c1 : wr.cell? ⟨g2, o2 + j * 3 + 1, none⟩ = some (.int .i64 kd) := c1
      replace cc2 : wr.cell? ⟨g2, o2 + j * 3 + 2, none⟩ = some (.string key) := cc2
      simp only at hcs hea
      by_cases hk1 : kd = 1
      · subst hk1
        obtain ⟨hrl, heg⟩ := hea rfl
        rw [← HRJ.out] at hrl
        have HRJ2 : Hid (r + 1 = cntB p (j + 1)) := by rw [hcs, if_pos rfl, HRJ.out]; exact Lib.hid rfl
        have hfst := fstTo_step xs at_ (evQ p) r hrl
        have hnst := nxtTo_step xs f at_ (evQ p) r hrl
        have heg2 : (evQ p)[r] = (key, a, decide (0 ≤ (seenF p key).2.1), if 0 ≤ (seenF p key).2.1 then (seenF p key).2.1 else 0) := by
          have h := HRJ.out
          subst h
          exact heg
        have hevo := HEV.out _ (List.getElem_mem hrl)
        rw [heg2] at hevo hfst hnst
        have hlo := HLO.out key
        obtain ⟨s1, hs1⟩ : ∃ s, (seenF p key).1 = s := ⟨_, rfl⟩
        obtain ⟨s2, hs2⟩ : ∃ s, (seenF p key).2.1 = s := ⟨_, rfl⟩
        obtain ⟨s3, hs3⟩ : ∃ s, (seenF p key).2.2 = s := ⟨_, rfl⟩
        have hkz : key.size ≤ 1000 := hevo.key
        have hfb := ixOf_bd xs key
        obtain ⟨q, hq⟩ : ∃ q : Nat, findL xs key = q := ⟨(findL xs key).toNat, by have := hevo.fnd; simp only at this; omega⟩
        have hqr : q < xs.length := by omega
        have hqn : q < n := by rw [← HL.out]; exact hqr
        obtain ⟨g, o, hA, _, hcs5⟩ := HC.out (by omega)
        subst hA
        obtain ⟨x, hx⟩ : ∃ x, xs[q] = x := ⟨_, rfl⟩
        have hbp := bplL_at xs at_ (key, a, decide (0 ≤ (seenF p key).2.1), if 0 ≤ (seenF p key).2.1 then (seenF p key).2.1 else 0) q hq hqr
        rw [hx] at hbp
        rw [hbp] at hfst hnst
        rw [hs2] at hfst hnst hlo
        have hxok := HR.out.ok _ (List.getElem_mem hqr)
        rw [hx] at hxok
        have hsu := hxok.hs
        have hlg := hxok.hl
        have hao : -2199023255552 ≤ a ∧ a ≤ 2199023255552 := hyo.1
        have HSB : Hid (∀ W, Below w2.heap.size w2 W → Calls Try.prog 109 #[.slice (some ⟨g2, o2, none⟩) m' c', .string key] W (fun e w' => e = .returned (.agg #[.int .i64 s1, .int .i64 s2, .bool s3]) ∧ Below W.heap.size W w')) := fun W hW => by
          have h := seenBy_calls b (some ⟨g2, o2, none⟩) m' c' p key W (HX.out.below hW)
          unfold SeenS at h
          rw [hs1, hs2, hs3] at h
          exact h
        have HXS : Hid (∀ W, Below w2.heap.size w2 W → ∀ t, t < 5 → W.cell? ⟨g, o + q * 5 + t, none⟩ = (sltC x)[t]?) := fun W hW t ht => by
          have h := hcs5 q hqr t ht
          rw [hx] at h
          have hlt : t < (sltC x).length := by rw [sltC_len]; exact ht
          rw [List.getElem?_eq_getElem hlt] at h ⊢
          exact below_cell hW (below_cell HW2.out h)
        have hS1 := hS.add #[.int .i64 a, .int .i64 1, .string key] 129
        have HFC := Lib.hid (findLQ_calls b (some ⟨g, o, none⟩) n c xs key _ ((HR.out.rd.below HW2.out).below hS1.below))
        rw [hq] at HFC
        have hlen : (fstTo xs at_ (evQ p) r).length ≤ 900 := by unfold fstTo; rw [List.length_map, List.length_take]; have := cntB_le p j; have h := HRJ.out; have h2 := HXL.out; rw [← h] at this; have := cnt_le2 p j; rw [← h] at this; omega
        have HFS := Lib.hid hfst
        have HNS := Lib.hid hnst
        have hq0 : (0 : Int) ≤ (q : Int) := by omega
        have hqi : (q : Int) < (n : Int) := by omega
        obtain ⟨hs20, hs21⟩ := hlo.2.2
        obtain ⟨ha0, ha1⟩ := hao
        clear hxs2 hy hcs hea heg heg2 hfst hnst hevo hlo hs1 hs2 hs3 hfb hq hcs5 hx hbp hxok hyo hS
        go_wp2_with fail
        refine HFC.out.mono ?_
        rintro e w3 ⟨rfl, hb3⟩
        have hS2 := hS1.callB hb3
        have bL : Blk w3 wr.heap.size _ _ := hS2.nth 0 rfl
        have y0 := bL.cell 0
        have y1 := bL.cell 1
        have y2 := bL.cell 2
        have d0 := HXS.out w3 hS2.below 0 (by omega)
        have d1 := HXS.out w3 hS2.below 1 (by omega)
        have d2 := HXS.out w3 hS2.below 2 (by omega)
        have d3 := HXS.out w3 hS2.below 3 (by omega)
        have d4 := HXS.out w3 hS2.below 4 (by omega)
        have hwl := bL.lt
        have gg : w3.cell? ⟨w.heap.size, 0, none⟩ = some (.int .i64 at_) := (HG2.out.below hS2.below).cell 0
        have hw23 := hS2.size
        have hgl : w.heap.size < w3.heap.size := by omega
        obtain ⟨su, hsu2⟩ : ∃ z, x.setup = z := ⟨_, rfl⟩
        obtain ⟨lo, hlo2⟩ : ∃ z, x.long = z := ⟨_, rfl⟩
        replace d0 : w3.cell? ⟨g, o + q * 5, none⟩ = some (.string x.key) := d0
        replace d1 : w3.cell? ⟨g, o + q * 5 + 1, none⟩ = some (.string x.who) := d1
        replace d2 : w3.cell? ⟨g, o + q * 5 + 2, none⟩ = some (.slice x.ha x.hosts.length x.hc) := d2
        replace d3 : w3.cell? ⟨g, o + q * 5 + 3, none⟩ = some (.int .i64 x.setup) := d3
        replace d4 : w3.cell? ⟨g, o + q * 5 + 4, none⟩ = some (.int .i64 x.long) := d4
        rw [hsu2] at d3 hsu
        rw [hlo2] at d4 hlg
        obtain ⟨hsu0, hsu1⟩ := hsu
        obtain ⟨hlg0, hlg1⟩ := hlg
        have HFS2 := HFS.out
        have HNS2 := HNS.out
        unfold bplX at HFS2 HNS2
        simp only [hsu2, hlo2] at HFS2 HNS2
        have HFS3 := Lib.hid HFS2
        have HNS3 := Lib.hid HNS2
        have hS4 := (hS2.add #[.string x.key, .string x.who, .slice x.ha x.hosts.length x.hc, .int .i64 su, .int .i64 lo] 121).add #[.string key, .int .i64 a, .int .i64 (a + su), .int .i64 (max at_ (a + su + lo))] 80
        simp only [size1] at hS4
        have HB4 := Lib.hid hS4.below
        clear bL hS1 HFC hb3 HFS HNS HFS2 HNS2 hsu2 hlo2 hS2 c0 c1 cc2
        go_wp2_with fail
        refine (HSB.out _ HB4.out).mono ?_
        rintro e w4 ⟨rfl, hb4⟩
        have hS5 := hS4.callB hb4
        have bP : Blk w4 (w3.heap.size + 1) 80 #[.string key, .int .i64 a, .int .i64 (a + su), .int .i64 (max at_ (a + su + lo))] := hS5.nth 0 rfl
        have p0 := bP.cell 0
        have p1 := bP.cell 1
        have p2 := bP.cell 2
        have p3 := bP.cell 3
        have pf2 := bP.frozen 2
        have pf3 := bP.frozen 3
        have pl := bP.lt
        clear bP hS4 hb4 HB4 y0 y1 y2 d0 d1 d2 d3 d4 gg
        go_wp2_with fail
        refine put_eq (V' := .int .i64 s2) rfl ?_
        by_cases hs0 : 0 ≤ s2
        · have HFS4 : Hid (fstTo xs at_ (evQ p) (r + 1) = fstTo xs at_ (evQ p) r ++ [(key, a, min (a + su) s2, s2)]) := by have h := HFS3.out; simp only [hs0, decide_true, if_true] at h; exact h
          have HNS4 : Hid (nxtTo xs f at_ (evQ p) (r + 1) = max at_ s2) := by have h := HNS3.out; simp only [hs0, decide_true, if_true] at h; exact h
          have hS8 := ((hS5.set_ 2 (.int .i64 (min (a + su) s2))).set_ 3 (.int .i64 s2)).front 3 rfl rfl
          have HO5 : World.ownsRow _ w2.heap.size 80 4 u9 (fstTo xs at_ (evQ p) r).length ((fstTo xs at_ (evQ p) r).flatMap plcC) := hS8.head
          have hsz8 := hS5.size
          clear hS5
          go_wp2_with (first
            | (at_builtin; refine wpList_append_own_at _ rfl _ _ 68 rfl w2.heap.size 80 i0 (.agg #[.string ⟨#[]⟩, .int .i64 0, .int .i64 0, .int .i64 0]) 4 40 Try.underlying68 hi hz0 hz1 hz2 rfl (by decide) _ _ _ rfl (HO5.alloc _) ⟨w4.heap.size, 0, none⟩ 1 1 [.string key, .int .i64 a, .int .i64 (min (a + su) s2), .int .i64 s2] rfl rfl (World.news_of_block (heap_new_s2 _ _ _ _ _ _)) (one4 rfl rfl rfl rfl) (by unfold maxLen; omega) (by omega) (by simp; omega) ?_; intro v' w5 hown' hgrow _ hblk; have hS9 := (hS8.alloc _).append hown' hgrow hblk; clear hown' hgrow hblk; have e3 := Blk.cell (show Blk w5 (w3.heap.size + 1) 80 _ from hS9.nth 1 rfl) 3; have gg7 : w5.cell? ⟨w.heap.size, 0, none⟩ = some (.int .i64 at_) := (HG2.out.below hS9.below).cell 0))
          have hS6 : Sq w2 w5 [rOwn w2.heap.size 80 4 v' (fstTo xs at_ (evQ p) (r + 1)).length ((fstTo xs at_ (evQ p) (r + 1)).flatMap plcC)] := by
            rw [HFS4.out, flat_snoc, List.length_append]
            exact ((hS9.drop 3 rfl rfl).drop 2 rfl rfl).drop 1 rfl rfl
          go_roundw
          case rel => exact ⟨j + 1, r + 1, by omega, by go_num, HRJ2, by rw [HNS4.out], hS6⟩
          case measure => simp [intOf]; omega
        · have HFS4 : Hid (fstTo xs at_ (evQ p) (r + 1) = fstTo xs at_ (evQ p) r ++ [(key, a, a + su, max at_ (a + su + lo))]) := by have h := HFS3.out; simp only [hs0, decide_false, if_false, Bool.false_eq_true] at h; exact h
          have HNS4 : Hid (nxtTo xs f at_ (evQ p) (r + 1) = max at_ (a + su + lo)) := by have h := HNS3.out; simp only [hs0, decide_false, if_false, Bool.false_eq_true] at h; exact h.trans (show max at_ (max at_ (a + su + lo)) = max at_ (a + su + lo) by omega)
          have hS8 := hS5.front 3 rfl rfl
          have HO5 : World.ownsRow _ w2.heap.size 80 4 u9 (fstTo xs at_ (evQ p) r).length ((fstTo xs at_ (evQ p) r).flatMap plcC) := hS8.head
          have hsz8 := hS5.size
          clear hS5
          go_wp2_with (first
            | (at_builtin; refine wpList_append_own_at _ rfl _ _ 68 rfl w2.heap.size 80 i0 (.agg #[.string ⟨#[]⟩, .int .i64 0, .int .i64 0, .int .i64 0]) 4 40 Try.underlying68 hi hz0 hz1 hz2 rfl (by decide) _ _ _ rfl (HO5.alloc _) ⟨w4.heap.size, 0, none⟩ 1 1 [.string key, .int .i64 a, .int .i64 (a + su), .int .i64 (max at_ (a + su + lo))] rfl rfl (World.news_of_block (heap_alloc_new _ _)) (one4 rfl rfl rfl rfl) (by unfold maxLen; omega) (by omega) (by simp; omega) ?_; intro v' w5 hown' hgrow _ hblk; have hS9 := (hS8.alloc _).append hown' hgrow hblk; clear hown' hgrow hblk; have e3 := Blk.cell (show Blk w5 (w3.heap.size + 1) 80 _ from hS9.nth 1 rfl) 3; have gg7 : w5.cell? ⟨w.heap.size, 0, none⟩ = some (.int .i64 at_) := (HG2.out.below hS9.below).cell 0))
          have hS6 : Sq w2 w5 [rOwn w2.heap.size 80 4 v' (fstTo xs at_ (evQ p) (r + 1)).length ((fstTo xs at_ (evQ p) (r + 1)).flatMap plcC)] := by
            rw [HFS4.out, flat_snoc, List.length_append]
            exact ((hS9.drop 3 rfl rfl).drop 2 rfl rfl).drop 1 rfl rfl
          go_roundw
          case rel => exact ⟨j + 1, r + 1, by omega, by go_num, HRJ2, by rw [HNS4.out], hS6⟩
          case measure => simp [intOf]; omega
      · have HRJ2 : Hid (r = cntB p (j + 1)) := by rw [hcs, if_neg hk1]; exact HRJ
        have hk1' : (kd != 1) = true := by rw [bne_iff_ne]; exact hk1
        have hS1 := hS.alloc (.cells #[.int .i64 a, .int .i64 kd, .string key] 129)
        clear hxs2 hy hcs hea hyo hS hk1
        go_wp2_with fail
        go_roundw
        case rel => exact ⟨j + 1, r, by omega, by go_num, HRJ2, rfl, hS1⟩
        case measure => simp [intOf]; omega
    · obtain rfl : j = m' := by omega
      have hre : r = (evQ p).length := by rw [HRJ.out, ← cntB_all, HXL.out]
      have HFE : Hid (fstTo xs at_ (evQ p) (evQ p).length = fstTo xs at_ (evQ p) r) := by rw [← hre]; exact Lib.hid rfl
      have HNE : Hid (nxtTo xs f at_ (evQ p) (evQ p).length = nxtTo xs f at_ (evQ p) r) := by rw [← hre]; exact Lib.hid rfl
      have hnb := HNB.out r (Nat.le_of_eq hre)
      have hl0 : (fstTo xs at_ (evQ p) r).length ≤ 900 := by
        have := cnt_le2 p j
        have h := HRJ.out
        have h2 := HXL.out
        unfold fstTo
        rw [List.length_map, List.length_take]
        omega
      obtain ⟨nx0, hnx⟩ : ∃ z, nxtTo xs f at_ (evQ p) r = z := ⟨_, rfl⟩
      obtain ⟨P0, hP0⟩ : ∃ z, fstTo xs at_ (evQ p) r = z := ⟨_, rfl⟩
      rw [hnx] at HNE hnb ⊢
      rw [hP0] at HFE hl0 hS
      have HRB := Lib.hid (rst_bd (sk := skipQ p) HR.out.sml hnb)
      have hS00 : Sq w2 wr [rOwn w2.heap.size 80 4 u9 (P0 ++ (rstTo (skipQ p) nx0 xs 0).1).length ((P0 ++ (rstTo (skipQ p) nx0 xs 0).1).flatMap plcC)] := by
        rw [show (rstTo (skipQ p) nx0 xs 0).1 = [] from rfl, List.append_nil]; exact hS
      obtain ⟨wo, hwo⟩ : ∃ wo : World, wo = wr := ⟨_, rfl⟩
      subst hwo
      clear hnx hP0 hS hnb hre
      go_wp2_with fail
      go_loopw [9, 10, 88] (fun v nx i wr => ∃ (k : Nat), k ≤ n ∧ i = .int .i64 k ∧ nx = .int .i64 (rstTo (skipQ p) nx0 xs k).2 ∧ Sq w2 wr [rOwn w2.heap.size 80 4 v (P0 ++ (rstTo (skipQ p) nx0 xs k).1).length ((P0 ++ (rstTo (skipQ p) nx0 xs k).1).flatMap plcC)]) (fun _ _ i _ => n - (intOf i).toNat)
      case atStart => exact ⟨0, Nat.zero_le _, rfl, rfl, hS00⟩
      case round =>
        clear hS00
        obtain ⟨k, hk, rfl, rfl, hS⟩ := hrel
        have hrl := rstTo_len (skipQ p) nx0 xs k
        have hrb := HRB.out k
        by_cases hlt2 : k < n
        · have hkr : k < xs.length := by rw [HL.out]; exact hlt2
          obtain ⟨g, o, hA, _, hcs⟩ := HC.out (by omega)
          subst hA
          have hst := rstTo_step (skipQ p) nx0 xs k hkr
          obtain ⟨x, hx⟩ : ∃ x, xs[k] = x := ⟨_, rfl⟩
          have hbw : Below w.heap.size w wr := below_call HW2.out hS.below (Nat.le_refl _)
          have c0 := below_cell hbw (hcs k hkr 0 (by omega))
          have c1 := below_cell hbw (hcs k hkr 1 (by omega))
          have cc2 := below_cell hbw (hcs k hkr 2 (by omega))
          have c3 := below_cell hbw (hcs k hkr 3 (by omega))
          have c4 := below_cell hbw (hcs k hkr 4 (by omega))
          have hxs := (HR.out.ok _ (List.getElem_mem hkr))
          rw [hx] at c0 c1 cc2 c3 c4 hst hxs
          replace c0 : wr.cell? ⟨g, o + k * 5, none⟩ = some (.string x.key) := c0
          replace c1 : wr.cell? ⟨g, o + k * 5 + 1, none⟩ = some (.string x.who) := c1
          replace cc2 : wr.cell? ⟨g, o + k * 5 + 2, none⟩ = some (.slice x.ha x.hosts.length x.hc) := cc2
          replace c3 : wr.cell? ⟨g, o + k * 5 + 3, none⟩ = some (.int .i64 x.setup) := c3
          replace c4 : wr.cell? ⟨g, o + k * 5 + 4, none⟩ = some (.int .i64 x.long) := c4
          obtain ⟨N2, hN2⟩ : ∃ z, (rstTo (skipQ p) nx0 xs k).2 = z := ⟨_, rfl⟩
          obtain ⟨R, hR⟩ : ∃ z, (rstTo (skipQ p) nx0 xs k).1 = z := ⟨_, rfl⟩
          have hst1 : rstTo (skipQ p) nx0 xs (k + 1) = if skipQ p x.key = true then (R, N2) else (R ++ [plcOf N2 x], N2 + x.setup + x.long) := by
            rw [hst, ← hN2, ← hR]
          rw [hN2] at hrb ⊢
          rw [hR] at hrl hS
          obtain ⟨Q, hQ⟩ : ∃ z, P0 ++ R = z := ⟨_, rfl⟩
          have hql : Q.length ≤ 1900 := by rw [← hQ, List.length_append]; omega
          rw [hQ] at hS
          obtain ⟨key, hkey⟩ : ∃ z, x.key = z := ⟨_, rfl⟩
          obtain ⟨su, hsu⟩ : ∃ z, x.setup = z := ⟨_, rfl⟩
          obtain ⟨lo, hlo⟩ : ∃ z, x.long = z := ⟨_, rfl⟩
          have hxsu := hxs.hs
          have hxlo := hxs.hl
          have hpl2 : plcOf N2 x = (key, N2, N2 + su, N2 + su + lo) := by unfold plcOf; rw [hkey, hsu, hlo]
          rw [hpl2, hkey, hsu, hlo] at hst1
          rw [hkey] at c0
          rw [hsu] at c3 hxsu
          rw [hlo] at c4 hxlo
          obtain ⟨hsu0, hsu1⟩ := hxsu
          obtain ⟨hlo0, hlo1⟩ := hxlo
          obtain ⟨hrb0, hrb1⟩ := hrb
          obtain ⟨s1, hs1⟩ : ∃ s, (seenF p key).1 = s := ⟨_, rfl⟩
          obtain ⟨s2, hs2⟩ : ∃ s, (seenF p key).2.1 = s := ⟨_, rfl⟩
          obtain ⟨s3, hs3⟩ : ∃ s, (seenF p key).2.2 = s := ⟨_, rfl⟩
          have hskk : skipQ p key = (decide (0 ≤ s1) || s3) := by unfold skipQ; rw [hs1, hs3]
          rw [hskk] at hst1
          have HSB : Hid (∀ W, Below w2.heap.size w2 W → Calls Try.prog 109 #[.slice A' j c', .string key] W (fun e w' => e = .returned (.agg #[.int .i64 s1, .int .i64 s2, .bool s3]) ∧ Below W.heap.size W w')) := fun W hW => by
            have h := seenBy_calls b A' j c' p key W (HX.out.below hW)
            unfold SeenS at h
            rw [hs1, hs2, hs3] at h
            exact h
          have hSa := hS.add #[.string key, .string x.who, .slice x.ha x.hosts.length x.hc, .int .i64 su, .int .i64 lo] 121
          have HB1 := Lib.hid hSa.below
          have HST := Lib.hid hst1
          have HQQ : Hid (P0 ++ R = Q) := hQ
          clear hcs hx hst hst1 hN2 hR hQ hkey hsu hlo hpl2 hskk hS hxs hbw hs1 hs2 hs3
          go_wp2_with fail
          refine (HSB.out _ HB1.out).mono ?_
          rintro e w4 ⟨rfl, hb4⟩
          have hS2 := hSa.callB hb4
          have bS : Blk w4 wr.heap.size _ _ := hS2.nth 0 rfl
          have y0 := bS.cell 0
          have y3 := bS.cell 3
          have y4 := bS.cell 4
          have lS := bS.lt
          have hwz4 := hS2.size
          have hS3 := hS2.add #[.int .i64 s1, .int .i64 s2, .bool s3] 135
          clear bS hSa hb4 hS2 c0 c1 cc2 c3 c4
          by_cases h1 : 0 ≤ s1
          · have HS1 : Hid (rstTo (skipQ p) nx0 xs (k + 1) = (R, N2)) := HST.out.trans (if_pos (by simp [h1]))
            go_wp2_with fail
            go_roundw
            case rel => exact ⟨k + 1, by omega, by go_num, by rw [HS1.out], by rw [HS1.out, HQQ.out]; exact hS3.tail.tail⟩
            case measure => simp [intOf]; omega
          · cases s3
            · have HS1 : Hid (rstTo (skipQ p) nx0 xs (k + 1) = (R ++ [(key, N2, N2 + su, N2 + su + lo)], N2 + su + lo)) := HST.out.trans (if_neg (by simp [h1]))
              have hS4 := (hS3.add #[.string key, .int .i64 N2, .int .i64 (N2 + su), .int .i64 (N2 + su + lo)] 80)
              simp only [size1] at hS4
              have hbP : Blk _ (w4.heap.size + 1) 80 #[.string key, .int .i64 N2, .int .i64 (N2 + su), .int .i64 (N2 + su + lo)] := hS4.nth 0 rfl
              have z0 := hbP.cell 0
              have z1 := hbP.cell 1
              have z2 := hbP.cell 2
              have z3 := hbP.cell 3
              have hSd := Lib.hid (hS4.drew.front 3 rfl rfl)
              have h63 : Q.length + 1 ≤ maxLen := by unfold maxLen; omega
              have hby : (Q.length + 1) * 40 ≤ 140737488355328 := by omega
              clear hbP hS4 hS3
              go_wp2_with fail
              go_region_law (first
                | (refine step_append_lies _ (by rfl) _ _ _ (by rfl) w2.heap.size 80 i0 (.agg #[.string ⟨#[]⟩, .int .i64 0, .int .i64 0, .int .i64 0]) 4 40 Try.underlying68 hi hz0 hz1 hz2 rfl (by omega) u9 Q.length (Q.flatMap plcC) (by rfl) ((hSd.out.alloc _).head) ⟨w4.heap.size + 1 + 1, 0, none⟩ 1 1 [.string key, .int .i64 N2, .int .i64 (N2 + su), .int .i64 (N2 + su + lo)] (by rfl) (by rfl) (news_new _ _ _ _ (by simp)) (one4 rfl rfl rfl rfl) (by omega) h63 hby (by simp; omega) _ rfl ?_; intro g5 cap5 w5 hown' hgrow hblk hlt5; have hS5 := (hSd.out.alloc _).append hown' hgrow (own_lies hblk); clear hown' hgrow hblk; have f3 := Blk.cell (show Blk w5 (w4.heap.size + 1) 80 _ from hS5.nth 1 rfl) 3))
              all_goals
                have hS6 : Sq w2 w5 [rOwn w2.heap.size 80 4 (.slice (some ⟨g5, 0, none⟩) (Q.length + 1) cap5) (P0 ++ (rstTo (skipQ p) nx0 xs (k + 1)).1).length ((P0 ++ (rstTo (skipQ p) nx0 xs (k + 1)).1).flatMap plcC)] := by
                  rw [HS1.out, ← List.append_assoc, HQQ.out, flat_snoc, List.length_append]
                  exact ((hS5.drop 3 rfl rfl).drop 2 rfl rfl).drop 1 rfl rfl
                clear hS5
                go_wp2
                go_roundw
                case rel => exact ⟨k + 1, by omega, by go_num, by rw [HS1.out], hS6⟩
                case measure => simp [intOf]; omega
            · have HS1 : Hid (rstTo (skipQ p) nx0 xs (k + 1) = (R, N2)) := HST.out.trans (if_pos (by simp))
              go_wp2_with fail
              go_roundw
              case rel => exact ⟨k + 1, by omega, by go_num, by rw [HS1.out], by rw [HS1.out, HQQ.out]; exact hS3.tail.tail⟩
              case measure => simp [intOf]; omega
        · obtain rfl : k = n := by omega
          have HE : Hid (expF xs f at_ (evQ p) (skipQ p) = P0 ++ (rstTo (skipQ p) nx0 xs k).1) := by unfold expF; rw [HFE.out, HNE.out, HL.out]; exact Lib.hid rfl
          have hbw := below_call HW2.out hS.below (Nat.le_refl _)
          have hown : World.ownsRow wr w2.heap.size 80 4 u9 _ _ := hS.head
          go_wp2_with fail
          go_ret
          exact ⟨_, rfl, by rw [HE.out]; exact own_base hown (Nat.le_of_lt hw2z), hbw⟩
end Go.Proofs.Ytlfhommeomchoaa
