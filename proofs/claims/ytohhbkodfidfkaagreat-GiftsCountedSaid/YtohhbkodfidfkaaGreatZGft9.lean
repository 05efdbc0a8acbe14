/-
  The law's own closure, which draws; IndexFunc and DeleteFunc of gifts with it. (Printed by gen_gft9.py.)
-/
import Derived.Test.YtohhbkodfidfkaaGreatZBid10
import Derived.Test.YtohhbkodfidfkaaGreatZBid17
namespace Go.Proofs.YtohhbkodfidfkaaGreat
open Go Go.RowKit
attribute [local go_sem ↓] Go.wp_at_zero Go.wp_at_succ

/-- what the closure has captured: the bid, and the stream -/
structure Cap (w : World) (b g18 g3 : Nat) (key bef : ByteArray) (go : Int) (oa : Option Addr) (m oc : Nat) : Prop where
  bid : Blk w g18 53 #[.string key, .string bef, .int .i64 go, .slice oa m oc]
  box : Blk w g3 23 #[.pointer (some ⟨b, 0, none⟩)]
  n1 : g18 ≠ b
  n2 : g3 ≠ b
theorem Cap.bx {w w' : World} {b g18 g3 : Nat} {key bef : ByteArray} {go : Int} {oa : Option Addr} {m oc : Nat} (h : Cap w b g18 g3 key bef go oa m oc) (k : Bx w.heap.size b w w') : Cap w' b g18 g3 key bef go oa m oc := ⟨h.bid.bx k h.n1, h.box.bx k h.n2, h.n1, h.n2⟩

set_option maxRecDepth 100000 in
theorem delC_calls (b K g18 g3 : Nat) (key bef : ByteArray) (go : Int) (oa : Option Addr) (m oc : Nat) (x : Gf) (w0 w : World) (l : List Rsc) (hS : Sp w0 b K w l) (hc : Cap w0 b g18 g3 key bef go oa m oc) (hK : K ≤ 900000) :
    Calls Tryz.prog 25 (#[.agg #[.string x.id, .int .i64 x.at_, .int .i64 x.cents, .string x.bid, .string x.option]] ++ #[.pointer (some ⟨g18, 0, none⟩), .pointer (some ⟨g3, 0, none⟩)]) w (SpS IsBool w0 b (K + 1) l) := by
  have hSa := hS.alloc (.cells #[.string x.id, .int .i64 x.at_, .int .i64 x.cents, .string x.bid, .string x.option] 39)
  have hcw := hc.bx hS.bx
  have k0 := hcw.bid.cell 0
  have k3 := hcw.box.cell 0
  have l0 := hcw.bid.lt
  have l3 := hcw.box.lt
  obtain ⟨xi, xa, xc, xb, xo⟩ := x
  simp only at hSa ⊢
  replace k0 : w.cell? ⟨g18, 0, none⟩ = some (.string key) := k0
  replace k3 : w.cell? ⟨g3, 0, none⟩ = some (.pointer (some ⟨b, 0, none⟩)) := k3
  clear hcw hc hS
  cases h1 : xb.toList == key.toList
  · have h1' : ¬ xb.toList = key.toList := by simpa using h1
    cases h2 : xb.toList.isEmpty
    · have h2' : ¬ xb.toList = [] := by simpa using h2
      go_enter Tryz.func25, Tryz.ntmps25
      go_wp2_with fail
      refine (sp_flip hSa 12 (by omega) (by omega) (by omega)).mono ?_
      rintro e w1 ⟨_, rfl, ⟨f, rfl⟩, hS1⟩
      go_wp2_with fail
      go_ret
      exact ⟨_, rfl, ⟨_, rfl⟩, hS1⟩
    · have h2' : xb.toList = [] := by simpa using h2
      have hS1 := hSa.more (K' := K + 1) (by omega)
      go_enter Tryz.func25, Tryz.ntmps25
      go_wp2_with fail
      all_goals (go_ret; exact ⟨_, rfl, ⟨_, rfl⟩, hS1⟩)
  · have h1' : xb.toList = key.toList := by simpa using h1
    have hS1 := hSa.more (K' := K + 1) (by omega)
    go_enter Tryz.func25, Tryz.ntmps25
    go_wp2_with fail
    go_ret
    exact ⟨_, rfl, ⟨_, rfl⟩, hS1⟩
/-- a place in a list of n, or -1 -/
def IsIx (n : Nat) (v : Value) : Prop := v = .int .i64 (-1) ∨ ∃ k : Nat, v = .int .i64 k ∧ k < n
set_option maxRecDepth 100000 in
theorem indexC_calls (b K g18 g3 : Nat) (key bef : ByteArray) (go : Int) (oa : Option Addr) (m oc : Nat) (A2 : Option Addr) (n c2 : Nat) (hs : List Gf) (w0 w : World) (hS : Sp w0 b K w [rOwn w0.heap.size 39 5 (.slice A2 n c2) n (hs.flatMap gfC)]) (hc : Cap w0 b g18 g3 key bef go oa m oc) (hK : K ≤ 800000) (hn : n ≤ 10000) :
    Calls Tryz.prog 52 #[.slice A2 n c2, .func (.func 25) #[] #[.pointer (some ⟨g18, 0, none⟩), .pointer (some ⟨g3, 0, none⟩)]] w (SpS (IsIx n) w0 b (K + n) [rOwn w0.heap.size 39 5 (.slice A2 n c2) n (hs.flatMap gfC)]) := by
  have hown0 : w.ownsRow w0.heap.size 39 5 (.slice A2 n c2) n (hs.flatMap gfC) := hS.head
  have hl : hs.length = n := by have := hown0.1; rw [flat_len gfC 5 gfC_len] at this; omega
  have hcap := own_cap hown0
  unfold maxLen at hcap
  have HV : Hid (0 < n → ∃ g, A2 = some ⟨g, 0, none⟩) := Lib.hid (fun h => by
    rcases hown0.2 with ⟨_, h0⟩ | ⟨g, cap, cur, he, _⟩
    · omega
    · injection he with he _ _
      exact ⟨g, he⟩)
  have HCC : Hid (∀ W K' (x : Gf), K' ≤ 900000 → Sp w0 b K' W [rOwn w0.heap.size 39 5 (.slice A2 n c2) n (hs.flatMap gfC)] → Calls Tryz.prog 25 #[.agg #[.string x.id, .int .i64 x.at_, .int .i64 x.cents, .string x.bid, .string x.option], .pointer (some ⟨g18, 0, none⟩), .pointer (some ⟨g3, 0, none⟩)] W (SpS IsBool w0 b (K' + 1) [rOwn w0.heap.size 39 5 (.slice A2 n c2) n (hs.flatMap gfC)])) := fun W K' x hK' hW => delC_calls b K' g18 g3 key bef go oa m oc x w0 W _ hW hc hK'
  have HL := Lib.hid hl
  clear hl hown0 hc
  go_enter Tryz.func52, Tryz.ntmps52
  go_wp2
  go_loopw [8] (fun i wr => ∃ k : Nat, k ≤ n ∧ i = .int .i64 k ∧ Sp w0 b (K + k) wr [rOwn w0.heap.size 39 5 (.slice A2 n c2) n (hs.flatMap gfC)]) (fun i _ => n - (intOf i).toNat)
  case atStart => exact ⟨0, Nat.zero_le _, rfl, hS⟩
  case round =>
    clear hS
    obtain ⟨k, hk, rfl, hS⟩ := hrel
    by_cases hlt : k < n
    · have hkr : k < hs.length := by rw [HL.out]; exact hlt
      obtain ⟨g, hA⟩ := HV.out (by omega)
      subst hA
      have hown : wr.ownsRow w0.heap.size 39 5 (.slice (some ⟨g, 0, none⟩) n c2) n (hs.flatMap gfC) := hS.head
      have c0 := own_cell gfC 5 gfC_len hown k 0 hkr hlt (by omega)
      have c1 := own_cell gfC 5 gfC_len hown k 1 hkr hlt (by omega)
      have c2 := own_cell gfC 5 gfC_len hown k 2 hkr hlt (by omega)
      have c3 := own_cell gfC 5 gfC_len hown k 3 hkr hlt (by omega)
      have c4 := own_cell gfC 5 gfC_len hown k 4 hkr hlt (by omega)
      obtain ⟨x, hs'⟩ : ∃ s, hs[k] = s := ⟨_, rfl⟩
      rw [hs'] at c0 c1 c2 c3 c4
      replace c0 : wr.cell? ⟨g, k * 5, none⟩ = some (.string x.id) := c0
      replace c1 : wr.cell? ⟨g, k * 5 + 1, none⟩ = some (.int .i64 x.at_) := c1
      replace c2 : wr.cell? ⟨g, k * 5 + 2, none⟩ = some (.int .i64 x.cents) := c2
      replace c3 : wr.cell? ⟨g, k * 5 + 3, none⟩ = some (.string x.bid) := c3
      replace c4 : wr.cell? ⟨g, k * 5 + 4, none⟩ = some (.string x.option) := c4
      have HK := Lib.hid (HCC.out wr (K + k) x (by omega) hS)
      have hk0 : (0 : Int) ≤ (k : Int) := by omega
      have hk1 : (k : Int) < (n : Int) := by omega
      clear hs' hS hown
      go_wp2_with fail
      refine HK.out.mono ?_
      rintro e w2 ⟨_, rfl, ⟨z, rfl⟩, hS2⟩
      cases z
      · go_wp2_with fail
        go_roundw
        case rel => exact ⟨k + 1, by omega, by go_num, hS2⟩
        case measure => simp [intOf]; omega
      · have hS3 := hS2.more (K' := K + n) (by omega)
        go_wp2_with fail
        go_ret
        exact ⟨_, rfl, .inr ⟨k, rfl, hlt⟩, hS3⟩
    · obtain rfl : k = n := by omega
      go_wp2
      go_ret
      exact ⟨_, rfl, .inl rfl, hS⟩
theorem gf_storeP {w0 W : World} {b K g n c i : Nat} {zs : List Gf} (y : Gf) (h : Sp w0 b K W [rOwn w0.heap.size 39 5 (.slice (some ⟨g, 0, none⟩) n c) n (zs.flatMap gfC)]) (hn : zs.length = n) (hi : i < n) :
    Sp w0 b K (((((W.setCell ⟨g, i * 5, none⟩ (.string y.id)).setCell ⟨g, i * 5 + 1, none⟩ (.int .i64 y.at_)).setCell ⟨g, i * 5 + 2, none⟩ (.int .i64 y.cents)).setCell ⟨g, i * 5 + 3, none⟩ (.string y.bid)).setCell ⟨g, i * 5 + 4, none⟩ (.string y.option)) [rOwn w0.heap.size 39 5 (.slice (some ⟨g, 0, none⟩) n c) n ((zs.set i y).flatMap gfC)] := by
  subst hn
  obtain ⟨y0, y1, y2, y3, y4⟩ := y
  have h1 := h.field gfC 5 gfC_len i 0 hi (by omega) (.string y0) ⟨y0, zs[i].at_, zs[i].cents, zs[i].bid, zs[i].option⟩ rfl
  have hg1 : ∀ hh : i < (zs.set i ⟨y0, zs[i].at_, zs[i].cents, zs[i].bid, zs[i].option⟩).length, (zs.set i ⟨y0, zs[i].at_, zs[i].cents, zs[i].bid, zs[i].option⟩)[i]'hh = ⟨y0, zs[i].at_, zs[i].cents, zs[i].bid, zs[i].option⟩ := fun hh => by rw [List.getElem_set_self]
  have h2 := h1.field gfC 5 gfC_len i 1 (by rw [List.length_set]; exact hi) (by omega) (.int .i64 y1) ⟨y0, y1, zs[i].cents, zs[i].bid, zs[i].option⟩ (by rw [hg1]; rfl)
  rw [List.set_set] at h2
  have hg2 : ∀ hh : i < (zs.set i ⟨y0, y1, zs[i].cents, zs[i].bid, zs[i].option⟩).length, (zs.set i ⟨y0, y1, zs[i].cents, zs[i].bid, zs[i].option⟩)[i]'hh = ⟨y0, y1, zs[i].cents, zs[i].bid, zs[i].option⟩ := fun hh => by rw [List.getElem_set_self]
  have h3 := h2.field gfC 5 gfC_len i 2 (by rw [List.length_set]; exact hi) (by omega) (.int .i64 y2) ⟨y0, y1, y2, zs[i].bid, zs[i].option⟩ (by rw [hg2]; rfl)
  rw [List.set_set] at h3
  have hg3 : ∀ hh : i < (zs.set i ⟨y0, y1, y2, zs[i].bid, zs[i].option⟩).length, (zs.set i ⟨y0, y1, y2, zs[i].bid, zs[i].option⟩)[i]'hh = ⟨y0, y1, y2, zs[i].bid, zs[i].option⟩ := fun hh => by rw [List.getElem_set_self]
  have h4 := h3.field gfC 5 gfC_len i 3 (by rw [List.length_set]; exact hi) (by omega) (.string y3) ⟨y0, y1, y2, y3, zs[i].option⟩ (by rw [hg3]; rfl)
  rw [List.set_set] at h4
  have hg4 : ∀ hh : i < (zs.set i ⟨y0, y1, y2, y3, zs[i].option⟩).length, (zs.set i ⟨y0, y1, y2, y3, zs[i].option⟩)[i]'hh = ⟨y0, y1, y2, y3, zs[i].option⟩ := fun hh => by rw [List.getElem_set_self]
  have h5 := h4.field gfC 5 gfC_len i 4 (by rw [List.length_set]; exact hi) (by omega) (.string y4) ⟨y0, y1, y2, y3, y4⟩ (by rw [hg4]; rfl)
  rw [List.set_set, List.length_set] at h5
  exact h5
/-- what DeleteFunc answers: some of the gifts -/
def DelS (w0 : World) (b K : Nat) (ys : List Gf) (e : Ending) (w' : World) : Prop :=
  ∃ (A' : Option Addr) (c' : Nat) (l : List Gf), e = .returned (.slice A' l.length c') ∧ (∀ x ∈ l, x ∈ ys) ∧ l.length ≤ ys.length ∧ Rd w' b 5 (.slice A' l.length c') l.length (l.flatMap gfC) ∧ Strm w' b K ∧ Bx w0.heap.size b w0 w'
theorem bx_setCells {B b g : Nat} {w : World} (hg : B ≤ g) : ∀ (vs : List Value) (o : Nat) (W : World), Bx B b w W → Bx B b w (W.setCells g o vs)
  | [], _, _, h => h
  | v :: r, o, _W, h => bx_setCells hg r (o + 1) _ (h.setCell (p := ⟨g, o, none⟩) (.inr hg) v)
theorem strm_setCells {b K g : Nat} (hg : b < g) : ∀ (vs : List Value) (o : Nat) (W : World), Strm W b K → Strm (W.setCells g o vs) b K
  | [], _, _, h => h
  | v :: r, o, _W, h => strm_setCells hg r (o + 1) _ (h.setCell (p := ⟨g, o, none⟩) hg v)

set_option maxRecDepth 100000 in
set_option maxHeartbeats 2000000 in
theorem deleteC_calls (b K g18 g3 : Nat) (key bef : ByteArray) (go : Int) (oa : Option Addr) (m oc : Nat) (A : Option Addr) (n c : Nat) (ys : List Gf) (w0 w : World) (hS : Sp w0 b K w [rOwn w0.heap.size 39 5 (.slice A n c) n (ys.flatMap gfC)]) (hc : Cap w0 b g18 g3 key bef go oa m oc) (hK : K ≤ 700000) (hn : n ≤ 10000) :
    Calls Tryz.prog 24 #[.slice A n c, .func (.func 25) #[] #[.pointer (some ⟨g18, 0, none⟩), .pointer (some ⟨g3, 0, none⟩)]] w (DelS w0 b (K + 2 * n) ys) := by
  have hown : w.ownsRow w0.heap.size 39 5 (.slice A n c) n (ys.flatMap gfC) := hS.head
  have hl : ys.length = n := by have := hown.1; rw [flat_len gfC 5 gfC_len] at this; omega
  have HIX := Lib.hid (indexC_calls b K g18 g3 key bef go oa m oc A n c ys w0 w hS hc (by omega) hn)
  have hcap := own_cap hown
  obtain ⟨hc1, hc2⟩ := hcap
  unfold maxLen at hc2
  have HL := Lib.hid hl
  have HV : Hid (0 < n → ∃ g, A = some ⟨g, 0, none⟩ ∧ w0.heap.size ≤ g) := Lib.hid (fun h => by
    rcases hown.2 with ⟨_, h0⟩ | ⟨g, cap, cur, he, hb, _⟩
    · omega
    · injection he with he _ _
      exact ⟨g, he, hb⟩)
  have HCC : Hid (∀ W K' (x : Gf) l, K' ≤ 900000 → Sp w0 b K' W l → Calls Tryz.prog 25 #[.agg #[.string x.id, .int .i64 x.at_, .int .i64 x.cents, .string x.bid, .string x.option], .pointer (some ⟨g18, 0, none⟩), .pointer (some ⟨g3, 0, none⟩)] W (SpS IsBool w0 b (K' + 1) l)) := fun W K' x l hK' hW => delC_calls b K' g18 g3 key bef go oa m oc x w0 W _ hW hc hK'
  have hbw := hS.hb
  clear hS hc hown hl
  go_enter Tryz.func24, Tryz.ntmps24
  go_wp2_with fail
  refine HIX.out.mono ?_
  rintro e w1 ⟨v, rfl, hv, hS1⟩
  rcases hv with rfl | ⟨k, rfl, hkn⟩
  · have hrd := Rd.own (b := b) (show w1.ownsRow w0.heap.size 39 5 (.slice A n c) n (ys.flatMap gfC) from hS1.head) hbw
    go_wp2_with fail
    go_ret
    rw [← HL.out] at hrd ⊢
    exact ⟨A, c, ys, rfl, fun x hx => hx, Nat.le_refl _, hrd, hS1.strm.more (by rw [HL.out]; omega), hS1.bx⟩
  · obtain ⟨g, hA, hgg⟩ := HV.out (by omega)
    subst hA
    have hkk : ((k : Int) == -1) = false := by rw [beq_eq_false_iff_ne]; omega
    have HM0 : Hid (∀ x ∈ ys, x ∈ ys) := Lib.hid (fun x hx => hx)
    have hl0 := HL.out
    go_wp2_with fail
    clear hkk
    go_loopw [5, 6] (fun s5 s6 wr => ∃ (i j : Nat) (zs : List Gf), s5 = .int .i64 i ∧ s6 = .int .i64 j ∧ i < j ∧ j ≤ n ∧ zs.length = n ∧ Hid (∀ x ∈ zs, x ∈ ys) ∧ Sp w0 b (K + n + j) wr [rOwn w0.heap.size 39 5 (.slice (some ⟨g, 0, none⟩) n c) n (zs.flatMap gfC)]) (fun _ s6 _ => n - (intOf s6).toNat)
    case atStart => exact ⟨k, k + 1, ys, rfl, by go_num, by omega, by omega, hl0, HM0, hS1.more (by omega)⟩
    case round =>
      clear hS1 HM0 hl0
      obtain ⟨i, j, zs, rfl, rfl, hij, hjn, hzl0, HM, hS⟩ := hrel
      have HZL := Lib.hid hzl0
      clear hzl0
      have hown : wr.ownsRow w0.heap.size 39 5 (.slice (some ⟨g, 0, none⟩) n c) n (zs.flatMap gfC) := hS.head
      have hgl : g < wr.heap.size := (hown.lt g rfl).2
      by_cases hlt : j < n
      · have hjz : j < zs.length := by rw [HZL.out]; exact hlt
        have hmy := HM.out _ (List.getElem_mem hjz)
        obtain ⟨x, hy⟩ : ∃ y, zs[j] = y := ⟨_, rfl⟩
        have c0 := own_cell gfC 5 gfC_len hown j 0 hjz hlt (by omega)
        have c1 := own_cell gfC 5 gfC_len hown j 1 hjz hlt (by omega)
        have c2 := own_cell gfC 5 gfC_len hown j 2 hjz hlt (by omega)
        have c3 := own_cell gfC 5 gfC_len hown j 3 hjz hlt (by omega)
        have c4 := own_cell gfC 5 gfC_len hown j 4 hjz hlt (by omega)
        rw [hy] at c0 c1 c2 c3 c4 hmy
        replace c0 : wr.cell? ⟨g, j * 5, none⟩ = some (.string x.id) := c0
        replace c1 : wr.cell? ⟨g, j * 5 + 1, none⟩ = some (.int .i64 x.at_) := c1
        replace c2 : wr.cell? ⟨g, j * 5 + 2, none⟩ = some (.int .i64 x.cents) := c2
        replace c3 : wr.cell? ⟨g, j * 5 + 3, none⟩ = some (.string x.bid) := c3
        replace c4 : wr.cell? ⟨g, j * 5 + 4, none⟩ = some (.string x.option) := c4
        have hSa := hS.add #[.string x.id, .int .i64 x.at_, .int .i64 x.cents, .string x.bid, .string x.option] 39
        have HK := Lib.hid (HCC.out _ _ x _ (by omega) hSa)
        have hj0 : (0 : Int) ≤ (j : Int) := by omega
        have hj1 : (j : Int) < (n : Int) := by omega
        have hi0 : (0 : Int) ≤ (i : Int) := by omega
        have hi1 : (i : Int) < (n : Int) := by omega
        have hiz : i < zs.length := by omega
        clear hown hS hSa hy
        go_wp2_with fail
        refine HK.out.mono ?_
        rintro e w2 ⟨_, rfl, ⟨z, rfl⟩, hS2⟩
        cases z
        · have o2 : w2.ownsRow w0.heap.size 39 5 (.slice (some ⟨g, 0, none⟩) n c) n (zs.flatMap gfC) := hS2.nth 1 rfl
          have bx : Blk w2 wr.heap.size _ _ := hS2.nth 0 rfl
          have x0 := bx.cell 0
          have x1 := bx.cell 1
          have x2 := bx.cell 2
          have x3 := bx.cell 3
          have x4 := bx.cell 4
          have k0 : w2.cell? ⟨g, i * 5, none⟩ = some (.string zs[i].id) := own_cell gfC 5 gfC_len o2 i 0 hiz (by omega) (by omega)
          have k1 : w2.cell? ⟨g, i * 5 + 1, none⟩ = some (.int .i64 zs[i].at_) := own_cell gfC 5 gfC_len o2 i 1 hiz (by omega) (by omega)
          have k2 : w2.cell? ⟨g, i * 5 + 2, none⟩ = some (.int .i64 zs[i].cents) := own_cell gfC 5 gfC_len o2 i 2 hiz (by omega) (by omega)
          have k3 : w2.cell? ⟨g, i * 5 + 3, none⟩ = some (.string zs[i].bid) := own_cell gfC 5 gfC_len o2 i 3 hiz (by omega) (by omega)
          have k4 : w2.cell? ⟨g, i * 5 + 4, none⟩ = some (.string zs[i].option) := own_cell gfC 5 gfC_len o2 i 4 hiz (by omega) (by omega)
          have q3 : w2.frozen? ⟨g, i * 5 + 3, none⟩ = false := o2.frozenAt _
          have q4 : w2.frozen? ⟨g, i * 5 + 4, none⟩ = false := o2.frozenAt _
          have q0 : w2.frozen? ⟨g, i * 5, none⟩ = false := o2.frozenAt _
          have q1 : w2.frozen? ⟨g, i * 5 + 1, none⟩ = false := o2.frozenAt _
          have q2 : w2.frozen? ⟨g, i * 5 + 2, none⟩ = false := o2.frozenAt _
          have hS3 := (gf_storeP x hS2.tail HZL.out (show i < n by omega)).more (K' := K + n + (j + 1)) (by omega)
          have HM2 : Hid (∀ y ∈ zs.set i x, y ∈ ys) := Lib.hid (fun y hy => by
            rcases List.mem_or_eq_of_mem_set hy with h | h
            · exact HM.out y h
            · rw [h]; exact hmy)
          have hlen2 : (zs.set i x).length = n := by rw [List.length_set]; exact HZL.out
          have HLE := Lib.hid hlen2
          clear o2 bx hS2 hlen2
          go_wp2_with fail
          go_roundw
          case rel => exact ⟨i + 1, j + 1, _, by go_num, by go_num, by omega, by omega, HLE.out, HM2, hS3⟩
          case measure => simp [intOf]; omega
        · have hS3 := hS2.tail.more (K' := K + n + (j + 1)) (by omega)
          clear hS2
          go_wp2_with fail
          go_roundw
          case rel => exact ⟨i, j + 1, zs, rfl, by go_num, by omega, by omega, HZL.out, HM, hS3⟩
          case measure => simp [intOf]; omega
      · obtain rfl : j = n := by omega
        have hzl := HZL.out
        obtain ⟨vs, hcl, hvl⟩ := run_clear_gf wr g (i * 5) (j - i) (c - i) (by omega) (fun t ht => by
          rw [hown.cellAt (i * 5 + t) (by omega)]
          have : i * 5 + t < (zs.flatMap gfC).length := by rw [flat_len gfC 5 gfC_len]; omega
          rw [List.getElem?_eq_getElem this]; rfl) (fun t ht => hown.frozenAt _)
        have hbf : Bx w0.heap.size b w0 (wr.setCells g (i * 5) vs) := bx_setCells hgg vs _ _ hS.bx
        have hsf : Strm (wr.setCells g (i * 5) vs) b (K + 2 * j) := (strm_setCells (by omega) vs _ _ hS.strm).more (by omega)
        have hil : (zs.take i).length = i := by rw [List.length_take]; omega
        have hrd : Rd (wr.setCells g (i * 5) vs) b 5 (.slice (some ⟨g, 0, none⟩) i c) i ((zs.take i).flatMap gfC) := by
          refine ⟨_, c, rfl, by omega, by unfold maxLen; omega, by rw [flat_len gfC 5 gfC_len, hil], (fun e => by cases e), fun _ => ⟨g, 0, rfl, by omega, fun t u hu => ?_⟩⟩
          have htl : t < i * 5 := by
            have := (List.getElem?_eq_some_iff.1 hu).1
            rw [flat_len gfC 5 gfC_len, hil] at this
            exact this
          rw [Nat.zero_add, World.cell?_setCells_out g vs (i * 5) wr ⟨g, t, none⟩ (fun _ _ => Or.inl htl)]
          obtain ⟨q, r, hr3, rfl⟩ : ∃ q r, r < 5 ∧ t = q * 5 + r := ⟨t / 5, t % 5, Nat.mod_lt _ (by omega), by omega⟩
          have hqi : q < i := by omega
          have hqz : q < zs.length := by omega
          have hqu : q < (zs.take i).length := by omega
          rw [flat_get gfC 5 gfC_len _ q r hqu hr3, List.getElem_take] at hu
          rw [own_cell gfC 5 gfC_len hown q r hqz (by omega) hr3]
          exact hu
        have HF : Hid (DelS w0 b (K + 2 * j) ys (.returned (.slice (some ⟨g, 0, none⟩) i c)) (wr.setCells g (i * 5) vs)) := Lib.hid (by
          refine ⟨some ⟨g, 0, none⟩, c, zs.take i, by rw [hil], fun x hx => HM.out x (List.mem_of_mem_take hx), by rw [hil, HL.out]; omega, by rw [hil]; exact hrd, hsf, hbf⟩)
        have hic : (i : Int) ≤ (j : Int) := by omega
        have hicc : (i : Int) ≤ (c : Int) := by omega
        have hi0 : (0 : Int) ≤ (i : Int) := by omega
        clear hil hrd hbf hown hS hvl hzl hsf
        go_wp2_with fail
        go_ret
        exact HF.out
end Go.Proofs.YtohhbkodfidfkaaGreat
