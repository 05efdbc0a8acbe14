/-
  slices.DeleteFunc of what is live, with ExpectedPlaces' closure: what is left is upTo.
-/
import Derived.Test.YtlfhommeomchoaaZLive11
namespace Go.Proofs.Ytlfhommeomchoaa
open Go Go.RowKit
attribute [local go_sem ↓] Go.wp_at_zero Go.wp_at_succ

theorem below_setCells {B g : Nat} {w : World} (hg : B ≤ g) : ∀ (vs : List Value) (o : Nat) (W : World), Below B w W → Below B w (W.setCells g o vs)
  | [], _, _, h => h
  | v :: r, o, _W, h => below_setCells hg r (o + 1) _ (h.setCell (p := ⟨g, o, none⟩) hg v)
theorem lv_store {w0 W : World} {g n c i : Nat} {zs : List Lv} (y : Lv) (h : Sq w0 W [rOwn w0.heap.size 129 3 (.slice (some ⟨g, 0, none⟩) n c) n (zs.flatMap lvC)]) (hn : zs.length = n) (hi : i < n) :
    Sq w0 (((W.setCell ⟨g, i * 3, none⟩ (.int .i64 y.1)).setCell ⟨g, i * 3 + 1, none⟩ (.int .i64 y.2.1)).setCell ⟨g, i * 3 + 2, none⟩ (.string y.2.2)) [rOwn w0.heap.size 129 3 (.slice (some ⟨g, 0, none⟩) n c) n ((zs.set i y).flatMap lvC)] := by
  subst hn
  obtain ⟨y0, y1, y2⟩ := y
  have h1 := h.field lvC 3 lvC_len i 0 hi (by omega) (.int .i64 y0) (y0, zs[i].2.1, zs[i].2.2) rfl
  have hg1 : ∀ hh : i < (zs.set i (y0, zs[i].2.1, zs[i].2.2)).length, (zs.set i (y0, zs[i].2.1, zs[i].2.2))[i]'hh = (y0, zs[i].2.1, zs[i].2.2) := fun hh => by rw [List.getElem_set_self]
  have h2 := h1.field lvC 3 lvC_len i 1 (by rw [List.length_set]; exact hi) (by omega) (.int .i64 y1) (y0, y1, zs[i].2.2) (by rw [hg1]; rfl)
  rw [List.set_set] at h2
  have hg2 : ∀ hh : i < (zs.set i (y0, y1, zs[i].2.2)).length, (zs.set i (y0, y1, zs[i].2.2))[i]'hh = (y0, y1, zs[i].2.2) := fun hh => by rw [List.getElem_set_self]
  have h3 := h2.field lvC 3 lvC_len i 2 (by rw [List.length_set]; exact hi) (by omega) (.string y2) (y0, y1, y2) (by rw [hg2]; rfl)
  rw [List.set_set, List.length_set] at h3
  exact h3
/-- what DeleteFunc answers -/
def DelS (w0 : World) (b : Nat) (ys : List Lv) (e : Ending) (w' : World) : Prop :=
  ∃ A' m c', e = .returned (.slice A' m c') ∧ m = ys.length ∧ Rd w' b 3 (.slice A' m c') m (ys.flatMap lvC) ∧ Below w0.heap.size w0 w'

set_option maxRecDepth 100000 in
set_option maxHeartbeats 2000000 in
theorem deleteLv_calls (w0 : World) (b g7 : Nat) (at_ : Int) (A : Option Addr) (n c : Nat) (ys : List Lv) (w : World) (hS : Sq w0 w [rOwn w0.heap.size 129 3 (.slice A n c) n (ys.flatMap lvC)]) (hg : Blk w0 g7 3 #[.int .i64 at_]) (hb : b < w0.heap.size) (hn : n ≤ 900) (_hgb : b < w.heap.size) :
    Calls Try.prog 106 #[.slice A n c, .func (.func 108) #[] #[.pointer (some ⟨g7, 0, none⟩)]] w (DelS w0 b (upTo ys at_)) := by
  have hown : w.ownsRow w0.heap.size 129 3 (.slice A n c) n (ys.flatMap lvC) := hS.head
  have hrd : Rd w b 3 (.slice A n c) n (ys.flatMap lvC) := Rd.own hown hb
  have hl : ys.length = n := (hrd.cells lvC_len (by omega)).1
  have HIX := Lib.hid (indexLv_calls b g7 at_ A n c ys w (hg.below hS.below) hrd)
  have hcap := own_cap hown
  obtain ⟨hc1, hc2⟩ := hcap
  unfold maxLen at hc2
  have HL := Lib.hid hl
  rcases ixOf_split (fun y : Lv => decide (at_ < y.1)) ys with ⟨h1, h2⟩ | ⟨k, hk, h1, h2, h3⟩
  · have hall : upTo ys at_ = ys := by
      have := upTo_all (ys := ys) (at_ := at_) ys.length (Nat.le_refl _) (fun i _ hi => by have := h2 i hi; simpa using this)
      rwa [List.take_length] at this
    rw [h1] at HIX
    rw [hall]
    have HS := Lib.hid hS
    have HR := Lib.hid hrd
    clear h1 h2 hall hS hg hown hrd hl
    go_enter Try.func106, Try.ntmps106
    go_wp2_with fail
    refine HIX.out.mono ?_
    rintro e w1 ⟨rfl, hb1⟩
    go_wp2_with fail
    go_ret
    exact ⟨_, _, _, rfl, HL.out.symm, HR.out.below hb1, (HS.out.callB hb1).below⟩
  · rw [h1] at HIX
    have hkn : k < n := by rw [← hl]; exact hk
    obtain ⟨g, cap, hv, hg0, _⟩ := hown.form (by omega)
    injection hv with hA _ hcc
    subst hA hcc
    have hdl : Dl ys at_ k (k + 1) ys := by
      have e1 : upTo (ys.take k) at_ = ys.take k := upTo_all k (by omega) (fun i hi hi' => by have := h3 i hi; simpa using this)
      have e2 : upTo (ys.take (k + 1)) at_ = ys.take k := by rw [upTo_step ys at_ k hk, if_neg (by have := h2; simp at this; omega), e1]
      refine ⟨rfl, by rw [e2, List.length_take]; omega, fun t ht => by rw [e2, List.getElem?_take_of_lt ht], fun _ _ => rfl⟩
    have HD := Lib.hid hdl
    have HCC : Hid (∀ W (y : Lv), Below w0.heap.size w0 W → Calls Try.prog 108 #[.agg #[.int .i64 y.1, .int .i64 y.2.1, .string y.2.2], .pointer (some ⟨g7, 0, none⟩)] W (BRet (.bool (decide (at_ < y.1))) W)) := fun W y hW => expl1_calls g7 at_ y W (hg.below hW)
    have HS := Lib.hid hS
    have hgg : w0.heap.size ≤ g := hg0
    clear h1 h2 h3 hS hg hown hrd hl hdl hk hg0
    go_enter Try.func106, Try.ntmps106
    go_wp2_with fail
    refine HIX.out.mono ?_
    rintro e w1 ⟨rfl, hb1⟩
    have hS1 := HS.out.callB hb1
    have hkk : ((k : Int) == -1) = false := by rw [beq_eq_false_iff_ne]; omega
    clear hb1
    go_wp2_with fail
    clear hkk
    go_loopw [5, 6] (fun s5 s6 wr => ∃ (i j : Nat) (zs : List Lv), s5 = .int .i64 i ∧ s6 = .int .i64 j ∧ i < j ∧ j ≤ n ∧ Hid (Dl ys at_ i j zs) ∧ Sq w0 wr [rOwn w0.heap.size 129 3 (.slice (some ⟨g, 0, none⟩) n c) n (zs.flatMap lvC)]) (fun _ s6 _ => n - (intOf s6).toNat)
    case atStart => exact ⟨k, k + 1, ys, rfl, by go_num, by omega, by omega, HD, hS1⟩
    case round =>
      clear hS1 HD
      obtain ⟨i, j, zs, rfl, rfl, hij, hjn, HD, hS⟩ := hrel
      have hzl : zs.length = n := by rw [HD.out.len]; exact HL.out
      have hown : wr.ownsRow w0.heap.size 129 3 (.slice (some ⟨g, 0, none⟩) n c) n (zs.flatMap lvC) := hS.head
      have hgl : g < wr.heap.size := (hown.lt g rfl).2
      by_cases hlt : j < n
      · have hjr : j < ys.length := by rw [HL.out]; exact hlt
        have hjz : j < zs.length := by omega
        have hzy : zs[j] = ys[j] := by
          have := HD.out.hi j (Nat.le_refl _)
          rw [List.getElem?_eq_getElem hjz, List.getElem?_eq_getElem hjr] at this
          exact Option.some.inj this
        obtain ⟨y, hy⟩ : ∃ y, ys[j] = y := ⟨_, rfl⟩
        have c0 := own_cell lvC 3 lvC_len hown j 0 hjz hlt (by omega)
        have c1 := own_cell lvC 3 lvC_len hown j 1 hjz hlt (by omega)
        have c2 := own_cell lvC 3 lvC_len hown j 2 hjz hlt (by omega)
        rw [hzy, hy] at c0 c1 c2
        replace c0 : wr.cell? ⟨g, j * 3, none⟩ = some (.int .i64 y.1) := c0
        replace c1 : wr.cell? ⟨g, j * 3 + 1, none⟩ = some (.int .i64 y.2.1) := c1
        replace c2 : wr.cell? ⟨g, j * 3 + 2, none⟩ = some (.string y.2.2) := c2
        have hSa := hS.add #[.int .i64 y.1, .int .i64 y.2.1, .string y.2.2] 129
        have HK := Lib.hid (HCC.out _ y hSa.below)
        have hj0 : (0 : Int) ≤ (j : Int) := by omega
        have hj1 : (j : Int) < (n : Int) := by omega
        have hi0 : (0 : Int) ≤ (i : Int) := by omega
        have hi1 : (i : Int) < (n : Int) := by omega
        have HY : Hid (ys[j] = y) := hy
        by_cases hp : at_ < y.1
        · have HD2 := Lib.hid (HD.out.skip hjr (by rw [hy]; exact hp))
          rw [decide_eq_true hp] at HK
          clear hzy hy hown hS hp HD
          go_wp2_with fail
          refine HK.out.mono ?_
          rintro e w2 ⟨rfl, hb2⟩
          have hS2 := (hSa.callB hb2).tail
          go_wp2_with fail
          go_roundw
          case rel => exact ⟨i, j + 1, zs, rfl, by go_num, by omega, by omega, HD2, hS2⟩
          case measure => simp [intOf]; omega
        · have HD2 := Lib.hid (HD.out.keep hjr (by rw [hy]; exact hp) hij)
          rw [decide_eq_false hp] at HK
          have hiz : i < zs.length := by omega
          clear hzy hown hS hp HD
          go_wp2_with fail
          refine HK.out.mono ?_
          rintro e w2 ⟨rfl, hb2⟩
          have hS2 := hSa.callB hb2
          have o2 : w2.ownsRow w0.heap.size 129 3 (.slice (some ⟨g, 0, none⟩) n c) n (zs.flatMap lvC) := hS2.nth 1 rfl
          have bx : Blk w2 wr.heap.size _ _ := hS2.nth 0 rfl
          have x0 := bx.cell 0
          have x1 := bx.cell 1
          have x2 := bx.cell 2
          have k0 : w2.cell? ⟨g, i * 3, none⟩ = some (.int .i64 zs[i].1) := own_cell lvC 3 lvC_len o2 i 0 hiz (by omega) (by omega)
          have k1 : w2.cell? ⟨g, i * 3 + 1, none⟩ = some (.int .i64 zs[i].2.1) := own_cell lvC 3 lvC_len o2 i 1 hiz (by omega) (by omega)
          have k2 : w2.cell? ⟨g, i * 3 + 2, none⟩ = some (.string zs[i].2.2) := own_cell lvC 3 lvC_len o2 i 2 hiz (by omega) (by omega)
          have q0 : w2.frozen? ⟨g, i * 3, none⟩ = false := o2.frozenAt _
          have q1 : w2.frozen? ⟨g, i * 3 + 1, none⟩ = false := o2.frozenAt _
          have q2 : w2.frozen? ⟨g, i * 3 + 2, none⟩ = false := o2.frozenAt _
          have hS3 := lv_store y hS2.tail hzl (show i < n by omega)
          rw [hy] at HD2
          clear o2 bx hSa hb2 hy
          go_wp2_with fail
          go_roundw
          case rel => exact ⟨i + 1, j + 1, _, by go_num, by go_num, by omega, by omega, HD2, hS3⟩
          case measure => simp [intOf]; omega
      · obtain rfl : j = n := by omega
        obtain ⟨vs, hcl, hvl⟩ := run_clear_lv wr g (i * 3) (j - i) (c - i) (by omega) (fun t ht => by
          rw [hown.cellAt (i * 3 + t) (by omega)]
          have : i * 3 + t < (zs.flatMap lvC).length := by rw [flat_len lvC 3 lvC_len]; omega
          rw [List.getElem?_eq_getElem this]; rfl) (fun t ht => hown.frozenAt _)
        have hbf : Below w0.heap.size w0 (wr.setCells g (i * 3) vs) := below_setCells hgg vs _ _ hS.below
        have hT : upTo (ys.take j) at_ = upTo ys at_ := by rw [List.take_of_length_le (by rw [HL.out]; exact Nat.le_refl _)]
        have hlo := HD.out.lo
        have hcn := HD.out.cnt
        rw [hT] at hlo hcn
        have hrd : Rd (wr.setCells g (i * 3) vs) b 3 (.slice (some ⟨g, 0, none⟩) i c) i ((upTo ys at_).flatMap lvC) := by
          refine ⟨_, c, rfl, by omega, by unfold maxLen; omega, by rw [flat_len lvC 3 lvC_len, hcn], (fun e => by cases e), fun _ => ⟨g, 0, rfl, by omega, fun t u hu => ?_⟩⟩
          have htl : t < i * 3 := by
            have := (List.getElem?_eq_some_iff.1 hu).1
            rw [flat_len lvC 3 lvC_len, hcn] at this
            exact this
          rw [Nat.zero_add, World.cell?_setCells_out g vs (i * 3) wr ⟨g, t, none⟩ (fun _ _ => Or.inl htl)]
          obtain ⟨q, r, hr3, rfl⟩ : ∃ q r, r < 3 ∧ t = q * 3 + r := ⟨t / 3, t % 3, Nat.mod_lt _ (by omega), by omega⟩
          have hqi : q < i := by omega
          have hqz : q < zs.length := by omega
          have hqu : q < (upTo ys at_).length := by omega
          have hz := hlo q hqi
          rw [List.getElem?_eq_getElem hqz, List.getElem?_eq_getElem hqu] at hz
          rw [flat_get lvC 3 lvC_len _ q r hqu hr3] at hu
          rw [own_cell lvC 3 lvC_len hown q r hqz (by omega) hr3, Option.some.inj hz]
          exact hu
        have HF : Hid (DelS w0 b (upTo ys at_) (.returned (.slice (some ⟨g, 0, none⟩) i c)) (wr.setCells g (i * 3) vs)) := ⟨_, _, _, rfl, hcn.symm, hrd, hbf⟩
        have hic : (i : Int) ≤ (j : Int) := by omega
        have hicc : (i : Int) ≤ (c : Int) := by omega
        have hi0 : (0 : Int) ≤ (i : Int) := by omega
        clear hT hlo hcn hrd hbf hown hS hvl
        go_wp2_with fail
        go_ret
        exact HF.out
end Go.Proofs.Ytlfhommeomchoaa
