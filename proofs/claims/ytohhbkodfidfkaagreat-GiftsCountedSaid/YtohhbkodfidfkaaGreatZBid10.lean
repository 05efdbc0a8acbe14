/-
  slices.Clone, IndexFunc and DeleteFunc of gifts, with WonBy's closure. (Printed by gen_bid10.py.)
-/
import Derived.Test.YtohhbkodfidfkaaGreatZBid4
import Derived.Test.YtohhbkodfidfkaaGreatZLow
import Derived.Test.YtohhbkodfidfkaaGreatZSlot4
import Derived.Deep.MidRow
import Derived.Deep.RegionHeld3
import Derived.RegionTactic
import Derived.ChangeAlike
import Derived.BigRegion
import Derived.Outline
namespace Go.Proofs.YtohhbkodfidfkaaGreat
open Go Go.RowKit
attribute [local go_sem ↓] Go.wp_at_zero Go.wp_at_succ

theorem info_gf : (Tryz.prog.info? 39).map (fun i => (i.zero, i.size, i.bytes)) = some (some (.agg #[.string ⟨#[]⟩, .int .i64 0, .int .i64 0, .string ⟨#[]⟩, .string ⟨#[]⟩]), 5, 64) := by kernel_rfl
theorem gfC_one (ys : List Gf) : ∀ u ∈ ys.flatMap gfC, u.oneCell' = true := by
  intro u hu
  obtain ⟨y, _, hy⟩ := List.mem_flatMap.1 hu
  simp [gfC] at hy
  rcases hy with rfl | rfl | rfl | rfl | rfl <;> rfl
set_option maxRecDepth 100000 in
theorem cloneGf_calls (b : Nat) (A : Option Addr) (n c : Nat) (xs : List Value) (w : World) (hr : Rd w b 5 (.slice A n c) n xs) (h1 : ∀ u ∈ xs, u.oneCell' = true) (hn : n ≤ 100000) :
    Calls Tryz.prog 12 #[.slice A n c] w fun e w' => ∃ v, e = .returned v ∧ w'.ownsRow w.heap.size 39 5 v n xs ∧ Below w.heap.size w w' := by
  obtain ⟨i0, hi, hz0, hz1, hz2⟩ := info_parts info_gf
  have q29 : ∀ (w : World) (a : Option Addr) (n c n' c' : Nat), (binOp .eql 32 (.slice a n c) (.slice none n' c')).run Tryz.prog w = .ok (.bool a.isNone) w := fun w a n c n' c' => Lib.run_eql_slice_nil w _ _ a n c n' c' Tryz.underlying32
  obtain ⟨A', c', e1, e2, e3, e4, e5, e6⟩ := hr
  injection e1 with ea eb ec
  subst ea ec
  cases A with
  | none =>
    obtain ⟨rfl, rfl⟩ := e5 rfl
    have hx : xs = [] := List.eq_nil_of_length_eq_zero (by simpa using e4)
    subst hx
    clear e6
    go_enter Tryz.func12, Tryz.ntmps12
    go_wp2
    go_ret
    exact ⟨_, rfl, World.ownsRow_nil _ _ _ _, Below.refl _ _⟩
  | some a =>
    have hcells : ∀ j u, xs[j]? = some u → w.cell? (a.add j) = some u := by
      intro j u hu
      have hpos : 0 < n := by
        rcases Nat.eq_zero_or_pos n with h | h
        · subst h
          have hx : xs = [] := List.eq_nil_of_length_eq_zero (by simpa using e4)
          subst hx
          simp at hu
        · exact h
      obtain ⟨g, o, f1, _, f3⟩ := e6 hpos
      injection f1 with f1
      subst f1
      have hadd : (⟨g, o, none⟩ : Addr).add j = ⟨g, o + j, none⟩ := by unfold Addr.add; split <;> simp_all
      rw [hadd]
      exact f3 j u hu
    have hcells2 : ∀ ob : Obj, ∀ j u, xs[j]? = some u → (w.alloc ob).cell? (a.add j) = some u := fun ob j u hu =>
      (World.cell?_alloc_lt w ob (a.add j) (World.block_lt_of_cell? w _ (hcells j u hu))).trans (hcells j u hu)
    clear e6 hcells
    go_enter Tryz.func12, Tryz.ntmps12
    go_wp2_with (first
      | (at_builtin; refine wpList_append_own _ rfl _ _ 32 rfl w.heap.size 39 i0 (.agg #[.string ⟨#[]⟩, .int .i64 0, .int .i64 0, .string ⟨#[]⟩, .string ⟨#[]⟩]) 5 64 Tryz.underlying32 hi hz0 hz1 hz2 rfl (by decide) _ 0 [] rfl (World.ownsRow_lit (base := w.heap.size) w #[] 0 (Nat.le_refl _) (by decide) rfl) a n c xs rfl (by simpa using e4) (hcells2 _) h1 (by unfold maxLen; omega) (by omega) (by simp) ?_; intro v' w1 hown' hgrow hnil))
    go_ret
    refine ⟨_, rfl, by simpa using hown', ((Below.refl _ _).alloc (Nat.le_refl _) _).grown hgrow (by simp) (fun q hq => ?_)⟩
    have h2 : some w.heap.size = some q := hq
    injection h2 with h2
    omega



theorem run_clear_gf (w : World) (b o n c : Nat) (hn : 0 < n) (hc : ∀ j, j < n * 5 → (w.cell? ⟨b, o + j, none⟩).isSome = true) (hf : ∀ j, j < n * 5 → w.frozen? ⟨b, o + j, none⟩ = false) :
    ∃ vs : List Value, (∀ ty, (Builtin.clear_ #[32] ty #[.slice (some ⟨b, o, none⟩) n c]).run Tryz.prog w = .ok (.tuple #[]) (w.setCells b o vs)) ∧ vs.length = n * 5 := by
  have hv : ∀ w, (zeroValue 39).run Tryz.prog w = .ok (.agg #[.string ⟨#[]⟩, .int .i64 0, .int .i64 0, .string ⟨#[]⟩, .string ⟨#[]⟩]) w := fun w => by kernel_rfl
  obtain ⟨vs, hvs⟩ : ∃ vs, (Builtin.zeroCells #[.string ⟨#[]⟩, .int .i64 0, .int .i64 0, .string ⟨#[]⟩, .string ⟨#[]⟩] n).toList = vs := ⟨_, rfl⟩
  have hlen : vs.length = n * 5 := by rw [← hvs]; simp [Builtin.zeroCells]
  have h1 : ∀ v ∈ vs, v.oneCell' = true := by
    intro v hv
    rw [← hvs] at hv
    simp [Builtin.zeroCells] at hv
    obtain ⟨i, _, rfl⟩ := hv
    rcases (show i % 5 = 0 ∨ i % 5 = 1 ∨ i % 5 = 2 ∨ i % 5 = 3 ∨ i % 5 = 4 by omega) with h | h | h | h | h <;> simp [h] <;> rfl
  have hst := run_storeCells_cells (P := Tryz.prog) b o vs 0 w (by simpa [hlen] using hc) (by simpa [hlen] using hf) h1
  simp only [Nat.add_zero] at hst
  refine ⟨vs, fun ty => ?_, hlen⟩
  obtain ⟨m, rfl⟩ : ∃ m, n = m + 1 := ⟨n - 1, by omega⟩
  simp [Builtin.clear_, run_underlying Tryz.underlying32, hv, Value.cells, hvs, hst, Result.andThen]

/-- is a gift left out? -/
def delP (key : ByteArray) (at_ : Int) (x : Gf) : Bool := decide (at_ < x.at_) || !eqS x.bid key
theorem ownG_step (key : ByteArray) (at_ : Int) (ys : List Gf) (j : Nat) (hj : j < ys.length) : ownG key at_ (ys.take (j + 1)) = if delP key at_ ys[j] = true then ownG key at_ (ys.take j) else ownG key at_ (ys.take j) ++ [ys[j]] := by
  unfold ownG
  rw [List.take_succ_eq_append_getElem hj, List.filter_append]
  have : keepG key at_ ys[j] = !delP key at_ ys[j] := rfl
  cases h : delP key at_ ys[j]
  · rw [if_neg (by decide), List.filter_cons, this, h]
    rfl
  · rw [if_pos rfl, List.filter_cons, this, h]
    simp
set_option maxRecDepth 100000 in
theorem won1_calls (g5 g3 : Nat) (at_ : Int) (key bef : ByteArray) (go : Int) (oa : Option Addr) (m oc : Nat) (x : Gf) (w : World) (hg5 : Blk w g5 3 #[.int .i64 at_]) (hg3 : Blk w g3 53 #[.string key, .string bef, .int .i64 go, .slice oa m oc]) :
    Calls Tryz.prog 63 #[.agg #[.string x.id, .int .i64 x.at_, .int .i64 x.cents, .string x.bid, .string x.option], .pointer (some ⟨g5, 0, none⟩), .pointer (some ⟨g3, 0, none⟩)] w (BRet (.bool (delP key at_ x)) w) := by
  have hb : Below w.heap.size w (w.alloc (.cells #[.string x.id, .int .i64 x.at_, .int .i64 x.cents, .string x.bid, .string x.option] 39)) := (Below.refl _ _).alloc (Nat.le_refl _) _
  have g50 := hg5.cell 0
  have g30 := hg3.cell 0
  have l5 := hg5.lt
  have l3 := hg3.lt
  obtain ⟨xi, xa, xc, xb, xo⟩ := x
  simp only at hb ⊢
  have HE : Hid (delP key at_ ⟨xi, xa, xc, xb, xo⟩ = (decide (at_ < xa) || !(xb.toList == key.toList))) := rfl
  rw [HE.out]
  clear hg5 hg3
  by_cases h : at_ < xa
  · go_enter Tryz.func63, Tryz.ntmps63
    go_wp2_with fail
    go_ret
    exact ⟨ret_bool (by simp [h]), hb⟩
  · cases he : (xb.toList == key.toList)
    · go_enter Tryz.func63, Tryz.ntmps63
      go_wp2_with fail
      go_ret
      exact ⟨ret_bool (by simp), hb⟩
    · go_enter Tryz.func63, Tryz.ntmps63
      go_wp2_with fail
      go_ret
      exact ⟨ret_bool (by simp [h]), hb⟩
set_option maxRecDepth 100000 in
theorem indexGf_calls (b g5 g3 : Nat) (at_ : Int) (key bef : ByteArray) (go : Int) (oa : Option Addr) (m oc : Nat) (A2 : Option Addr) (n c2 : Nat) (hs : List Gf) (w : World) (hg5 : Blk w g5 3 #[.int .i64 at_]) (hg3 : Blk w g3 53 #[.string key, .string bef, .int .i64 go, .slice oa m oc]) (hr2 : Rd w b 5 (.slice A2 n c2) n (hs.flatMap gfC)) :
    Calls Tryz.prog 52 #[.slice A2 n c2, .func (.func 63) #[] #[.pointer (some ⟨g5, 0, none⟩), .pointer (some ⟨g3, 0, none⟩)]] w (BRet (.int .i64 (ixOf (delP key at_) hs)) w) := by
  obtain ⟨hl, hnc, hcm, hcells⟩ := hr2.cells gfC_len (by omega)
  unfold maxLen at hcm
  obtain ⟨p, hpp⟩ : ∃ p : Gf → Bool, delP key at_ = p := ⟨_, rfl⟩
  have HCC : Hid (∀ W (x : Gf), Below w.heap.size w W → Calls Tryz.prog 63 #[.agg #[.string x.id, .int .i64 x.at_, .int .i64 x.cents, .string x.bid, .string x.option], .pointer (some ⟨g5, 0, none⟩), .pointer (some ⟨g3, 0, none⟩)] W (BRet (.bool (p x)) W)) := fun W x hW => by
    rw [← hpp]
    exact won1_calls g5 g3 at_ key bef go oa m oc x W (hg5.below hW) (hg3.below hW)
  have HL := Lib.hid hl
  have HCL := Lib.hid hcells
  rw [hpp]
  clear hcells hl hr2 hg5 hg3 hpp
  go_enter Tryz.func52, Tryz.ntmps52
  go_wp2
  go_loopw [8] (fun i wr => ∃ k : Nat, k ≤ n ∧ i = .int .i64 k ∧ Hid (∀ i (_ : i < k) (hi' : i < hs.length), p hs[i] = false) ∧ Below w.heap.size w wr) (fun i _ => n - (intOf i).toNat)
  case atStart => exact ⟨0, Nat.zero_le _, rfl, (fun i hi => absurd hi (by omega)), Below.refl _ _⟩
  case round =>
    obtain ⟨k, hk, rfl, HF, hbr⟩ := hrel
    by_cases hlt : k < n
    · have hkr : k < hs.length := by rw [HL.out]; exact hlt
      obtain ⟨g, o, hA, _, hcs⟩ := HCL.out (by omega)
      subst hA
      have c0 := below_cell hbr (hcs k hkr 0 (by omega))
      have c1 := below_cell hbr (hcs k hkr 1 (by omega))
      have c2 := below_cell hbr (hcs k hkr 2 (by omega))
      have c3 := below_cell hbr (hcs k hkr 3 (by omega))
      have c4 := below_cell hbr (hcs k hkr 4 (by omega))
      obtain ⟨s, hs'⟩ : ∃ s, hs[k] = s := ⟨_, rfl⟩
      rw [hs'] at c0 c1 c2 c3 c4
      replace c0 : wr.cell? ⟨g, o + k * 5, none⟩ = some (.string s.id) := c0
      replace c1 : wr.cell? ⟨g, o + k * 5 + 1, none⟩ = some (.int .i64 s.at_) := c1
      replace c2 : wr.cell? ⟨g, o + k * 5 + 2, none⟩ = some (.int .i64 s.cents) := c2
      replace c3 : wr.cell? ⟨g, o + k * 5 + 3, none⟩ = some (.string s.bid) := c3
      replace c4 : wr.cell? ⟨g, o + k * 5 + 4, none⟩ = some (.string s.option) := c4
      have HK := Lib.hid (HCC.out wr s hbr)
      clear hcs
      cases hp : p s
      · rw [hp] at HK
        have HF2 : Hid (∀ i (_ : i < k + 1) (hi' : i < hs.length), p hs[i] = false) := by
          intro i hi hi'
          by_cases hik : i = k
          · subst hik; rw [hs']; exact hp
          · exact HF.out i (by omega) hi'
        clear hp hs'
        go_wp2_with (go_at_call 63; refine HK.out.mono ?_; rintro e w2 ⟨rfl, hb2⟩)
        have hb3 := below_call hbr hb2 (Nat.le_refl _)
        go_roundw
        case rel => exact ⟨k + 1, by omega, by go_num, HF2, hb3⟩
        case measure => simp [intOf]; omega
      · rw [hp] at HK
        have HR : Hid (ixOf p hs = k) := ixOf_at _ hs k hkr (fun i hi => HF.out i hi (by omega)) (by rw [hs']; exact hp)
        clear hp hs'
        go_wp2_with (go_at_call 63; refine HK.out.mono ?_; rintro e w2 ⟨rfl, hb2⟩)
        have hb3 := below_call hbr hb2 (Nat.le_refl _)
        go_ret
        exact ⟨ret_int HR.out.symm, hb3⟩
    · obtain rfl : k = n := by omega
      have HR : Hid (ixOf p hs = -1) := ixOf_no _ hs (fun i hi => HF.out i (by rw [← HL.out]; exact hi) hi)
      go_wp2
      go_ret
      exact ⟨ret_int HR.out.symm, hbr⟩
/-- what is kept of the first j, at the head of the row; behind j the row is as it was -/
structure DlG (key : ByteArray) (ys : List Gf) (at_ : Int) (i j : Nat) (zs : List Gf) : Prop where
  len : zs.length = ys.length
  cnt : (ownG key at_ (ys.take j)).length = i
  lo : ∀ t, t < i → zs[t]? = (ownG key at_ (ys.take j))[t]?
  hi : ∀ t, j ≤ t → zs[t]? = ys[t]?
theorem DlG.skip {key : ByteArray} {ys zs : List Gf} {at_ : Int} {i j : Nat} (h : DlG key ys at_ i j zs) (hj : j < ys.length) (hp : delP key at_ ys[j] = true) : DlG key ys at_ i (j + 1) zs := by
  have e : ownG key at_ (ys.take (j + 1)) = ownG key at_ (ys.take j) := by rw [ownG_step key at_ ys j hj, if_pos hp]
  exact ⟨h.len, by rw [e]; exact h.cnt, by rw [e]; exact h.lo, fun t ht => h.hi t (by omega)⟩
theorem DlG.keep {key : ByteArray} {ys zs : List Gf} {at_ : Int} {i j : Nat} (h : DlG key ys at_ i j zs) (hj : j < ys.length) (hp : delP key at_ ys[j] = false) (hij : i < j) : DlG key ys at_ (i + 1) (j + 1) (zs.set i ys[j]) := by
  have e : ownG key at_ (ys.take (j + 1)) = ownG key at_ (ys.take j) ++ [ys[j]] := by rw [ownG_step key at_ ys j hj, if_neg (by rw [hp]; decide)]
  refine ⟨by rw [List.length_set]; exact h.len, by rw [e, List.length_append, h.cnt]; rfl, fun t ht => ?_, fun t ht => ?_⟩
  · rw [e]
    by_cases hti : t = i
    · subst hti
      rw [List.getElem?_set_self (by rw [h.len]; omega), List.getElem?_append_right (by rw [h.cnt]; exact Nat.le_refl _), h.cnt, Nat.sub_self]
      rfl
    · rw [List.getElem?_set_ne (by omega), List.getElem?_append_left (by rw [h.cnt]; omega)]
      exact h.lo t (by omega)
  · rw [List.getElem?_set_ne (by omega)]
    exact h.hi t (by omega)
theorem ownG_all {key : ByteArray} {ys : List Gf} {at_ : Int} : ∀ k, k ≤ ys.length → (∀ i (_ : i < k) (hi : i < ys.length), delP key at_ ys[i] = false) → ownG key at_ (ys.take k) = ys.take k
  | 0, _, _ => rfl
  | k + 1, hk, h => by
    rw [ownG_step key at_ ys k hk, if_neg (by rw [h k (by omega) hk]; decide), ownG_all k (by omega) (fun i hi hi' => h i (by omega) hi'), ← List.take_succ_eq_append_getElem]
theorem gf_store {w0 W : World} {g n c i : Nat} {zs : List Gf} (y : Gf) (h : Sq w0 W [rOwn w0.heap.size 39 5 (.slice (some ⟨g, 0, none⟩) n c) n (zs.flatMap gfC)]) (hn : zs.length = n) (hi : i < n) :
    Sq w0 (((((W.setCell ⟨g, i * 5, none⟩ (.string y.id)).setCell ⟨g, i * 5 + 1, none⟩ (.int .i64 y.at_)).setCell ⟨g, i * 5 + 2, none⟩ (.int .i64 y.cents)).setCell ⟨g, i * 5 + 3, none⟩ (.string y.bid)).setCell ⟨g, i * 5 + 4, none⟩ (.string y.option)) [rOwn w0.heap.size 39 5 (.slice (some ⟨g, 0, none⟩) n c) n ((zs.set i y).flatMap gfC)] := by
  subst hn
  obtain ⟨y0, y1, y2, y3, y4⟩ := y
  have h1 := h.field gfC 5 gfC_len i 0 hi (by omega) (.string y0) ⟨y0, zs[i].at_, zs[i].cents, zs[i].bid, zs[i].option⟩ rfl
  have hg1 : ∀ hh : i < (zs.set i ⟨y0, zs[i].at_, zs[i].cents, zs[i].bid, zs[i].option⟩).length, (zs.set i ⟨y0, zs[i].at_, zs[i].cents, zs[i].bid, zs[i].option⟩)[i]'hh = ⟨y0, zs[i].at_, zs[i].cents, zs[i].bid, zs[i].option⟩ := fun hh => by rw [List.getElem_set_self]
  have h2 := h1.field gfC 5 gfC_len i 1 (by rw [List.length_set]; exact hi) (by omega) (.int .i64 y1) ⟨y0, y1, zs[i].cents, zs[i].bid, zs[i].option⟩ (by rw [hg1]; rfl)
  rw [List.set_set] at h2
  have hg2 : ∀ hh : i < (zs.set i ⟨y0, y1, zs[i].cents, zs[i].bid, zs[i].option⟩).length, (zs.set i ⟨y0, y1, zs[i].cents, zs[i].bid, zs[i].option⟩)[i]'hh = ⟨y0, y1, zs[i].cents, zs[i].bid, zs[i].option⟩ := fun hh => by rw [List.getElem_set_self]
  have h3 := h2.field gfC 5 gfC_len i 2 (by rw [List.length_set]; exact hi) (by omega) (.int .i64 y2) ⟨y0, y1, y2, zs[i].bid, zs[i].option⟩ (by rw [hg2]; rfl)
  rw [List.set_set] at h3
  have hg3 : ∀ hh : i < (zs.set i ⟨y0, y1, y2, zs[i].bid, zs[i].option⟩).length, (zs.set i ⟨y0, y1, y2, zs[i].bid, zs[i].option⟩)[i]'hh = ⟨y0, y1, y2, zs[i].bid, zs[i].option⟩ := fun hh => by rw [List.getElem_set_self]
  have h4 := h3.field gfC 5 gfC_len i 3 (by rw [List.length_set]; exact hi) (by omega) (.string y3) ⟨y0, y1, y2, y3, zs[i].option⟩ (by rw [hg3]; rfl)
  rw [List.set_set] at h4
  have hg4 : ∀ hh : i < (zs.set i ⟨y0, y1, y2, y3, zs[i].option⟩).length, (zs.set i ⟨y0, y1, y2, y3, zs[i].option⟩)[i]'hh = ⟨y0, y1, y2, y3, zs[i].option⟩ := fun hh => by rw [List.getElem_set_self]
  have h5 := h4.field gfC 5 gfC_len i 4 (by rw [List.length_set]; exact hi) (by omega) (.string y4) ⟨y0, y1, y2, y3, y4⟩ (by rw [hg4]; rfl)
  rw [List.set_set, List.length_set] at h5
  exact h5
/-- what DeleteFunc answers -/
def DelG (w0 : World) (b : Nat) (ys : List Gf) (e : Ending) (w' : World) : Prop :=
  ∃ A' m c', e = .returned (.slice A' m c') ∧ m = ys.length ∧ Rd w' b 5 (.slice A' m c') m (ys.flatMap gfC) ∧ Below w0.heap.size w0 w'

set_option maxRecDepth 100000 in
set_option maxHeartbeats 2000000 in
theorem deleteGf_calls (w0 : World) (b g5 g3 : Nat) (at_ : Int) (key bef : ByteArray) (go : Int) (oa : Option Addr) (m oc : Nat) (A : Option Addr) (n c : Nat) (ys : List Gf) (w : World) (hS : Sq w0 w [rOwn w0.heap.size 39 5 (.slice A n c) n (ys.flatMap gfC)]) (hg5 : Blk w0 g5 3 #[.int .i64 at_]) (hg3 : Blk w0 g3 53 #[.string key, .string bef, .int .i64 go, .slice oa m oc]) (hb : b < w0.heap.size) (hn : n ≤ 100000) (_hgb : b < w.heap.size) :
    Calls Tryz.prog 24 #[.slice A n c, .func (.func 63) #[] #[.pointer (some ⟨g5, 0, none⟩), .pointer (some ⟨g3, 0, none⟩)]] w (DelG w0 b (ownG key at_ ys)) := by
  have hown : w.ownsRow w0.heap.size 39 5 (.slice A n c) n (ys.flatMap gfC) := hS.head
  have hrd : Rd w b 5 (.slice A n c) n (ys.flatMap gfC) := Rd.own hown hb
  have hl : ys.length = n := (hrd.cells gfC_len (by omega)).1
  have HIX := Lib.hid (indexGf_calls b g5 g3 at_ key bef go oa m oc A n c ys w (hg5.below hS.below) (hg3.below hS.below) hrd)
  have hcap := own_cap hown
  obtain ⟨hc1, hc2⟩ := hcap
  unfold maxLen at hc2
  have HL := Lib.hid hl
  rcases ixOf_split (delP key at_) ys with ⟨h1, h2⟩ | ⟨k, hk, h1, h2, h3⟩
  · have hall : ownG key at_ ys = ys := by
      have := ownG_all (key := key) (ys := ys) (at_ := at_) ys.length (Nat.le_refl _) (fun i _ hi => h2 i hi)
      rwa [List.take_length] at this
    rw [h1] at HIX
    rw [hall]
    have HS := Lib.hid hS
    have HR := Lib.hid hrd
    clear h1 h2 hall hS hg5 hg3 hown hrd hl
    go_enter Tryz.func24, Tryz.ntmps24
    go_wp2_with fail
    refine HIX.out.mono ?_
    rintro e w1 ⟨rfl, hb1⟩
    go_wp2_with fail
    go_ret
    exact ⟨_, _, _, rfl, HL.out.symm, HR.out.below hb1, (HS.out.callB hb1).below⟩
  · rw [h1] at HIX
    have hkn : k < n := by rw [← hl]; exact hk
    obtain ⟨g, cap, hv, hg0, _⟩ := hown.form (by omega)
    injection hv with hA _ hcc
    subst hA hcc
    have hdl : DlG key ys at_ k (k + 1) ys := by
      have e1 : ownG key at_ (ys.take k) = ys.take k := ownG_all k (by omega) (fun i hi hi' => h3 i hi)
      have e2 : ownG key at_ (ys.take (k + 1)) = ys.take k := by rw [ownG_step key at_ ys k hk, if_pos h2, e1]
      refine ⟨rfl, by rw [e2, List.length_take]; omega, fun t ht => by rw [e2, List.getElem?_take_of_lt ht], fun _ _ => rfl⟩
    have HD := Lib.hid hdl
    have HCC : Hid (∀ W (y : Gf), Below w0.heap.size w0 W → Calls Tryz.prog 63 #[.agg #[.string y.id, .int .i64 y.at_, .int .i64 y.cents, .string y.bid, .string y.option], .pointer (some ⟨g5, 0, none⟩), .pointer (some ⟨g3, 0, none⟩)] W (BRet (.bool (delP key at_ y)) W)) := fun W y hW => won1_calls g5 g3 at_ key bef go oa m oc y W (hg5.below hW) (hg3.below hW)
    have HS := Lib.hid hS
    have hgg : w0.heap.size ≤ g := hg0
    clear h1 h2 h3 hS hg5 hg3 hown hrd hl hdl hk hg0
    go_enter Tryz.func24, Tryz.ntmps24
    go_wp2_with fail
    refine HIX.out.mono ?_
    rintro e w1 ⟨rfl, hb1⟩
    have hS1 := HS.out.callB hb1
    have hkk : ((k : Int) == -1) = false := by rw [beq_eq_false_iff_ne]; omega
    clear hb1
    go_wp2_with fail
    clear hkk
    go_loopw [5, 6] (fun s5 s6 wr => ∃ (i j : Nat) (zs : List Gf), s5 = .int .i64 i ∧ s6 = .int .i64 j ∧ i < j ∧ j ≤ n ∧ Hid (DlG key ys at_ i j zs) ∧ Sq w0 wr [rOwn w0.heap.size 39 5 (.slice (some ⟨g, 0, none⟩) n c) n (zs.flatMap gfC)]) (fun _ s6 _ => n - (intOf s6).toNat)
    case atStart => exact ⟨k, k + 1, ys, rfl, by go_num, by omega, by omega, HD, hS1⟩
    case round =>
      clear hS1 HD
      obtain ⟨i, j, zs, rfl, rfl, hij, hjn, HD, hS⟩ := hrel
      have hzl : zs.length = n := by rw [HD.out.len]; exact HL.out
      have hown : wr.ownsRow w0.heap.size 39 5 (.slice (some ⟨g, 0, none⟩) n c) n (zs.flatMap gfC) := hS.head
      have hgl : g < wr.heap.size := (hown.lt g rfl).2
      by_cases hlt : j < n
      · have hjr : j < ys.length := by rw [HL.out]; exact hlt
        have hjz : j < zs.length := by omega
        have hzy : zs[j] = ys[j] := by
          have := HD.out.hi j (Nat.le_refl _)
          rw [List.getElem?_eq_getElem hjz, List.getElem?_eq_getElem hjr] at this
          exact Option.some.inj this
        obtain ⟨y, hy⟩ : ∃ y, ys[j] = y := ⟨_, rfl⟩
        have c0 := own_cell gfC 5 gfC_len hown j 0 hjz hlt (by omega)
        have c1 := own_cell gfC 5 gfC_len hown j 1 hjz hlt (by omega)
        have c2 := own_cell gfC 5 gfC_len hown j 2 hjz hlt (by omega)
        have c3 := own_cell gfC 5 gfC_len hown j 3 hjz hlt (by omega)
        have c4 := own_cell gfC 5 gfC_len hown j 4 hjz hlt (by omega)
        rw [hzy, hy] at c0 c1 c2 c3 c4
        replace c0 : wr.cell? ⟨g, j * 5, none⟩ = some (.string y.id) := c0
        replace c1 : wr.cell? ⟨g, j * 5 + 1, none⟩ = some (.int .i64 y.at_) := c1
        replace c2 : wr.cell? ⟨g, j * 5 + 2, none⟩ = some (.int .i64 y.cents) := c2
        replace c3 : wr.cell? ⟨g, j * 5 + 3, none⟩ = some (.string y.bid) := c3
        replace c4 : wr.cell? ⟨g, j * 5 + 4, none⟩ = some (.string y.option) := c4
        have hSa := hS.add #[.string y.id, .int .i64 y.at_, .int .i64 y.cents, .string y.bid, .string y.option] 39
        have HK := Lib.hid (HCC.out _ y hSa.below)
        have hj0 : (0 : Int) ≤ (j : Int) := by omega
        have hj1 : (j : Int) < (n : Int) := by omega
        have hi0 : (0 : Int) ≤ (i : Int) := by omega
        have hi1 : (i : Int) < (n : Int) := by omega
        have HY : Hid (ys[j] = y) := hy
        cases hp : delP key at_ y
        · have HD2 := Lib.hid (HD.out.keep hjr (by rw [hy]; exact hp) hij)
          rw [hp] at HK
          have hiz : i < zs.length := by omega
          clear hzy hown hS hp HD
          go_wp2_with fail
          refine HK.out.mono ?_
          rintro e w2 ⟨rfl, hb2⟩
          have hS2 := hSa.callB hb2
          have o2 : w2.ownsRow w0.heap.size 39 5 (.slice (some ⟨g, 0, none⟩) n c) n (zs.flatMap gfC) := hS2.nth 1 rfl
          have bx : Blk w2 wr.heap.size _ _ := hS2.nth 0 rfl
          have x0 := bx.cell 0
          have x1 := bx.cell 1
          have x2 := bx.cell 2
          have x3 := bx.cell 3
          have x4 := bx.cell 4
          have k0 : w2.cell? ⟨g, i * 5, none⟩ = some (.string zs[i].id) := own_cell gfC 5 gfC_len o2 i 0 hiz (by omega) (by omega)
          have k1 : w2.cell? ⟨g, i * 5 + 1, none⟩ = some (.int .i64 zs[i].at_) := own_cell gfC 5 gfC_len o2 i 1 hiz (by omega) (by omega)
          have k2 : w2.cell? ⟨g, i * 5 + 2, none⟩ = some (.int .i64 zs[i].cents) := own_cell gfC 5 gfC_len o2 i 2 hiz (by omega) (by omega)
          have k3 : w2.cell? ⟨g, i * 5 + 3, none⟩ = some (.string zs[i].bid) := own_cell gfC 5 gfC_len o2 i 3 hiz (by omega) (by omega)
          have k4 : w2.cell? ⟨g, i * 5 + 4, none⟩ = some (.string zs[i].option) := own_cell gfC 5 gfC_len o2 i 4 hiz (by omega) (by omega)
          have q3 : w2.frozen? ⟨g, i * 5 + 3, none⟩ = false := o2.frozenAt _
          have q4 : w2.frozen? ⟨g, i * 5 + 4, none⟩ = false := o2.frozenAt _
          have q0 : w2.frozen? ⟨g, i * 5, none⟩ = false := o2.frozenAt _
          have q1 : w2.frozen? ⟨g, i * 5 + 1, none⟩ = false := o2.frozenAt _
          have q2 : w2.frozen? ⟨g, i * 5 + 2, none⟩ = false := o2.frozenAt _
          have hS3 := gf_store y hS2.tail hzl (show i < n by omega)
          rw [hy] at HD2
          clear o2 bx hSa hb2 hy
          go_wp2_with fail
          go_roundw
          case rel => exact ⟨i + 1, j + 1, _, by go_num, by go_num, by omega, by omega, HD2, hS3⟩
          case measure => simp [intOf]; omega
        · have HD2 := Lib.hid (HD.out.skip hjr (by rw [hy]; exact hp))
          rw [hp] at HK
          clear hzy hy hown hS hp HD
          go_wp2_with fail
          refine HK.out.mono ?_
          rintro e w2 ⟨rfl, hb2⟩
          have hS2 := (hSa.callB hb2).tail
          go_wp2_with fail
          go_roundw
          case rel => exact ⟨i, j + 1, zs, rfl, by go_num, by omega, by omega, HD2, hS2⟩
          case measure => simp [intOf]; omega
      · obtain rfl : j = n := by omega
        obtain ⟨vs, hcl, hvl⟩ := run_clear_gf wr g (i * 5) (j - i) (c - i) (by omega) (fun t ht => by
          rw [hown.cellAt (i * 5 + t) (by omega)]
          have : i * 5 + t < (zs.flatMap gfC).length := by rw [flat_len gfC 5 gfC_len]; omega
          rw [List.getElem?_eq_getElem this]; rfl) (fun t ht => hown.frozenAt _)
        have hbf : Below w0.heap.size w0 (wr.setCells g (i * 5) vs) := below_setCells hgg vs _ _ hS.below
        have hT : ownG key at_ (ys.take j) = ownG key at_ ys := by rw [List.take_of_length_le (by rw [HL.out]; exact Nat.le_refl _)]
        have hlo := HD.out.lo
        have hcn := HD.out.cnt
        rw [hT] at hlo hcn
        have hrd : Rd (wr.setCells g (i * 5) vs) b 5 (.slice (some ⟨g, 0, none⟩) i c) i ((ownG key at_ ys).flatMap gfC) := by
          refine ⟨_, c, rfl, by omega, by unfold maxLen; omega, by rw [flat_len gfC 5 gfC_len, hcn], (fun e => by cases e), fun _ => ⟨g, 0, rfl, by omega, fun t u hu => ?_⟩⟩
          have htl : t < i * 5 := by
            have := (List.getElem?_eq_some_iff.1 hu).1
            rw [flat_len gfC 5 gfC_len, hcn] at this
            exact this
          rw [Nat.zero_add, World.cell?_setCells_out g vs (i * 5) wr ⟨g, t, none⟩ (fun _ _ => Or.inl htl)]
          obtain ⟨q, r, hr3, rfl⟩ : ∃ q r, r < 5 ∧ t = q * 5 + r := ⟨t / 5, t % 5, Nat.mod_lt _ (by omega), by omega⟩
          have hqi : q < i := by omega
          have hqz : q < zs.length := by omega
          have hqu : q < (ownG key at_ ys).length := by omega
          have hz := hlo q hqi
          rw [List.getElem?_eq_getElem hqz, List.getElem?_eq_getElem hqu] at hz
          rw [flat_get gfC 5 gfC_len _ q r hqu hr3] at hu
          rw [own_cell gfC 5 gfC_len hown q r hqz (by omega) hr3, Option.some.inj hz]
          exact hu
        have HF : Hid (DelG w0 b (ownG key at_ ys) (.returned (.slice (some ⟨g, 0, none⟩) i c)) (wr.setCells g (i * 5) vs)) := ⟨_, _, _, rfl, hcn.symm, hrd, hbf⟩
        have hic : (i : Int) ≤ (j : Int) := by omega
        have hicc : (i : Int) ≤ (c : Int) := by omega
        have hi0 : (0 : Int) ≤ (i : Int) := by omega
        clear hT hlo hcn hrd hbf hown hS hvl
        go_wp2_with fail
        go_ret
        exact HF.out
end Go.Proofs.YtohhbkodfidfkaaGreat
