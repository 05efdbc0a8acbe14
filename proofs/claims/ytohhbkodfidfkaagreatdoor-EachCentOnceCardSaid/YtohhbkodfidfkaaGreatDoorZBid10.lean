/-
  slices.Clone, IndexFunc and DeleteFunc of gifts, with WonBy's closure. (Printed by gen_bid10.py.)
-/
import Derived.Test.YtohhbkodfidfkaaGreatDoorZBid4
import Derived.Test.YtohhbkodfidfkaaGreatDoorZLow
import Derived.Test.YtohhbkodfidfkaaGreatDoorZSlot4
import Derived.Deep.MidRow
import Derived.Deep.RegionHeld3
import Derived.RegionTactic
import Derived.ChangeAlike
import Derived.BigRegion
import Derived.Outline
import Derived.Test.YtohhbkodfidfkaaGreatDoorZBid1
import Derived.Deep.DeepCutAuto
namespace Go.Proofs.YtohhbkodfidfkaaGreatDoor
open Go Go.RowKit
attribute [local go_sem ↓] Go.wp_at_zero Go.wp_at_succ

theorem info_gf : (Tryz.prog.info? 61).map (fun i => (i.zero, i.size, i.bytes)) = some (some (.agg #[.string ⟨#[]⟩, .int .i64 0, .int .i64 0, .string ⟨#[]⟩, .string ⟨#[]⟩]), 5, 64) := by kernel_rfl
theorem gfC_one (ys : List Gf) : ∀ u ∈ ys.flatMap gfC, u.oneCell' = true := by
  intro u hu
  obtain ⟨y, _, hy⟩ := List.mem_flatMap.1 hu
  simp [gfC] at hy
  rcases hy with rfl | rfl | rfl | rfl | rfl <;> rfl
set_option maxRecDepth 100000 in
theorem cloneGf_calls (b : Nat) (A : Option Addr) (n c : Nat) (xs : List Value) (w : World) (hr : Rd w b 5 (.slice A n c) n xs) (h1 : ∀ u ∈ xs, u.oneCell' = true) (hn : n ≤ 100000) :
    Calls Tryz.prog 26 #[.slice A n c] w fun e w' => ∃ v, e = .returned v ∧ w'.ownsRow w.heap.size 61 5 v n xs ∧ Below w.heap.size w w' := by
  obtain ⟨i0, hi, hz0, hz1, hz2⟩ := info_parts info_gf
  have q29 : ∀ (w : World) (a : Option Addr) (n c n' c' : Nat), (binOp .eql 55 (.slice a n c) (.slice none n' c')).run Tryz.prog w = .ok (.bool a.isNone) w := fun w a n c n' c' => Lib.run_eql_slice_nil w _ _ a n c n' c' Tryz.underlying55
  obtain ⟨A', c', e1, e2, e3, e4, e5, e6⟩ := hr
  injection e1 with ea eb ec
  subst ea ec
  cases A with
  | none =>
    obtain ⟨rfl, rfl⟩ := e5 rfl
    have hx : xs = [] := List.eq_nil_of_length_eq_zero (by simpa using e4)
    subst hx
    clear e6
    go_enter Tryz.func26, Tryz.ntmps26
    go_wp2
    go_ret
    exact ⟨_, rfl, World.ownsRow_nil _ _ _ _, Below.refl _ _⟩
  | some a =>
    have hcells : ∀ j u, xs[j]? = some u → w.cell? (a.add j) = some u := by
      intro j u hu
      have hpos : 0 < n := by
        rcases Nat.eq_zero_or_pos n with h | h
        · subst h
          have hx : xs = [] := List.eq_nil_of_length_eq_zero (by simpa using e4)
          subst hx
          simp at hu
        · exact h
      obtain ⟨g, o, f1, _, f3⟩ := e6 hpos
      injection f1 with f1
      subst f1
      have hadd : (⟨g, o, none⟩ : Addr).add j = ⟨g, o + j, none⟩ := by unfold Addr.add; split <;> simp_all
      rw [hadd]
      exact f3 j u hu
    have hcells2 : ∀ ob : Obj, ∀ j u, xs[j]? = some u → (w.alloc ob).cell? (a.add j) = some u := fun ob j u hu =>
      (World.cell?_alloc_lt w ob (a.add j) (World.block_lt_of_cell? w _ (hcells j u hu))).trans (hcells j u hu)
    clear e6 hcells
    go_enter Tryz.func26, Tryz.ntmps26
    go_wp2_with (first
      | (at_builtin; refine wpList_append_own _ rfl _ _ 55 rfl w.heap.size 61 i0 (.agg #[.string ⟨#[]⟩, .int .i64 0, .int .i64 0, .string ⟨#[]⟩, .string ⟨#[]⟩]) 5 64 Tryz.underlying55 hi hz0 hz1 hz2 rfl (by decide) _ 0 [] rfl (World.ownsRow_lit (base := w.heap.size) w #[] 0 (Nat.le_refl _) (by decide) rfl) a n c xs rfl (by simpa using e4) (hcells2 _) h1 (by unfold maxLen; omega) (by omega) (by simp) ?_; intro v' w1 hown' hgrow hnil))
    go_ret
    refine ⟨_, rfl, by simpa using hown', ((Below.refl _ _).alloc (Nat.le_refl _) _).grown hgrow (by simp) (fun q hq => ?_)⟩
    have h2 : some w.heap.size = some q := hq
    injection h2 with h2
    omega



theorem run_clear_gf (w : World) (b o n c : Nat) (hn : 0 < n) (hc : ∀ j, j < n * 5 → (w.cell? ⟨b, o + j, none⟩).isSome = true) (hf : ∀ j, j < n * 5 → w.frozen? ⟨b, o + j, none⟩ = false) :
    ∃ vs : List Value, (∀ ty, (Builtin.clear_ #[55] ty #[.slice (some ⟨b, o, none⟩) n c]).run Tryz.prog w = .ok (.tuple #[]) (w.setCells b o vs)) ∧ vs.length = n * 5 := by
  have hv : ∀ w, (zeroValue 61).run Tryz.prog w = .ok (.agg #[.string ⟨#[]⟩, .int .i64 0, .int .i64 0, .string ⟨#[]⟩, .string ⟨#[]⟩]) w := fun w => by kernel_rfl
  obtain ⟨vs, hvs⟩ : ∃ vs, (Builtin.zeroCells #[.string ⟨#[]⟩, .int .i64 0, .int .i64 0, .string ⟨#[]⟩, .string ⟨#[]⟩] n).toList = vs := ⟨_, rfl⟩
  have hlen : vs.length = n * 5 := by rw [← hvs]; simp [Builtin.zeroCells]
  have h1 : ∀ v ∈ vs, v.oneCell' = true := by
    intro v hv
    rw [← hvs] at hv
    simp [Builtin.zeroCells] at hv
    obtain ⟨i, _, rfl⟩ := hv
    rcases (show i % 5 = 0 ∨ i % 5 = 1 ∨ i % 5 = 2 ∨ i % 5 = 3 ∨ i % 5 = 4 by omega) with h | h | h | h | h <;> simp [h] <;> rfl
  have hst := run_storeCells_cells (P := Tryz.prog) b o vs 0 w (by simpa [hlen] using hc) (by simpa [hlen] using hf) h1
  simp only [Nat.add_zero] at hst
  refine ⟨vs, fun ty => ?_, hlen⟩
  obtain ⟨m, rfl⟩ : ∃ m, n = m + 1 := ⟨n - 1, by omega⟩
  simp [Builtin.clear_, run_underlying Tryz.underlying55, hv, Value.cells, hvs, hst, Result.andThen]

/-- is a gift left out? -/
def delP (key : ByteArray) (at_ : Int) (x : Gf) : Bool := decide (at_ < x.at_) || !eqS x.bid key
theorem ownG_step (key : ByteArray) (at_ : Int) (ys : List Gf) (j : Nat) (hj : j < ys.length) : ownG key at_ (ys.take (j + 1)) = if delP key at_ ys[j] = true then ownG key at_ (ys.take j) else ownG key at_ (ys.take j) ++ [ys[j]] := by
  unfold ownG
  rw [List.take_succ_eq_append_getElem hj, List.filter_append]
  have : keepG key at_ ys[j] = !delP key at_ ys[j] := rfl
  cases h : delP key at_ ys[j]
  · rw [if_neg (by decide), List.filter_cons, this, h]
    rfl
  · rw [if_pos rfl, List.filter_cons, this, h]
    simp
/-- what is kept of the first j, at the head of the row; behind j the row is as it was -/
structure DlG (key : ByteArray) (ys : List Gf) (at_ : Int) (i j : Nat) (zs : List Gf) : Prop where
  len : zs.length = ys.length
  cnt : (ownG key at_ (ys.take j)).length = i
  lo : ∀ t, t < i → zs[t]? = (ownG key at_ (ys.take j))[t]?
  hi : ∀ t, j ≤ t → zs[t]? = ys[t]?
theorem DlG.skip {key : ByteArray} {ys zs : List Gf} {at_ : Int} {i j : Nat} (h : DlG key ys at_ i j zs) (hj : j < ys.length) (hp : delP key at_ ys[j] = true) : DlG key ys at_ i (j + 1) zs := by
  have e : ownG key at_ (ys.take (j + 1)) = ownG key at_ (ys.take j) := by rw [ownG_step key at_ ys j hj, if_pos hp]
  exact ⟨h.len, by rw [e]; exact h.cnt, by rw [e]; exact h.lo, fun t ht => h.hi t (by omega)⟩
theorem DlG.keep {key : ByteArray} {ys zs : List Gf} {at_ : Int} {i j : Nat} (h : DlG key ys at_ i j zs) (hj : j < ys.length) (hp : delP key at_ ys[j] = false) (hij : i < j) : DlG key ys at_ (i + 1) (j + 1) (zs.set i ys[j]) := by
  have e : ownG key at_ (ys.take (j + 1)) = ownG key at_ (ys.take j) ++ [ys[j]] := by rw [ownG_step key at_ ys j hj, if_neg (by rw [hp]; decide)]
  refine ⟨by rw [List.length_set]; exact h.len, by rw [e, List.length_append, h.cnt]; rfl, fun t ht => ?_, fun t ht => ?_⟩
  · rw [e]
    by_cases hti : t = i
    · subst hti
      rw [List.getElem?_set_self (by rw [h.len]; omega), List.getElem?_append_right (by rw [h.cnt]; exact Nat.le_refl _), h.cnt, Nat.sub_self]
      rfl
    · rw [List.getElem?_set_ne (by omega), List.getElem?_append_left (by rw [h.cnt]; omega)]
      exact h.lo t (by omega)
  · rw [List.getElem?_set_ne (by omega)]
    exact h.hi t (by omega)
theorem ownG_all {key : ByteArray} {ys : List Gf} {at_ : Int} : ∀ k, k ≤ ys.length → (∀ i (_ : i < k) (hi : i < ys.length), delP key at_ ys[i] = false) → ownG key at_ (ys.take k) = ys.take k
  | 0, _, _ => rfl
  | k + 1, hk, h => by
    rw [ownG_step key at_ ys k hk, if_neg (by rw [h k (by omega) hk]; decide), ownG_all k (by omega) (fun i hi hi' => h i (by omega) hi'), ← List.take_succ_eq_append_getElem]
theorem gf_store {w0 W : World} {g n c i : Nat} {zs : List Gf} (y : Gf) (h : Sq w0 W [rOwn w0.heap.size 61 5 (.slice (some ⟨g, 0, none⟩) n c) n (zs.flatMap gfC)]) (hn : zs.length = n) (hi : i < n) :
    Sq w0 (((((W.setCell ⟨g, i * 5, none⟩ (.string y.id)).setCell ⟨g, i * 5 + 1, none⟩ (.int .i64 y.at_)).setCell ⟨g, i * 5 + 2, none⟩ (.int .i64 y.cents)).setCell ⟨g, i * 5 + 3, none⟩ (.string y.bid)).setCell ⟨g, i * 5 + 4, none⟩ (.string y.option)) [rOwn w0.heap.size 61 5 (.slice (some ⟨g, 0, none⟩) n c) n ((zs.set i y).flatMap gfC)] := by
  subst hn
  obtain ⟨y0, y1, y2, y3, y4⟩ := y
  have h1 := h.field gfC 5 gfC_len i 0 hi (by omega) (.string y0) ⟨y0, zs[i].at_, zs[i].cents, zs[i].bid, zs[i].option⟩ rfl
  have hg1 : ∀ hh : i < (zs.set i ⟨y0, zs[i].at_, zs[i].cents, zs[i].bid, zs[i].option⟩).length, (zs.set i ⟨y0, zs[i].at_, zs[i].cents, zs[i].bid, zs[i].option⟩)[i]'hh = ⟨y0, zs[i].at_, zs[i].cents, zs[i].bid, zs[i].option⟩ := fun hh => by rw [List.getElem_set_self]
  have h2 := h1.field gfC 5 gfC_len i 1 (by rw [List.length_set]; exact hi) (by omega) (.int .i64 y1) ⟨y0, y1, zs[i].cents, zs[i].bid, zs[i].option⟩ (by rw [hg1]; rfl)
  rw [List.set_set] at h2
  have hg2 : ∀ hh : i < (zs.set i ⟨y0, y1, zs[i].cents, zs[i].bid, zs[i].option⟩).length, (zs.set i ⟨y0, y1, zs[i].cents, zs[i].bid, zs[i].option⟩)[i]'hh = ⟨y0, y1, zs[i].cents, zs[i].bid, zs[i].option⟩ := fun hh => by rw [List.getElem_set_self]
  have h3 := h2.field gfC 5 gfC_len i 2 (by rw [List.length_set]; exact hi) (by omega) (.int .i64 y2) ⟨y0, y1, y2, zs[i].bid, zs[i].option⟩ (by rw [hg2]; rfl)
  rw [List.set_set] at h3
  have hg3 : ∀ hh : i < (zs.set i ⟨y0, y1, y2, zs[i].bid, zs[i].option⟩).length, (zs.set i ⟨y0, y1, y2, zs[i].bid, zs[i].option⟩)[i]'hh = ⟨y0, y1, y2, zs[i].bid, zs[i].option⟩ := fun hh => by rw [List.getElem_set_self]
  have h4 := h3.field gfC 5 gfC_len i 3 (by rw [List.length_set]; exact hi) (by omega) (.string y3) ⟨y0, y1, y2, y3, zs[i].option⟩ (by rw [hg3]; rfl)
  rw [List.set_set] at h4
  have hg4 : ∀ hh : i < (zs.set i ⟨y0, y1, y2, y3, zs[i].option⟩).length, (zs.set i ⟨y0, y1, y2, y3, zs[i].option⟩)[i]'hh = ⟨y0, y1, y2, y3, zs[i].option⟩ := fun hh => by rw [List.getElem_set_self]
  have h5 := h4.field gfC 5 gfC_len i 4 (by rw [List.length_set]; exact hi) (by omega) (.string y4) ⟨y0, y1, y2, y3, y4⟩ (by rw [hg4]; rfl)
  rw [List.set_set, List.length_set] at h5
  exact h5
/-- what DeleteFunc answers -/
def DelG (w0 : World) (b : Nat) (ys : List Gf) (e : Ending) (w' : World) : Prop :=
  ∃ A' m c', e = .returned (.slice A' m c') ∧ m = ys.length ∧ Rd w' b 5 (.slice A' m c') m (ys.flatMap gfC) ∧ Below w0.heap.size w0 w'

end Go.Proofs.YtohhbkodfidfkaaGreatDoor
/-
  The reference's TotalOf, WonBy by contracts. (Printed by gen_bid11.py.)
-/
namespace Go.Proofs.YtohhbkodfidfkaaGreatDoor
open Go Go.RowKit
attribute [local go_sem ↓] Go.wp_at_zero Go.wp_at_succ

theorem totTo_bd {gs : List Gf} (hg : ∀ x ∈ gs, GfOk x) (at_ : Int) : ∀ k : Nat, -2199023255552 * (k : Int) ≤ totTo gs at_ k ∧ totTo gs at_ k ≤ 2199023255552 * (k : Int)
  | 0 => by simp [totTo]
  | k + 1 => by
    have ih := totTo_bd hg at_ k
    by_cases hk : k < gs.length
    · have hx := (hg _ (List.getElem_mem hk)).hc
      rw [totTo_step gs at_ k hk]
      split <;> omega
    · rw [totTo, List.getElem?_eq_none (by omega)]
      simp only
      omega
theorem optTo_bd {gs : List Gf} (hg : ∀ x ∈ gs, GfOk x) (o : ByteArray) : ∀ k : Nat, (-2199023255552 * (k : Int) ≤ (optTo gs o k).1 ∧ (optTo gs o k).1 ≤ 2199023255552 * (k : Int)) ∧ -1 ≤ (optTo gs o k).2 ∧ (optTo gs o k).2 ≤ (k : Int)
  | 0 => by simp [optTo]
  | k + 1 => by
    have ih := optTo_bd hg o k
    by_cases hk : k < gs.length
    · have hx := (hg _ (List.getElem_mem hk)).hc
      rw [optTo_step gs o k hk]
      split
      · simp only; omega
      · omega
    · rw [optTo, List.getElem?_eq_none (by omega)]
      simp only
      omega
theorem ownG_ok {key : ByteArray} {at_ : Int} {gs : List Gf} (h : ∀ x ∈ gs, GfOk x) : ∀ x ∈ ownG key at_ gs, GfOk x := fun x hx => h x (List.mem_filter.1 hx).1
theorem ownG_len (key : ByteArray) (at_ : Int) (gs : List Gf) : (ownG key at_ gs).length ≤ gs.length := List.length_filter_le _ _
end Go.Proofs.YtohhbkodfidfkaaGreatDoor
