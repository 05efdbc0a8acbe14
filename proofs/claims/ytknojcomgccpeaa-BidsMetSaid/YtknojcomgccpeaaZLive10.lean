/-
  slices.Clone, IndexFunc and DeleteFunc of what is live. (Printed from XSlot4's text by hand.)
-/
import Derived.Test.YtknojcomgccpeaaZLive4
import Derived.Deep.MidRow
import Derived.Deep.RegionHeld3
namespace Go.Proofs.Ytknojcomgccpeaa
open Go Go.RowKit
attribute [local go_sem ↓] Go.wp_at_zero Go.wp_at_succ

theorem info_lv : (Try.prog.info? 103).map (fun i => (i.zero, i.size, i.bytes)) = some (some (.agg #[.int .i64 0, .int .i64 0, .string ⟨#[]⟩]), 3, 32) := by kernel_rfl
theorem lvC_one (ys : List Lv) : ∀ u ∈ ys.flatMap lvC, u.oneCell' = true := by
  intro u hu
  obtain ⟨y, _, hy⟩ := List.mem_flatMap.1 hu
  simp [lvC] at hy
  rcases hy with rfl | rfl | rfl <;> rfl
theorem run_clear_lv (w : World) (b o n c : Nat) (hn : 0 < n) (hc : ∀ j, j < n * 3 → (w.cell? ⟨b, o + j, none⟩).isSome = true) (hf : ∀ j, j < n * 3 → w.frozen? ⟨b, o + j, none⟩ = false) :
    ∃ vs : List Value, (∀ ty, (Builtin.clear_ #[47] ty #[.slice (some ⟨b, o, none⟩) n c]).run Try.prog w = .ok (.tuple #[]) (w.setCells b o vs)) ∧ vs.length = n * 3 := by
  have hv : ∀ w, (zeroValue 103).run Try.prog w = .ok (.agg #[.int .i64 0, .int .i64 0, .string ⟨#[]⟩]) w := fun w => by kernel_rfl
  obtain ⟨vs, hvs⟩ : ∃ vs, (Builtin.zeroCells #[.int .i64 0, .int .i64 0, .string ⟨#[]⟩] n).toList = vs := ⟨_, rfl⟩
  have hlen : vs.length = n * 3 := by rw [← hvs]; simp [Builtin.zeroCells]
  have h1 : ∀ v ∈ vs, v.oneCell' = true := by
    intro v hv
    rw [← hvs] at hv
    simp [Builtin.zeroCells] at hv
    obtain ⟨i, _, rfl⟩ := hv
    rcases (show i % 3 = 0 ∨ i % 3 = 1 ∨ i % 3 = 2 by omega) with h | h | h <;> simp [h] <;> rfl
  have hst := run_storeCells_cells (P := Try.prog) b o vs 0 w (by simpa [hlen] using hc) (by simpa [hlen] using hf) h1
  simp only [Nat.add_zero] at hst
  refine ⟨vs, fun ty => ?_, hlen⟩
  obtain ⟨m, rfl⟩ : ∃ m, n = m + 1 := ⟨n - 1, by omega⟩
  simp [Builtin.clear_, run_underlying Try.underlying47, hv, Value.cells, hvs, hst, Result.andThen]
end Go.Proofs.Ytknojcomgccpeaa
/-
  slices.IndexFunc and DeleteFunc of what is live, with ExpectedPlaces' closure.
-/
namespace Go.Proofs.Ytknojcomgccpeaa
open Go Go.RowKit
attribute [local go_sem ↓] Go.wp_at_zero Go.wp_at_succ

/-- what is kept of the first j, at the head of the row; behind j the row is as it was -/
structure Dl (ys : List Lv) (at_ : Int) (i j : Nat) (zs : List Lv) : Prop where
  len : zs.length = ys.length
  cnt : (upTo (ys.take j) at_).length = i
  lo : ∀ t, t < i → zs[t]? = (upTo (ys.take j) at_)[t]?
  hi : ∀ t, j ≤ t → zs[t]? = ys[t]?
theorem Dl.skip {ys zs : List Lv} {at_ : Int} {i j : Nat} (h : Dl ys at_ i j zs) (hj : j < ys.length) (hp : at_ < ys[j].1) : Dl ys at_ i (j + 1) zs := by
  have e : upTo (ys.take (j + 1)) at_ = upTo (ys.take j) at_ := by rw [upTo_step ys at_ j hj, if_neg (by omega)]
  exact ⟨h.len, by rw [e]; exact h.cnt, by rw [e]; exact h.lo, fun t ht => h.hi t (by omega)⟩
theorem Dl.keep {ys zs : List Lv} {at_ : Int} {i j : Nat} (h : Dl ys at_ i j zs) (hj : j < ys.length) (hp : ¬ at_ < ys[j].1) (hij : i < j) : Dl ys at_ (i + 1) (j + 1) (zs.set i ys[j]) := by
  have e : upTo (ys.take (j + 1)) at_ = upTo (ys.take j) at_ ++ [ys[j]] := by rw [upTo_step ys at_ j hj, if_pos (by omega)]
  refine ⟨by rw [List.length_set]; exact h.len, by rw [e, List.length_append, h.cnt]; rfl, fun t ht => ?_, fun t ht => ?_⟩
  · rw [e]
    by_cases hti : t = i
    · subst hti
      rw [List.getElem?_set_self (by rw [h.len]; omega), List.getElem?_append_right (by rw [h.cnt]; exact Nat.le_refl _), h.cnt, Nat.sub_self]
      rfl
    · rw [List.getElem?_set_ne (by omega), List.getElem?_append_left (by rw [h.cnt]; omega)]
      exact h.lo t (by omega)
  · rw [List.getElem?_set_ne (by omega)]
    exact h.hi t (by omega)
theorem upTo_all {ys : List Lv} {at_ : Int} : ∀ k, k ≤ ys.length → (∀ i (_ : i < k) (hi : i < ys.length), ¬ at_ < ys[i].1) → upTo (ys.take k) at_ = ys.take k
  | 0, _, _ => rfl
  | k + 1, hk, h => by
    rw [upTo_step ys at_ k hk, if_pos (by have := h k (by omega) hk; omega), upTo_all k (by omega) (fun i hi hi' => h i (by omega) hi'), ← List.take_succ_eq_append_getElem]
theorem ixOf_split {α : Type} (p : α → Bool) : ∀ l : List α, (ixOf p l = -1 ∧ ∀ i (hi : i < l.length), p l[i] = false) ∨ (∃ k : Nat, ∃ hk : k < l.length, ixOf p l = k ∧ p l[k] = true ∧ ∀ i (hi : i < k), p (l[i]'(Nat.lt_trans hi hk)) = false)
  | [] => .inl ⟨rfl, by intro i hi; simp at hi⟩
  | a :: l => by
    cases hp : p a
    · rcases ixOf_split p l with ⟨h1, h2⟩ | ⟨k, hk, h1, h2, h3⟩
      · refine .inl ⟨ixOf_no p _ (fun i hi => ?_), fun i hi => ?_⟩
        all_goals
          cases i with
          | zero => exact hp
          | succ i => exact h2 i (by simpa using hi)
      · refine .inr ⟨k + 1, by simpa using hk, ?_, by simpa using h2, ?_⟩
        · refine ixOf_at p (a :: l) (k + 1) (by simpa using hk) (fun i hi => ?_) (by simpa using h2)
          cases i with
          | zero => exact hp
          | succ i => exact h3 i (by omega)
        · intro i hi
          cases i with
          | zero => exact hp
          | succ i => exact h3 i (by omega)
    · exact .inr ⟨0, by simp, ixOf_at p (a :: l) 0 (by simp) (by intro i hi; omega) hp, hp, by intro i hi; omega⟩
end Go.Proofs.Ytknojcomgccpeaa
/-
  slices.DeleteFunc of what is live, with ExpectedPlaces' closure: what is left is upTo.
-/
namespace Go.Proofs.Ytknojcomgccpeaa
open Go Go.RowKit
attribute [local go_sem ↓] Go.wp_at_zero Go.wp_at_succ

theorem below_setCells {B g : Nat} {w : World} (hg : B ≤ g) : ∀ (vs : List Value) (o : Nat) (W : World), Below B w W → Below B w (W.setCells g o vs)
  | [], _, _, h => h
  | v :: r, o, _W, h => below_setCells hg r (o + 1) _ (h.setCell (p := ⟨g, o, none⟩) hg v)
theorem lv_store {w0 W : World} {g n c i : Nat} {zs : List Lv} (y : Lv) (h : Sq w0 W [rOwn w0.heap.size 103 3 (.slice (some ⟨g, 0, none⟩) n c) n (zs.flatMap lvC)]) (hn : zs.length = n) (hi : i < n) :
    Sq w0 (((W.setCell ⟨g, i * 3, none⟩ (.int .i64 y.1)).setCell ⟨g, i * 3 + 1, none⟩ (.int .i64 y.2.1)).setCell ⟨g, i * 3 + 2, none⟩ (.string y.2.2)) [rOwn w0.heap.size 103 3 (.slice (some ⟨g, 0, none⟩) n c) n ((zs.set i y).flatMap lvC)] := by
  subst hn
  obtain ⟨y0, y1, y2⟩ := y
  have h1 := h.field lvC 3 lvC_len i 0 hi (by omega) (.int .i64 y0) (y0, zs[i].2.1, zs[i].2.2) rfl
  have hg1 : ∀ hh : i < (zs.set i (y0, zs[i].2.1, zs[i].2.2)).length, (zs.set i (y0, zs[i].2.1, zs[i].2.2))[i]'hh = (y0, zs[i].2.1, zs[i].2.2) := fun hh => by rw [List.getElem_set_self]
  have h2 := h1.field lvC 3 lvC_len i 1 (by rw [List.length_set]; exact hi) (by omega) (.int .i64 y1) (y0, y1, zs[i].2.2) (by rw [hg1]; rfl)
  rw [List.set_set] at h2
  have hg2 : ∀ hh : i < (zs.set i (y0, y1, zs[i].2.2)).length, (zs.set i (y0, y1, zs[i].2.2))[i]'hh = (y0, y1, zs[i].2.2) := fun hh => by rw [List.getElem_set_self]
  have h3 := h2.field lvC 3 lvC_len i 2 (by rw [List.length_set]; exact hi) (by omega) (.string y2) (y0, y1, y2) (by rw [hg2]; rfl)
  rw [List.set_set, List.length_set] at h3
  exact h3
/-- what DeleteFunc answers -/
def DelS (w0 : World) (b : Nat) (ys : List Lv) (e : Ending) (w' : World) : Prop :=
  ∃ A' m c', e = .returned (.slice A' m c') ∧ m = ys.length ∧ Rd w' b 3 (.slice A' m c') m (ys.flatMap lvC) ∧ Below w0.heap.size w0 w'

end Go.Proofs.Ytknojcomgccpeaa
