/-
  slices.IndexFunc and DeleteFunc of what is live, with ExpectedPlaces' closure.
-/
import Derived.Test.YtlfhommeomchoaaZLive4
namespace Go.Proofs.Ytlfhommeomchoaa
open Go Go.RowKit
attribute [local go_sem ↓] Go.wp_at_zero Go.wp_at_succ

set_option maxRecDepth 100000 in
theorem expl1_calls (g7 : Nat) (at_ : Int) (y : Lv) (w : World) (hg : Blk w g7 3 #[.int .i64 at_]) :
    Calls Try.prog 108 #[.agg #[.int .i64 y.1, .int .i64 y.2.1, .string y.2.2], .pointer (some ⟨g7, 0, none⟩)] w (BRet (.bool (decide (at_ < y.1))) w) := by
  have hb : Below w.heap.size w (w.alloc (.cells #[.int .i64 y.1, .int .i64 y.2.1, .string y.2.2] 129)) := (Below.refl _ _).alloc (Nat.le_refl _) _
  have g0 := hg.cell 0
  have gl := hg.lt
  obtain ⟨a, ha⟩ : ∃ a, y.1 = a := ⟨_, rfl⟩
  rw [ha] at hb ⊢
  clear ha hg
  by_cases h : at_ < a
  · go_enter Try.func108, Try.ntmps108
    go_wp2_with fail
    go_ret
    exact ⟨ret_bool (by simp [h]), hb⟩
  · go_enter Try.func108, Try.ntmps108
    go_wp2_with fail
    go_ret
    exact ⟨ret_bool (by simp [h]), hb⟩

set_option maxRecDepth 100000 in
theorem indexLv_calls (b g7 : Nat) (at_ : Int) (A2 : Option Addr) (m c2 : Nat) (hs : List Lv) (w : World) (hg : Blk w g7 3 #[.int .i64 at_]) (hr2 : Rd w b 3 (.slice A2 m c2) m (hs.flatMap lvC)) :
    Calls Try.prog 135 #[.slice A2 m c2, .func (.func 108) #[] #[.pointer (some ⟨g7, 0, none⟩)]] w (BRet (.int .i64 (ixOf (fun y : Lv => decide (at_ < y.1)) hs)) w) := by
  obtain ⟨hl, hnc, hcm, hcells⟩ := hr2.cells lvC_len (by omega)
  unfold maxLen at hcm
  obtain ⟨p, hpp⟩ : ∃ p : Lv → Bool, (fun y : Lv => decide (at_ < y.1)) = p := ⟨_, rfl⟩
  have HCC : Hid (∀ W x, Below w.heap.size w W → Calls Try.prog 108 #[.agg #[.int .i64 x.1, .int .i64 x.2.1, .string x.2.2], .pointer (some ⟨g7, 0, none⟩)] W (BRet (.bool (p x)) W)) := fun W x hW => by
    rw [← hpp]
    exact expl1_calls g7 at_ x W (hg.below hW)
  have HL := Lib.hid hl
  have HCL := Lib.hid hcells
  rw [hpp]
  clear hcells hl hr2 hg hpp
  go_enter Try.func135, Try.ntmps135
  go_wp2
  go_loopw [8] (fun i wr => ∃ k : Nat, k ≤ m ∧ i = .int .i64 k ∧ Hid (∀ i (_ : i < k) (hi' : i < hs.length), p hs[i] = false) ∧ Below w.heap.size w wr) (fun i _ => m - (intOf i).toNat)
  case atStart => exact ⟨0, Nat.zero_le _, rfl, (fun i hi => absurd hi (by omega)), Below.refl _ _⟩
  case round =>
    obtain ⟨k, hk, rfl, HF, hbr⟩ := hrel
    by_cases hlt : k < m
    · have hkr : k < hs.length := by rw [HL.out]; exact hlt
      obtain ⟨g, o, hA, _, hcs⟩ := HCL.out (by omega)
      subst hA
      have c0 := below_cell hbr (hcs k hkr 0 (by omega))
      have c1 := below_cell hbr (hcs k hkr 1 (by omega))
      have c2 := below_cell hbr (hcs k hkr 2 (by omega))
      obtain ⟨s, hs'⟩ : ∃ s, hs[k] = s := ⟨_, rfl⟩
      rw [hs'] at c0 c1 c2
      replace c0 : wr.cell? ⟨g, o + k * 3, none⟩ = some (.int .i64 s.1) := c0
      replace c1 : wr.cell? ⟨g, o + k * 3 + 1, none⟩ = some (.int .i64 s.2.1) := c1
      replace c2 : wr.cell? ⟨g, o + k * 3 + 2, none⟩ = some (.string s.2.2) := c2
      have HK := Lib.hid (HCC.out wr s hbr)
      clear hcs
      cases hp : p s
      · rw [hp] at HK
        have HF2 : Hid (∀ i (_ : i < k + 1) (hi' : i < hs.length), p hs[i] = false) := by
          intro i hi hi'
          by_cases hik : i = k
          · subst hik; rw [hs']; exact hp
          · exact HF.out i (by omega) hi'
        clear hp hs'
        go_wp2_with (go_at_call 108; refine HK.out.mono ?_; rintro e w2 ⟨rfl, hb2⟩)
        have hb3 := below_call hbr hb2 (Nat.le_refl _)
        go_roundw
        case rel => exact ⟨k + 1, by omega, by go_num, HF2, hb3⟩
        case measure => simp [intOf]; omega
      · rw [hp] at HK
        have HR : Hid (ixOf p hs = k) := ixOf_at _ hs k hkr (fun i hi => HF.out i hi (by omega)) (by rw [hs']; exact hp)
        clear hp hs'
        go_wp2_with (go_at_call 108; refine HK.out.mono ?_; rintro e w2 ⟨rfl, hb2⟩)
        have hb3 := below_call hbr hb2 (Nat.le_refl _)
        go_ret
        exact ⟨ret_int HR.out.symm, hb3⟩
    · obtain rfl : k = m := by omega
      have HR : Hid (ixOf p hs = -1) := ixOf_no _ hs (fun i hi => HF.out i (by rw [← HL.out]; exact hi) hi)
      go_wp2
      go_ret
      exact ⟨ret_int HR.out.symm, hbr⟩

/-- what is kept of the first j, at the head of the row; behind j the row is as it was -/
structure Dl (ys : List Lv) (at_ : Int) (i j : Nat) (zs : List Lv) : Prop where
  len : zs.length = ys.length
  cnt : (upTo (ys.take j) at_).length = i
  lo : ∀ t, t < i → zs[t]? = (upTo (ys.take j) at_)[t]?
  hi : ∀ t, j ≤ t → zs[t]? = ys[t]?
theorem Dl.skip {ys zs : List Lv} {at_ : Int} {i j : Nat} (h : Dl ys at_ i j zs) (hj : j < ys.length) (hp : at_ < ys[j].1) : Dl ys at_ i (j + 1) zs := by
  have e : upTo (ys.take (j + 1)) at_ = upTo (ys.take j) at_ := by rw [upTo_step ys at_ j hj, if_neg (by omega)]
  exact ⟨h.len, by rw [e]; exact h.cnt, by rw [e]; exact h.lo, fun t ht => h.hi t (by omega)⟩
theorem Dl.keep {ys zs : List Lv} {at_ : Int} {i j : Nat} (h : Dl ys at_ i j zs) (hj : j < ys.length) (hp : ¬ at_ < ys[j].1) (hij : i < j) : Dl ys at_ (i + 1) (j + 1) (zs.set i ys[j]) := by
  have e : upTo (ys.take (j + 1)) at_ = upTo (ys.take j) at_ ++ [ys[j]] := by rw [upTo_step ys at_ j hj, if_pos (by omega)]
  refine ⟨by rw [List.length_set]; exact h.len, by rw [e, List.length_append, h.cnt]; rfl, fun t ht => ?_, fun t ht => ?_⟩
  · rw [e]
    by_cases hti : t = i
    · subst hti
      rw [List.getElem?_set_self (by rw [h.len]; omega), List.getElem?_append_right (by rw [h.cnt]; exact Nat.le_refl _), h.cnt, Nat.sub_self]
      rfl
    · rw [List.getElem?_set_ne (by omega), List.getElem?_append_left (by rw [h.cnt]; omega)]
      exact h.lo t (by omega)
  · rw [List.getElem?_set_ne (by omega)]
    exact h.hi t (by omega)
theorem upTo_all {ys : List Lv} {at_ : Int} : ∀ k, k ≤ ys.length → (∀ i (_ : i < k) (hi : i < ys.length), ¬ at_ < ys[i].1) → upTo (ys.take k) at_ = ys.take k
  | 0, _, _ => rfl
  | k + 1, hk, h => by
    rw [upTo_step ys at_ k hk, if_pos (by have := h k (by omega) hk; omega), upTo_all k (by omega) (fun i hi hi' => h i (by omega) hi'), ← List.take_succ_eq_append_getElem]
theorem ixOf_split {α : Type} (p : α → Bool) : ∀ l : List α, (ixOf p l = -1 ∧ ∀ i (hi : i < l.length), p l[i] = false) ∨ (∃ k : Nat, ∃ hk : k < l.length, ixOf p l = k ∧ p l[k] = true ∧ ∀ i (hi : i < k), p (l[i]'(Nat.lt_trans hi hk)) = false)
  | [] => .inl ⟨rfl, by intro i hi; simp at hi⟩
  | a :: l => by
    cases hp : p a
    · rcases ixOf_split p l with ⟨h1, h2⟩ | ⟨k, hk, h1, h2, h3⟩
      · refine .inl ⟨ixOf_no p _ (fun i hi => ?_), fun i hi => ?_⟩
        all_goals
          cases i with
          | zero => exact hp
          | succ i => exact h2 i (by simpa using hi)
      · refine .inr ⟨k + 1, by simpa using hk, ?_, by simpa using h2, ?_⟩
        · refine ixOf_at p (a :: l) (k + 1) (by simpa using hk) (fun i hi => ?_) (by simpa using h2)
          cases i with
          | zero => exact hp
          | succ i => exact h3 i (by omega)
        · intro i hi
          cases i with
          | zero => exact hp
          | succ i => exact h3 i (by omega)
    · exact .inr ⟨0, by simp, ixOf_at p (a :: l) 0 (by simp) (by intro i hi; omega) hp, hp, by intro i hi; omega⟩
end Go.Proofs.Ytlfhommeomchoaa
