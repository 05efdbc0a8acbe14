/-
  slices.Contains of ints by a contract. (Lines of XKeep2, for seats without presses.)
-/
import Derived.Test.YthbcogekfdllmaaGreatDoorZSlot1
import Derived.Test.YthbcogekfdllmaaGreatDoorZStp1
namespace Go.Proofs.YthbcogekfdllmaaGreatDoor
open Go Go.RowKit

def memI (hs : List Int) (x : Int) : Bool := hs.any (fun y => x == y)
theorem memI_dec (hs : List Int) (x : Int) : memI hs x = decide (x ∈ hs) := by
  unfold memI
  induction hs with
  | nil => simp
  | cons y hs ih => rw [List.any_cons, ih]; by_cases h : x = y <;> simp [h]
theorem ints_cells {w : World} {b n c : Nat} {A : Option Addr} {hs : List Int} (h : Rd w b 1 (.slice A n c) n (hs.map (Value.int .i64))) :
    hs.length = n ∧ n ≤ c ∧ c ≤ maxLen ∧ (0 < n → ∃ g o, A = some ⟨g, o, none⟩ ∧ g ≠ b ∧ ∀ i (hi : i < hs.length), w.cell? ⟨g, o + i, none⟩ = some (.int .i64 hs[i])) := by
  obtain ⟨A', c', e1, e2, e3, e4, e5, e6⟩ := h
  injection e1 with ea eb ec
  subst ea ec
  refine ⟨by simpa using e4, e2, e3, fun hn => ?_⟩
  obtain ⟨g, o, f1, f2, f3⟩ := e6 hn
  exact ⟨g, o, f1, f2, fun i hi => f3 i _ (by rw [List.getElem?_map, List.getElem?_eq_getElem hi]; rfl)⟩
set_option maxRecDepth 100000 in
theorem indexI_calls (b : Nat) (A : Option Addr) (n c : Nat) (hs : List Int) (x : Int) (w : World) (hr : Rd w b 1 (.slice A n c) n (hs.map (Value.int .i64))) :
    Calls Tryz.prog 113 #[.slice A n c, .int .i64 x] w (QRet (.int .i64 (ixOf (fun y => x == y) hs)) w) := by
  obtain ⟨hl, hnc, hcm, hcells⟩ := ints_cells hr
  unfold maxLen at hcm
  have HL := Lib.hid hl
  have HC := Lib.hid hcells
  clear hcells hl hr
  go_enter Tryz.func113, Tryz.ntmps113
  go_wp2_with fail
  go_loopw [8] (fun i wr => ∃ k : Nat, k ≤ n ∧ i = .int .i64 k ∧ Hid (∀ i (_ : i < k) (hi' : i < hs.length), (x == hs[i]) = false) ∧ wr = w) (fun i _ => n - (intOf i).toNat)
  case atStart => exact ⟨0, Nat.zero_le _, rfl, (fun i hi => absurd hi (by omega)), rfl⟩
  case round =>
    obtain ⟨k, hk, rfl, HF, rfl⟩ := hrel
    by_cases hlt : k < n
    · have hkr : k < hs.length := by rw [HL.out]; exact hlt
      obtain ⟨g, o, hA, _, hcs⟩ := HC.out (by omega)
      subst hA
      have c0 := hcs k hkr
      obtain ⟨s, hs'⟩ : ∃ s, hs[k] = s := ⟨_, rfl⟩
      rw [hs'] at c0
      clear hcs
      cases he : (x == s)
      · have HF2 : Hid (∀ i (_ : i < k + 1) (hi' : i < hs.length), (x == hs[i]) = false) := by
          intro i hi hi'
          by_cases hik : i = k
          · subst hik; rw [hs']; exact he
          · exact HF.out i (by omega) hi'
        clear hs'
        go_wp2_with fail
        go_roundw
        case rel => exact ⟨k + 1, by omega, by go_num, HF2, trivial⟩
        case measure => simp [intOf]; omega
      · have HR : Hid (ixOf (fun y => x == y) hs = k) := ixOf_at _ hs k hkr (fun i hi => HF.out i hi (by omega)) (by rw [hs']; exact he)
        clear hs'
        go_wp2_with fail
        go_ret
        exact ⟨ret_int HR.out.symm, 0, rfl⟩
    · obtain rfl : k = n := by omega
      have HR : Hid (ixOf (fun y => x == y) hs = -1) := ixOf_no _ hs (fun i hi => HF.out i (by rw [← HL.out]; exact hi) hi)
      go_wp2_with fail
      go_ret
      exact ⟨ret_int HR.out.symm, 0, rfl⟩
set_option maxRecDepth 100000 in
theorem containsI_calls (b : Nat) (A : Option Addr) (n c : Nat) (hs : List Int) (x : Int) (w : World) (hr : Rd w b 1 (.slice A n c) n (hs.map (Value.int .i64))) :
    Calls Tryz.prog 50 #[.slice A n c, .int .i64 x] w (QRet (.bool (memI hs x)) w) := by
  have HM := Lib.hid (ixOf_mem (fun y => x == y) hs)
  go_enter Tryz.func50, Tryz.ntmps50
  go_wp2_with fail
  refine (indexI_calls b A n c hs x _ hr).mono ?_
  rintro e w1 ⟨rfl, nq, rfl⟩
  go_wp2_with fail
  go_ret
  exact ⟨ret_bool HM.out, nq, rfl⟩

end Go.Proofs.YthbcogekfdllmaaGreatDoor
/-
  A list of steps without some of them, by a contract.
-/
namespace Go.Proofs.YthbcogekfdllmaaGreatDoor
open Go Go.RowKit
attribute [local go_sem ↓] Go.wp_at_zero Go.wp_at_succ

theorem flat_stR (l : List Stp) (p : Stp) : (l ++ [p]).flatMap stC = l.flatMap stC ++ stC p := flat_snoc _ _ _
/-- the first k steps without those with some numbers -/
def wthS (l : List Stp) (r : List Int) : Nat → List Stp
  | 0 => []
  | k + 1 => match l[k]? with
    | none => wthS l r k
    | some p => if memI r k = true then wthS l r k else wthS l r k ++ [p]
theorem wthS_step (l : List Stp) (r : List Int) (k : Nat) (hk : k < l.length) : wthS l r (k + 1) = if memI r k = true then wthS l r k else wthS l r k ++ [l[k]] := by
  rw [wthS, List.getElem?_eq_getElem hk]
theorem wthS_len (l : List Stp) (r : List Int) : ∀ k, (wthS l r k).length ≤ k
  | 0 => Nat.le_refl _
  | k + 1 => by
    have := wthS_len l r k
    unfold wthS
    split
    · omega
    · split
      · omega
      · simp; omega
/-- steps in new memory -/
def WthS (K : List Stp) (w : World) (e : Ending) (w' : World) : Prop :=
  ∃ v, e = .returned v ∧ w'.ownsRow w.heap.size 34 3 v K.length (K.flatMap stC) ∧ Below w.heap.size w w'
set_option maxRecDepth 100000 in
set_option maxHeartbeats 1000000 in
theorem withoutS_calls (b : Nat) (A A2 : Option Addr) (m c m2 c2 : Nat) (l : List Stp) (r : List Int) (w : World) (hr : Rd w b 3 (.slice A m c) m (l.flatMap stC)) (hr2 : Rd w b 1 (.slice A2 m2 c2) m2 (r.map (Value.int .i64))) (hm : m ≤ 100000) :
    Calls Tryz.prog 9 #[.slice A m c, .slice A2 m2 c2] w (WthS (wthS l r l.length) w) := by
  obtain ⟨i0, hi, hi0, hi1, hi2⟩ := info_parts info_step
  obtain ⟨hlen, hnc, hcm, hcells⟩ := hr.cells stC_len (by omega)
  unfold maxLen at hcm
  have HL := Lib.hid hlen
  have HC := Lib.hid hcells
  have HR2 := Lib.hid hr2
  have hS0 := (Sq.start w).nil w.heap.size 34 3
  clear hcells hlen hr hr2
  go_enter Tryz.func9, Tryz.ntmps9
  go_wp2_with fail
  go_loopw [5, 10] (fun v i wr => ∃ k : Nat, k ≤ m ∧ i = .int .i64 k ∧ Sq w wr [rOwn w.heap.size 34 3 v (wthS l r k).length ((wthS l r k).flatMap stC)]) (fun _ i _ => m - (intOf i).toNat)
  case atStart => exact ⟨0, Nat.zero_le _, rfl, hS0⟩
  case round =>
    clear hS0
    obtain ⟨k, hk, rfl, hS⟩ := hrel
    by_cases hlt : k < m
    · have hkr : k < l.length := by rw [HL.out]; exact hlt
      obtain ⟨g, o, hA, _, hcs⟩ := HC.out (by omega)
      subst hA
      have hst := wthS_step l r k hkr
      have hwl := wthS_len l r k
      have x0 := below_cell hS.below (hcs k hkr 0 (by omega))
      have x1 := below_cell hS.below (hcs k hkr 1 (by omega))
      have x2 := below_cell hS.below (hcs k hkr 2 (by omega))
      obtain ⟨p, hp⟩ : ∃ p, l[k] = p := ⟨_, rfl⟩
      rw [hp] at hst x0 x1 x2
      obtain ⟨t, kd, who⟩ := p
      replace x0 : wr.cell? ⟨g, o + k * 3, none⟩ = some (.int .i64 t) := x0
      replace x1 : wr.cell? ⟨g, o + k * 3 + 1, none⟩ = some (.int .i64 kd) := x1
      replace x2 : wr.cell? ⟨g, o + k * 3 + 2, none⟩ = some (.string who) := x2
      have hz := hS.size
      obtain ⟨K, hK⟩ : ∃ K, wthS l r k = K := ⟨_, rfl⟩
      obtain ⟨K2, hK2⟩ : ∃ K2, wthS l r (k + 1) = K2 := ⟨_, rfl⟩
      rw [hK, hK2] at hst
      rw [hK] at hS hwl
      have HK2 := Lib.hid hK2
      have hSa := (hS.add #[.int .i64 t, .int .i64 kd, .string who] 34)
      have HCT := Lib.hid (containsI_calls b A2 m2 c2 r (k : Int) _ (HR2.out.below hSa.below))
      have hy := Blk.three (show Blk (wr.alloc (.cells #[.int .i64 t, .int .i64 kd, .string who] 34)) wr.heap.size 34 #[.int .i64 t, .int .i64 kd, .string who] from hSa.nth 0 rfl)
      obtain ⟨B, hB⟩ : ∃ B, memI r k = B := ⟨_, rfl⟩
      rw [hB] at hst HCT
      clear hcs hp hK hK2 hB hS hy
      go_wp2_with fail
      refine HCT.out.mono ?_
      rintro e w2 ⟨rfl, nq, rfl⟩
      have hS2 := (hSa.drewN nq).front 1 rfl rfl
      obtain ⟨W2, hW2⟩ : ∃ W2, W2 = (wr.alloc (.cells #[.int .i64 t, .int .i64 kd, .string who] 34)).drewN nq := ⟨_, rfl⟩
      rw [← hW2] at hS2 ⊢
      obtain ⟨y0, y1, y2, _, _, _⟩ := Blk.three (show Blk W2 wr.heap.size 34 #[.int .i64 t, .int .i64 kd, .string who] from hS2.nth 1 rfl)
      clear hW2 hSa HCT x0 x1 x2
      cases B
      · rw [if_neg (by decide)] at hst
        have HST : Hid (wthS l r (k + 1) = K ++ [(⟨t, kd, who⟩ : Stp)]) := HK2.out.trans hst
        have HO := hS2.head
        have hz2 := hS2.size
        clear hst
        go_wp2_with (first
          | (at_builtin; refine wpList_append_own_at _ rfl _ _ 26 rfl w.heap.size 34 i0 (.agg #[.int .i64 0, .int .i64 0, .string ⟨#[]⟩]) 3 32 Tryz.underlying26 hi hi0 hi1 hi2 rfl (by decide) _ _ _ rfl (HO.alloc _) ⟨W2.heap.size, 0, none⟩ 1 1 [.int .i64 t, .int .i64 kd, .string who] rfl rfl (World.news_of_block (heap_alloc_new _ _)) (one3s rfl rfl rfl) (by unfold maxLen; omega) (by omega) (by simp; omega) ?_; intro v' w8 hown' hgrow _ hblk; have hS8 := (hS2.alloc _).append hown' hgrow hblk; clear hown' hgrow hblk HO))
        have hS9 : Sq w w8 [rOwn w.heap.size 34 3 v' (K ++ [(⟨t, kd, who⟩ : Stp)]).length ((K ++ [(⟨t, kd, who⟩ : Stp)]).flatMap stC)] := by
          rw [flat_stR, List.length_append]
          exact hS8.drop 1 rfl rfl
        go_roundw
        case rel => exact ⟨k + 1, by omega, by go_num, by rw [HST.out]; exact hS9⟩
        case measure => simp [intOf]; omega
      · rw [if_pos rfl] at hst
        have HST : Hid (wthS l r (k + 1) = K) := HK2.out.trans hst
        clear hst
        go_wp2_with fail
        go_roundw
        case rel => exact ⟨k + 1, by omega, by go_num, by rw [HST.out]; exact hS2.drop 1 rfl rfl⟩
        case measure => simp [intOf]; omega
    · obtain rfl : k = m := by omega
      have HLN := Lib.hid HL.out.symm
      go_wp2_with fail
      go_ret
      rw [HL.out]
      exact ⟨_, rfl, hS.head, hS.below⟩
end Go.Proofs.YthbcogekfdllmaaGreatDoor
