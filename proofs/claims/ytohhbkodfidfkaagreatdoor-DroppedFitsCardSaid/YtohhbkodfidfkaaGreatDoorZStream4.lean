/-
  The stream of raw numbers, on: Order by a contract: numbers from 0 to n - 1.
-/
import Derived.Test.YtohhbkodfidfkaaGreatDoorZStream
import Derived.RegionTactic
import Derived.ChangeAlike
import Derived.BigRegion
import Derived.Outline
namespace Go.Proofs.YtohhbkodfidfkaaGreatDoor
open Go Go.RowKit

theorem info_int : (Tryz.prog.info? 3).map (fun i => (i.zero, i.size, i.bytes)) = some (some (.int .i64 0), 1, 8) := by kernel_rfl

/-- numbers from 0 to n - 1 -/
def Nums (n : Int) (xs : List Value) : Prop := ∀ x ∈ xs, ∃ z : Int, x = .int .i64 z ∧ 0 ≤ z ∧ z < n
theorem Nums.snoc {n z : Int} {xs : List Value} (h : Nums n xs) (h0 : 0 ≤ z) (h1 : z < n) : Nums n (xs ++ [.int .i64 z]) := by
  intro x hx
  rcases List.mem_append.1 hx with hx | hx
  · exact h x hx
  · simp at hx; exact ⟨z, hx, h0, h1⟩
theorem Nums.set {n z : Int} {xs : List Value} (h : Nums n xs) (i : Nat) (h0 : 0 ≤ z) (h1 : z < n) : Nums n (xs.set i (.int .i64 z)) := by
  intro x hx
  rcases List.mem_or_eq_of_mem_set hx with hx | hx
  · exact h x hx
  · exact ⟨z, hx, h0, h1⟩

/-- a slice of numbers from 0 to n - 1, n of them, in new memory -/
def OrderS (n : Int) (b K base : Nat) (w : World) (e : Ending) (w' : World) : Prop :=
  ∃ (v : Value) (xs : List Value), e = .returned v ∧ w'.ownsRow base 3 1 v n.toNat xs ∧ Nums n xs ∧ Strm w' b K ∧ Bx w.heap.size b w w'

theorem order_calls (b K : Nat) (n : Nat) (w : World) (h0 : n ≤ 1000) (hs : Strm w b K) (hK : K ≤ 1000000) :
    Calls Tryz.prog 17 #[.pointer (some ⟨b, 0, none⟩), .int .i64 n] w (OrderS n b (K + n) w.heap.size w) := by
  obtain ⟨i0, hi, hz0, hz1, hz2⟩ := info_parts info_int
  have hblt := hs.lt
  go_enter Tryz.func17, Tryz.ntmps17
  go_wp2_with fail
  go_loopw [5, 10] (fun v i wr => ∃ (k : Nat) (xs : List Value), k ≤ n ∧ i = .int .i64 k ∧ wr.ownsRow w.heap.size 3 1 v k xs ∧ Nums n xs ∧ Strm wr b K ∧ Bx w.heap.size b w wr) (fun _ i _ => n - (intOf i).toNat)
  case atStart => exact ⟨0, [], Nat.zero_le _, rfl, World.ownsRow_nil _ _ _ _, (by intro x hx; cases hx), hs, Bx.refl _ _ _⟩
  case round =>
    obtain ⟨k, xs, hk, rfl, hown, hnum, hsr, hbr⟩ := hrel
    by_cases hlt : k < n
    · have hbz := hbr.size
      go_wp2_with (first
        | (at_builtin; refine wpList_append_own _ rfl _ _ 22 rfl w.heap.size 3 i0 (.int .i64 0) 1 8 Tryz.underlying22 hi hz0 hz1 hz2 rfl (by decide) _ _ _ rfl (hown.alloc _) ⟨wr.heap.size, 0, none⟩ 1 1 [.int .i64 k] rfl rfl (cell_one_new _ _ _) (by simp [Value.oneCell']) (by unfold maxLen; omega) (by omega) (by simp; omega) ?_; intro v' w1 hown' hgrow hnil))
      have hb1 : Bx w.heap.size b w w1 := (hbr.alloc (Nat.le_refl _) _).grown hgrow (Nat.le_refl _) (fun q hq => .inr (hown.lt q hq).1)
      have hs1 := (hsr.alloc _).grown hgrow (fun q hq => by have := (hown.lt q hq).1; omega)
      clear hown hgrow hnil
      go_wp2
      go_roundw
      case rel => exact ⟨k + 1, _, by omega, by go_num, hown', hnum.snoc (by omega) (by omega), hs1, hb1⟩
      case measure => simp [intOf]; omega
    · obtain rfl : k = n := by omega
      have hn2 : ((k : Int) - 1).toNat ≤ k := by omega
      go_wp2_with fail
      go_loopw [7] (fun i wr => ∃ (m : Int) (xs : List Value), -1 ≤ m ∧ m < k ∧ i = .int .i64 m ∧ wr.ownsRow w.heap.size 3 1 u5 k xs ∧ Nums k xs ∧ Strm wr b (K + (k - 1 - m.toNat)) ∧ Bx w.heap.size b w wr) (fun i _ => (intOf i).toNat)
      case atStart => exact ⟨_, xs, by omega, by omega, rfl, hown, hnum, hsr.more (Nat.le_add_right _ _), hbr⟩
      case round =>
        obtain ⟨m, ys, hm0, hm1, rfl, hown2, hnum2, hs2, hb2⟩ := hrel
        by_cases hm : 0 < m
        · go_wp2_with fail
          refine (next_calls b _ _ _ (by omega) (by omega) hs2 (by omega)).mono ?_
          rintro e w3 ⟨q, rfl, q1, q2, hs3, hb3⟩
          obtain ⟨m, rfl⟩ := Int.eq_ofNat_of_zero_le (show 0 ≤ m by omega)
          obtain ⟨q, rfl⟩ := Int.eq_ofNat_of_zero_le q1
          have hown3 := own_bx hown2 hb3 hblt
          obtain ⟨g, cap, hv, hg1, hg2⟩ := hown3.form (by omega)
          subst hv
          go_wp2_with fail
          have hl3 := hown3.1
          obtain ⟨z1, e1, p1, p2⟩ := hnum2 _ (List.getElem_mem (show m < ys.length by omega))
          obtain ⟨z2, e2, r1, r2⟩ := hnum2 _ (List.getElem_mem (show q < ys.length by omega))
          have c1 : w3.cell? ⟨g, m, none⟩ = some (.int .i64 z1) := by rw [hown3.cellAt m (by omega), List.getElem?_eq_getElem (by omega), e1]
          have c2 : w3.cell? ⟨g, q, none⟩ = some (.int .i64 z2) := by rw [hown3.cellAt q (by omega), List.getElem?_eq_getElem (by omega), e2]
          have k1 := hown3.frozenAt m
          have k2 := hown3.frozenAt q
          have S1 := hown3.stored m (.int .i64 z2)
          have S2 := S1.1.stored q (.int .i64 z1)
          have hN := (hnum2.set m r1 r2).set q p1 p2
          have hsS : Strm ((w3.setCell ⟨g, m, none⟩ (.int .i64 z2)).setCell ⟨g, q, none⟩ (.int .i64 z1)) b (K + (k - 1 - m) + 1) := (hs3.setCell (p := ⟨g, m, none⟩) (by simp; omega) _).setCell (p := ⟨g, q, none⟩) (by simp; omega) _
          have hbS : Bx w.heap.size b w ((w3.setCell ⟨g, m, none⟩ (.int .i64 z2)).setCell ⟨g, q, none⟩ (.int .i64 z1)) := ((hb2.call hb3 (Nat.le_refl _)).setCell (p := ⟨g, m, none⟩) (.inr hg1) _).setCell (p := ⟨g, q, none⟩) (.inr hg1) _
          obtain ⟨v', hv'⟩ := cell?_setCell_some (w := w3) (p := ⟨g, m, none⟩) (x := .int .i64 z2) (q := ⟨g, q, none⟩) (v := .int .i64 z2) c2
          have hm1' : (m : Int) < (k : Int) := hm1
          have hq1' : (q : Int) < (k : Int) := by omega
          clear hown2 hown3 S1 hs2 hs3 hb2 hb3 hnum2 hnum hown hsr hbr hs e1 e2
          go_region
          go_wp2
          go_roundw
          case rel => exact ⟨(m : Int) - 1, _, by omega, by omega, by go_num, own_drew S2.1, hN, (hsS.more (by omega)).drew, hbS.drew⟩
          case measure => simp [intOf]; omega
        · go_wp2_with fail
          go_ret
          exact ⟨_, ys, rfl, hown2, hnum2, hs2.more (by omega), hb2⟩
end Go.Proofs.YtohhbkodfidfkaaGreatDoor
