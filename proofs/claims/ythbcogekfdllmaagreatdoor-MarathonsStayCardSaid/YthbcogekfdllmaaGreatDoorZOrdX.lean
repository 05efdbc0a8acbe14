/-
  Order of the stream to the letter. (Turned out of XStream4 by a program.)
-/
import Derived.Test.YthbcogekfdllmaaGreatDoorZFlat
import Derived.Test.YthbcogekfdllmaaGreatDoorZStrX
namespace Go.Proofs.YthbcogekfdllmaaGreatDoor
open Go Go.RowKit

def ioV (k : Nat) : List Value := (List.range k).map (fun i : Nat => Value.int .i64 (i : Int))
theorem ioV_succ (k : Nat) : ioV (k + 1) = ioV k ++ [.int .i64 (k : Int)] := by unfold ioV; rw [List.range_succ, List.map_append]; rfl
def swpX (zs : ZsT) : Nat → Nat → List Value → List Value
  | 0, _, ys => ys
  | m + 1, p, ys => swpX zs m (p + 1) ((ys.set (m + 1) (ys[(nxX zs p ((m : Int) + 1 + 1)).toNat]?.getD (.int .i64 0))).set (nxX zs p ((m : Int) + 1 + 1)).toNat (ys[m + 1]?.getD (.int .i64 0)))
/-- the order of n that the stream draws -/
def ordV (zs : ZsT) (p n : Nat) : List Value := swpX zs (n - 1) p (ioV n)
theorem swpX_step {zs : ZsT} {m q : Nat} {P P2 : Nat} {ys : List Value} {z1 z2 : Value} (hm : 0 < m) (hml : m < ys.length) (hql : q < ys.length) (hP : P2 = P + 1) (hq : nxX zs P ((m : Int) + 1) = (q : Int)) (e1 : ys[m] = z1) (e2 : ys[q] = z2) :
    swpX zs m P ys = swpX zs (m - 1) P2 ((ys.set m z2).set q z1) := by
  obtain ⟨j, rfl⟩ : ∃ j, m = j + 1 := ⟨m - 1, by omega⟩
  have hq : nxX zs P ((j : Int) + 1 + 1) = (q : Int) := by rw [← hq]; rfl
  rw [swpX, hq, hP, Int.toNat_natCast, List.getElem?_eq_getElem hql, List.getElem?_eq_getElem hml, e1, e2]
  rfl
/-- the order, in new memory -/
def OrderX (zs : ZsT) (n b p base : Nat) (w : World) (e : Ending) (w' : World) : Prop :=
  ∃ v, e = .returned v ∧ w'.ownsRow base 3 1 v n (ordV zs p n) ∧ Nums n (ordV zs p n) ∧ StrmX w' b zs (p + (n - 1)) ∧ Bx w.heap.size b w w'
set_option maxRecDepth 100000 in
set_option maxHeartbeats 1000000 in
theorem orderX_calls (b p : Nat) (zs : ZsT) (n : Nat) (w : World) (h0 : n ≤ 1000) (hs : StrmX w b zs p) (hK : p ≤ 900000) :
    Calls Tryz.prog 62 #[.pointer (some ⟨b, 0, none⟩), .int .i64 n] w (OrderX zs n b p w.heap.size w) := by
  obtain ⟨i0, hi, hz0, hz1, hz2⟩ := info_parts info_int
  have hblt := hs.lt
  go_enter Tryz.func62, Tryz.ntmps62
  go_wp2_with fail
  go_loopw [5, 10] (fun v i wr => ∃ (k : Nat) (xs : List Value), k ≤ n ∧ i = .int .i64 k ∧ wr.ownsRow w.heap.size 3 1 v k xs ∧ Nums n xs ∧ Hid (xs = ioV k) ∧ StrmX wr b zs p ∧ Bx w.heap.size b w wr) (fun _ i _ => n - (intOf i).toNat)
  case atStart => exact ⟨0, [], Nat.zero_le _, rfl, World.ownsRow_nil _ _ _ _, (by intro x hx; cases hx), Lib.hid rfl, hs, Bx.refl _ _ _⟩
  case round =>
    obtain ⟨k, xs, hk, rfl, hown, hnum, HX, hsr, hbr⟩ := hrel
    by_cases hlt : k < n
    · have hbz := hbr.size
      go_wp2_with (first
        | (at_builtin; refine wpList_append_own _ rfl _ _ 22 rfl w.heap.size 3 i0 (.int .i64 0) 1 8 Tryz.underlying22 hi hz0 hz1 hz2 rfl (by decide) _ _ _ rfl (hown.alloc _) ⟨wr.heap.size, 0, none⟩ 1 1 [.int .i64 k] rfl rfl (cell_one_new _ _ _) (by simp [Value.oneCell']) (by unfold maxLen; omega) (by omega) (by simp; omega) ?_; intro v' w1 hown' hgrow hnil))
      have hb1 : Bx w.heap.size b w w1 := (hbr.alloc (Nat.le_refl _) _).grown hgrow (Nat.le_refl _) (fun q hq => .inr (hown.lt q hq).1)
      have hs1 := (hsr.alloc _).grown hgrow (fun q hq => by have := (hown.lt q hq).1; omega)
      clear hown hgrow hnil
      go_wp2
      go_roundw
      case rel => exact ⟨k + 1, _, by omega, by go_num, hown', hnum.snoc (by omega) (by omega), Lib.hid (by rw [HX.out]; exact (ioV_succ k).symm), hs1, hb1⟩
      case measure => simp [intOf]; omega
    · obtain rfl : k = n := by omega
      have hn2 : ((k : Int) - 1).toNat ≤ k := by omega
      go_wp2_with fail
      go_loopw [7] (fun i wr => ∃ (m : Int) (xs : List Value), -1 ≤ m ∧ m < k ∧ i = .int .i64 m ∧ wr.ownsRow w.heap.size 3 1 u5 k xs ∧ Nums k xs ∧ Hid (swpX zs m.toNat (p + (k - 1 - m.toNat)) xs = ordV zs p k) ∧ StrmX wr b zs (p + (k - 1 - m.toNat)) ∧ Bx w.heap.size b w wr) (fun i _ => (intOf i).toNat)
      case atStart => exact ⟨_, xs, by omega, by omega, rfl, hown, hnum, Lib.hid (by rw [HX.out, show ((k : Int) - 1).toNat = k - 1 by omega, show k - 1 - (k - 1) = 0 by omega, Nat.add_zero]; rfl), by rw [show k - 1 - ((k : Int) - 1).toNat = 0 by omega, Nat.add_zero]; exact hsr, hbr⟩
      case round =>
        obtain ⟨m, ys, hm0, hm1, rfl, hown2, hnum2, HW, hs2, hb2⟩ := hrel
        by_cases hm : 0 < m
        · go_wp2_with fail
          refine (nextX_calls b _ zs _ _ (by omega) (by omega) hs2 (by omega)).mono ?_
          rintro e w3 ⟨rfl, hs3, hb3⟩
          obtain ⟨m, rfl⟩ := Int.eq_ofNat_of_zero_le (show 0 ≤ m by omega)
          simp only [Int.toNat_natCast] at HW hs2 hs3 ⊢
          obtain ⟨q1, q2⟩ := nxX_bd zs (p + (k - 1 - m)) (n := (m : Int) + 1) (by omega)
          obtain ⟨q, hq⟩ : ∃ q, nxX zs (p + (k - 1 - m)) ((m : Int) + 1) = q := ⟨_, rfl⟩
          rw [hq] at q1 q2 ⊢
          obtain ⟨q, rfl⟩ := Int.eq_ofNat_of_zero_le q1
          have hown3 := own_bx hown2 hb3 hblt
          have HQ := Lib.hid hq
          clear hq
          obtain ⟨g, cap, hv, hg1, hg2⟩ := hown3.form (by omega)
          subst hv
          go_wp2_with fail
          have hl3 := hown3.1
          obtain ⟨z1, e1, p1, p2⟩ := hnum2 _ (List.getElem_mem (show m < ys.length by omega))
          obtain ⟨z2, e2, r1, r2⟩ := hnum2 _ (List.getElem_mem (show q < ys.length by omega))
          have c1 : w3.cell? ⟨g, m, none⟩ = some (.int .i64 z1) := by rw [hown3.cellAt m (by omega), List.getElem?_eq_getElem (by omega), e1]
          have c2 : w3.cell? ⟨g, q, none⟩ = some (.int .i64 z2) := by rw [hown3.cellAt q (by omega), List.getElem?_eq_getElem (by omega), e2]
          have k1 := hown3.frozenAt m
          have k2 := hown3.frozenAt q
          have S1 := hown3.stored m (.int .i64 z2)
          have S2 := S1.1.stored q (.int .i64 z1)
          have hN := (hnum2.set m r1 r2).set q p1 p2
          have HW2 : Hid (swpX zs (m - 1) (p + (k - 1 - (m - 1))) ((ys.set m (.int .i64 z2)).set q (.int .i64 z1)) = ordV zs p k) := Lib.hid ((swpX_step (by omega) (by omega) (by omega) (by omega) HQ.out e1 e2).symm.trans HW.out)
          have hsS : StrmX ((w3.setCell ⟨g, m, none⟩ (.int .i64 z2)).setCell ⟨g, q, none⟩ (.int .i64 z1)) b zs (p + (k - 1 - m) + 1) := (hs3.setCell (q := ⟨g, m, none⟩) (by simp; omega) _).setCell (q := ⟨g, q, none⟩) (by simp; omega) _
          have hbS : Bx w.heap.size b w ((w3.setCell ⟨g, m, none⟩ (.int .i64 z2)).setCell ⟨g, q, none⟩ (.int .i64 z1)) := ((hb2.call hb3 (Nat.le_refl _)).setCell (p := ⟨g, m, none⟩) (.inr hg1) _).setCell (p := ⟨g, q, none⟩) (.inr hg1) _
          obtain ⟨v', hv'⟩ := cell?_setCell_some (w := w3) (p := ⟨g, m, none⟩) (x := .int .i64 z2) (q := ⟨g, q, none⟩) (v := .int .i64 z2) c2
          have hm1' : (m : Int) < (k : Int) := hm1
          have hq1' : (q : Int) < (k : Int) := by omega
          clear hown2 hown3 S1 hs2 hs3 hb2 hb3 hnum2 hnum hown hsr hbr hs e1 e2
          go_region
          go_wp2
          go_roundw
          case rel => exact ⟨(m : Int) - 1, _, by omega, by omega, by go_num, own_drew S2.1, hN, by rw [show ((m : Int) - 1).toNat = m - 1 by omega]; exact HW2, by rw [show p + (k - 1 - ((m : Int) - 1).toNat) = p + (k - 1 - m) + 1 by omega]; exact hsS.below (below_drewN (Below.refl _ _) 1), hbS.drew⟩
          case measure => simp [intOf]; omega
        · go_wp2_with fail
          go_ret
          have h0m : m.toNat = 0 := by omega
          rw [h0m] at HW hs2
          exact ⟨_, rfl, by rw [← HW.out]; exact hown2, by rw [← HW.out]; exact hnum2, hs2, hb2⟩
end Go.Proofs.YthbcogekfdllmaaGreatDoor
