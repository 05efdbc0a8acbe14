/-
  marathon.expected by a contract. (Printed by gen_live8.py.)
-/
import Derived.Test.YtknojcomgccpeaaZLive1
import Derived.Test.YtknojcomgccpeaaZSlot5
import Derived.Deep.RegionHeld3
import Derived.Deep.DeepCutAuto
namespace Go.Proofs.Ytknojcomgccpeaa
open Go Go.RowKit
theorem run_maxI {P : Program} {w : World} (ts : Array TypeId) (t : TypeId) (k k' : IntKind) (x y : Int) : (Builtin.max_ ts t #[.int k x, .int k' y]).run P w = .ok (.int k (max x y)) w := by
  rw [run_max_int2, show (if y > x then y else x) = max x y by split <;> omega]
theorem run_minI {P : Program} {w : World} (ts : Array TypeId) (t : TypeId) (k k' : IntKind) (x y : Int) : (Builtin.min_ ts t #[.int k x, .int k' y]).run P w = .ok (.int k (min x y)) w := by
  rw [run_min_int2, show (if y < x then y else x) = min x y by split <;> omega]
attribute [local go_sem ↓] Go.wp_at_zero Go.wp_at_succ run_maxI run_minI

theorem ixOf_bd (xs : List Slt) (key : ByteArray) : -1 ≤ findL xs key ∧ findL xs key < xs.length := ixOf_ge _ xs
/-- what a show is, whatever memory is made behind it -/
theorem show_stays {w w1 W : World} {gs gm N c : Nat} {A : Option Addr} {S : ShowP} {b : Nat} (h : Sq w w1 (shL w.heap.size gs gm N A c S [])) (hb : b < w.heap.size) (hW : Below w1.heap.size w1 W) :
    W.cell? ⟨gs, 0, none⟩ = some (.map (some gm)) ∧ W.cell? ⟨gs, 1, none⟩ = some (.slice A S.order.length c) ∧ MapT W gm N S.st ∧ Rd W b 1 (.slice A S.order.length c) S.order.length (strsV S.order) := by
  have h1 : Blk w1 gs 118 #[.map (some gm), .slice A S.order.length c, .bool S.on] := h.nth 0 rfl
  have h2 : MapT w1 gm N S.st := h.nth 1 rfl
  have h3 : w1.ownsRow w.heap.size 9 1 (.slice A S.order.length c) S.order.length (strsV S.order) := h.nth 2 rfl
  exact ⟨(h1.below hW).cell 0, (h1.below hW).cell 1, h2.below hW, (Rd.own h3 hb).below hW⟩
/-- what is asked of what has begun -/
structure EvOk (xs : List Slt) (e : Ev) : Prop where
  key : e.1.size ≤ 1000
  fnd : 0 ≤ findL xs e.1
  at_ : -2199023255552 ≤ e.2.1 ∧ e.2.1 ≤ 2199023255552
  end_ : -2199023255552 ≤ e.2.2.2 ∧ e.2.2.2 ≤ 2199023255552
theorem ev_len (S : ShowP) : (evP S).length = S.order.length := by simp [evP]
theorem ev_get (S : ShowP) (i : Nat) (hi : i < S.order.length) : (evP S)[i]'(by rw [ev_len]; exact hi) = (S.order[i], (S.st S.order[i]).at_, (S.st S.order[i]).ended, if (S.st S.order[i]).ended = true then (S.st S.order[i]).end_ else 0) := by
  simp [evP]
theorem nxt_bd {xs : List Slt} {f at_ : Int} {evs : List Ev} (hs : Sml xs) (hev : ∀ e ∈ evs, EvOk xs e) (hf : -4398046511104 ≤ f ∧ f ≤ 4398046511104) (ha : -4398046511104 ≤ at_ ∧ at_ ≤ 4398046511104) : ∀ i, i ≤ evs.length → -8796093022208 ≤ nxtTo xs f at_ evs i ∧ nxtTo xs f at_ evs i ≤ 8796093022208
  | 0, _ => by show _ ≤ max f at_ ∧ max f at_ ≤ _; omega
  | i + 1, hi => by
    have hlt : i < evs.length := by omega
    rw [nxtTo_step xs f at_ evs i hlt]
    have he := hev _ (List.getElem_mem hlt)
    have hb := ixOf_bd xs evs[i].1
    obtain ⟨q, hq⟩ : ∃ q : Nat, findL xs evs[i].1 = q := ⟨(findL xs evs[i].1).toNat, by have := he.fnd; omega⟩
    have hql : q < xs.length := by omega
    rw [bplL_at xs at_ evs[i] q hq hql]
    have hx := hs _ (List.getElem_mem hql)
    have h1 := he.at_
    have h2 := he.end_
    unfold bplX
    split
    · simp only; omega
    · simp only; omega
theorem rst_bd {xs : List Slt} {sk : ByteArray → Bool} {nx : Int} (hs : Sml xs) (hx : -8796093022208 ≤ nx ∧ nx ≤ 8796093022208) : ∀ k : Nat, -8796093022208 * ((k : Int) + 1) ≤ (rstTo sk nx xs k).2 ∧ (rstTo sk nx xs k).2 ≤ 8796093022208 * ((k : Int) + 1)
  | 0 => by show _ ≤ nx ∧ nx ≤ _; omega
  | k + 1 => by
    have ih := rst_bd (sk := sk) hs hx k
    by_cases hk : k < xs.length
    · have h := hs _ (List.getElem_mem hk)
      rw [rstTo_step sk nx xs k hk]
      split
      · omega
      · simp only; omega
    · rw [rstTo, List.getElem?_eq_none (by omega)]
      simp only
      omega

end Go.Proofs.Ytknojcomgccpeaa
