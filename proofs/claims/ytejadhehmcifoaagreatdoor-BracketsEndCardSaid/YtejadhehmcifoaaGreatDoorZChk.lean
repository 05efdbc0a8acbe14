/-
  slices.Chunk by twos, as an iterator: what the body of the loop turns is one block, Bo.
-/
import Derived.Test.YtejadhehmcifoaaGreatDoorZBrkPure
import Derived.RangeFuncBox
import Derived.RangeFuncNested
import Derived.RangeFuncBound
import Derived.RangeFuncCalls
import Derived.RangeFuncLeaves
import Derived.Shelf.Abstract
import Derived.Shelf.RegionOpen
import Derived.WalkKit
import Derived.OwnWalkIn
import Derived.TacticsInMore
import Derived.LoopNIn
import Derived.LoopIn
namespace Go.Proofs.YtejadhehmcifoaaGreatDoor
open Go Go.RowKit Go.Shelf
attribute [local go_sem] Oper.semAt_some

theorem bxK_t {n Bo : Nat} {A B C : World} (h : Bx n Bo A B) (k : Bx n Bo B C) : Bx n Bo A C := h.trans k
theorem bxK_b {n Bo : Nat} {w : World} (hn : n ≤ w.heap.size) (W : World) (l : Nat) (o o' : Obj) (hl : w.heap.size ≤ l) (h : W.heap[l]? = some o) (h1 : o.isCells = false) (h2 : o.isWalk = false) : Bx n Bo W (W.putObj l o') :=
  Bx.of_below (belowK_b hn W l o o' hl h h1 h2) Bo

theorem chk_min {P : Program} {w : World} (ts : Array TypeId) (t : TypeId) (k k' : IntKind) (y : Int) : (Builtin.min_ ts t #[.int k 2, .int k' y]).run P w = .ok (.int k (min 2 y)) w := by
  rw [run_min_int2, show (if y < 2 then y else 2) = min 2 y by split <;> omega]
attribute [local go_sem ↓ high] chk_min

set_option maxRecDepth 100000 in
set_option maxHeartbeats 4000000 in
theorem chunkI1_in (n : Nat) (hn : 1 ≤ n) (l Bs Bn n₀ Bo g o m N c : Nat) (hN : 2 * m = N) (_hgo : g ≠ Bo) (hs : Bs < n₀) (hso : Bs ≠ Bo) (hn' : Bn < n₀) (hno : Bn ≠ Bo) (hc : N ≤ c) (hcm : c ≤ 9223372036854775807)
    (J Jx : List (Fin m) → World → Prop) (hJd : ∀ pre W, J pre W → J pre W.drew)
    (hY : ∀ pre (x : Fin m) W, J pre W → pre.length < m → YieldAt Fence.wide (n - 1) Tryz.prog l #[.slice (some ⟨g, o + 2 * x.1, none⟩) 2 2] W fun e W' =>
      (e = .returned (.bool true) ∧ J (pre ++ [x]) W' ∧ Bx n₀ Bo W W') ∨ (e = .returned (.bool false) ∧ Jx (pre ++ [x]) W'))
    (W : World) (hBs : W.cell? ⟨Bs, 0, none⟩ = some (.slice (some ⟨g, o, none⟩) N c)) (hBn : W.cell? ⟨Bn, 0, none⟩ = some (.int .i64 2)) (h0 : J [] W) :
    CallsIn Fence.wide n Tryz.prog 43 #[.func (.yield l) #[] #[], .pointer (some ⟨Bs, 0, none⟩), .pointer (some ⟨Bn, 0, none⟩)] W fun e W' => (∃ v, e = .returned v) ∧
      ((∃ ys, ys = List.finRange m ∧ J ys W') ∨ (∃ pre, (∃ k, k ≤ m ∧ pre = (List.finRange m).take k) ∧ Jx pre W')) := by
  have HY := Lib.hid hY
  have HB := Lib.hid hBs
  have HC := Lib.hid hBn
  clear hY
  refine callsIn_of_wp Tryz.func43 rfl trivial ?_ rfl
  simp only [Tryz.ntmps43, List.size_toArray, List.length_cons, List.length_nil, Nat.reduceAdd, Nat.reduceSub, Array.replicate_succ, Array.replicate_zero, List.push_toArray, List.append_toArray, List.nil_append, List.cons_append]
  gi_wp2
  gi_loopw [4] (fun i wr => ∃ k k2 : Nat, k ≤ m ∧ 2 * k = k2 ∧ i = .int .i64 k2 ∧ J ((List.finRange m).take k) wr ∧ Bx n₀ Bo W wr)
    (fun i _ => N - (intOf i).toNat)
  case atStart => exact ⟨0, 0, Nat.zero_le _, rfl, rfl, h0, Bx.refl _ _ _⟩
  case round =>
    obtain ⟨k, k2, hk, hk2, rfl, hJs, hnx⟩ := hrel
    have cs : wr.cell? ⟨Bs, 0, none⟩ = some (.slice (some ⟨g, o, none⟩) N c) := (hnx.cell_ (p := ⟨Bs, 0, none⟩) hs hso).trans HB.out
    have cn : wr.cell? ⟨Bn, 0, none⟩ = some (.int .i64 2) := (hnx.cell_ (p := ⟨Bn, 0, none⟩) hn' hno).trans HC.out
    by_cases hlt : k < m
    · obtain ⟨fn, tmps, assign, body, hy, hR⟩ := HY.out _ ⟨k, hlt⟩ wr.drew (hJd _ _ hJs) (by rw [List.length_take, List.length_finRange]; omega)
      simp only at hy
      rw [hk2] at hy
      have hlt2 : k2 < N := by omega
      have hle2 : k2 + 2 ≤ N := by omega
      have hi0 : (0 : Int) ≤ (k2 : Int) := by omega
      have hi1 : (k2 : Int) < (N : Int) := by omega
      have hi2 : (k2 : Int) + 2 ≤ (N : Int) := by omega
      have hmn : min 2 (((N - k2 : Nat) : Int)) = 2 := by omega
      gi_wp2
      gi_big_region
      all_goals gi_wp2
      refine hR.mono ?_
      rintro e W3 (⟨rfl, hJ3, hk3⟩ | ⟨rfl, hJx3⟩)
      · have cn3 : W3.cell? ⟨Bn, 0, none⟩ = some (.int .i64 2) := (hk3.cell_ (p := ⟨Bn, 0, none⟩) hn' hno).trans cn
        gi_wp2
        go_roundw
        case rel => exact ⟨k + 1, k2 + 2, by omega, by omega, by go_num, by rw [List.take_succ_eq_append_getElem (by rw [List.length_finRange]; exact hlt), List.getElem_finRange]; exact hJ3, (hnx.drew).trans hk3⟩
        case measure => simp [intOf]; omega
      · gi_wp2
        refine bodyPost_ret (results_none rfl _ _ _) rfl ?_
        exact ⟨⟨_, rfl⟩, .inr ⟨_, ⟨k + 1, by omega, rfl⟩, by rw [List.take_succ_eq_append_getElem (by rw [List.length_finRange]; exact hlt), List.getElem_finRange]; exact hJx3⟩⟩
    · obtain rfl : k = m := by omega
      obtain rfl : k2 = N := by omega
      gi_wp2
      go_end0
      exact ⟨⟨_, rfl⟩, .inl ⟨_, by rw [List.take_of_length_le (by rw [List.length_finRange]; exact Nat.le_refl _)], hJs⟩⟩
theorem chunkI_stops (n : Nat) (hn : 1 ≤ n) (Bs Bn n₀ Bo g o m N c : Nat) (hN : 2 * m = N) (hgo : g ≠ Bo) (hs : Bs < n₀) (hso : Bs ≠ Bo) (hn' : Bn < n₀) (hno : Bn ≠ Bo) (hc : N ≤ c) (hcm : c ≤ 9223372036854775807) (w : World) (hw : n₀ ≤ w.heap.size)
    (hBs : w.cell? ⟨Bs, 0, none⟩ = some (.slice (some ⟨g, o, none⟩) N c)) (hBn : w.cell? ⟨Bn, 0, none⟩ = some (.int .i64 2)) :
    SeqStopsK Fence.wide n Tryz.prog 43 #[.pointer (some ⟨Bs, 0, none⟩), .pointer (some ⟨Bn, 0, none⟩)] (fun x : Fin m => #[Value.slice (some ⟨g, o + 2 * x.1, none⟩) 2 2]) (Bx n₀ Bo) (fun ys => ys = List.finRange m) (fun pre => ∃ k, k ≤ m ∧ pre = (List.finRange m).take k) m w := fun l J Jx W hW hJ _ hY h0 =>
  chunkI1_in n hn l Bs Bn n₀ Bo g o m N c hN hgo hs hso hn' hno hc hcm J Jx (fun _ _ h => hJ _ _ _ none h ⟨rfl, rfl, rfl, Nat.le_refl _, fun _ _ _ => rfl⟩ (fun r e => by cases e)) hY W
    ((hW.cell (p := ⟨Bs, 0, none⟩) (show Bs < w.heap.size by omega)).trans hBs) ((hW.cell (p := ⟨Bn, 0, none⟩) (show Bn < w.heap.size by omega)).trans hBn) h0
set_option maxHeartbeats 1000000 in
theorem chunkI_calls (A : Option Addr) (N c : Nat) (w : World) : Calls Tryz.prog 19 #[.slice A N c, .int .i64 2] w fun e w' =>
    e = .returned (.func (.func 43) #[] #[.pointer (some ⟨w.heap.size, 0, none⟩), .pointer (some ⟨w.heap.size + 1, 0, none⟩)]) ∧ w' = (w.alloc (.cells #[.slice A N c] 22)).alloc (.cells #[.int .i64 2] 3) := by
  go_enter Tryz.func19, Tryz.ntmps19
  go_wp2_with fail
  go_ret
  exact ⟨rfl, rfl⟩
-- BY PROGRAM out of the above (gen_chk.py)
set_option maxRecDepth 100000 in
set_option maxHeartbeats 4000000 in
theorem chunkS1_in (n : Nat) (hn : 1 ≤ n) (l Bs Bn n₀ Bo g o m N c : Nat) (hN : 2 * m = N) (_hgo : g ≠ Bo) (hs : Bs < n₀) (hso : Bs ≠ Bo) (hn' : Bn < n₀) (hno : Bn ≠ Bo) (hc : N ≤ c) (hcm : c ≤ 9223372036854775807)
    (J Jx : List (Fin m) → World → Prop) (hJd : ∀ pre W, J pre W → J pre W.drew)
    (hY : ∀ pre (x : Fin m) W, J pre W → pre.length < m → YieldAt Fence.wide (n - 1) Tryz.prog l #[.slice (some ⟨g, o + 2 * x.1, none⟩) 2 2] W fun e W' =>
      (e = .returned (.bool true) ∧ J (pre ++ [x]) W' ∧ Bx n₀ Bo W W') ∨ (e = .returned (.bool false) ∧ Jx (pre ++ [x]) W'))
    (W : World) (hBs : W.cell? ⟨Bs, 0, none⟩ = some (.slice (some ⟨g, o, none⟩) N c)) (hBn : W.cell? ⟨Bn, 0, none⟩ = some (.int .i64 2)) (h0 : J [] W) :
    CallsIn Fence.wide n Tryz.prog 44 #[.func (.yield l) #[] #[], .pointer (some ⟨Bs, 0, none⟩), .pointer (some ⟨Bn, 0, none⟩)] W fun e W' => (∃ v, e = .returned v) ∧
      ((∃ ys, ys = List.finRange m ∧ J ys W') ∨ (∃ pre, (∃ k, k ≤ m ∧ pre = (List.finRange m).take k) ∧ Jx pre W')) := by
  have HY := Lib.hid hY
  have HB := Lib.hid hBs
  have HC := Lib.hid hBn
  clear hY
  refine callsIn_of_wp Tryz.func44 rfl trivial ?_ rfl
  simp only [Tryz.ntmps44, List.size_toArray, List.length_cons, List.length_nil, Nat.reduceAdd, Nat.reduceSub, Array.replicate_succ, Array.replicate_zero, List.push_toArray, List.append_toArray, List.nil_append, List.cons_append]
  gi_wp2
  gi_loopw [4] (fun i wr => ∃ k k2 : Nat, k ≤ m ∧ 2 * k = k2 ∧ i = .int .i64 k2 ∧ J ((List.finRange m).take k) wr ∧ Bx n₀ Bo W wr)
    (fun i _ => N - (intOf i).toNat)
  case atStart => exact ⟨0, 0, Nat.zero_le _, rfl, rfl, h0, Bx.refl _ _ _⟩
  case round =>
    obtain ⟨k, k2, hk, hk2, rfl, hJs, hnx⟩ := hrel
    have cs : wr.cell? ⟨Bs, 0, none⟩ = some (.slice (some ⟨g, o, none⟩) N c) := (hnx.cell_ (p := ⟨Bs, 0, none⟩) hs hso).trans HB.out
    have cn : wr.cell? ⟨Bn, 0, none⟩ = some (.int .i64 2) := (hnx.cell_ (p := ⟨Bn, 0, none⟩) hn' hno).trans HC.out
    by_cases hlt : k < m
    · obtain ⟨fn, tmps, assign, body, hy, hR⟩ := HY.out _ ⟨k, hlt⟩ wr.drew (hJd _ _ hJs) (by rw [List.length_take, List.length_finRange]; omega)
      simp only at hy
      rw [hk2] at hy
      have hlt2 : k2 < N := by omega
      have hle2 : k2 + 2 ≤ N := by omega
      have hi0 : (0 : Int) ≤ (k2 : Int) := by omega
      have hi1 : (k2 : Int) < (N : Int) := by omega
      have hi2 : (k2 : Int) + 2 ≤ (N : Int) := by omega
      have hmn : min 2 (((N - k2 : Nat) : Int)) = 2 := by omega
      gi_wp2
      gi_big_region
      all_goals gi_wp2
      refine hR.mono ?_
      rintro e W3 (⟨rfl, hJ3, hk3⟩ | ⟨rfl, hJx3⟩)
      · have cn3 : W3.cell? ⟨Bn, 0, none⟩ = some (.int .i64 2) := (hk3.cell_ (p := ⟨Bn, 0, none⟩) hn' hno).trans cn
        gi_wp2
        go_roundw
        case rel => exact ⟨k + 1, k2 + 2, by omega, by omega, by go_num, by rw [List.take_succ_eq_append_getElem (by rw [List.length_finRange]; exact hlt), List.getElem_finRange]; exact hJ3, (hnx.drew).trans hk3⟩
        case measure => simp [intOf]; omega
      · gi_wp2
        refine bodyPost_ret (results_none rfl _ _ _) rfl ?_
        exact ⟨⟨_, rfl⟩, .inr ⟨_, ⟨k + 1, by omega, rfl⟩, by rw [List.take_succ_eq_append_getElem (by rw [List.length_finRange]; exact hlt), List.getElem_finRange]; exact hJx3⟩⟩
    · obtain rfl : k = m := by omega
      obtain rfl : k2 = N := by omega
      gi_wp2
      go_end0
      exact ⟨⟨_, rfl⟩, .inl ⟨_, by rw [List.take_of_length_le (by rw [List.length_finRange]; exact Nat.le_refl _)], hJs⟩⟩
theorem chunkS_stops (n : Nat) (hn : 1 ≤ n) (Bs Bn n₀ Bo g o m N c : Nat) (hN : 2 * m = N) (hgo : g ≠ Bo) (hs : Bs < n₀) (hso : Bs ≠ Bo) (hn' : Bn < n₀) (hno : Bn ≠ Bo) (hc : N ≤ c) (hcm : c ≤ 9223372036854775807) (w : World) (hw : n₀ ≤ w.heap.size)
    (hBs : w.cell? ⟨Bs, 0, none⟩ = some (.slice (some ⟨g, o, none⟩) N c)) (hBn : w.cell? ⟨Bn, 0, none⟩ = some (.int .i64 2)) :
    SeqStopsK Fence.wide n Tryz.prog 44 #[.pointer (some ⟨Bs, 0, none⟩), .pointer (some ⟨Bn, 0, none⟩)] (fun x : Fin m => #[Value.slice (some ⟨g, o + 2 * x.1, none⟩) 2 2]) (Bx n₀ Bo) (fun ys => ys = List.finRange m) (fun pre => ∃ k, k ≤ m ∧ pre = (List.finRange m).take k) m w := fun l J Jx W hW hJ _ hY h0 =>
  chunkS1_in n hn l Bs Bn n₀ Bo g o m N c hN hgo hs hso hn' hno hc hcm J Jx (fun _ _ h => hJ _ _ _ none h ⟨rfl, rfl, rfl, Nat.le_refl _, fun _ _ _ => rfl⟩ (fun r e => by cases e)) hY W
    ((hW.cell (p := ⟨Bs, 0, none⟩) (show Bs < w.heap.size by omega)).trans hBs) ((hW.cell (p := ⟨Bn, 0, none⟩) (show Bn < w.heap.size by omega)).trans hBn) h0
set_option maxHeartbeats 1000000 in
theorem chunkS_calls (A : Option Addr) (N c : Nat) (w : World) : Calls Tryz.prog 22 #[.slice A N c, .int .i64 2] w fun e w' =>
    e = .returned (.func (.func 44) #[] #[.pointer (some ⟨w.heap.size, 0, none⟩), .pointer (some ⟨w.heap.size + 1, 0, none⟩)]) ∧ w' = (w.alloc (.cells #[.slice A N c] 26)).alloc (.cells #[.int .i64 2] 3) := by
  go_enter Tryz.func22, Tryz.ntmps22
  go_wp2_with fail
  go_ret
  exact ⟨rfl, rfl⟩
end Go.Proofs.YtejadhehmcifoaaGreatDoor
