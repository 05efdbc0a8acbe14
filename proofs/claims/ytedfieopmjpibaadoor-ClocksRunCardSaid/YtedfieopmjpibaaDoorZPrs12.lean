/-
  slices.Equal of ints; RefusedPresses and AttemptsOf by contracts: they answer as the program. (Printed by gen_prs12.py.)
-/
import Derived.Test.YtedfieopmjpibaaDoorZPrs11
namespace Go.Proofs.YtedfieopmjpibaaDoor
open Go Go.RowKit
attribute [local go_sem ↓] Go.wp_at_zero Go.wp_at_succ

set_option maxRecDepth 100000 in
theorem equalInt_calls (b : Nat) (A A2 : Option Addr) (n c c2 : Nat) (l : List Int) (w : World) (hr : Rd w b 1 (.slice A n c) n (l.map (Value.int .i64))) (hr2 : Rd w b 1 (.slice A2 n c2) n (l.map (Value.int .i64))) :
    Calls Tryd.prog 15 #[.slice A n c, .slice A2 n c2] w (QRet (.bool true) w) := by
  obtain ⟨A', c', e1, _, hcm, e4, _, e6⟩ := hr
  injection e1 with ea eb ec
  subst ea ec
  obtain ⟨A3, c3, f1, _, hcm2, _, _, f6⟩ := hr2
  injection f1 with fa fb fc
  subst fa fc
  unfold maxLen at hcm hcm2
  have hl : l.length = n := by simpa using e4
  have HL := Lib.hid hl
  have HC := Lib.hid e6
  have HC2 := Lib.hid f6
  have hnn : ((n : Int) != (n : Int)) = false := by simp
  clear e6 f6 e4 hl
  go_enter Tryd.func15, Tryd.ntmps15
  go_wp2_with fail
  go_loopw [13] (fun i wr => ∃ k nq : Nat, k ≤ n ∧ i = .int .i64 k ∧ wr = w.drewN nq) (fun i _ => n - (intOf i).toNat)
  case atStart => exact ⟨0, 0, Nat.zero_le _, rfl, rfl⟩
  case round =>
    obtain ⟨k, nq, hk, rfl, rfl⟩ := hrel
    by_cases hlt : k < n
    · have hkr : k < l.length := by rw [HL.out]; exact hlt
      obtain ⟨g, o, hA, _, hcs⟩ := HC.out (by omega)
      obtain ⟨g2, o2, hA2, _, hcs2⟩ := HC2.out (by omega)
      subst hA hA2
      have c0 := hcs k _ (by rw [List.getElem?_map, List.getElem?_eq_getElem hkr]; rfl)
      have x0 := hcs2 k _ (by rw [List.getElem?_map, List.getElem?_eq_getElem hkr]; rfl)
      have hk0 : (0 : Int) ≤ (k : Int) := by omega
      have hk1 : (k : Int) < (n : Int) := by omega
      clear hcs hcs2
      obtain ⟨z, hz⟩ : ∃ z, l[k] = z := ⟨_, rfl⟩
      rw [hz] at c0 x0
      clear hz
      go_wp2_with fail
      go_quiet (fail)
      go_wp2_with fail
      go_roundw
      case rel => exact ⟨k + 1, _, by omega, by go_num, rfl⟩
      case measure => simp [intOf]; omega
    · obtain rfl : k = n := by omega
      go_wp2_with fail
      go_ret
      exact ⟨rfl, nq, rfl⟩

/-- the reference behind all presses, and the program's clock, stand alike -/
theorem stop_end {l : List Pz} (hl : PzOk l) {K : Nat} (h : Stop l 345686400000 K) : K = l.length := by
  rcases Nat.lt_or_ge K l.length with hlt | hge
  · have h1 := h.end_ hlt
    have h2 := (hl.at_ _ (List.getElem_mem hlt)).2
    omega
  · exact Nat.le_antisymm h.le hge
theorem end_rel {q : Int} {l : List Pz} (h : segF q l = 0) : PRel q.toNat l l.length (endP_ q l) (plaQ q.toNat l l.length) := by
  obtain ⟨hq, hok, _⟩ := segF_ok h
  exact fol_rel (by omega) hok _ _ (Nat.le_refl _) (fun i hi _ => by have := (hok.at_ _ (List.getElem_mem hi)).2; omega)
theorem refL_eq {q : Int} {l : List Pz} (h : segF q l = 0) : (plaQ q.toNat l l.length).refused = refL q l := by
  unfold refL
  rw [if_pos h]
  exact (end_rel h).refused.symm
theorem begV_eq {q : Int} {l : List Pz} (h : segF q l = 0) : (plaQ q.toNat l l.length).begun = begV q l := by
  unfold begV
  rw [if_pos h]
  exact (end_rel h).begun.symm
theorem donV_eq {q : Int} {l : List Pz} (h : segF q l = 0) : donQ q.toNat (plaQ q.toNat l l.length) = donV q l := by
  unfold donV donQ
  rw [if_pos h, (end_rel h).done, (end_rel h).rel.phase]
def ReqS (q : Int) (l : List Pz) (w : World) (e : Ending) (w' : World) : Prop :=
  ∃ v, e = .returned v ∧ w'.ownsRow w.heap.size 3 1 v (refL q l).length ((refL q l).map (Value.int .i64)) ∧ Below w.heap.size w w'
set_option maxRecDepth 100000 in
theorem refusedPresses_calls (b : Nat) (q : Int) (A : Option Addr) (m c : Nat) (l : List Pz) (w : World) (hr : Rd w b 2 (.slice A m c) m (l.flatMap pzC)) (h0 : segF q l = 0) :
    Calls Tryd.prog 11 #[.int .i64 q, .slice A m c] w (ReqS q l w) := by
  have hl := (hr.cells pzC_len (by omega)).1
  obtain ⟨hq, hok, hlm⟩ := segF_ok h0
  obtain ⟨n, rfl⟩ : ∃ n : Nat, q = (n : Int) := ⟨q.toNat, by omega⟩
  have HP := Lib.hid (played_calls b n A m c l 345686400000 w hr (by omega) hok (by omega))
  have HR := Lib.hid (refL_eq h0)
  have HK : Hid (∀ K, Stop l 345686400000 K → K = l.length) := fun K h => stop_end hok h
  clear hr h0 hok hl
  go_enter Tryd.func11, Tryd.ntmps11
  go_wp2_with fail
  refine HP.out.mono ?_
  rintro e w1 ⟨K, g, A1, c1, A2, c2, A3, c3, hst, rfl, hS⟩
  obtain rfl := HK.out K hst
  have hO : w1.ownsRow w.heap.size 3 1 (.slice A3 (plaQ n l l.length).refused.length c3) (plaQ n l l.length).refused.length ((plaQ n l l.length).refused.map (Value.int .i64)) := by
    generalize plaQ n l l.length = Q at hS ⊢
    obtain ⟨qa, qr, qb, qd⟩ := Q
    cases qa with
    | none => exact hS.nth 0 rfl
    | some x => exact hS.nth 3 rfl
  have hB := hS.below
  clear hS hst
  go_wp2_with fail
  go_ret
  have HR2 : Hid ((plaQ n l l.length).refused = refL (n : Int) l) := HR.out
  rw [HR2.out] at hO ⊢
  exact ⟨_, rfl, hO, hB⟩
set_option maxRecDepth 100000 in
theorem attemptsOf_calls (b : Nat) (q : Int) (A : Option Addr) (m c : Nat) (l : List Pz) (w : World) (hr : Rd w b 2 (.slice A m c) m (l.flatMap pzC)) (h0 : segF q l = 0) :
    Calls Tryd.prog 12 #[.int .i64 q, .slice A m c] w (BRet (.tuple #[.int .i64 (begV q l), .int .i64 (donV q l)]) w) := by
  have hl := (hr.cells pzC_len (by omega)).1
  obtain ⟨hq, hok, hlm⟩ := segF_ok h0
  obtain ⟨n, rfl⟩ : ∃ n : Nat, q = (n : Int) := ⟨q.toNat, by omega⟩
  have HP := Lib.hid (played_calls b n A m c l 345686400000 w hr (by omega) hok (by omega))
  have HR : Hid ((plaQ n l l.length).begun = begV (n : Int) l) := begV_eq h0
  have HR2 : Hid (donQ n (plaQ n l l.length) = donV (n : Int) l) := donV_eq h0
  have HK : Hid (∀ K, Stop l 345686400000 K → K = l.length) := fun K h => stop_end hok h
  clear hr h0 hok hl
  go_enter Tryd.func12, Tryd.ntmps12
  go_wp2_with fail
  refine HP.out.mono ?_
  rintro e w1 ⟨K, g, A1, c1, A2, c2, A3, c3, hst, rfl, hS⟩
  obtain rfl := HK.out K hst
  have hB := hS.below
  clear hS hst
  rw [HR.out, HR2.out]
  go_wp2_with fail
  go_ret2
  exact ⟨rfl, hB⟩
end Go.Proofs.YtedfieopmjpibaaDoor
