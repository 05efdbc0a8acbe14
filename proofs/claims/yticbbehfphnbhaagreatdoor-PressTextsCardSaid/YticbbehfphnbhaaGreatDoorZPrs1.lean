/-
  What is wrong with presses: CheckPresses, fault and their twins of the reference by contracts. (Printed by gen_prs1.py.)
-/
import Derived.Test.YticbbehfphnbhaaGreatDoorZPrsPure
import Derived.Test.YticbbehfphnbhaaGreatDoorZSlot5
namespace Go.Proofs.YticbbehfphnbhaaGreatDoor
open Go Go.RowKit

def pBeh (pv : Option Int) (x : Int) : Bool := match pv with
  | none => false
  | some y => decide (x < y)
def prE (pv : Option Int) (p : Pz) : Int := if momB p.1 = true then (if outB p.2 1 9 = true then 4 else if pBeh pv p.1 = true then 7 else 0) else 1
def prG : Option Int → List Pz → Int
  | _, [] => 0
  | pv, p :: l => if prE pv p = 0 then prG (some p.1) l else prE pv p
/-- what is wrong with presses -/
def prF (l : List Pz) : Int := if 2000 < l.length then 2 else prG none l
def pPrev (l : List Pz) (k : Nat) : Option Int := match k with
  | 0 => none
  | k + 1 => (l[k]?).map fun p => p.1
theorem prG_step (l : List Pz) (k : Nat) (hk : k < l.length) : prG (pPrev l k) (l.drop k) = if prE (pPrev l k) l[k] = 0 then prG (pPrev l (k + 1)) (l.drop (k + 1)) else prE (pPrev l k) l[k] := by
  have hp : pPrev l (k + 1) = some l[k].1 := by simp [pPrev, List.getElem?_eq_getElem hk]
  rw [List.drop_eq_getElem_cons hk, prG, hp]
def segF (n : Int) (l : List Pz) : Int := if outB n 1 100 = true then 1 else prF l
theorem prE_ok {pv : Option Int} {p : Pz} (h : prE pv p = 0) : (0 ≤ p.1 ∧ p.1 ≤ 345686399999) ∧ (1 ≤ p.2 ∧ p.2 ≤ 9) ∧ pBeh pv p.1 = false := by
  unfold prE at h
  by_cases h1 : momB p.1 = true
  · rw [if_pos h1] at h
    by_cases h2 : outB p.2 1 9 = true
    · rw [if_pos h2] at h; exact absurd h (by decide)
    · rw [if_neg h2] at h
      by_cases h3 : pBeh pv p.1 = true
      · rw [if_pos h3] at h; exact absurd h (by decide)
      · refine ⟨?_, ?_, by simpa using h3⟩
        · unfold momB outB at h1; simp at h1; exact h1
        · unfold outB at h2; simp at h2; omega
  · rw [if_neg h1] at h; exact absurd h (by decide)
theorem prG_ok : ∀ (l : List Pz) (pv : Option Int), prG pv l = 0 → (∀ p ∈ l, (0 ≤ p.1 ∧ p.1 ≤ 345686399999) ∧ (1 ≤ p.2 ∧ p.2 ≤ 9)) ∧ (∀ i (h : i + 1 < l.length), l[i].1 ≤ l[i + 1].1) ∧ (∀ (h : 0 < l.length), pBeh pv l[0].1 = false)
  | [], _, _ => ⟨(by intro p hp; cases hp), fun i h => absurd h (by simp), fun h => absurd h (by simp)⟩
  | p :: l, pv, h => by
    rw [prG] at h
    by_cases h0 : prE pv p = 0
    · rw [if_pos h0] at h
      obtain ⟨a1, a2, a3⟩ := prE_ok h0
      obtain ⟨b1, b2, b3⟩ := prG_ok l (some p.1) h
      refine ⟨fun q hq => ?_, fun i hi => ?_, fun _ => a3⟩
      · rcases List.mem_cons.1 hq with rfl | hq
        · exact ⟨a1, a2⟩
        · exact b1 q hq
      · cases i with
        | zero =>
          have := b3 (by simp at hi; omega)
          unfold pBeh at this
          simp at this
          simpa using this
        | succ i => simpa using b2 i (by simp at hi; omega)
    · rw [if_neg h0] at h; exact absurd h h0
theorem prF_ok {l : List Pz} (h : prF l = 0) : PzOk l ∧ l.length ≤ 2000 := by
  unfold prF at h
  by_cases hl : 2000 < l.length
  · rw [if_pos hl] at h; exact absurd h (by decide)
  · rw [if_neg hl] at h
    obtain ⟨h1, h2, _⟩ := prG_ok l none h
    exact ⟨⟨fun p hp => (h1 p hp).1, fun p hp => (h1 p hp).2, h2⟩, by omega⟩

set_option maxRecDepth 100000 in
set_option maxHeartbeats 1000000 in
theorem checkPresses_calls (b : Nat) (A : Option Addr) (n c : Nat) (l : List Pz) (w : World) (hr : Rd w b 2 (.slice A n c) n (l.flatMap pzC)) :
    Calls Tryz.prog 41 #[.slice A n c] w (BRet (.int .i64 (prF l)) w) := by
  obtain ⟨hl, hnc, hcm, hcells⟩ := hr.cells pzC_len (by omega)
  unfold maxLen at hcm
  by_cases hbig : 2000 < n
  · have hres : prF l = 2 := by unfold prF; rw [if_pos (by omega)]
    rw [hres]
    have hbi : (2000 : Int) < (n : Int) := by omega
    clear hl hcells hres
    go_enter Tryz.func41, Tryz.ntmps41
    go_wp2_with fail
    go_ret
    exact ⟨rfl, Below.refl _ _⟩
  · have hres : prF l = prG none l := by unfold prF; rw [if_neg (by omega)]
    rw [hres]
    have hbi : ¬ (2000 : Int) < (n : Int) := by omega
    have HL := Lib.hid hl
    have HC := Lib.hid hcells
    have h0 : Hid (prG none l = prG (pPrev l 0) (l.drop 0)) := rfl
    clear hl hcells hres hr
    go_enter Tryz.func41, Tryz.ntmps41
    go_wp2_with fail
    go_loopw [10] (fun i wr => ∃ k : Nat, k ≤ n ∧ i = .int .i64 k ∧ Hid (prG none l = prG (pPrev l k) (l.drop k)) ∧ Below w.heap.size w wr) (fun i _ => n - (intOf i).toNat)
    case atStart => exact ⟨0, Nat.zero_le _, rfl, h0, Below.refl _ _⟩
    case round =>
      clear h0
      obtain ⟨k, hk, rfl, HG, hb⟩ := hrel
      by_cases hlt : k < n
      · have hkr : k < l.length := by rw [HL.out]; exact hlt
        obtain ⟨g, o, hA, _, hcs⟩ := HC.out (by omega)
        subst hA
        have hst := HG.out.trans (prG_step l k hkr)
        have c0 := below_cell hb (hcs k hkr 0 (by omega))
        have c1 := below_cell hb (hcs k hkr 1 (by omega))
        obtain ⟨⟨a, kd⟩, hx⟩ : ∃ x, l[k] = x := ⟨_, rfl⟩
        rw [hx] at c0 c1 hst
        simp only [Nat.add_zero] at c0
        replace c0 : wr.cell? ⟨g, o + k * 2, none⟩ = some (.int .i64 a) := c0
        replace c1 : wr.cell? ⟨g, o + k * 2 + 1, none⟩ = some (.int .i64 kd) := c1
        have hgl := World.block_lt_of_cell? wr _ c0
        simp only at hgl
        have hbn : Blk (wr.alloc (.cells #[.int .i64 a, .int .i64 kd] 39)) wr.heap.size _ #[.int .i64 a, .int .i64 kd] := Blk.new _ _ _
        obtain ⟨z0, z1, _, _⟩ := hbn.two
        have hb2 := hb.alloc hb.size (.cells #[.int .i64 a, .int .i64 kd] 39)
        have hk0 : (0 : Int) ≤ (k : Int) := by omega
        have hkn : (k : Int) < (n : Int) := by omega
        have HX := Lib.hid hx
        clear hx hbn HG
        unfold prE at hst
        simp only at hst
        cases hm : momB a
        · rw [hm] at hst
          simp only [Bool.false_eq_true, if_false, show ¬ (1 : Int) = 0 by omega] at hst
          have HST := Lib.hid hst
          have HM := Lib.hid hm
          clear hst hm hcs
          go_wp2_with fail
          refine (moment_calls _ _).mono ?_
          rintro e w1 ⟨rfl, rfl⟩
          rw [HM.out]
          go_wp2_with fail
          go_ret
          exact ⟨ret_int HST.out.symm, hb2⟩
        · rw [hm] at hst
          cases ho : outB kd 1 9
          · rw [ho] at hst
            have HM := Lib.hid hm
            have HO := Lib.hid ho
            cases k with
            | zero =>
              have hp0 : pBeh (pPrev l 0) a = false := rfl
              rw [Nat.zero_mul, Nat.add_zero] at c0 c1
              rw [hp0] at hst
              simp only [Bool.false_eq_true, if_false, if_true] at hst
              have HST := Lib.hid hst
              clear hst hm ho hcs hp0
              go_wp2_with fail
              refine (moment_calls _ _).mono ?_
              rintro e w1 ⟨rfl, rfl⟩
              rw [HM.out]
              go_wp2_with fail
              refine (out_calls _ _ _ _).mono ?_
              rintro e w1 ⟨rfl, rfl⟩
              rw [HO.out]
              go_wp2_with fail
              go_quiet (fail)
              go_wp2_with fail
              go_roundw
              case rel => exact ⟨1, by omega, rfl, HST, below_drewN hb2 _⟩
              case measure => simp [intOf]; omega
            | succ j =>
              have hjr : j < l.length := by omega
              have p0 := below_cell hb (hcs j hjr 0 (by omega))
              obtain ⟨⟨a2, kd2⟩, hx2⟩ : ∃ x, l[j] = x := ⟨_, rfl⟩
              rw [hx2] at p0
              simp only [Nat.add_zero] at p0
              replace p0 : wr.cell? ⟨g, o + j * 2, none⟩ = some (.int .i64 a2) := p0
              have hpb : pBeh (pPrev l (j + 1)) a = decide (a < a2) := by unfold pPrev pBeh; simp only [List.getElem?_eq_getElem hjr, hx2, Option.map_some]
              rw [hpb] at hst
              have hj1 : ((j : Int) + 1) - 1 = (j : Int) := by omega
              by_cases hlate : a < a2
              · simp only [hlate, decide_true, Bool.false_eq_true, if_false, if_true, show ¬ (7 : Int) = 0 by omega] at hst
                have HST := Lib.hid hst
                clear hst hm ho hcs hx2 hpb
                go_wp2_with fail
                refine (moment_calls _ _).mono ?_
                rintro e w1 ⟨rfl, rfl⟩
                rw [HM.out]
                go_wp2_with fail
                refine (out_calls _ _ _ _).mono ?_
                rintro e w1 ⟨rfl, rfl⟩
                rw [HO.out]
                go_wp2_with fail
                go_quiet (fail)
                go_wp2_with fail
                go_ret
                exact ⟨ret_int HST.out.symm, below_drewN hb2 _⟩
              · simp only [hlate, decide_false, Bool.false_eq_true, if_false, if_true] at hst
                have HST := Lib.hid hst
                clear hst hm ho hcs hx2 hpb
                go_wp2_with fail
                refine (moment_calls _ _).mono ?_
                rintro e w1 ⟨rfl, rfl⟩
                rw [HM.out]
                go_wp2_with fail
                refine (out_calls _ _ _ _).mono ?_
                rintro e w1 ⟨rfl, rfl⟩
                rw [HO.out]
                go_wp2_with fail
                go_quiet (fail)
                go_wp2_with fail
                go_roundw
                case rel => exact ⟨j + 1 + 1, by omega, by go_num, HST, below_drewN hb2 _⟩
                case measure => simp [intOf]; omega
          · rw [ho] at hst
            simp only [if_true, show ¬ (4 : Int) = 0 by omega, if_false] at hst
            have HST := Lib.hid hst
            have HM := Lib.hid hm
            have HO := Lib.hid ho
            clear hst hm ho hcs
            go_wp2_with fail
            refine (moment_calls _ _).mono ?_
            rintro e w1 ⟨rfl, rfl⟩
            rw [HM.out]
            go_wp2_with fail
            refine (out_calls _ _ _ _).mono ?_
            rintro e w1 ⟨rfl, rfl⟩
            rw [HO.out]
            go_wp2_with fail
            go_ret
            exact ⟨ret_int HST.out.symm, hb2⟩
      · obtain rfl : k = n := by omega
        have HS := Lib.hid (HG.out.trans (by rw [List.drop_of_length_le (by rw [HL.out]; exact Nat.le_refl _)]; rfl : _ = (0 : Int)))
        go_wp2_with fail
        go_ret
        exact ⟨ret_int HS.out.symm, hb⟩

set_option maxRecDepth 100000 in
set_option maxHeartbeats 1000000 in
theorem pressesFault_calls (b : Nat) (A : Option Addr) (n c : Nat) (l : List Pz) (w : World) (hr : Rd w b 2 (.slice A n c) n (l.flatMap pzC)) :
    Calls Tryz.prog 10 #[.slice A n c] w (BRet (.int .i64 (prF l)) w) := by
  obtain ⟨hl, hnc, hcm, hcells⟩ := hr.cells pzC_len (by omega)
  unfold maxLen at hcm
  by_cases hbig : 2000 < n
  · have hres : prF l = 2 := by unfold prF; rw [if_pos (by omega)]
    rw [hres]
    have hbi : (2000 : Int) < (n : Int) := by omega
    clear hl hcells hres
    go_enter Tryz.func10, Tryz.ntmps10
    go_wp2_with fail
    go_ret
    exact ⟨rfl, Below.refl _ _⟩
  · have hres : prF l = prG none l := by unfold prF; rw [if_neg (by omega)]
    rw [hres]
    have hbi : ¬ (2000 : Int) < (n : Int) := by omega
    have HL := Lib.hid hl
    have HC := Lib.hid hcells
    have h0 : Hid (prG none l = prG (pPrev l 0) (l.drop 0)) := rfl
    clear hl hcells hres hr
    go_enter Tryz.func10, Tryz.ntmps10
    go_wp2_with fail
    go_loopw [10] (fun i wr => ∃ k : Nat, k ≤ n ∧ i = .int .i64 k ∧ Hid (prG none l = prG (pPrev l k) (l.drop k)) ∧ Below w.heap.size w wr) (fun i _ => n - (intOf i).toNat)
    case atStart => exact ⟨0, Nat.zero_le _, rfl, h0, Below.refl _ _⟩
    case round =>
      clear h0
      obtain ⟨k, hk, rfl, HG, hb⟩ := hrel
      by_cases hlt : k < n
      · have hkr : k < l.length := by rw [HL.out]; exact hlt
        obtain ⟨g, o, hA, _, hcs⟩ := HC.out (by omega)
        subst hA
        have hst := HG.out.trans (prG_step l k hkr)
        have c0 := below_cell hb (hcs k hkr 0 (by omega))
        have c1 := below_cell hb (hcs k hkr 1 (by omega))
        obtain ⟨⟨a, kd⟩, hx⟩ : ∃ x, l[k] = x := ⟨_, rfl⟩
        rw [hx] at c0 c1 hst
        simp only [Nat.add_zero] at c0
        replace c0 : wr.cell? ⟨g, o + k * 2, none⟩ = some (.int .i64 a) := c0
        replace c1 : wr.cell? ⟨g, o + k * 2 + 1, none⟩ = some (.int .i64 kd) := c1
        have hgl := World.block_lt_of_cell? wr _ c0
        simp only at hgl
        have hbn : Blk (wr.alloc (.cells #[.int .i64 a, .int .i64 kd] 39)) wr.heap.size _ #[.int .i64 a, .int .i64 kd] := Blk.new _ _ _
        obtain ⟨z0, z1, _, _⟩ := hbn.two
        have hb2 := hb.alloc hb.size (.cells #[.int .i64 a, .int .i64 kd] 39)
        have hk0 : (0 : Int) ≤ (k : Int) := by omega
        have hkn : (k : Int) < (n : Int) := by omega
        have HX := Lib.hid hx
        clear hx hbn HG
        unfold prE at hst
        simp only at hst
        cases hm : momB a
        · rw [hm] at hst
          simp only [Bool.false_eq_true, if_false, show ¬ (1 : Int) = 0 by omega] at hst
          have HST := Lib.hid hst
          have HM := Lib.hid hm
          clear hst hm hcs
          go_wp2_with fail
          refine (momentQ_calls _ _).mono ?_
          rintro e w1 ⟨rfl, rfl⟩
          rw [HM.out]
          go_wp2_with fail
          go_ret
          exact ⟨ret_int HST.out.symm, hb2⟩
        · rw [hm] at hst
          cases ho : outB kd 1 9
          · rw [ho] at hst
            have HM := Lib.hid hm
            have HO := Lib.hid ho
            cases k with
            | zero =>
              have hp0 : pBeh (pPrev l 0) a = false := rfl
              rw [Nat.zero_mul, Nat.add_zero] at c0 c1
              rw [hp0] at hst
              simp only [Bool.false_eq_true, if_false, if_true] at hst
              have HST := Lib.hid hst
              clear hst hm ho hcs hp0
              go_wp2_with fail
              refine (momentQ_calls _ _).mono ?_
              rintro e w1 ⟨rfl, rfl⟩
              rw [HM.out]
              go_wp2_with fail
              refine (in_calls _ _ _ _).mono ?_
              rintro e w1 ⟨rfl, rfl⟩
              rw [HO.out]
              go_wp2_with fail
              go_quiet (fail)
              go_wp2_with fail
              go_roundw
              case rel => exact ⟨1, by omega, rfl, HST, below_drewN hb2 _⟩
              case measure => simp [intOf]; omega
            | succ j =>
              have hjr : j < l.length := by omega
              have p0 := below_cell hb (hcs j hjr 0 (by omega))
              obtain ⟨⟨a2, kd2⟩, hx2⟩ : ∃ x, l[j] = x := ⟨_, rfl⟩
              rw [hx2] at p0
              simp only [Nat.add_zero] at p0
              replace p0 : wr.cell? ⟨g, o + j * 2, none⟩ = some (.int .i64 a2) := p0
              have hpb : pBeh (pPrev l (j + 1)) a = decide (a < a2) := by unfold pPrev pBeh; simp only [List.getElem?_eq_getElem hjr, hx2, Option.map_some]
              rw [hpb] at hst
              have hj1 : ((j : Int) + 1) - 1 = (j : Int) := by omega
              by_cases hlate : a < a2
              · simp only [hlate, decide_true, Bool.false_eq_true, if_false, if_true, show ¬ (7 : Int) = 0 by omega] at hst
                have HST := Lib.hid hst
                clear hst hm ho hcs hx2 hpb
                go_wp2_with fail
                refine (momentQ_calls _ _).mono ?_
                rintro e w1 ⟨rfl, rfl⟩
                rw [HM.out]
                go_wp2_with fail
                refine (in_calls _ _ _ _).mono ?_
                rintro e w1 ⟨rfl, rfl⟩
                rw [HO.out]
                go_wp2_with fail
                go_quiet (fail)
                go_wp2_with fail
                go_ret
                exact ⟨ret_int HST.out.symm, below_drewN hb2 _⟩
              · simp only [hlate, decide_false, Bool.false_eq_true, if_false, if_true] at hst
                have HST := Lib.hid hst
                clear hst hm ho hcs hx2 hpb
                go_wp2_with fail
                refine (momentQ_calls _ _).mono ?_
                rintro e w1 ⟨rfl, rfl⟩
                rw [HM.out]
                go_wp2_with fail
                refine (in_calls _ _ _ _).mono ?_
                rintro e w1 ⟨rfl, rfl⟩
                rw [HO.out]
                go_wp2_with fail
                go_quiet (fail)
                go_wp2_with fail
                go_roundw
                case rel => exact ⟨j + 1 + 1, by omega, by go_num, HST, below_drewN hb2 _⟩
                case measure => simp [intOf]; omega
          · rw [ho] at hst
            simp only [if_true, show ¬ (4 : Int) = 0 by omega, if_false] at hst
            have HST := Lib.hid hst
            have HM := Lib.hid hm
            have HO := Lib.hid ho
            clear hst hm ho hcs
            go_wp2_with fail
            refine (momentQ_calls _ _).mono ?_
            rintro e w1 ⟨rfl, rfl⟩
            rw [HM.out]
            go_wp2_with fail
            refine (in_calls _ _ _ _).mono ?_
            rintro e w1 ⟨rfl, rfl⟩
            rw [HO.out]
            go_wp2_with fail
            go_ret
            exact ⟨ret_int HST.out.symm, hb2⟩
      · obtain rfl : k = n := by omega
        have HS := Lib.hid (HG.out.trans (by rw [List.drop_of_length_le (by rw [HL.out]; exact Nat.le_refl _)]; rfl : _ = (0 : Int)))
        go_wp2_with fail
        go_ret
        exact ⟨ret_int HS.out.symm, hb⟩

end Go.Proofs.YticbbehfphnbhaaGreatDoor
