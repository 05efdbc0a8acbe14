/-
  What is wrong with steps: race.CheckSteps and splitref2.StepsFault by contracts. (Printed by gen_stp1.py.)
-/
import Derived.Test.YthbcogekfdllmaaGreatDoorZBs
import Derived.Test.YthbcogekfdllmaaGreatDoorZKey2
import Derived.Lib.IndexBytes
import Derived.Test.YthbcogekfdllmaaGreatDoorZSq
import Derived.Test.YthbcogekfdllmaaGreatDoorZPrs1
import Derived.Deep.DeepCutAuto
import Derived.Deep.RegionLaw
import Derived.Deep.QuietTactic
import Derived.BigQuiet
namespace Go.Proofs.YthbcogekfdllmaaGreatDoor
open Go Go.RowKit

theorem nil_dataS {b : ByteArray} (h : b.size = 0) : b.data.toList = [] := by
  have : b.data.toList.length = 0 := by simpa using h
  exact List.length_eq_zero_iff.1 this
structure Stp where
  at_ : Int
  kind : Int
  who : ByteArray
def stC (s : Stp) : List Value := [.int .i64 s.at_, .int .i64 s.kind, .string s.who]
theorem stC_len (s : Stp) : (stC s).length = 3 := rfl
def stE (pv : Option Int) (s : Stp) : Int := if momB s.at_ = true then (if outB s.kind 1 8 = true then 4 else if s.kind = 5 then (if s.who.size = 0 then (if pBeh pv s.at_ = true then 7 else 0) else 3) else (if keyB s.who.data.toList = true then (if pBeh pv s.at_ = true then 7 else 0) else 5)) else 1
def stG : Option Int → List Stp → Int
  | _, [] => 0
  | pv, p :: l => if stE pv p = 0 then stG (some p.at_) l else stE pv p
/-- what is wrong with steps -/
def stF (l : List Stp) : Int := if 1000 < l.length then 2 else stG none l
def sPrev (l : List Stp) (k : Nat) : Option Int := match k with
  | 0 => none
  | k + 1 => (l[k]?).map fun p => p.at_
theorem stG_step (l : List Stp) (k : Nat) (hk : k < l.length) : stG (sPrev l k) (l.drop k) = if stE (sPrev l k) l[k] = 0 then stG (sPrev l (k + 1)) (l.drop (k + 1)) else stE (sPrev l k) l[k] := by
  have hp : sPrev l (k + 1) = some l[k].at_ := by simp [sPrev, List.getElem?_eq_getElem hk]
  rw [List.drop_eq_getElem_cons hk, stG, hp]
theorem info_step : (Tryz.prog.info? 34).map (fun i => (i.zero, i.size, i.bytes)) = some (some (.agg #[.int .i64 0, .int .i64 0, .string ⟨#[]⟩]), 3, 32) := by kernel_rfl
theorem one3s {x y z : Value} (hx : x.oneCell' = true) (hy : y.oneCell' = true) (hz : z.oneCell' = true) : ∀ u ∈ [x, y, z], u.oneCell' = true := by
  intro u hu
  simp only [List.mem_cons, List.not_mem_nil, or_false] at hu
  rcases hu with rfl | rfl | rfl <;> assumption
/-- steps that are right -/
structure StOk (l : List Stp) : Prop where
  at_ : ∀ p ∈ l, 0 ≤ p.at_ ∧ p.at_ ≤ 345686399999
  kind : ∀ p ∈ l, 1 ≤ p.kind ∧ p.kind ≤ 8
  who : ∀ p ∈ l, p.who.size ≤ 40
  go_ : ∀ p ∈ l, (p.kind = 5 ↔ p.who.size = 0)
theorem keyB_pos {x : ByteArray} (h : keyB x.data.toList = true) : ¬ x.size = 0 ∧ x.size ≤ 40 := by
  by_cases h2 : 1 ≤ x.data.toList.length ∧ x.data.toList.length ≤ 40
  · have h3 : x.data.toList.length = x.size := by simp
    omega
  · rw [keyB_size h2] at h; cases h
theorem stE_ok {pv : Option Int} {p : Stp} (h : stE pv p = 0) : (0 ≤ p.at_ ∧ p.at_ ≤ 345686399999) ∧ (1 ≤ p.kind ∧ p.kind ≤ 8) ∧ p.who.size ≤ 40 ∧ (p.kind = 5 ↔ p.who.size = 0) := by
  unfold stE at h
  by_cases h1 : momB p.at_ = true
  · rw [if_pos h1] at h
    have hm : 0 ≤ p.at_ ∧ p.at_ ≤ 345686399999 := by unfold momB outB at h1; simp at h1; exact h1
    by_cases h2 : outB p.kind 1 8 = true
    · rw [if_pos h2] at h; exact absurd h (by decide)
    · rw [if_neg h2] at h
      have hk : 1 ≤ p.kind ∧ p.kind ≤ 8 := by unfold outB at h2; simp at h2; omega
      by_cases h3 : p.kind = 5
      · rw [if_pos h3] at h
        by_cases h4 : p.who.size = 0
        · exact ⟨hm, hk, by omega, ⟨fun _ => h4, fun _ => h3⟩⟩
        · rw [if_neg h4] at h; exact absurd h (by decide)
      · rw [if_neg h3] at h
        by_cases h4 : keyB p.who.data.toList = true
        · have h5 := keyB_pos h4
          exact ⟨hm, hk, h5.2, ⟨fun e => absurd e h3, fun e => absurd e h5.1⟩⟩
        · rw [if_neg h4] at h; exact absurd h (by decide)
  · rw [if_neg h1] at h; exact absurd h (by decide)
theorem stG_ok : ∀ (l : List Stp) (pv : Option Int), stG pv l = 0 → ∀ p ∈ l, (0 ≤ p.at_ ∧ p.at_ ≤ 345686399999) ∧ (1 ≤ p.kind ∧ p.kind ≤ 8) ∧ p.who.size ≤ 40 ∧ (p.kind = 5 ↔ p.who.size = 0)
  | [], _, _, p, hp => by cases hp
  | q :: l, pv, h, p, hp => by
    rw [stG] at h
    by_cases h0 : stE pv q = 0
    · rw [if_pos h0] at h
      rcases List.mem_cons.1 hp with rfl | hp
      · exact stE_ok h0
      · exact stG_ok l _ h p hp
    · rw [if_neg h0] at h; exact absurd h h0
theorem stF_ok {l : List Stp} (h : stF l = 0) : StOk l ∧ l.length ≤ 1000 := by
  unfold stF at h
  by_cases hl : 1000 < l.length
  · rw [if_pos hl] at h; exact absurd h (by decide)
  · rw [if_neg hl] at h
    have h1 := stG_ok l none h
    exact ⟨⟨fun p hp => (h1 p hp).1, fun p hp => (h1 p hp).2.1, fun p hp => (h1 p hp).2.2.1, fun p hp => (h1 p hp).2.2.2⟩, by omega⟩

set_option maxRecDepth 100000 in
set_option maxHeartbeats 2000000 in
theorem checkSteps_calls (b : Nat) (A : Option Addr) (n c : Nat) (l : List Stp) (w : World) (hr : Rd w b 3 (.slice A n c) n (l.flatMap stC)) (hz : ∀ s ∈ l, s.who.size ≤ 1000000) :
    Calls Tryz.prog 48 #[.slice A n c] w (BRet (.int .i64 (stF l)) w) := by
  obtain ⟨hl, hnc, hcm, hcells⟩ := hr.cells stC_len (by omega)
  unfold maxLen at hcm
  by_cases hbig : 1000 < n
  · have hres : stF l = 2 := by unfold stF; rw [if_pos (by omega)]
    rw [hres]
    have hbi : (1000 : Int) < (n : Int) := by omega
    clear hl hcells hres
    go_enter Tryz.func48, Tryz.ntmps48
    go_wp2_with fail
    go_ret
    exact ⟨rfl, Below.refl _ _⟩
  · have hres : stF l = stG none l := by unfold stF; rw [if_neg (by omega)]
    rw [hres]
    have hbi : ¬ (1000 : Int) < (n : Int) := by omega
    have HL := Lib.hid hl
    have HC := Lib.hid hcells
    have HZ := Lib.hid hz
    have h0 : Hid (stG none l = stG (sPrev l 0) (l.drop 0)) := rfl
    clear hl hcells hres hr hz
    go_enter Tryz.func48, Tryz.ntmps48
    go_wp2_with fail
    go_loopw [10] (fun i wr => ∃ k : Nat, k ≤ n ∧ i = .int .i64 k ∧ Hid (stG none l = stG (sPrev l k) (l.drop k)) ∧ Below w.heap.size w wr) (fun i _ => n - (intOf i).toNat)
    case atStart => exact ⟨0, Nat.zero_le _, rfl, h0, Below.refl _ _⟩
    case round =>
      clear h0
      obtain ⟨k, hk, rfl, HG, hb⟩ := hrel
      by_cases hlt : k < n
      · have hkr : k < l.length := by rw [HL.out]; exact hlt
        obtain ⟨g, o, hA, _, hcs⟩ := HC.out (by omega)
        subst hA
        have hst := HG.out.trans (stG_step l k hkr)
        have c0 := below_cell hb (hcs k hkr 0 (by omega))
        have c1 := below_cell hb (hcs k hkr 1 (by omega))
        have c2 := below_cell hb (hcs k hkr 2 (by omega))
        have hxm := HZ.out _ (List.getElem_mem hkr)
        obtain ⟨⟨a, kd, x⟩, hx⟩ : ∃ x, l[k] = x := ⟨_, rfl⟩
        rw [hx] at c0 c1 c2 hst hxm
        simp only [Nat.add_zero] at c0
        replace c0 : wr.cell? ⟨g, o + k * 3, none⟩ = some (.int .i64 a) := c0
        replace c1 : wr.cell? ⟨g, o + k * 3 + 1, none⟩ = some (.int .i64 kd) := c1
        replace c2 : wr.cell? ⟨g, o + k * 3 + 2, none⟩ = some (.string x) := c2
        replace hxm : x.size ≤ maxLen := by unfold maxLen; exact Nat.le_trans hxm (by decide)
        have hgl := World.block_lt_of_cell? wr _ c0
        simp only at hgl
        have hbn : Blk (wr.alloc (.cells #[.int .i64 a, .int .i64 kd, .string x] 34)) wr.heap.size _ #[.int .i64 a, .int .i64 kd, .string x] := Blk.new _ _ _
        obtain ⟨z0, z1, z2, _, _, _⟩ := hbn.three
        have hb2 := hb.alloc hb.size (.cells #[.int .i64 a, .int .i64 kd, .string x] 34)
        have hk0 : (0 : Int) ≤ (k : Int) := by omega
        have hkn : (k : Int) < (n : Int) := by omega
        clear hx hbn HG
        unfold stE at hst
        simp only at hst
        obtain ⟨kb, hkb⟩ : ∃ kb, keyB x.data.toList = kb := ⟨_, rfl⟩
        rw [hkb] at hst
        have HKY := Lib.hid hkb
        clear hkb
        cases hm : momB a
        · rw [hm] at hst
          have HM := Lib.hid hm
          clear hm
          have HO : Hid (True) := Lib.hid trivial
          simp only [Bool.false_eq_true, if_false, show ¬ (1 : Int) = 0 by omega] at hst
          have HST := Lib.hid hst
          clear hst hcs
          go_wp2_with (first | (go_at_call 110; refine (moment_calls _ _).mono ?_; rintro e w1 ⟨rfl, rfl⟩; rw [HM.out]) | (go_at_call 66; refine (out_calls _ _ _ _).mono ?_; rintro e w1 ⟨rfl, rfl⟩) | (go_at_call 94; refine (key_calls x _ hxm).mono ?_; rintro e w1 ⟨rfl, rfl⟩))
          go_ret
          exact ⟨ret_int HST.out.symm, hb2⟩
        · rw [hm] at hst
          have HM := Lib.hid hm
          clear hm
          cases ho : outB kd 1 8
          · rw [ho] at hst
            have HO := Lib.hid ho
            clear ho
            by_cases hk5 : kd = 5
            · subst hk5
              have hk5b : ((5 : Int) == 5) = true := rfl
              rw [if_pos rfl] at hst
              by_cases hx0 : x.size = 0
              · have he : x.toList = [] := by rw [Lib.toList_data]; exact nil_dataS hx0
                have heb : (x.toList == []) = true := by rw [he]; rfl
                rw [if_pos hx0] at hst
                clear hx0 he
                cases k with
                | zero =>
                  have hp0 : pBeh (sPrev l 0) a = false := rfl
                  rw [Nat.zero_mul, Nat.add_zero] at c0 c1 c2
                  rw [hp0] at hst
                  simp only [Bool.false_eq_true, if_false, if_true] at hst
                  have HST := Lib.hid hst
                  clear hst hcs hp0
                  go_wp2_with (first | (go_at_call 110; refine (moment_calls _ _).mono ?_; rintro e w1 ⟨rfl, rfl⟩; rw [HM.out]) | (go_at_call 66; refine (out_calls _ _ _ _).mono ?_; rintro e w1 ⟨rfl, rfl⟩; rw [HO.out]) | (go_at_call 94; refine (key_calls x _ hxm).mono ?_; rintro e w1 ⟨rfl, rfl⟩; rw [HKY.out]))
                  go_quiet (fail)
                  go_wp2_with fail
                  go_roundw
                  case rel => exact ⟨1, by omega, rfl, HST, below_drewN hb2 _⟩
                  case measure => simp [intOf]; omega
                | succ j =>
                  have hjr : j < l.length := by omega
                  have p0 := below_cell hb (hcs j hjr 0 (by omega))
                  obtain ⟨⟨a2, kd2, x2⟩, hx2⟩ : ∃ x, l[j] = x := ⟨_, rfl⟩
                  rw [hx2] at p0
                  simp only [Nat.add_zero] at p0
                  replace p0 : wr.cell? ⟨g, o + j * 3, none⟩ = some (.int .i64 a2) := p0
                  have hpb : pBeh (sPrev l (j + 1)) a = decide (a < a2) := by unfold sPrev pBeh; simp only [List.getElem?_eq_getElem hjr, hx2, Option.map_some]
                  rw [hpb] at hst
                  have hj1 : ((j : Int) + 1) - 1 = (j : Int) := by omega
                  by_cases hlate : a < a2
                  · simp only [hlate, decide_true, Bool.false_eq_true, if_false, if_true, show ¬ (7 : Int) = 0 by omega] at hst
                    have HST := Lib.hid hst
                    clear hst hcs hx2 hpb
                    go_wp2_with (first | (go_at_call 110; refine (moment_calls _ _).mono ?_; rintro e w1 ⟨rfl, rfl⟩; rw [HM.out]) | (go_at_call 66; refine (out_calls _ _ _ _).mono ?_; rintro e w1 ⟨rfl, rfl⟩; rw [HO.out]) | (go_at_call 94; refine (key_calls x _ hxm).mono ?_; rintro e w1 ⟨rfl, rfl⟩; rw [HKY.out]))
                    go_quiet (fail)
                    go_wp2_with fail
                    go_ret
                    exact ⟨ret_int HST.out.symm, below_drewN hb2 _⟩
                  · simp only [hlate, decide_false, Bool.false_eq_true, if_false, if_true] at hst
                    have HST := Lib.hid hst
                    clear hst hcs hx2 hpb
                    go_wp2_with (first | (go_at_call 110; refine (moment_calls _ _).mono ?_; rintro e w1 ⟨rfl, rfl⟩; rw [HM.out]) | (go_at_call 66; refine (out_calls _ _ _ _).mono ?_; rintro e w1 ⟨rfl, rfl⟩; rw [HO.out]) | (go_at_call 94; refine (key_calls x _ hxm).mono ?_; rintro e w1 ⟨rfl, rfl⟩; rw [HKY.out]))
                    go_quiet (fail)
                    go_wp2_with fail
                    go_roundw
                    case rel => exact ⟨j + 1 + 1, by omega, by go_num, HST, below_drewN hb2 _⟩
                    case measure => simp [intOf]; omega
              · have he1 := isEmpty_f (s := x) (by omega)
                have he2 : (x.toList == []) = false := by rw [← he1]; cases x.toList <;> rfl
                rw [if_neg hx0] at hst
                clear hx0
                simp only [Bool.false_eq_true, if_false, if_true, show ¬ (3 : Int) = 0 by omega] at hst
                have HST := Lib.hid hst
                clear hst hcs
                go_wp2_with (first | (go_at_call 110; refine (moment_calls _ _).mono ?_; rintro e w1 ⟨rfl, rfl⟩; rw [HM.out]) | (go_at_call 66; refine (out_calls _ _ _ _).mono ?_; rintro e w1 ⟨rfl, rfl⟩; rw [HO.out]) | (go_at_call 94; refine (key_calls x _ hxm).mono ?_; rintro e w1 ⟨rfl, rfl⟩; rw [HKY.out]))
                go_ret
                exact ⟨ret_int HST.out.symm, hb2⟩
            · have hk5b : (kd == 5) = false := by simpa using hk5
              rw [if_neg hk5] at hst
              cases kb
              · have hk5c : (kd != 5) = true := by simpa using hk5
                clear hk5b
                simp only [Bool.false_eq_true, if_false, if_true, show ¬ (5 : Int) = 0 by omega] at hst
                have HST := Lib.hid hst
                clear hst hcs
                go_wp2_with (first | (go_at_call 110; refine (moment_calls _ _).mono ?_; rintro e w1 ⟨rfl, rfl⟩; rw [HM.out]) | (go_at_call 66; refine (out_calls _ _ _ _).mono ?_; rintro e w1 ⟨rfl, rfl⟩; rw [HO.out]) | (go_at_call 94; refine (key_calls x _ hxm).mono ?_; rintro e w1 ⟨rfl, rfl⟩; rw [HKY.out]))
                go_ret
                exact ⟨ret_int HST.out.symm, hb2⟩
              · have hk5c : (kd != 5) = true := by simpa using hk5
                clear hk5b
                simp only [if_true] at hst
                cases k with
                | zero =>
                  have hp0 : pBeh (sPrev l 0) a = false := rfl
                  rw [Nat.zero_mul, Nat.add_zero] at c0 c1 c2
                  rw [hp0] at hst
                  simp only [Bool.false_eq_true, if_false, if_true] at hst
                  have HST := Lib.hid hst
                  clear hst hcs hp0
                  go_wp2_with (first | (go_at_call 110; refine (moment_calls _ _).mono ?_; rintro e w1 ⟨rfl, rfl⟩; rw [HM.out]) | (go_at_call 66; refine (out_calls _ _ _ _).mono ?_; rintro e w1 ⟨rfl, rfl⟩; rw [HO.out]) | (go_at_call 94; refine (key_calls x _ hxm).mono ?_; rintro e w1 ⟨rfl, rfl⟩; rw [HKY.out]))
                  go_quiet (fail)
                  go_wp2_with fail
                  go_roundw
                  case rel => exact ⟨1, by omega, rfl, HST, below_drewN hb2 _⟩
                  case measure => simp [intOf]; omega
                | succ j =>
                  have hjr : j < l.length := by omega
                  have p0 := below_cell hb (hcs j hjr 0 (by omega))
                  obtain ⟨⟨a2, kd2, x2⟩, hx2⟩ : ∃ x, l[j] = x := ⟨_, rfl⟩
                  rw [hx2] at p0
                  simp only [Nat.add_zero] at p0
                  replace p0 : wr.cell? ⟨g, o + j * 3, none⟩ = some (.int .i64 a2) := p0
                  have hpb : pBeh (sPrev l (j + 1)) a = decide (a < a2) := by unfold sPrev pBeh; simp only [List.getElem?_eq_getElem hjr, hx2, Option.map_some]
                  rw [hpb] at hst
                  have hj1 : ((j : Int) + 1) - 1 = (j : Int) := by omega
                  by_cases hlate : a < a2
                  · simp only [hlate, decide_true, Bool.false_eq_true, if_false, if_true, show ¬ (7 : Int) = 0 by omega] at hst
                    have HST := Lib.hid hst
                    clear hst hcs hx2 hpb
                    go_wp2_with (first | (go_at_call 110; refine (moment_calls _ _).mono ?_; rintro e w1 ⟨rfl, rfl⟩; rw [HM.out]) | (go_at_call 66; refine (out_calls _ _ _ _).mono ?_; rintro e w1 ⟨rfl, rfl⟩; rw [HO.out]) | (go_at_call 94; refine (key_calls x _ hxm).mono ?_; rintro e w1 ⟨rfl, rfl⟩; rw [HKY.out]))
                    go_quiet (fail)
                    go_wp2_with fail
                    go_ret
                    exact ⟨ret_int HST.out.symm, below_drewN hb2 _⟩
                  · simp only [hlate, decide_false, Bool.false_eq_true, if_false, if_true] at hst
                    have HST := Lib.hid hst
                    clear hst hcs hx2 hpb
                    go_wp2_with (first | (go_at_call 110; refine (moment_calls _ _).mono ?_; rintro e w1 ⟨rfl, rfl⟩; rw [HM.out]) | (go_at_call 66; refine (out_calls _ _ _ _).mono ?_; rintro e w1 ⟨rfl, rfl⟩; rw [HO.out]) | (go_at_call 94; refine (key_calls x _ hxm).mono ?_; rintro e w1 ⟨rfl, rfl⟩; rw [HKY.out]))
                    go_quiet (fail)
                    go_wp2_with fail
                    go_roundw
                    case rel => exact ⟨j + 1 + 1, by omega, by go_num, HST, below_drewN hb2 _⟩
                    case measure => simp [intOf]; omega
          · rw [ho] at hst
            have HO := Lib.hid ho
            clear ho
            simp only [if_false, if_true, show ¬ (4 : Int) = 0 by omega] at hst
            have HST := Lib.hid hst
            clear hst hcs
            go_wp2_with (first | (go_at_call 110; refine (moment_calls _ _).mono ?_; rintro e w1 ⟨rfl, rfl⟩; rw [HM.out]) | (go_at_call 66; refine (out_calls _ _ _ _).mono ?_; rintro e w1 ⟨rfl, rfl⟩; rw [HO.out]) | (go_at_call 94; refine (key_calls x _ hxm).mono ?_; rintro e w1 ⟨rfl, rfl⟩; rw [HKY.out]))
            go_ret
            exact ⟨ret_int HST.out.symm, hb2⟩
      · obtain rfl : k = n := by omega
        have HS := Lib.hid (HG.out.trans (by rw [List.drop_of_length_le (by rw [HL.out]; exact Nat.le_refl _)]; rfl : _ = (0 : Int)))
        go_wp2_with fail
        go_ret
        exact ⟨ret_int HS.out.symm, hb⟩

end Go.Proofs.YthbcogekfdllmaaGreatDoor
