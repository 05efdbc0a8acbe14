/-
  Retime and its reference by contracts.
-/
import Derived.Test.YtohjapfjkilmoaaGreatDoorZFrmMake
import Derived.Test.YtohjapfjkilmoaaGreatDoorZFrm
import Derived.Deep.RegionHeld3
import Derived.Deep.QuietTactic
import Derived.BigQuiet
namespace Go.Proofs.YtohjapfjkilmoaaGreatDoor
open Go Go.RowKit

def partB (p : FrmP.Part) : Bool := !outB p.1 0 p.2 && decide (p.2 ≤ 10000000)
theorem partB_ok {p : FrmP.Part} (h : partB p = true) : 0 ≤ p.1 ∧ p.1 ≤ p.2 ∧ p.2 ≤ 10000000 := by
  unfold partB at h
  simp at h
  have := of_outB h.1
  omega
def prevO (l : List FrmP.Part) (k : Nat) : Option Int := if k = 0 then none else some (l.getD (k - 1) (0, 0)).2
def behB (pv : Option Int) (x : Int) : Bool := match pv with
  | none => false
  | some y => decide (x < y)
/-- what is wrong with loads -/
def retE : Option Int → List FrmP.Part → Int
  | _, [] => 0
  | pv, x :: l => if partB x = false then 1 else if behB pv x.1 = true then 7 else retE (some x.2) l
theorem retE_step (l : List FrmP.Part) (k : Nat) (hk : k < l.length) : retE (prevO l k) (l.drop k) = if partB l[k] = false then 1 else if behB (prevO l k) l[k].1 = true then 7 else retE (prevO l (k + 1)) (l.drop (k + 1)) := by
  rw [List.drop_eq_getElem_cons hk, retE]
  have : prevO l (k + 1) = some l[k].2 := by
    unfold prevO
    rw [if_neg (by omega), Nat.add_sub_cancel, List.getD_eq_getElem?_getD, List.getElem?_eq_getElem hk]
    rfl
  rw [this]
/-- what is left of a part without the first loads -/
def leftTo (p : FrmP.Part) (l : List FrmP.Part) (k : Nat) : Int := (l.take k).foldl (fun a x => a - FrmP.lostI p x) (p.2 - p.1)
theorem leftTo_step (p : FrmP.Part) (l : List FrmP.Part) (k : Nat) (hk : k < l.length) : leftTo p l (k + 1) = leftTo p l k - FrmP.lostI p l[k] := by
  unfold leftTo
  rw [List.take_succ_eq_append_getElem hk, List.foldl_append]
  rfl
def rtE (p : FrmP.Part) (l : List FrmP.Part) (N D : Int) : Int :=
  if rtF N D = 0 then (if partB p = false then 1 else if 200 < l.length then 2 else if retE none l = 0 then (if 864000000 < FrmP.ftt (p.2 - p.1) N D then 12 else 0) else retE none l) else rtF N D
def rtA (p : FrmP.Part) (l : List FrmP.Part) (N D : Int) : Int := if rtE p l N D = 0 then FrmP.ftt (p.2 - p.1) N D else 0
def rtG (p : FrmP.Part) (l : List FrmP.Part) (N D : Int) : Int := if rtE p l N D = 0 then FrmP.ftt (leftTo p l l.length) N D else 0
/-- three numbers were returned -/
def Three (a b e : Int) (w : World) (en : Ending) (w' : World) : Prop := en = .returned (.tuple #[.int .i64 a, .int .i64 b, .int .i64 e]) ∧ Below w.heap.size w w'

theorem isPart_calls (p q : Int) (w : World) : Calls Tryz.prog 29 #[.agg #[.int .i64 p, .int .i64 q]] w (BRet (.bool (partB (p, q))) w) := by
  have B0 := Blk.new w 45 #[.int .i64 p, .int .i64 q]
  obtain ⟨k0, k1, k2, k3⟩ := B0.two
  obtain ⟨o, ho⟩ : ∃ z, outB p 0 q = z := ⟨_, rfl⟩
  cases o
  · have hr : partB (p, q) = decide (q ≤ 10000000) := by unfold partB; simp only; rw [ho]; rfl
    rw [hr]
    clear hr
    go_enter Tryz.func29, Tryz.ntmps29
    go_wp2_with (first | (go_at_call 37; refine (out_calls _ _ _ _).mono ?_; rintro e w1 ⟨rfl, rfl⟩))
    go_ret
    exact ⟨rfl, (Below.refl _ _).alloc (Nat.le_refl _) _⟩
  · have hr : partB (p, q) = false := by unfold partB; simp only; rw [ho]; rfl
    rw [hr]
    clear hr
    go_enter Tryz.func29, Tryz.ntmps29
    go_wp2_with (first | (go_at_call 37; refine (out_calls _ _ _ _).mono ?_; rintro e w1 ⟨rfl, rfl⟩))
    go_ret
    exact ⟨rfl, (Below.refl _ _).alloc (Nat.le_refl _) _⟩

set_option maxRecDepth 100000 in
set_option maxHeartbeats 2000000 in
theorem retime_calls (b : Nat) (p1 p2 : Int) (A : Option Addr) (n c : Nat) (l : List FrmP.Part) (N D : Int) (w : World) (hN : I64 N) (hD : I64 D) (hr : Rd w b 2 (.slice A n c) n (l.flatMap partC)) (hI : PartI l) :
    Calls Tryz.prog 12 #[.agg #[.int .i64 p1, .int .i64 p2], .slice A n c, .agg #[.int .i64 N, .int .i64 D]] w (Three (rtA (p1, p2) l N D) (rtG (p1, p2) l N D) (rtE (p1, p2) l N D) w) := by
  obtain ⟨hl, hnc, hcm, hcells⟩ := hr.cells partC_len (by omega)
  unfold maxLen at hcm
  obtain ⟨R, hR⟩ : ∃ z, rtF N D = z := ⟨_, rfl⟩
  have HR := Lib.hid hR
  have hS0 : Bs w ((w.alloc (.cells #[.int .i64 p1, .int .i64 p2] 45)).alloc (.cells #[.int .i64 N, .int .i64 D] 47)) [(w.heap.size + 1, 47, #[.int .i64 N, .int .i64 D]), (w.heap.size, 45, #[.int .i64 p1, .int .i64 p2])] := by
    have := ((Bs.start w).add #[.int .i64 p1, .int .i64 p2] 45).add #[.int .i64 N, .int .i64 D] 47
    simpa using this
  by_cases h0 : R = 0
  · subst h0
    have hok := rtF_ok hR
    obtain ⟨PB, hPB⟩ : ∃ z, partB (p1, p2) = z := ⟨_, rfl⟩
    have HPB := Lib.hid hPB
    cases PB
    · have he : rtE (p1, p2) l N D = 1 := by unfold rtE; rw [if_pos hR, if_pos hPB]
      have ha : rtA (p1, p2) l N D = 0 := by unfold rtA; rw [he, if_neg (by omega)]
      have hg : rtG (p1, p2) l N D = 0 := by unfold rtG; rw [he, if_neg (by omega)]
      rw [he, ha, hg]
      clear he ha hg hR hPB hok hl hcells
      go_enter Tryz.func12, Tryz.ntmps12
      go_wp2_with fail
      refine (rateFault_calls N D _ hN hD).mono ?_
      rintro e w1 ⟨rfl, hb1⟩
      rw [HR.out]
      have hS1 := hS0.below hb1
      obtain ⟨k0, k1, k2, k3⟩ := hS1.head.two
      obtain ⟨k4, k5, k6, k7⟩ := hS1.at1.two
      have hz1 := hb1.size
      clear hb1 hS0
      go_wp2_with fail
      refine (isPart_calls p1 p2 _).mono ?_
      rintro e w2 ⟨rfl, hb2⟩
      rw [HPB.out]
      have hS2 := hS1.below hb2
      clear k0 k1 k2 k3 k4 k5 k6 k7 hb2 hS1 hz1
      obtain ⟨k0, k1, k2, k3⟩ := hS2.head.two
      obtain ⟨k4, k5, k6, k7⟩ := hS2.at1.two
      have hz2 := hS2.1.size
      go_wp2_with fail
      go_ret3
      exact ⟨rfl, hS2.1⟩
    · obtain ⟨hp0, hp1, hp2⟩ := partB_ok hPB
      simp only at hp0 hp1 hp2
      by_cases hbig : 200 < n
      · have he : rtE (p1, p2) l N D = 2 := by unfold rtE; rw [if_pos hR, if_neg (by rw [hPB]; decide), if_pos (by omega)]
        have ha : rtA (p1, p2) l N D = 0 := by unfold rtA; rw [he, if_neg (by omega)]
        have hg : rtG (p1, p2) l N D = 0 := by unfold rtG; rw [he, if_neg (by omega)]
        rw [he, ha, hg]
        have hbi : (200 : Int) < (n : Int) := by omega
        clear he ha hg hR hPB hok hl hcells
        go_enter Tryz.func12, Tryz.ntmps12
        go_wp2_with fail
        refine (rateFault_calls N D _ hN hD).mono ?_
        rintro e w1 ⟨rfl, hb1⟩
        rw [HR.out]
        have hS1 := hS0.below hb1
        obtain ⟨k0, k1, k2, k3⟩ := hS1.head.two
        obtain ⟨k4, k5, k6, k7⟩ := hS1.at1.two
        have hz1 := hb1.size
        clear hb1 hS0
        go_wp2_with fail
        refine (isPart_calls p1 p2 _).mono ?_
        rintro e w2 ⟨rfl, hb2⟩
        rw [HPB.out]
        have hS2 := hS1.below hb2
        clear k0 k1 k2 k3 k4 k5 k6 k7 hb2 hS1 hz1
        obtain ⟨k0, k1, k2, k3⟩ := hS2.head.two
        obtain ⟨k4, k5, k6, k7⟩ := hS2.at1.two
        have hz2 := hS2.1.size
        go_wp2_with fail
        go_ret3
        exact ⟨rfl, hS2.1⟩
      · have hbi : ¬ (200 : Int) < (n : Int) := by omega
        have HFT : Hid (∀ m : Int, -3000000000 ≤ m → m ≤ 10000000 → ∀ W, Calls Tryz.prog 30 #[.int .i64 m, .agg #[.int .i64 N, .int .i64 D]] W (BRet (.int .i64 (FrmP.ftt m N D)) W)) :=
          fun m h1 h2 W => frameTime_calls m N D W h1 h2 hok.1 hok.2.1 hok.2.2.1 hok.2.2.2
        have HE : Hid (rtE (p1, p2) l N D = if retE none l = 0 then (if 864000000 < FrmP.ftt (p2 - p1) N D then 12 else 0) else retE none l) := by
          have he : rtE (p1, p2) l N D = if retE none l = 0 then (if 864000000 < FrmP.ftt (p2 - p1) N D then 12 else 0) else retE none l := by
            unfold rtE
            rw [if_pos hR, if_neg (by rw [hPB]; decide), if_neg (by omega)]
          exact Lib.hid he
        have HA : Hid (∀ er, rtE (p1, p2) l N D = er → er ≠ 0 → rtA (p1, p2) l N D = 0 ∧ rtG (p1, p2) l N D = 0) := by
          intro er he hne
          unfold rtA rtG
          rw [he, if_neg hne, if_neg hne]
          exact ⟨rfl, rfl⟩
        have HB : Hid (rtE (p1, p2) l N D = 0 → rtA (p1, p2) l N D = FrmP.ftt (p2 - p1) N D ∧ rtG (p1, p2) l N D = FrmP.ftt (leftTo (p1, p2) l l.length) N D) := by
          intro he
          unfold rtA rtG
          rw [if_pos he, if_pos he]
          exact ⟨rfl, rfl⟩
        obtain ⟨EE, hEE⟩ : ∃ z, rtE (p1, p2) l N D = z := ⟨_, rfl⟩
        obtain ⟨EA, hEA⟩ : ∃ z, rtA (p1, p2) l N D = z := ⟨_, rfl⟩
        obtain ⟨EG, hEG⟩ : ∃ z, rtG (p1, p2) l N D = z := ⟨_, rfl⟩
        rw [hEE, hEA, hEG]
        have HL := Lib.hid hl
        have HC := Lib.hid hcells
        have hret0 : Hid (retE none l = retE (prevO l 0) (l.drop 0)) := rfl
        have hleft0 : Hid (leftTo (p1, p2) l 0 = p2 - p1) := rfl
        have HEE := Lib.hid hEE
        have HEA := Lib.hid hEA
        have HEG := Lib.hid hEG
        clear hR hPB hok hl hcells hEE hEA hEG
        go_enter Tryz.func12, Tryz.ntmps12
        go_wp2_with fail
        refine (rateFault_calls N D _ hN hD).mono ?_
        rintro e w1 ⟨rfl, hb1⟩
        rw [HR.out]
        have hS1 := hS0.below hb1
        obtain ⟨k0, k1, k2, k3⟩ := hS1.head.two
        obtain ⟨k4, k5, k6, k7⟩ := hS1.at1.two
        have hz1 := hb1.size
        clear hb1 hS0
        go_wp2_with fail
        refine (isPart_calls p1 p2 _).mono ?_
        rintro e w2 ⟨rfl, hb2⟩
        rw [HPB.out]
        have hS2 := hS1.below hb2
        clear k0 k1 k2 k3 k4 k5 k6 k7 hb2 hS1 hz1
        obtain ⟨k0, k1, k2, k3⟩ := hS2.head.two
        obtain ⟨k4, k5, k6, k7⟩ := hS2.at1.two
        have hz2 := hS2.1.size
        go_wp2_with fail
        go_loopw [11, 35] (fun lf i wr => ∃ (k : Nat) (left : Int), k ≤ n ∧ i = .int .i64 k ∧ lf = .int .i64 left ∧ Hid (leftTo (p1, p2) l k = left) ∧ -10000000 * (k : Int) ≤ left ∧ left ≤ 10000000 ∧ Hid (retE none l = retE (prevO l k) (l.drop k)) ∧ Bs w wr [(w.heap.size + 1, 47, #[.int .i64 N, .int .i64 D]), (w.heap.size, 45, #[.int .i64 p1, .int .i64 p2])]) (fun _ i _ => n - (intOf i).toNat)
        case atStart => exact ⟨0, p2 - p1, Nat.zero_le _, rfl, rfl, hleft0, by omega, by omega, hret0, hS2⟩
        case round =>
          clear hret0 hleft0 hS2 k0 k1 k2 k3 k4 k5 k6 k7
          obtain ⟨k, left, hk, rfl, rfl, HLF, hf0, hf1, HRT, hS3⟩ := hrel
          obtain ⟨q0, q1, q2, q3⟩ := hS3.head.two
          obtain ⟨q4, q5, q6, q7⟩ := hS3.at1.two
          have hz3 := hS3.1.size
          by_cases hlt : k < n
          · have hkr : k < l.length := by rw [HL.out]; exact hlt
            obtain ⟨g, o, hAA, _, hcs⟩ := HC.out (by omega)
            have hi := hI _ (List.getElem_mem hkr)
            have hst := HRT.out.trans (retE_step l k hkr)
            have hls := leftTo_step (p1, p2) l k hkr
            rw [HLF.out] at hls
            have c0 := below_cell hS3.1 (hcs k hkr 0 (by omega))
            have c1 := below_cell hS3.1 (hcs k hkr 1 (by omega))
            have HCS := Lib.hid hcs
            obtain ⟨⟨x1, x2⟩, hx⟩ : ∃ x, l[k] = x := ⟨_, rfl⟩
            rw [hx] at c0 c1 hst hls hi
            simp only [Nat.add_zero] at c0
            simp only at hst hi
            obtain ⟨⟨i1, i2⟩, i3, i4⟩ := hi
            subst hAA
            obtain ⟨XB, hXB⟩ : ∃ z, partB (x1, x2) = z := ⟨_, rfl⟩
            rw [hXB] at hst
            have HXB := Lib.hid hXB
            have hS4 := hS3.add #[.int .i64 x1, .int .i64 x2] 45
            clear q0 q1 q2 q3 q4 q5 q6 q7
            obtain ⟨q0, q1, q2, q3⟩ := hS4.head.two
            obtain ⟨q4, q5, q6, q7⟩ := hS4.at2.two
            clear hx hcs HLF HRT
            cases XB
            · have he : EE = 1 := by rw [← HEE.out, HE.out, hst]; simp
              have ha := HA.out 1 (by rw [HEE.out, he]) (by omega)
              rw [HEA.out, HEG.out] at ha
              obtain ⟨ha1, ha2⟩ := ha
              subst he ha1 ha2
              clear hst hls hXB
              go_wp2_with fail
              refine (isPart_calls x1 x2 _).mono ?_
              rintro e w4 ⟨rfl, hb4⟩
              rw [HXB.out]
              have hS5 := hS4.below hb4
              clear q0 q1 q2 q3 q4 q5 q6 q7 hb4
              obtain ⟨q0, q1, q2, q3⟩ := hS5.head.two
              obtain ⟨q4, q5, q6, q7⟩ := hS5.at2.two
              go_wp2_with fail
              go_ret3
              exact ⟨rfl, hS5.1⟩
            · have hxb := partB_ok hXB
              obtain ⟨y0, y1, y2⟩ := hxb
              simp only at y0 y1 y2
              obtain ⟨bh, hbh⟩ : ∃ z, behB (prevO l k) x1 = z := ⟨_, rfl⟩
              rw [hbh] at hst
              by_cases hk0 : k = 0
              · have hb0 : bh = false := by rw [← hbh, hk0]; rfl
                subst hb0
                have hst' : Hid (retE none l = retE (prevO l (k + 1)) (l.drop (k + 1))) := by simp at hst; exact Lib.hid hst
                have hg0 : ¬ (0 : Int) < (k : Int) := by omega
                have hgd : decide ((0 : Int) < (k : Int)) = false := by simpa using hg0
                have hgn : decide (0 < k) = false := by simpa using hk0
                have HLS := Lib.hid hls
                clear hst hls hXB hbh hk0
                go_wp2_with fail
                refine (isPart_calls x1 x2 _).mono ?_
                rintro e w4 ⟨rfl, hb4⟩
                rw [HXB.out]
                have hS5 := hS4.below hb4
                clear q0 q1 q2 q3 q4 q5 q6 q7 hb4
                obtain ⟨q0, q1, q2, q3⟩ := hS5.head.two
                obtain ⟨q4, q5, q6, q7⟩ := hS5.at2.two
                go_wp2_with fail
                go_quiet (fail)
                go_wp2_with fail
                all_goals
                  go_roundw
                  case rel => exact ⟨k + 1, _, by omega, by go_num, rfl, Lib.hid (by rw [HLS.out]; unfold FrmP.lostI; simp only; omega), by omega, by omega, hst', (hS5.drewN nq).tail⟩
                  case measure => simp [intOf]; omega
              · have hg0 : (0 : Int) < (k : Int) := by omega
                have hkp : k - 1 < l.length := by omega
                have e1 := HCS.out (k - 1) hkp 1 (by omega)
                obtain ⟨⟨z1, z2⟩, hzz⟩ : ∃ x, l[k - 1] = x := ⟨_, rfl⟩
                rw [hzz] at e1
                have HE1 : Hid (w.cell? ⟨g, o + (k - 1) * 2 + 1, none⟩ = some (.int .i64 z2)) := e1
                have hpv : prevO l k = some z2 := by
                  unfold prevO
                  rw [if_neg hk0, List.getD_eq_getElem?_getD, List.getElem?_eq_getElem hkp, hzz]
                  rfl
                rw [hpv] at hbh
                have hbb : decide (x1 < z2) = bh := hbh
                have hgn : 0 < k := by omega
                have hj0 : (0 : Int) ≤ (k : Int) - 1 := by omega
                have hj1 : (k : Int) - 1 < (n : Int) := by omega
                have HLS := Lib.hid hls
                cases bh
                · have hx12 : ¬ x1 < z2 := by simpa using hbb
                  have hst' : Hid (retE none l = retE (prevO l (k + 1)) (l.drop (k + 1))) := by simp at hst; exact Lib.hid hst
                  clear hst hls hXB hbh hk0 hbb hpv hzz e1
                  go_wp2_with fail
                  refine (isPart_calls x1 x2 _).mono ?_
                  rintro e w4 ⟨rfl, hb4⟩
                  rw [HXB.out]
                  have hS5 := hS4.below hb4
                  clear q0 q1 q2 q3 q4 q5 q6 q7 hb4
                  obtain ⟨q0, q1, q2, q3⟩ := hS5.head.two
                  obtain ⟨q4, q5, q6, q7⟩ := hS5.at2.two
                  have e2 := below_cell hS5.1 HE1.out
                  go_wp2_with fail
                  go_quiet (fail)
                  go_wp2_with fail
                  all_goals
                    go_roundw
                    case rel => exact ⟨k + 1, _, by omega, by go_num, rfl, Lib.hid (by rw [HLS.out]; unfold FrmP.lostI; simp only; omega), by omega, by omega, hst', (hS5.drewN nq).tail⟩
                    case measure => simp [intOf]; omega
                · have hx12 : x1 < z2 := by simpa using hbb
                  have he : EE = 7 := by rw [← HEE.out, HE.out, hst]; simp
                  have ha := HA.out 7 (by rw [HEE.out, he]) (by omega)
                  rw [HEA.out, HEG.out] at ha
                  obtain ⟨ha1, ha2⟩ := ha
                  subst he ha1 ha2
                  clear hst hls hXB hbh hk0 hbb hpv hzz e1 HLS
                  go_wp2_with fail
                  refine (isPart_calls x1 x2 _).mono ?_
                  rintro e w4 ⟨rfl, hb4⟩
                  rw [HXB.out]
                  have hS5 := hS4.below hb4
                  clear q0 q1 q2 q3 q4 q5 q6 q7 hb4
                  obtain ⟨q0, q1, q2, q3⟩ := hS5.head.two
                  obtain ⟨q4, q5, q6, q7⟩ := hS5.at2.two
                  have e2 := below_cell hS5.1 HE1.out
                  go_wp2_with fail
                  go_quiet (fail)
                  go_wp2_with fail
                  go_ret3
                  exact ⟨rfl, (hS5.drewN nq).1⟩
          · obtain rfl : k = n := by omega
            have hr0 : retE none l = 0 := by
              rw [HRT.out, List.drop_eq_nil_of_le (by rw [HL.out]; omega)]
              rfl
            have he := HE.out
            rw [if_pos hr0, HEE.out] at he
            have hlf : leftTo (p1, p2) l l.length = left := by rw [HL.out]; exact HLF.out
            obtain ⟨TA, hTA⟩ : ∃ z, FrmP.ftt (p2 - p1) N D = z := ⟨_, rfl⟩
            obtain ⟨TG, hTG⟩ : ∃ z, FrmP.ftt left N D = z := ⟨_, rfl⟩
            rw [hTA] at he
            have HF1 : Hid (∀ W, Bs w W [(w.heap.size + 1, 47, #[.int .i64 N, .int .i64 D]), (w.heap.size, 45, #[.int .i64 p1, .int .i64 p2])] → Calls Tryz.prog 30 #[.int .i64 (p2 - p1), .agg #[.int .i64 N, .int .i64 D]] W (fun e w1 => e = .returned (.int .i64 TA) ∧ Bs w w1 [(w.heap.size + 1, 47, #[.int .i64 N, .int .i64 D]), (w.heap.size, 45, #[.int .i64 p1, .int .i64 p2])])) := by
              intro W hW
              refine (HFT.out (p2 - p1) (by omega) (by omega) W).mono ?_
              rintro e w1 ⟨rfl, hb⟩
              exact ⟨by rw [hTA], hW.below hb⟩
            have HF2 : Hid (∀ W, Bs w W [(w.heap.size + 1, 47, #[.int .i64 N, .int .i64 D]), (w.heap.size, 45, #[.int .i64 p1, .int .i64 p2])] → Calls Tryz.prog 30 #[.int .i64 left, .agg #[.int .i64 N, .int .i64 D]] W (fun e w1 => e = .returned (.int .i64 TG) ∧ Bs w w1 [(w.heap.size + 1, 47, #[.int .i64 N, .int .i64 D]), (w.heap.size, 45, #[.int .i64 p1, .int .i64 p2])])) := by
              intro W hW
              refine (HFT.out left (by omega) hf1 W).mono ?_
              rintro e w1 ⟨rfl, hb⟩
              exact ⟨by rw [hTG], hW.below hb⟩
            have HKK : Hid (∀ W, Bs w W [(w.heap.size + 1, 47, #[.int .i64 N, .int .i64 D]), (w.heap.size, 45, #[.int .i64 p1, .int .i64 p2])] → W.cell? ⟨w.heap.size + 1, 0, none⟩ = some (.int .i64 N) ∧ W.cell? ⟨w.heap.size + 1, 1, none⟩ = some (.int .i64 D) ∧ W.cell? ⟨w.heap.size, 0, none⟩ = some (.int .i64 p1) ∧ W.cell? ⟨w.heap.size, 1, none⟩ = some (.int .i64 p2)) :=
              fun W h => ⟨h.head.two.1, h.head.two.2.1, h.at1.two.1, h.at1.two.2.1⟩
            have hwp : IntKind.i64.wrap (p2 - p1) = p2 - p1 := IntWalk.i64_in _ ⟨by omega, by omega⟩
            by_cases hg : 864000000 < TA
            · rw [if_pos hg] at he
              have ha := HA.out 12 (by rw [HEE.out, he]) (by omega)
              rw [HEA.out, HEG.out] at ha
              obtain ⟨ha1, ha2⟩ := ha
              subst he ha1 ha2
              clear hr0 hlf hTA hTG HRT HLF
              go_wp2_with fail
              go_region_held3 (fun W => W.cell? ⟨w.heap.size + 1, 0, none⟩ = some (.int .i64 N) ∧ W.cell? ⟨w.heap.size + 1, 1, none⟩ = some (.int .i64 D) ∧ W.cell? ⟨w.heap.size, 0, none⟩ = some (.int .i64 p1) ∧ W.cell? ⟨w.heap.size, 1, none⟩ = some (.int .i64 p2))
                (first | exact HKK.out _ hS3.drew | exact HKK.out _ hS9 | exact HKK.out _ hS8)
                (first
                  | (go_at_call 30; ((with_reducible refine (HF1.out _ hS3.drew).mono ?_); rintro e w8 ⟨rfl, hS8⟩))
                  | (go_at_call 30; ((with_reducible refine (HF2.out w8 hS8).mono ?_); rintro e w9 ⟨rfl, hS9⟩)))
              all_goals
                clear hwp
                go_wp2_with fail
                go_ret3
                exact ⟨rfl, hS9.1⟩
            · rw [if_neg hg] at he
              have ha := HB.out (by rw [HEE.out, he])
              rw [HEA.out, HEG.out, hTA, hlf, hTG] at ha
              obtain ⟨ha1, ha2⟩ := ha
              subst he ha1 ha2
              clear hr0 hlf hTA hTG HRT HLF
              go_wp2_with fail
              go_region_held3 (fun W => W.cell? ⟨w.heap.size + 1, 0, none⟩ = some (.int .i64 N) ∧ W.cell? ⟨w.heap.size + 1, 1, none⟩ = some (.int .i64 D) ∧ W.cell? ⟨w.heap.size, 0, none⟩ = some (.int .i64 p1) ∧ W.cell? ⟨w.heap.size, 1, none⟩ = some (.int .i64 p2))
                (first | exact HKK.out _ hS3.drew | exact HKK.out _ hS9 | exact HKK.out _ hS8)
                (first
                  | (go_at_call 30; ((with_reducible refine (HF1.out _ hS3.drew).mono ?_); rintro e w8 ⟨rfl, hS8⟩))
                  | (go_at_call 30; ((with_reducible refine (HF2.out w8 hS8).mono ?_); rintro e w9 ⟨rfl, hS9⟩)))
              all_goals
                clear hwp
                go_wp2_with fail
                go_ret3
                exact ⟨rfl, hS9.1⟩
  · have he : rtE (p1, p2) l N D = R := by unfold rtE; rw [if_neg (by omega), hR]
    have ha : rtA (p1, p2) l N D = 0 := by unfold rtA; rw [he, if_neg h0]
    have hg : rtG (p1, p2) l N D = 0 := by unfold rtG; rw [he, if_neg h0]
    rw [he, ha, hg]
    have hrb : (R != 0) = true := by rw [bne_iff_ne]; exact h0
    clear he ha hg hR h0 hl hcells
    go_enter Tryz.func12, Tryz.ntmps12
    go_wp2_with fail
    refine (rateFault_calls N D _ hN hD).mono ?_
    rintro e w1 ⟨rfl, hb1⟩
    rw [HR.out]
    have hS1 := hS0.below hb1
    obtain ⟨k0, k1, k2, k3⟩ := hS1.head.two
    obtain ⟨k4, k5, k6, k7⟩ := hS1.at1.two
    have hz1 := hb1.size
    clear hb1 hS0
    go_wp2_with fail
    go_ret3
    exact ⟨rfl, hS1.1⟩

end Go.Proofs.YtohjapfjkilmoaaGreatDoor
