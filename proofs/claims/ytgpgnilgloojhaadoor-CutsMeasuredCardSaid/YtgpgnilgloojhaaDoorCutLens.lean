/-
  timer.Lengths and splitref2.LengthsOf of right cuts by contracts: both answer lensTo.
-/
import Derived.Test.YtgpgnilgloojhaaDoorCutCheck
import Derived.Deep.DeepCutAuto
import Derived.RegionTactic
import Derived.ChangeAlike
namespace Go.Proofs.YtgpgnilgloojhaaDoor
open Go Go.RowKit

def lensL (l : List Cut) : List Cut := if cutF l = 0 then lensTo l l.length else []
/-- cuts and an error were returned -/
def LensE (l : List Cut) (w : World) (e : Ending) (w' : World) : Prop :=
  ∃ v, e = .returned (.tuple #[v, .int .i64 (cutF l)]) ∧ w'.ownsRow w.heap.size 36 3 v (lensL l).length ((lensL l).flatMap cutC) ∧ Below w.heap.size w w'


set_option maxRecDepth 100000 in
set_option maxHeartbeats 1000000 in
theorem lengths_calls (b : Nat) (A : Option Addr) (n c : Nat) (l : List Cut) (w : World) (hr : Rd w b 3 (.slice A n c) n (l.flatMap cutC)) (hI : CutI l) :
    Calls Tryd.prog 10 #[.slice A n c] w (LensE l w) := by
  obtain ⟨hl, hnc, hcm, hcells⟩ := hr.cells cutC_len (by omega)
  unfold maxLen at hcm
  obtain ⟨i0, hi, hz0, hz1, hz2⟩ := info_parts info_cut
  obtain ⟨F, hF⟩ : ∃ z, cutF l = z := ⟨_, rfl⟩
  unfold LensE
  rw [hF]
  by_cases h0 : F = 0
  · subst h0
    have hlen := cutF_len hF
    have hLL : lensL l = lensTo l l.length := by unfold lensL; rw [if_pos hF]
    rw [hLL, hl]
    rw [hl] at hlen
    have hall := cutF_all hF
    have hbd := cutS_bd hF
    have HF := Lib.hid hF
    have HL := Lib.hid hl
    have HC := Lib.hid hcells
    have HA := Lib.hid hall
    have HB := Lib.hid hbd
    clear hl hcells hF hLL hall hbd
    go_enter Tryd.func10, Tryd.ntmps10
    go_wp2_with fail
    refine (checkCuts_calls b A n c l _ hr hI).mono ?_
    rintro e w1 ⟨rfl, hb1⟩
    rw [HF.out]
    have hS0 := ((Bs.start w).below hb1).add #[.int .i64 0, .int .i64 0, .bool false] 36
    have hw1 := hb1.size
    have h00 : Hid (cutS l 0 = (0, 0)) := rfl
    clear hb1
    go_wp2_with fail
    go_loopw [5, 16] (fun v i wr => ∃ (k : Nat) (lr lg : Int), k ≤ n ∧ i = .int .i64 k ∧ Hid (cutS l k = (lr, lg)) ∧ ∃ sk, Os 36 3 w wr v (lensTo l k).length ((lensTo l k).flatMap cutC) [(w1.heap.size, 36, #[.int .i64 lr, .int .i64 lg, .bool sk])]) (fun _ i _ => n - (intOf i).toNat)
    case atStart => exact ⟨0, 0, 0, Nat.zero_le _, rfl, h00, false, Os.start hS0⟩
    case round =>
      clear hS0 h00
      obtain ⟨k, lr, lg, hk, rfl, HS, sk0, hO⟩ := hrel
      have hS := hO.2.1
      by_cases hlt : k < n
      · have hkr : k < l.length := by rw [HL.out]; exact hlt
        obtain ⟨g, o, hA, _, hcs⟩ := HC.out (by omega)
        have hok := cutE_ok (HA.out k hkr)
        have hbd := HB.out k (by omega)
        have hst := lensTo_step l k hkr
        have hsn := cutS_step l k hkr
        have hln := lensTo_len l k
        rw [HS.out] at hok hbd hst hsn
        have c0 := below_cell hS.1 (hcs k hkr 0 (by omega))
        have c1 := below_cell hS.1 (hcs k hkr 1 (by omega))
        have c2 := below_cell hS.1 (hcs k hkr 2 (by omega))
        obtain ⟨⟨r, gm, sk⟩, hx⟩ : ∃ x, l[k] = x := ⟨_, rfl⟩
        rw [hx] at c0 c1 c2 hst hsn hok
        simp only [Nat.add_zero] at c0
        simp only at hok hbd
        obtain ⟨hok1, hok2⟩ := hok
        obtain ⟨bd1, bd2, bd3, bd4⟩ := hbd
        subst hA
        have hO1 := hO.add #[.int .i64 r, .int .i64 gm, .bool sk] 36
        have hlz := hS.1.size
        have hn1 := hS.head.lt
        have hz0' := hO1.2.1.1.size
        obtain ⟨b0, b1, b2, b3, b4, b5⟩ := hO1.head.three
        obtain ⟨d0, d1, d2, d3, d4, d5⟩ := hO1.at1.three
        have hne : ∀ p ∈ ([(wr.heap.size, 36, #[.int .i64 r, .int .i64 gm, .bool sk])] : List (Nat × TypeId × Array Value)), p.1 ≠ w1.heap.size := by
          intro p hp
          simp only [List.mem_cons, List.not_mem_nil, or_false] at hp
          subst hp
          simp only [ne_eq]; omega
        have hnl : (lensTo l k).length ≤ 100 := by omega
        clear hx hcs hln HS
        cases sk
        · obtain ⟨j1, j2, j3, j4, j5, j6⟩ := hok2 rfl
          have hst' : lensTo l (k + 1) = lensTo l k ++ [(r - lr, gm - lg, false)] := hst
          have hsn' : Hid (cutS l (k + 1) = (r, gm)) := hsn
          have HST := Lib.hid hst'
          clear hst hst' hsn hok1 hok2
          go_wp2_with (first
            | (at_builtin; refine wpList_append_own_at _ rfl _ _ 26 rfl w.heap.size 36 i0 (.agg #[.int .i64 0, .int .i64 0, .bool false]) 3 24 Tryd.underlying26 hi hz0 hz1 hz2 rfl (by decide) _ _ _ rfl (hO1.alloc _).1 ⟨wr.heap.size + 1, 0, none⟩ 1 1 [.int .i64 (r - lr), .int .i64 (gm - lg), .bool false] rfl rfl (World.news_of_block (heap_new2 _ _ _)) (by simp [Value.oneCell']) (by unfold maxLen; omega) (by omega) (by simp; omega) ?_; intro v' w5 hown' hgrow _ hblk; have hO2 := (hO1.alloc _).append hown' hgrow hblk; obtain ⟨b0', b1', b2', b3', b4', b5'⟩ := hO2.head.three; obtain ⟨d0', d1', d2', d3', d4', d5'⟩ := hO2.at1.three; clear hown' hgrow hblk))
          have hO3 := ((((hO2.swap2).set_ hw1 hne 0 (.int .i64 r)).set_ hw1 hne 1 (.int .i64 gm)).set_ hw1 hne 2 (.bool false)).cut1
          have hO4 : Os 36 3 w (((w5.setCell ⟨w1.heap.size, 0, none⟩ (.int .i64 r)).setCell ⟨w1.heap.size, 1, none⟩ (.int .i64 gm)).setCell ⟨w1.heap.size, 2, none⟩ (.bool false)) v' (lensTo l (k + 1)).length ((lensTo l (k + 1)).flatMap cutC) [(w1.heap.size, 36, #[.int .i64 r, .int .i64 gm, .bool false])] := by
            rw [HST.out, flat_snoc, List.length_append]
            simpa [cutC] using hO3
          clear hO hO1 hO2 hO3 hS HST
          go_wp2
          go_roundw
          case rel => exact ⟨k + 1, r, gm, by omega, by go_num, hsn', false, hO4⟩
          case measure => simp [intOf]; omega
        · have hst' : lensTo l (k + 1) = lensTo l k ++ [(r, gm, true)] := hst
          have hsn' : Hid (cutS l (k + 1) = (lr, lg)) := hsn
          have HST := Lib.hid hst'
          clear hst hst' hsn hok1 hok2 hne
          go_wp2_with (first
            | (at_builtin; refine wpList_append_own_at _ rfl _ _ 26 rfl w.heap.size 36 i0 (.agg #[.int .i64 0, .int .i64 0, .bool false]) 3 24 Tryd.underlying26 hi hz0 hz1 hz2 rfl (by decide) _ _ _ rfl (hO1.alloc _).1 ⟨wr.heap.size + 1, 0, none⟩ 1 1 [.int .i64 r, .int .i64 gm, .bool true] rfl rfl (World.news_of_block (heap_new2 _ _ _)) (by simp [Value.oneCell']) (by unfold maxLen; omega) (by omega) (by simp; omega) ?_; intro v' w5 hown' hgrow _ hblk; have hO2 := (hO1.alloc _).append hown' hgrow hblk; obtain ⟨b0', b1', b2', b3', b4', b5'⟩ := hO2.head.three; obtain ⟨d0', d1', d2', d3', d4', d5'⟩ := hO2.at1.three; clear hown' hgrow hblk))
          have hO4 : Os 36 3 w w5 v' (lensTo l (k + 1)).length ((lensTo l (k + 1)).flatMap cutC) [(w1.heap.size, 36, #[.int .i64 lr, .int .i64 lg, .bool sk0])] := by
            rw [HST.out, flat_snoc, List.length_append]
            exact hO2.tail
          clear hO hO1 hO2 hS HST
          go_wp2
          go_roundw
          case rel => exact ⟨k + 1, lr, lg, by omega, by go_num, hsn', sk0, hO4⟩
          case measure => simp [intOf]; omega
      · obtain rfl : k = n := by omega
        go_wp2_with fail
        go_ret2
        exact ⟨_, rfl, by have := hO.1; rw [lensTo_len] at this ⊢; exact this, hS.1⟩
  · have hLL : lensL l = [] := by unfold lensL; rw [hF, if_neg h0]
    rw [hLL]
    have HF := Lib.hid hF
    have hfb : (F != 0) = true := by rw [bne_iff_ne]; exact h0
    clear hl hcells hF hLL h0
    go_enter Tryd.func10, Tryd.ntmps10
    go_wp2_with fail
    refine (checkCuts_calls b A n c l _ hr hI).mono ?_
    rintro e w1 ⟨rfl, hb1⟩
    rw [HF.out]
    go_wp2_with fail
    go_ret2
    exact ⟨_, rfl, World.ownsRow_nil _ _ _ _, hb1⟩

set_option maxRecDepth 100000 in
set_option maxHeartbeats 1000000 in
theorem lengthsOf_calls (b : Nat) (A : Option Addr) (n c : Nat) (l : List Cut) (w : World) (hr : Rd w b 3 (.slice A n c) n (l.flatMap cutC)) (hF : cutF l = 0) :
    Calls Tryd.prog 12 #[.slice A n c] w fun e w' => ∃ v, e = .returned v ∧ w'.ownsRow w.heap.size 36 3 v n ((lensTo l n).flatMap cutC) ∧ Below w.heap.size w w' := by
  obtain ⟨hl, hnc, hcm, hcells⟩ := hr.cells cutC_len (by omega)
  unfold maxLen at hcm
  obtain ⟨i0, hi, hz0, hz1, hz2⟩ := info_parts info_cut
  have hlen := cutF_len hF
  rw [hl] at hlen
  have hall := cutF_all hF
  have hbd := cutS_bd hF
  have HF := Lib.hid hF
  have HL := Lib.hid hl
  have HC := Lib.hid hcells
  have HA := Lib.hid hall
  have HB := Lib.hid hbd
  have hO0 : Os 36 3 w w (.slice none 0 0) (lensTo l 0).length ((lensTo l 0).flatMap cutC) [] := Os.start (Bs.start w)
  clear hl hcells hF hall hbd
  go_enter Tryd.func12, Tryd.ntmps12
  go_wp2_with fail
  go_loopw [3, 9] (fun v i wr => ∃ k : Nat, k ≤ n ∧ i = .int .i64 k ∧ Os 36 3 w wr v (lensTo l k).length ((lensTo l k).flatMap cutC) []) (fun _ i _ => n - (intOf i).toNat)
  case atStart => exact ⟨0, Nat.zero_le _, rfl, hO0⟩
  case round =>
    clear hO0
    obtain ⟨k, hk, rfl, hO⟩ := hrel
    obtain ⟨wo, rfl⟩ : ∃ wo : World, wo = wr := ⟨_, rfl⟩
    by_cases hlt : k < n
    · have hkr : k < l.length := by rw [HL.out]; exact hlt
      obtain ⟨g, o, hA, _, hcs⟩ := HC.out (by omega)
      have hok := cutE_ok (HA.out k hkr)
      have hbd := HB.out k (by omega)
      have hst := lensTo_step l k hkr
      have hln := lensTo_len l k
      have c0 := below_cell hO.2.1.1 (hcs k hkr 0 (by omega))
      have c1 := below_cell hO.2.1.1 (hcs k hkr 1 (by omega))
      have c2 := below_cell hO.2.1.1 (hcs k hkr 2 (by omega))
      obtain ⟨⟨r, gm, sk⟩, hx⟩ : ∃ x, l[k] = x := ⟨_, rfl⟩
      rw [hx] at c0 c1 c2 hst hok
      simp only [Nat.add_zero] at c0
      simp only at hok
      obtain ⟨hok1, hok2⟩ := hok
      subst hA
      have hlz := hO.2.1.1.size
      have hnl : (lensTo l k).length ≤ 100 := by omega
      have HCS := Lib.hid hcs
      have HST := Lib.hid hst
      clear hx hcs hln hst
      cases sk
      · obtain ⟨j1, j2, j3, j4, j5, j6⟩ := hok2 rfl
        have hO1 := hO.add #[.int .i64 r, .int .i64 gm, .bool false] 36
        have hst0 : Hid (lensTo l (k + 1) = lensTo l k ++ [(r - (cutS l k).1, gm - (cutS l k).2, false)]) := HST.out
        have hk0 : Hid (cutS l k = cutS l ((k : Int) - 1 + 1).toNat) := by
          have e : ((k : Int) - 1 + 1).toNat = k := by omega
          rw [e]
          exact Lib.hid rfl
        clear hok1 hok2 hO hbd HST
        go_wp2_with fail
        go_loopw [6] (fun i wr => ∃ j : Int, -1 ≤ j ∧ j < k ∧ i = .int .i64 j ∧ Hid (cutS l k = cutS l (j + 1).toNat) ∧ Os 36 3 w wr u3 (lensTo l k).length ((lensTo l k).flatMap cutC) [(wo.heap.size, 36, #[.int .i64 r, .int .i64 gm, .bool false])]) (fun i _ => (intOf i + 1).toNat)
        case atStart => exact ⟨(k : Int) - 1, by omega, by omega, rfl, hk0, hO1⟩
        case round =>
          clear hk0 hO1
          obtain ⟨j, hj0, hjk, rfl, HK, hO⟩ := hrel
          obtain ⟨b0, b1, b2, b3, b4, b5⟩ := hO.head.three
          have hz1' := hO.2.1.1.size
          by_cases hj : 0 ≤ j
          · obtain ⟨q, rfl⟩ : ∃ q : Nat, j = (q : Int) := ⟨j.toNat, by omega⟩
            have hqr : q < l.length := by omega
            have e0 := below_cell hO.2.1.1 (HCS.out q hqr 0 (by omega))
            have e1 := below_cell hO.2.1.1 (HCS.out q hqr 1 (by omega))
            have e2 := below_cell hO.2.1.1 (HCS.out q hqr 2 (by omega))
            have hcs1 := cutS_skip l q hqr
            have hcs2 := cutS_take l q hqr
            have hcb := cutE_ok (HA.out q hqr)
            have hkk := HK.out
            rw [show ((q : Int) + 1).toNat = q + 1 by omega] at hkk
            obtain ⟨⟨qr, qg, qs⟩, hx⟩ : ∃ x, l[q] = x := ⟨_, rfl⟩
            rw [hx] at e0 e1 e2 hcs1 hcs2 hcb
            simp only [Nat.add_zero] at e0
            have hq0 : (0 : Int) ≤ (q : Int) := by omega
            have hq1 : (q : Int) < (n : Int) := by omega
            clear hx HK
            cases qs
            · have hks := hkk.trans (hcs2 rfl)
              have hb := hcb.2 rfl
              simp only at hb
              obtain ⟨m1, m2, m3, m4, m5, m6⟩ := hb
              have hst1 : lensTo l (k + 1) = lensTo l k ++ [(r - qr, gm - qg, false)] := by
                have := hst0.out
                rw [hks] at this
                exact this
              have HST := Lib.hid hst1
              clear hcs1 hcs2 hcb hkk hks hst1
              have hO3 := (hO.set_ hlz (by simp) 0 (.int .i64 (r - qr))).set_ hlz (by simp) 1 (.int .i64 (gm - qg))
              have hO5 : Os 36 3 w ((wr.setCell ⟨wo.heap.size, 0, none⟩ (.int .i64 (r - qr))).setCell ⟨wo.heap.size, 1, none⟩ (.int .i64 (gm - qg))) u3 (lensTo l k).length ((lensTo l k).flatMap cutC) [(wo.heap.size, 36, #[.int .i64 (r - qr), .int .i64 (gm - qg), .bool false])] := by simpa using hO3
              clear hO3
              go_upto_region 9 with (fail)
              go_cut [] (fun W => Os 36 3 w W u3 (lensTo l k).length ((lensTo l k).flatMap cutC) [(wo.heap.size, 36, #[.int .i64 (r - qr), .int .i64 (gm - qg), .bool false])])
              case first =>
                go_region
                all_goals (go_wp2_with fail; go_meet; exact hO5.drew)
              case rest =>
                obtain ⟨f0, f1, f2, f3, f4, f5⟩ := hcut.head.three
                have hz9 := hcut.2.1.1.size
                clear b0 b1 b2 b3 b4 b5 hO hO5 e0 e1 e2
                go_wp2_with (first
                  | (at_builtin; refine wpList_append_own_at _ rfl _ _ 26 rfl w.heap.size 36 i0 (.agg #[.int .i64 0, .int .i64 0, .bool false]) 3 24 Tryd.underlying26 hi hz0 hz1 hz2 rfl (by decide) _ _ _ rfl (hcut.alloc _).1 ⟨wc.heap.size, 0, none⟩ 1 1 [.int .i64 (r - qr), .int .i64 (gm - qg), .bool false] rfl rfl (World.news_of_block (heap_alloc_new _ _)) (by simp [Value.oneCell']) (by unfold maxLen; omega) (by omega) (by simp; omega) ?_; intro v' w5 hown' hgrow _ hblk; have hO2 := (hcut.alloc _).append hown' hgrow hblk; clear hown' hgrow hblk))
                have hO4 : Os 36 3 w w5 v' (lensTo l (k + 1)).length ((lensTo l (k + 1)).flatMap cutC) [] := by
                  rw [HST.out, flat_snoc, List.length_append]
                  simpa [cutC] using hO2.tail
                clear hcut hO2 HST
                go_wp2
                go_roundw
                case rel => exact ⟨k + 1, by omega, by go_num, hO4⟩
                case measure => simp [intOf]; omega
            · have hks := hkk.trans (hcs1 rfl)
              have HK2 : Hid (cutS l k = cutS l ((q : Int) - 1 + 1).toNat) := by
                rw [show ((q : Int) - 1 + 1).toNat = q by omega]
                exact Lib.hid hks
              clear hcs1 hcs2 hcb hkk hks
              go_wp2_with fail
              go_roundw
              case rel => exact ⟨(q : Int) - 1, by omega, by omega, rfl, HK2, hO⟩
              case measure => simp [intOf]
          · have hst1 : lensTo l (k + 1) = lensTo l k ++ [(r, gm, false)] := by
              have := hst0.out
              rw [HK.out, show (j + 1).toNat = 0 by omega] at this
              simpa [cutS] using this
            have HST := Lib.hid hst1
            clear HK hst1
            go_wp2_with (first
              | (at_builtin; refine wpList_append_own_at _ rfl _ _ 26 rfl w.heap.size 36 i0 (.agg #[.int .i64 0, .int .i64 0, .bool false]) 3 24 Tryd.underlying26 hi hz0 hz1 hz2 rfl (by decide) _ _ _ rfl (hO.alloc _).1 ⟨wr.heap.size, 0, none⟩ 1 1 [.int .i64 r, .int .i64 gm, .bool false] rfl rfl (World.news_of_block (heap_alloc_new _ _)) (by simp [Value.oneCell']) (by unfold maxLen; omega) (by omega) (by simp; omega) ?_; intro v' w5 hown' hgrow _ hblk; have hO2 := (hO.alloc _).append hown' hgrow hblk; clear hown' hgrow hblk))
            have hO4 : Os 36 3 w w5 v' (lensTo l (k + 1)).length ((lensTo l (k + 1)).flatMap cutC) [] := by
              rw [HST.out, flat_snoc, List.length_append]
              simpa [cutC] using hO2.tail
            clear hO hO2 HST
            go_wp2
            go_roundw
            case rel => exact ⟨k + 1, by omega, by go_num, hO4⟩
            case measure => simp [intOf]; omega
      · have hO1 := hO.add #[.int .i64 r, .int .i64 gm, .bool true] 36
        have hz0' := hO1.2.1.1.size
        have HST' : Hid (lensTo l (k + 1) = lensTo l k ++ [(r, gm, true)]) := HST.out
        clear hok1 hok2 hO hbd HST
        go_wp2_with fail
        go_loopw [6] (fun i wr => i = .int .i64 ((k : Int) - 1) ∧ wr = wo.alloc (.cells #[.int .i64 r, .int .i64 gm, .bool true] 36)) (fun _ _ => 0)
        case atStart => exact ⟨rfl, rfl⟩
        case round =>
          obtain ⟨rfl, rfl⟩ := hrel
          obtain ⟨b0, b1, b2, b3, b4, b5⟩ := hO1.head.three
          have HST := HST'
          clear HST'
          by_cases hk0 : (k : Int) - 1 < 0
          · have hk1 : ¬ (0 : Int) ≤ (k : Int) - 1 := by omega
            go_wp2_with (first
              | (at_builtin; refine wpList_append_own_at _ rfl _ _ 26 rfl w.heap.size 36 i0 (.agg #[.int .i64 0, .int .i64 0, .bool false]) 3 24 Tryd.underlying26 hi hz0 hz1 hz2 rfl (by decide) _ _ _ rfl (hO1.alloc _).1 ⟨wo.heap.size + 1, 0, none⟩ 1 1 [.int .i64 r, .int .i64 gm, .bool true] rfl rfl (World.news_of_block (heap_new2 _ _ _)) (by simp [Value.oneCell']) (by unfold maxLen; omega) (by omega) (by simp; omega) ?_; intro v' w5 hown' hgrow _ hblk; have hO2 := (hO1.alloc _).append hown' hgrow hblk; clear hown' hgrow hblk))
            have hO4 : Os 36 3 w w5 v' (lensTo l (k + 1)).length ((lensTo l (k + 1)).flatMap cutC) [] := by
              rw [HST.out, flat_snoc, List.length_append]
              simpa [cutC] using hO2.tail
            clear hO1 hO2 HST
            go_wp2
            go_roundw
            case rel => exact ⟨k + 1, by omega, by go_num, hO4⟩
            case measure => simp [intOf]; omega
          · have hk1 : (0 : Int) ≤ (k : Int) - 1 := by omega
            go_wp2_with (first
              | (at_builtin; refine wpList_append_own_at _ rfl _ _ 26 rfl w.heap.size 36 i0 (.agg #[.int .i64 0, .int .i64 0, .bool false]) 3 24 Tryd.underlying26 hi hz0 hz1 hz2 rfl (by decide) _ _ _ rfl (hO1.alloc _).1 ⟨wo.heap.size + 1, 0, none⟩ 1 1 [.int .i64 r, .int .i64 gm, .bool true] rfl rfl (World.news_of_block (heap_new2 _ _ _)) (by simp [Value.oneCell']) (by unfold maxLen; omega) (by omega) (by simp; omega) ?_; intro v' w5 hown' hgrow _ hblk; have hO2 := (hO1.alloc _).append hown' hgrow hblk; clear hown' hgrow hblk))
            have hO4 : Os 36 3 w w5 v' (lensTo l (k + 1)).length ((lensTo l (k + 1)).flatMap cutC) [] := by
              rw [HST.out, flat_snoc, List.length_append]
              simpa [cutC] using hO2.tail
            clear hO1 hO2 HST
            go_wp2
            go_roundw
            case rel => exact ⟨k + 1, by omega, by go_num, hO4⟩
            case measure => simp [intOf]; omega
    · obtain rfl : k = n := by omega
      go_wp2_with fail
      go_ret
      exact ⟨_, rfl, by have := hO.1; rw [lensTo_len] at this; exact this, hO.2.1.1⟩
end Go.Proofs.YtgpgnilgloojhaaDoor
