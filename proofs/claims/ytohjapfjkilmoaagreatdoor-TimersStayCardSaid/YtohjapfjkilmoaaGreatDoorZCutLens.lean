/-
  timer.Lengths and splitref2.LengthsOf of right cuts by contracts: both answer lensTo.
-/
import Derived.Test.YtohjapfjkilmoaaGreatDoorZCutCheck
import Derived.Deep.DeepCutAuto
import Derived.RegionTactic
import Derived.ChangeAlike
namespace Go.Proofs.YtohjapfjkilmoaaGreatDoor
open Go Go.RowKit

def lensL (l : List Cut) : List Cut := if cutF l = 0 then lensTo l l.length else []
/-- cuts and an error were returned -/
def LensE (l : List Cut) (w : World) (e : Ending) (w' : World) : Prop :=
  ∃ v, e = .returned (.tuple #[v, .int .i64 (cutF l)]) ∧ w'.ownsRow w.heap.size 40 3 v (lensL l).length ((lensL l).flatMap cutC) ∧ Below w.heap.size w w'


set_option maxRecDepth 100000 in
set_option maxHeartbeats 1000000 in
theorem lengths_calls (b : Nat) (A : Option Addr) (n c : Nat) (l : List Cut) (w : World) (hr : Rd w b 3 (.slice A n c) n (l.flatMap cutC)) (hI : CutI l) :
    Calls Tryz.prog 11 #[.slice A n c] w (LensE l w) := by
  obtain ⟨hl, hnc, hcm, hcells⟩ := hr.cells cutC_len (by omega)
  unfold maxLen at hcm
  obtain ⟨i0, hi, hz0, hz1, hz2⟩ := info_parts info_cut
  obtain ⟨F, hF⟩ : ∃ z, cutF l = z := ⟨_, rfl⟩
  unfold LensE
  rw [hF]
  by_cases h0 : F = 0
  · subst h0
    have hlen := cutF_len hF
    have hLL : lensL l = lensTo l l.length := by unfold lensL; rw [if_pos hF]
    rw [hLL, hl]
    rw [hl] at hlen
    have hall := cutF_all hF
    have hbd := cutS_bd hF
    have HF := Lib.hid hF
    have HL := Lib.hid hl
    have HC := Lib.hid hcells
    have HA := Lib.hid hall
    have HB := Lib.hid hbd
    clear hl hcells hF hLL hall hbd
    go_enter Tryz.func11, Tryz.ntmps11
    go_wp2_with fail
    refine (checkCuts_calls b A n c l _ hr hI).mono ?_
    rintro e w1 ⟨rfl, hb1⟩
    rw [HF.out]
    have hS0 := ((Bs.start w).below hb1).add #[.int .i64 0, .int .i64 0, .bool false] 40
    have hw1 := hb1.size
    have h00 : Hid (cutS l 0 = (0, 0)) := rfl
    clear hb1
    go_wp2_with fail
    go_loopw [5, 16] (fun v i wr => ∃ (k : Nat) (lr lg : Int), k ≤ n ∧ i = .int .i64 k ∧ Hid (cutS l k = (lr, lg)) ∧ ∃ sk, Os 40 3 w wr v (lensTo l k).length ((lensTo l k).flatMap cutC) [(w1.heap.size, 40, #[.int .i64 lr, .int .i64 lg, .bool sk])]) (fun _ i _ => n - (intOf i).toNat)
    case atStart => exact ⟨0, 0, 0, Nat.zero_le _, rfl, h00, false, Os.start hS0⟩
    case round =>
      clear hS0 h00
      obtain ⟨k, lr, lg, hk, rfl, HS, sk0, hO⟩ := hrel
      have hS := hO.2.1
      by_cases hlt : k < n
      · have hkr : k < l.length := by rw [HL.out]; exact hlt
        obtain ⟨g, o, hA, _, hcs⟩ := HC.out (by omega)
        have hok := cutE_ok (HA.out k hkr)
        have hbd := HB.out k (by omega)
        have hst := lensTo_step l k hkr
        have hsn := cutS_step l k hkr
        have hln := lensTo_len l k
        rw [HS.out] at hok hbd hst hsn
        have c0 := below_cell hS.1 (hcs k hkr 0 (by omega))
        have c1 := below_cell hS.1 (hcs k hkr 1 (by omega))
        have c2 := below_cell hS.1 (hcs k hkr 2 (by omega))
        obtain ⟨⟨r, gm, sk⟩, hx⟩ : ∃ x, l[k] = x := ⟨_, rfl⟩
        rw [hx] at c0 c1 c2 hst hsn hok
        simp only [Nat.add_zero] at c0
        simp only at hok hbd
        obtain ⟨hok1, hok2⟩ := hok
        obtain ⟨bd1, bd2, bd3, bd4⟩ := hbd
        subst hA
        have hO1 := hO.add #[.int .i64 r, .int .i64 gm, .bool sk] 40
        have hlz := hS.1.size
        have hn1 := hS.head.lt
        have hz0' := hO1.2.1.1.size
        obtain ⟨b0, b1, b2, b3, b4, b5⟩ := hO1.head.three
        obtain ⟨d0, d1, d2, d3, d4, d5⟩ := hO1.at1.three
        have hne : ∀ p ∈ ([(wr.heap.size, 40, #[.int .i64 r, .int .i64 gm, .bool sk])] : List (Nat × TypeId × Array Value)), p.1 ≠ w1.heap.size := by
          intro p hp
          simp only [List.mem_cons, List.not_mem_nil, or_false] at hp
          subst hp
          simp only [ne_eq]; omega
        have hnl : (lensTo l k).length ≤ 100 := by omega
        clear hx hcs hln HS
        cases sk
        · obtain ⟨j1, j2, j3, j4, j5, j6⟩ := hok2 rfl
          have hst' : lensTo l (k + 1) = lensTo l k ++ [(r - lr, gm - lg, false)] := hst
          have hsn' : Hid (cutS l (k + 1) = (r, gm)) := hsn
          have HST := Lib.hid hst'
          clear hst hst' hsn hok1 hok2
          go_wp2_with (first
            | (at_builtin; refine wpList_append_own_at _ rfl _ _ 28 rfl w.heap.size 40 i0 (.agg #[.int .i64 0, .int .i64 0, .bool false]) 3 24 Tryz.underlying28 hi hz0 hz1 hz2 rfl (by decide) _ _ _ rfl (hO1.alloc _).1 ⟨wr.heap.size + 1, 0, none⟩ 1 1 [.int .i64 (r - lr), .int .i64 (gm - lg), .bool false] rfl rfl (World.news_of_block (heap_new2 _ _ _)) (by simp [Value.oneCell']) (by unfold maxLen; omega) (by omega) (by simp; omega) ?_; intro v' w5 hown' hgrow _ hblk; have hO2 := (hO1.alloc _).append hown' hgrow hblk; obtain ⟨b0', b1', b2', b3', b4', b5'⟩ := hO2.head.three; obtain ⟨d0', d1', d2', d3', d4', d5'⟩ := hO2.at1.three; clear hown' hgrow hblk))
          have hO3 := ((((hO2.swap2).set_ hw1 hne 0 (.int .i64 r)).set_ hw1 hne 1 (.int .i64 gm)).set_ hw1 hne 2 (.bool false)).cut1
          have hO4 : Os 40 3 w (((w5.setCell ⟨w1.heap.size, 0, none⟩ (.int .i64 r)).setCell ⟨w1.heap.size, 1, none⟩ (.int .i64 gm)).setCell ⟨w1.heap.size, 2, none⟩ (.bool false)) v' (lensTo l (k + 1)).length ((lensTo l (k + 1)).flatMap cutC) [(w1.heap.size, 40, #[.int .i64 r, .int .i64 gm, .bool false])] := by
            rw [HST.out, flat_snoc, List.length_append]
            simpa [cutC] using hO3
          clear hO hO1 hO2 hO3 hS HST
          go_wp2
          go_roundw
          case rel => exact ⟨k + 1, r, gm, by omega, by go_num, hsn', false, hO4⟩
          case measure => simp [intOf]; omega
        · have hst' : lensTo l (k + 1) = lensTo l k ++ [(r, gm, true)] := hst
          have hsn' : Hid (cutS l (k + 1) = (lr, lg)) := hsn
          have HST := Lib.hid hst'
          clear hst hst' hsn hok1 hok2 hne
          go_wp2_with (first
            | (at_builtin; refine wpList_append_own_at _ rfl _ _ 28 rfl w.heap.size 40 i0 (.agg #[.int .i64 0, .int .i64 0, .bool false]) 3 24 Tryz.underlying28 hi hz0 hz1 hz2 rfl (by decide) _ _ _ rfl (hO1.alloc _).1 ⟨wr.heap.size + 1, 0, none⟩ 1 1 [.int .i64 r, .int .i64 gm, .bool true] rfl rfl (World.news_of_block (heap_new2 _ _ _)) (by simp [Value.oneCell']) (by unfold maxLen; omega) (by omega) (by simp; omega) ?_; intro v' w5 hown' hgrow _ hblk; have hO2 := (hO1.alloc _).append hown' hgrow hblk; obtain ⟨b0', b1', b2', b3', b4', b5'⟩ := hO2.head.three; obtain ⟨d0', d1', d2', d3', d4', d5'⟩ := hO2.at1.three; clear hown' hgrow hblk))
          have hO4 : Os 40 3 w w5 v' (lensTo l (k + 1)).length ((lensTo l (k + 1)).flatMap cutC) [(w1.heap.size, 40, #[.int .i64 lr, .int .i64 lg, .bool sk0])] := by
            rw [HST.out, flat_snoc, List.length_append]
            exact hO2.tail
          clear hO hO1 hO2 hS HST
          go_wp2
          go_roundw
          case rel => exact ⟨k + 1, lr, lg, by omega, by go_num, hsn', sk0, hO4⟩
          case measure => simp [intOf]; omega
      · obtain rfl : k = n := by omega
        go_wp2_with fail
        go_ret2
        exact ⟨_, rfl, by have := hO.1; rw [lensTo_len] at this ⊢; exact this, hS.1⟩
  · have hLL : lensL l = [] := by unfold lensL; rw [hF, if_neg h0]
    rw [hLL]
    have HF := Lib.hid hF
    have hfb : (F != 0) = true := by rw [bne_iff_ne]; exact h0
    clear hl hcells hF hLL h0
    go_enter Tryz.func11, Tryz.ntmps11
    go_wp2_with fail
    refine (checkCuts_calls b A n c l _ hr hI).mono ?_
    rintro e w1 ⟨rfl, hb1⟩
    rw [HF.out]
    go_wp2_with fail
    go_ret2
    exact ⟨_, rfl, World.ownsRow_nil _ _ _ _, hb1⟩

end Go.Proofs.YtohjapfjkilmoaaGreatDoor
