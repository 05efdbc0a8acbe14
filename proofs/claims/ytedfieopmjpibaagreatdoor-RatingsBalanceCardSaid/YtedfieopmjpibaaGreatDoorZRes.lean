/-
  race.resultsFault and splitref2.RatesFault by contracts: both answer resF (RatesFault behind ratedF).
-/
import Derived.Test.YtedfieopmjpibaaGreatDoorZHas
namespace Go.Proofs.YtedfieopmjpibaaGreatDoor
open Go Go.RowKit

def resG (rs : List Rtd) (r : List Res) (wt : Int) : Nat → List Res → Int
  | _, [] => if outB wt 1 1000 = true then 1 else if r.length = 1 then 3 else 0
  | k, x :: t => if findR rs x.2.1 < 0 then 8 else if hasR (r.take k) x.2.1 = true then 6 else if outB x.1 1 128 = true then 1 else resG rs r wt (k + 1) t
def resF (rs : List Rtd) (r : List Res) (wt : Int) : Int := if 128 < r.length then 2 else resG rs r wt 0 r
def ratesF (rs : List Rtd) (r : List Res) (wt : Int) : Int := if ratedF rs = 0 then resF rs r wt else ratedF rs
theorem resG_step (rs : List Rtd) (r : List Res) (wt : Int) (k : Nat) (hk : k < r.length) : resG rs r wt k (r.drop k) =
    if findR rs r[k].2.1 < 0 then 8 else if hasR (r.take k) r[k].2.1 = true then 6 else if outB r[k].1 1 128 = true then 1 else resG rs r wt (k + 1) (r.drop (k + 1)) := by
  rw [List.drop_eq_getElem_cons hk, resG]
theorem take_flat {α : Type} (f : α → List Value) (k : Nat) (hf : ∀ a, (f a).length = k) : ∀ (rs : List α) (m : Nat), (rs.take m).flatMap f = (rs.flatMap f).take (m * k)
  | [], m => by simp
  | r :: rs, 0 => by simp
  | r :: rs, m + 1 => by
    simp only [List.take_succ_cons, List.flatMap_cons, take_flat f k hf rs m]
    rw [List.take_append, hf, List.take_of_length_le (l := f r) (by rw [hf, Nat.add_mul]; omega), show (m + 1) * k - k = m * k by rw [Nat.add_mul]; omega]
theorem Rd.takeF {α : Type} {w : World} {b k n c : Nat} {A : Option Addr} {f : α → List Value} {rs : List α} (h : Rd w b k (.slice A n c) n (rs.flatMap f)) (hf : ∀ a, (f a).length = k) (m : Nat) (hm : m ≤ n) :
    Rd w b k (.slice A m c) m ((rs.take m).flatMap f) := by
  obtain ⟨A', c', e1, e2, e3, e4, e5, e6⟩ := h
  injection e1 with ea eb ec
  subst ea ec
  rw [take_flat f k hf]
  refine ⟨A, c, rfl, by omega, e3, by rw [List.length_take, e4]; exact Nat.min_eq_left (Nat.mul_le_mul_right _ hm), fun h => ⟨by have := (e5 h).1; omega, (e5 h).2⟩, fun hn => ?_⟩
  obtain ⟨g, o, f1, f2, f3⟩ := e6 (by omega)
  refine ⟨g, o, f1, f2, fun j u hu => f3 j u ?_⟩
  rw [List.getElem?_take] at hu
  split at hu
  · exact hu
  · cases hu

set_option maxRecDepth 100000 in
set_option maxHeartbeats 800000 in
theorem resultsFault_calls (b : Nat) (A : Option Addr) (n c : Nat) (rs : List Rtd) (A2 : Option Addr) (m c2 : Nat) (r : List Res) (wt : Int) (w : World) (hr : Rd w b 3 (.slice A n c) n (rs.flatMap ratedC)) (hr2 : Rd w b 3 (.slice A2 m c2) m (r.flatMap resC)) (hss : Rss r) :
    Calls Tryz.prog 38 #[.slice A n c, .slice A2 m c2, .int .i64 wt] w (BRet (.int .i64 (resF rs r wt)) w) := by
  obtain ⟨hl, hnc, hcm, hcells⟩ := hr2.cells resC_len (by omega)
  unfold maxLen at hcm
  by_cases hbig : 128 < m
  · have HF := Lib.hid (show resF rs r wt = 2 by unfold resF; rw [if_pos (by omega)])
    clear hcells hl
    go_enter Tryz.func38, Tryz.ntmps38
    go_wp2_with fail
    go_ret
    exact ⟨ret_int HF.out.symm, Below.refl _ _⟩
  have HF := Lib.hid (show resF rs r wt = resG rs r wt 0 (r.drop 0) by unfold resF; rw [if_neg (by omega)]; rfl)
  have HL := Lib.hid hl
  have HC := Lib.hid hcells
  clear hcells hl
  go_enter Tryz.func38, Tryz.ntmps38
  go_wp2_with fail
  go_loopw [14] (fun i wr => ∃ k : Nat, k ≤ m ∧ i = .int .i64 k ∧ Hid (resF rs r wt = resG rs r wt k (r.drop k)) ∧ Below w.heap.size w wr) (fun i _ => m - (intOf i).toNat)
  case atStart => exact ⟨0, Nat.zero_le _, rfl, HF, Below.refl _ _⟩
  case round =>
    clear HF
    obtain ⟨k, hk, rfl, HF, hbr⟩ := hrel
    by_cases hlt : k < m
    · have hkr : k < r.length := by rw [HL.out]; exact hlt
      obtain ⟨g, o, hA, _, hcs⟩ := HC.out (by omega)
      subst hA
      have c0 := below_cell hbr (hcs k hkr 0 (by omega))
      have c1 := below_cell hbr (hcs k hkr 1 (by omega))
      have c2' := below_cell hbr (hcs k hkr 2 (by omega))
      have hri := hss _ (List.getElem_mem hkr)
      have hst := HF.out.trans (resG_step rs r wt k hkr)
      obtain ⟨x, hx⟩ : ∃ x, r[k] = x := ⟨_, rfl⟩
      rw [hx] at c0 c1 c2' hri hst
      simp only [Nat.add_zero] at c0
      have hlz := hbr.size
      have hfg := ixOf_ge (fun q : Rtd => eqS q.1 x.2.1) rs
      have HRd := Lib.hid ((hr.below hbr).below ((Below.refl _ wr).alloc (Nat.le_refl _) (.cells #[.int .i64 x.1, .string x.2.1, .int .i64 x.2.2] 50)))
      have HRd2 := Lib.hid ((hr2.takeF resC_len k (by omega)).below (hbr.alloc hbr.size (.cells #[.int .i64 x.1, .string x.2.1, .int .i64 x.2.2] 50)))
      clear hx hcs
      obtain ⟨fx, hfx⟩ : ∃ fx, findR rs x.2.1 = fx := ⟨_, rfl⟩
      rw [hfx] at hst
      have hfx0 : -1 ≤ fx := by rw [← hfx]; exact hfg.1
      have HFX := Lib.hid hfx
      clear hfx hfg
      by_cases hneg : fx < 0
      · rw [if_pos hneg] at hst
        have HS := Lib.hid hst
        clear hst
        go_wp2_with fail
        refine (find_calls b A n c rs x.2.1 _ HRd.out).mono ?_
        rintro e w1 ⟨rfl, hb1⟩
        rw [HFX.out]
        go_wp2_with fail
        go_ret
        exact ⟨ret_int HS.out.symm, below_call (hbr.alloc hbr.size _) hb1 (Nat.le_refl _)⟩
      · rw [if_neg hneg] at hst
        have HST := Lib.hid hst
        clear hst
        go_wp2_with fail
        refine (find_calls b A n c rs x.2.1 _ HRd.out).mono ?_
        rintro e w1 ⟨rfl, hb1⟩
        rw [HFX.out]
        have hb1' := below_call (hbr.alloc hbr.size _) hb1 (Nat.le_refl _)
        have B1 : Blk w1 wr.heap.size 50 #[.int .i64 x.1, .string x.2.1, .int .i64 x.2.2] := (Blk.new wr _ _).below hb1
        have R2 := HRd2.out.below hb1
        have hk0 : (0 : Int) ≤ (k : Int) := by omega
        have hkc : (k : Int) ≤ (c2 : Int) := by omega
        go_wp2_with fail
        refine (hasP_calls b _ _ k c2 (r.take k) x _ R2 B1).mono ?_
        rintro e w2 ⟨rfl, hb2⟩
        have hb2' := below_call hb1' hb2 (Nat.le_refl _)
        have B2 := B1.below hb2
        obtain ⟨d0, d1, d2, d3, d4, d5⟩ := B2.three
        have hst := HST.out
        cases hh : hasR (r.take k) x.2.1
        · rw [hh, if_neg (by simp)] at hst
          have HST2 := Lib.hid hst
          clear hst
          go_wp2_with fail
          refine (out_calls x.1 1 128 _).mono ?_
          rintro e w3 ⟨rfl, rfl⟩
          have hst := HST2.out
          cases ho : outB x.1 1 128
          · rw [ho, if_neg (by simp)] at hst
            have HS := Lib.hid hst
            clear hst hh ho
            go_wp2_with fail
            go_roundw
            case rel => exact ⟨k + 1, by omega, by go_num, HS, hb2'⟩
            case measure => simp [intOf]; omega
          · rw [ho, if_pos rfl] at hst
            have HS := Lib.hid hst
            clear hst hh ho
            go_wp2_with fail
            go_ret
            exact ⟨ret_int HS.out.symm, hb2'⟩
        · rw [hh, if_pos rfl] at hst
          have HS := Lib.hid hst
          clear hst hh
          go_wp2_with fail
          go_ret
          exact ⟨ret_int HS.out.symm, hb2'⟩
    · obtain rfl : k = m := by omega
      have hst : resF rs r wt = resG rs r wt k [] := HF.out.trans (by rw [List.drop_of_length_le (by rw [HL.out]; exact Nat.le_refl _)])
      rw [resG] at hst
      have HST := Lib.hid hst
      clear hst
      go_wp2_with fail
      refine (out_calls wt 1 1000 _).mono ?_
      rintro e w3 ⟨rfl, rfl⟩
      have hst := HST.out
      cases ho : outB wt 1 1000
      · rw [ho, if_neg (by simp), HL.out] at hst
        cases h1 : decide (k = 1)
        · have hk1 : ¬ k = 1 := of_decide_eq_false h1
          rw [if_neg hk1] at hst
          have HS := Lib.hid hst
          have hk2 : ((k : Int) == 1) = false := by simp; omega
          clear hst ho h1 hk1
          go_wp2_with fail
          go_ret
          exact ⟨ret_int HS.out.symm, hbr⟩
        · have hk1 : k = 1 := of_decide_eq_true h1
          rw [if_pos hk1] at hst
          have HS := Lib.hid hst
          have hk2 : ((k : Int) == 1) = true := by simp; omega
          clear hst ho h1 hk1
          go_wp2_with fail
          go_ret
          exact ⟨ret_int HS.out.symm, hbr⟩
      · rw [ho, if_pos rfl] at hst
        have HS := Lib.hid hst
        clear hst ho
        go_wp2_with fail
        go_ret
        exact ⟨ret_int HS.out.symm, hbr⟩
end Go.Proofs.YtedfieopmjpibaaGreatDoor
