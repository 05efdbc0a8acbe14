/-
  marathon.Clashes by a contract; slices.Equal of places and of pairs: two slices that read alike are equal. (Printed by gen_slot11.py.)
-/
import Derived.Test.YtlfhommeomchoaaZSlot9
namespace Go.Proofs.Ytlfhommeomchoaa
open Go Go.RowKit

def clashE (rest : Int) (xs : List Slt) : Int := if slotsF xs = 0 then if outB rest 0 86400000 = true then 1 else 0 else slotsF xs
/-- what Clashes answers -/
def clashL (rest : Int) (xs : List Slt) : List Pr := if clashE rest xs = 0 then clF xs rest else []
def ClashS (l : List Pr) (er : Int) (w : World) (e : Ending) (w' : World) : Prop :=
  ∃ v, e = .returned (.tuple #[v, .int .i64 er]) ∧ w'.ownsRow w.heap.size 83 2 v l.length (l.flatMap prC) ∧ Below w.heap.size w w'

set_option maxRecDepth 100000 in
theorem clashesX_calls (b : Nat) (A : Option Addr) (n c : Nat) (xs : List Slt) (rest : Int) (w : World) (hr : Slts w b A n c xs) (hn : n ≤ 1000) (hb : b < w.heap.size) (hrest : -4398046511104 ≤ rest ∧ rest ≤ 4398046511104) :
    Calls Try.prog 36 #[.slice A n c, .int .i64 rest] w (ClashS (clashL rest xs) (clashE rest xs) w) := by
  obtain ⟨E, hE⟩ : ∃ E, slotsF xs = E := ⟨_, rfl⟩
  obtain ⟨O, hO⟩ : ∃ O, outB rest 0 86400000 = O := ⟨_, rfl⟩
  have hF : clashE rest xs = if E = 0 then if O = true then 1 else 0 else E := by unfold clashE; rw [hE, hO]
  have HCS := Lib.hid (checkSlots_calls b A n c xs w hr hb)
  rw [hE] at HCS
  have HOC : Hid (∀ W, Calls Try.prog 92 #[.int .i64 rest, .int .i64 0, .int .i64 86400000] W (fun e w' => e = .returned (.bool O) ∧ W = w')) := by rw [← hO]; exact fun W => out_calls _ _ _ W
  have HR := Lib.hid hr
  have HRS := Lib.hid hrest
  clear hE hO hr hrest
  by_cases hz : E = 0
  · rw [if_pos hz] at hF
    subst hz
    cases O
    · have h0 : clashE rest xs = 0 := hF.trans (if_neg (by simp))
      have hl : clashL rest xs = clF xs rest := by unfold clashL; rw [if_pos h0]
      rw [h0, hl]
      clear hF h0 hl
      go_enter Try.func36, Try.ntmps36
      go_wp2_with fail
      refine HCS.out.mono ?_
      rintro e w1 ⟨rfl, hb1⟩
      go_wp2_with fail
      refine (HOC.out _).mono ?_
      rintro e w2 ⟨rfl, rfl⟩
      have hz1 := hb1.size
      go_wp2_with fail
      refine (clashes_calls b A n c xs rest _ (HR.out.below hb1) hn (by omega) HRS.out).mono ?_
      rintro e w4 ⟨v, rfl, hown, hb4⟩
      have hb5 := below_call hb1 hb4 (Nat.le_refl _)
      have hown2 := own_base hown hb1.size
      go_wp2_with fail
      refine bodyPost_ret (v := .tuple #[v, .int .i64 0]) (by simp [results, Try.results36, go_sem]) rfl ⟨v, rfl, hown2, hb5⟩
    · have h0 : clashE rest xs = 1 := hF.trans (if_pos rfl)
      have hl : clashL rest xs = [] := by unfold clashL; rw [if_neg (by omega)]
      rw [h0, hl]
      clear hF h0 hl
      go_enter Try.func36, Try.ntmps36
      go_wp2_with fail
      refine HCS.out.mono ?_
      rintro e w1 ⟨rfl, hb1⟩
      go_wp2_with fail
      refine (HOC.out _).mono ?_
      rintro e w2 ⟨rfl, rfl⟩
      go_wp2_with fail
      refine bodyPost_ret (v := .tuple #[.slice none 0 0, .int .i64 1]) (by simp [results, Try.results36, go_sem]) rfl ⟨_, rfl, World.ownsRow_nil _ _ _ _, hb1⟩
  · have h0 : clashE rest xs = E := hF.trans (if_neg hz)
    have hl : clashL rest xs = [] := by unfold clashL; rw [if_neg (by omega)]
    rw [h0, hl]
    have hz' : (E != 0) = true := by rw [bne_iff_ne]; exact hz
    clear hF h0 hl
    go_enter Try.func36, Try.ntmps36
    go_wp2_with fail
    refine HCS.out.mono ?_
    rintro e w1 ⟨rfl, hb1⟩
    go_wp2_with fail
    refine bodyPost_ret (v := .tuple #[.slice none 0 0, .int .i64 E]) (by simp [results, Try.results36, go_sem]) rfl ⟨_, rfl, World.ownsRow_nil _ _ _ _, hb1⟩

set_option maxRecDepth 100000 in
theorem equalPlc_calls (b : Nat) (A A2 : Option Addr) (n c c2 : Nat) (rs : List Plc) (w : World) (hr : Rd w b 4 (.slice A n c) n (rs.flatMap plcC)) (hr2 : Rd w b 4 (.slice A2 n c2) n (rs.flatMap plcC)) :
    Calls Try.prog 43 #[.slice A n c, .slice A2 n c2] w (QRet (.bool true) w) := by
  obtain ⟨hl, hnc, hcm, hcells⟩ := hr.cells plcC_len (by omega)
  obtain ⟨_, _, hcm2, hcells2⟩ := hr2.cells plcC_len (by omega)
  unfold maxLen at hcm hcm2
  have HL := Lib.hid hl
  have HC := Lib.hid hcells
  have HC2 := Lib.hid hcells2
  have hnn : ((n : Int) != (n : Int)) = false := by simp
  clear hcells hcells2 hl hr hr2
  go_enter Try.func43, Try.ntmps43
  go_wp2_with fail
  go_loopw [13] (fun i wr => ∃ k nq : Nat, k ≤ n ∧ i = .int .i64 k ∧ wr = w.drewN nq) (fun i _ => n - (intOf i).toNat)
  case atStart => exact ⟨0, 0, Nat.zero_le _, rfl, rfl⟩
  case round =>
    obtain ⟨k, nq, hk, rfl, rfl⟩ := hrel
    by_cases hlt : k < n
    · have hkr : k < rs.length := by rw [HL.out]; exact hlt
      obtain ⟨g, o, hA, _, hcs⟩ := HC.out (by omega)
      obtain ⟨g2, o2, hA2, _, hcs2⟩ := HC2.out (by omega)
      subst hA hA2
      have c0 := hcs k hkr 0 (by omega)
      have x0 := hcs2 k hkr 0 (by omega)
      have c1 := hcs k hkr 1 (by omega)
      have x1 := hcs2 k hkr 1 (by omega)
      have c2 := hcs k hkr 2 (by omega)
      have x2 := hcs2 k hkr 2 (by omega)
      have c3 := hcs k hkr 3 (by omega)
      have x3 := hcs2 k hkr 3 (by omega)
      simp only [plcC, Nat.add_zero, List.getElem?_cons_zero, List.getElem?_cons_succ] at c0 x0 c1 x1 c2 x2 c3 x3
      have hk0 : (0 : Int) ≤ (k : Int) := by omega
      have hk1 : (k : Int) < (n : Int) := by omega
      clear hcs hcs2
      go_wp2_with fail
      go_quiet (fail)
      go_wp2_with fail
      go_roundw
      case rel => exact ⟨k + 1, _, by omega, by go_num, rfl⟩
      case measure => simp [intOf]; omega
    · obtain rfl : k = n := by omega
      go_wp2_with fail
      go_ret
      exact ⟨rfl, nq, rfl⟩

set_option maxRecDepth 100000 in
theorem equalPr_calls (b : Nat) (A A2 : Option Addr) (n c c2 : Nat) (rs : List Pr) (w : World) (hr : Rd w b 2 (.slice A n c) n (rs.flatMap prC)) (hr2 : Rd w b 2 (.slice A2 n c2) n (rs.flatMap prC)) :
    Calls Try.prog 44 #[.slice A n c, .slice A2 n c2] w (QRet (.bool true) w) := by
  obtain ⟨hl, hnc, hcm, hcells⟩ := hr.cells prC_len (by omega)
  obtain ⟨_, _, hcm2, hcells2⟩ := hr2.cells prC_len (by omega)
  unfold maxLen at hcm hcm2
  have HL := Lib.hid hl
  have HC := Lib.hid hcells
  have HC2 := Lib.hid hcells2
  have hnn : ((n : Int) != (n : Int)) = false := by simp
  clear hcells hcells2 hl hr hr2
  go_enter Try.func44, Try.ntmps44
  go_wp2_with fail
  go_loopw [13] (fun i wr => ∃ k nq : Nat, k ≤ n ∧ i = .int .i64 k ∧ wr = w.drewN nq) (fun i _ => n - (intOf i).toNat)
  case atStart => exact ⟨0, 0, Nat.zero_le _, rfl, rfl⟩
  case round =>
    obtain ⟨k, nq, hk, rfl, rfl⟩ := hrel
    by_cases hlt : k < n
    · have hkr : k < rs.length := by rw [HL.out]; exact hlt
      obtain ⟨g, o, hA, _, hcs⟩ := HC.out (by omega)
      obtain ⟨g2, o2, hA2, _, hcs2⟩ := HC2.out (by omega)
      subst hA hA2
      have c0 := hcs k hkr 0 (by omega)
      have x0 := hcs2 k hkr 0 (by omega)
      have c1 := hcs k hkr 1 (by omega)
      have x1 := hcs2 k hkr 1 (by omega)
      simp only [prC, Nat.add_zero, List.getElem?_cons_zero, List.getElem?_cons_succ] at c0 x0 c1 x1
      have hk0 : (0 : Int) ≤ (k : Int) := by omega
      have hk1 : (k : Int) < (n : Int) := by omega
      clear hcs hcs2
      go_wp2_with fail
      go_quiet (fail)
      go_wp2_with fail
      go_roundw
      case rel => exact ⟨k + 1, _, by omega, by go_num, rfl⟩
      case measure => simp [intOf]; omega
    · obtain rfl : k = n := by omega
      go_wp2_with fail
      go_ret
      exact ⟨rfl, nq, rfl⟩
end Go.Proofs.Ytlfhommeomchoaa
