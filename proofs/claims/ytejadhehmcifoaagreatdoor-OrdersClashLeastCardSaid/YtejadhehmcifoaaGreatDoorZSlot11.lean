/-
  marathon.Clashes by a contract; slices.Equal of places and of pairs: two slices that read alike are equal. (Printed by gen_slot11.py.)
-/
import Derived.Test.YtejadhehmcifoaaGreatDoorZSlot8
namespace Go.Proofs.YtejadhehmcifoaaGreatDoor
open Go Go.RowKit

def clashE (rest : Int) (xs : List Slt) : Int := if slotsF xs = 0 then if outB rest 0 86400000 = true then 1 else 0 else slotsF xs
/-- what Clashes answers -/
def clashL (rest : Int) (xs : List Slt) : List Pr := if clashE rest xs = 0 then clF xs rest else []
def ClashS (l : List Pr) (er : Int) (w : World) (e : Ending) (w' : World) : Prop :=
  ∃ v, e = .returned (.tuple #[v, .int .i64 er]) ∧ w'.ownsRow w.heap.size 109 2 v l.length (l.flatMap prC) ∧ Below w.heap.size w w'

set_option maxRecDepth 100000 in
theorem clashesX_calls (b : Nat) (A : Option Addr) (n c : Nat) (xs : List Slt) (rest : Int) (w : World) (hr : Slts w b A n c xs) (hn : n ≤ 1000) (hb : b < w.heap.size) (hrest : -4398046511104 ≤ rest ∧ rest ≤ 4398046511104) :
    Calls Tryz.prog 12 #[.slice A n c, .int .i64 rest] w (ClashS (clashL rest xs) (clashE rest xs) w) := by
  obtain ⟨E, hE⟩ : ∃ E, slotsF xs = E := ⟨_, rfl⟩
  obtain ⟨O, hO⟩ : ∃ O, outB rest 0 86400000 = O := ⟨_, rfl⟩
  have hF : clashE rest xs = if E = 0 then if O = true then 1 else 0 else E := by unfold clashE; rw [hE, hO]
  have HCS := Lib.hid (checkSlots_calls b A n c xs w hr hb)
  rw [hE] at HCS
  have HOC : Hid (∀ W, Calls Tryz.prog 31 #[.int .i64 rest, .int .i64 0, .int .i64 86400000] W (fun e w' => e = .returned (.bool O) ∧ W = w')) := by rw [← hO]; exact fun W => out_calls _ _ _ W
  have HR := Lib.hid hr
  have HRS := Lib.hid hrest
  clear hE hO hr hrest
  by_cases hz : E = 0
  · rw [if_pos hz] at hF
    subst hz
    cases O
    · have h0 : clashE rest xs = 0 := hF.trans (if_neg (by simp))
      have hl : clashL rest xs = clF xs rest := by unfold clashL; rw [if_pos h0]
      rw [h0, hl]
      clear hF h0 hl
      go_enter Tryz.func12, Tryz.ntmps12
      go_wp2_with fail
      refine HCS.out.mono ?_
      rintro e w1 ⟨rfl, hb1⟩
      go_wp2_with fail
      refine (HOC.out _).mono ?_
      rintro e w2 ⟨rfl, rfl⟩
      have hz1 := hb1.size
      go_wp2_with fail
      refine (clashes_calls b A n c xs rest _ (HR.out.below hb1) hn (by omega) HRS.out).mono ?_
      rintro e w4 ⟨v, rfl, hown, hb4⟩
      have hb5 := below_call hb1 hb4 (Nat.le_refl _)
      have hown2 := own_base hown hb1.size
      go_wp2_with fail
      refine bodyPost_ret (v := .tuple #[v, .int .i64 0]) (by simp [results, Tryz.results12, go_sem]) rfl ⟨v, rfl, hown2, hb5⟩
    · have h0 : clashE rest xs = 1 := hF.trans (if_pos rfl)
      have hl : clashL rest xs = [] := by unfold clashL; rw [if_neg (by omega)]
      rw [h0, hl]
      clear hF h0 hl
      go_enter Tryz.func12, Tryz.ntmps12
      go_wp2_with fail
      refine HCS.out.mono ?_
      rintro e w1 ⟨rfl, hb1⟩
      go_wp2_with fail
      refine (HOC.out _).mono ?_
      rintro e w2 ⟨rfl, rfl⟩
      go_wp2_with fail
      refine bodyPost_ret (v := .tuple #[.slice none 0 0, .int .i64 1]) (by simp [results, Tryz.results12, go_sem]) rfl ⟨_, rfl, World.ownsRow_nil _ _ _ _, hb1⟩
  · have h0 : clashE rest xs = E := hF.trans (if_neg hz)
    have hl : clashL rest xs = [] := by unfold clashL; rw [if_neg (by omega)]
    rw [h0, hl]
    have hz' : (E != 0) = true := by rw [bne_iff_ne]; exact hz
    clear hF h0 hl
    go_enter Tryz.func12, Tryz.ntmps12
    go_wp2_with fail
    refine HCS.out.mono ?_
    rintro e w1 ⟨rfl, hb1⟩
    go_wp2_with fail
    refine bodyPost_ret (v := .tuple #[.slice none 0 0, .int .i64 E]) (by simp [results, Tryz.results12, go_sem]) rfl ⟨_, rfl, World.ownsRow_nil _ _ _ _, hb1⟩

end Go.Proofs.YtejadhehmcifoaaGreatDoor
