/-
  The program's clock in memory; advance and reset by contracts. (Printed by gen_prs3.py.)
-/
import Derived.Test.YtohjapfjkilmoaaGreatDoorZPrs1
import Derived.Test.YtohjapfjkilmoaaGreatDoorZRulPure
import Derived.Deep.DeepCutAuto
namespace Go.Proofs.YtohjapfjkilmoaaGreatDoor
open Go Go.RowKit

/-- the cells of a clock of n segments; v: the slice of its cuts -/
def clkC (n : Nat) (c : Clk) (v : Value) : Array Value :=
  #[.int .i64 n, .int .i64 c.phase, .bool c.loads, .int .i64 c.at_, .int .i64 c.real, .int .i64 c.game, v, .int .i64 c.end_.1, .int .i64 c.end_.2.1, .bool c.end_.2.2, .int .i64 c.begun, .int .i64 c.done]
def ClkAt (W : World) (b n : Nat) (c : Clk) (v : Value) : Prop := Blk W b 66 (clkC n c v)
theorem ClkAt.cells {W : World} {b n : Nat} {c : Clk} {v : Value} (h : ClkAt W b n c v) :
    W.cell? ⟨b, 0, none⟩ = some (.int .i64 n) ∧ W.cell? ⟨b, 1, none⟩ = some (.int .i64 c.phase) ∧ W.cell? ⟨b, 2, none⟩ = some (.bool c.loads) ∧ W.cell? ⟨b, 3, none⟩ = some (.int .i64 c.at_) ∧ W.cell? ⟨b, 4, none⟩ = some (.int .i64 c.real) ∧ W.cell? ⟨b, 5, none⟩ = some (.int .i64 c.game) ∧ W.cell? ⟨b, 6, none⟩ = some v ∧
    W.cell? ⟨b, 7, none⟩ = some (.int .i64 c.end_.1) ∧ W.cell? ⟨b, 8, none⟩ = some (.int .i64 c.end_.2.1) ∧ W.cell? ⟨b, 9, none⟩ = some (.bool c.end_.2.2) ∧ W.cell? ⟨b, 10, none⟩ = some (.int .i64 c.begun) ∧ W.cell? ⟨b, 11, none⟩ = some (.int .i64 c.done) :=
  ⟨Blk.cell h 0, Blk.cell h 1, Blk.cell h 2, Blk.cell h 3, Blk.cell h 4, Blk.cell h 5, Blk.cell h 6, Blk.cell h 7, Blk.cell h 8, Blk.cell h 9, Blk.cell h 10, Blk.cell h 11⟩
theorem ClkAt.frz {W : World} {b n : Nat} {c : Clk} {v : Value} (h : ClkAt W b n c v) :
    W.frozen? ⟨b, 1, none⟩ = false ∧ W.frozen? ⟨b, 2, none⟩ = false ∧ W.frozen? ⟨b, 3, none⟩ = false ∧ W.frozen? ⟨b, 4, none⟩ = false ∧ W.frozen? ⟨b, 5, none⟩ = false ∧ W.frozen? ⟨b, 6, none⟩ = false ∧ W.frozen? ⟨b, 7, none⟩ = false ∧ W.frozen? ⟨b, 8, none⟩ = false ∧ W.frozen? ⟨b, 9, none⟩ = false ∧ W.frozen? ⟨b, 10, none⟩ = false ∧ W.frozen? ⟨b, 11, none⟩ = false :=
  ⟨Blk.frozen h 1, Blk.frozen h 2, Blk.frozen h 3, Blk.frozen h 4, Blk.frozen h 5, Blk.frozen h 6, Blk.frozen h 7, Blk.frozen h 8, Blk.frozen h 9, Blk.frozen h 10, Blk.frozen h 11⟩
theorem Bx.self (w : World) (b i : Nat) (u : Value) : Bx w.heap.size b w (w.setCell ⟨b, i, none⟩ u) := (Bx.refl _ _ _).setCell (p := ⟨b, i, none⟩) (.inl rfl) u
/-- numbers that a clock may hold -/
structure ClkBd (c : Clk) : Prop where
  at_ : -1125899906842624 ≤ c.at_ ∧ c.at_ ≤ 1125899906842624
  real : -1125899906842624 ≤ c.real ∧ c.real ≤ 1125899906842624
  game : -1125899906842624 ≤ c.game ∧ c.game ≤ 1125899906842624
  done : 0 ≤ c.done ∧ c.done ≤ 1125899906842624
def ClkS (b n : Nat) (c : Clk) (v r : Value) (w : World) (e : Ending) (w' : World) : Prop := e = .returned r ∧ ClkAt w' b n c v ∧ Bx w.heap.size b w w'

set_option maxRecDepth 100000 in
set_option maxHeartbeats 1000000 in
theorem advance_calls (b n : Nat) (c : Clk) (v : Value) (t : Int) (w : World) (h : ClkAt w b n c v) (hc : ClkBd c) (ht : -1125899906842624 ≤ t ∧ t ≤ 1125899906842624) :
    Calls Tryz.prog 41 #[.pointer (some ⟨b, 0, none⟩), .int .i64 t] w (ClkS b n (advP c t) v (.tuple #[]) w) := by
  obtain ⟨c0, c1, c2, c3, c4, c5, c6, c7, c8, c9, c10, c11⟩ := h.cells
  obtain ⟨f1, f2, f3, f4, f5, f6, f7, f8, f9, f10, f11⟩ := h.frz
  obtain ⟨⟨a1, a2⟩, ⟨r1, r2⟩, ⟨g1, g2⟩, _⟩ := hc
  obtain ⟨t1, t2⟩ := ht
  obtain ⟨ph, hph⟩ : ∃ ph, c.phase = ph := ⟨_, rfl⟩
  obtain ⟨ld, hld⟩ : ∃ ld, c.loads = ld := ⟨_, rfl⟩
  rw [hph] at c1
  rw [hld] at c2
  have h3 := fun W (hW : ClkAt W b n { c with at_ := c.at_ } v) => hW
  by_cases hp : ph = 1 ∨ ph = 3
  · have hset : ClkAt (w.setCell ⟨b, 4, none⟩ (.int .i64 (c.real + (t - c.at_)))) b n { c with real := c.real + (t - c.at_) } v := Blk.set_ h 4 _
    cases ld
    · have hset2 : ClkAt (((w.setCell ⟨b, 4, none⟩ (.int .i64 (c.real + (t - c.at_)))).setCell ⟨b, 5, none⟩ (.int .i64 (c.game + (t - c.at_)))).setCell ⟨b, 3, none⟩ (.int .i64 t)) b n { c with real := c.real + (t - c.at_), game := c.game + (t - c.at_), at_ := t } v := Blk.set_ (Blk.set_ hset 5 _) 3 _
      have HA : Hid (advP c t = { c with real := c.real + (t - c.at_), game := c.game + (t - c.at_), at_ := t }) := by unfold advP; rw [hph, hld, if_pos hp, if_pos hp]; exact Lib.hid rfl
      have hB := (((Bx.self w b 4 (.int .i64 (c.real + (t - c.at_)))).setCell (p := ⟨b, 5, none⟩) (.inl rfl) (.int .i64 (c.game + (t - c.at_)))).setCell (p := ⟨b, 3, none⟩) (.inl rfl) (.int .i64 t))
      rw [HA.out]
      have HP := Lib.hid hp
      clear hph hld hset h3 h
      rcases hp with rfl | rfl
      · clear HP
        go_enter Tryz.func41, Tryz.ntmps41
        go_wp2_with fail
        go_region
        go_wp2_with fail
        go_region
        go_wp2_with fail
        go_end0
        exact ⟨rfl, hset2, hB.drew.drew⟩
      · clear HP
        go_enter Tryz.func41, Tryz.ntmps41
        go_wp2_with fail
        go_region
        go_wp2_with fail
        go_region
        go_wp2_with fail
        go_end0
        exact ⟨rfl, hset2, hB.drew.drew⟩
    · have hset2 : ClkAt ((w.setCell ⟨b, 4, none⟩ (.int .i64 (c.real + (t - c.at_)))).setCell ⟨b, 3, none⟩ (.int .i64 t)) b n { c with real := c.real + (t - c.at_), at_ := t } v := Blk.set_ hset 3 _
      have HA : Hid (advP c t = { c with real := c.real + (t - c.at_), at_ := t }) := by unfold advP; rw [hph, hld, if_pos hp, if_pos hp]; exact Lib.hid rfl
      have hB := ((Bx.self w b 4 (.int .i64 (c.real + (t - c.at_)))).setCell (p := ⟨b, 3, none⟩) (.inl rfl) (.int .i64 t))
      rw [HA.out]
      clear hph hld hset h3 h
      rcases hp with rfl | rfl
      · go_enter Tryz.func41, Tryz.ntmps41
        go_wp2_with fail
        go_region
        go_wp2_with fail
        go_end0
        exact ⟨rfl, hset2, hB.drew⟩
      · go_enter Tryz.func41, Tryz.ntmps41
        go_wp2_with fail
        go_region
        go_wp2_with fail
        go_end0
        exact ⟨rfl, hset2, hB.drew⟩
  · have hset2 : ClkAt (w.setCell ⟨b, 3, none⟩ (.int .i64 t)) b n { c with at_ := t } v := Blk.set_ h 3 _
    have HA : Hid (advP c t = { c with at_ := t }) := by unfold advP; rw [hph, if_neg hp, if_neg hp]; exact Lib.hid rfl
    have hB := Bx.self w b 3 (.int .i64 t)
    have p1 : (ph == 1) = false := by simp; omega
    have p3 : (ph == 3) = false := by simp; omega
    rw [HA.out]
    clear hph hld h3 h hp
    go_enter Tryz.func41, Tryz.ntmps41
    go_wp2_with fail
    go_end0
    exact ⟨rfl, hset2, hB⟩

set_option maxRecDepth 100000 in
theorem reset_calls (b n : Nat) (c : Clk) (v : Value) (w : World) (h : ClkAt w b n c v) (hc : ClkBd c) :
    Calls Tryz.prog 57 #[.pointer (some ⟨b, 0, none⟩)] w (ClkS b n (if c.phase = 0 then c else resetP c) (if c.phase = 0 then v else .slice none 0 0) (.bool (!decide (c.phase = 0))) w) := by
  obtain ⟨c0, c1, c2, c3, c4, c5, c6, c7, c8, c9, c10, c11⟩ := h.cells
  obtain ⟨f1, f2, f3, f4, f5, f6, f7, f8, f9, f10, f11⟩ := h.frz
  obtain ⟨_, _, _, ⟨d1, d2⟩⟩ := hc
  obtain ⟨ph, hph⟩ : ∃ ph, c.phase = ph := ⟨_, rfl⟩
  rw [hph] at c1 ⊢
  by_cases h0 : ph = 0
  · subst h0
    rw [if_pos rfl, if_pos rfl]
    clear hph
    go_enter Tryz.func57, Tryz.ntmps57
    go_wp2_with fail
    go_ret
    exact ⟨rfl, h, Bx.refl _ _ _⟩
  · rw [if_neg h0, if_neg h0]
    have e0 : (ph == 0) = false := by simpa using h0
    by_cases h3 : ph = 3
    · subst h3
      have hset : ClkAt ((((((w.setCell ⟨b, 11, none⟩ (.int .i64 (c.done + 1))).setCell ⟨b, 1, none⟩ (.int .i64 0)).setCell ⟨b, 4, none⟩ (.int .i64 0)).setCell ⟨b, 5, none⟩ (.int .i64 0)).setCell ⟨b, 2, none⟩ (.bool false)).setCell ⟨b, 6, none⟩ (.slice none 0 0)) b n { c with done := c.done + 1, phase := 0, real := 0, game := 0, loads := false, cuts := [] } (.slice none 0 0) :=
        Blk.set_ (Blk.set_ (Blk.set_ (Blk.set_ (Blk.set_ (Blk.set_ h 11 _) 1 _) 4 _) 5 _) 2 _) 6 _
      have HA : Hid (resetP c = { c with done := c.done + 1, phase := 0, real := 0, game := 0, loads := false, cuts := [] }) := by unfold resetP; rw [hph, if_pos rfl]; exact Lib.hid rfl
      have hB := ((((((Bx.self w b 11 (.int .i64 (c.done + 1))).setCell (p := ⟨b, 1, none⟩) (.inl rfl) (.int .i64 0)).setCell (p := ⟨b, 4, none⟩) (.inl rfl) (.int .i64 0)).setCell (p := ⟨b, 5, none⟩) (.inl rfl) (.int .i64 0)).setCell (p := ⟨b, 2, none⟩) (.inl rfl) (.bool false)).setCell (p := ⟨b, 6, none⟩) (.inl rfl) (.slice none 0 0))
      rw [HA.out]
      clear hph h h0 e0
      go_enter Tryz.func57, Tryz.ntmps57
      go_wp2_with fail
      go_ret
      exact ⟨rfl, hset, hB⟩
    · have e3 : (ph == 3) = false := by simpa using h3
      have hset : ClkAt (((((w.setCell ⟨b, 1, none⟩ (.int .i64 0)).setCell ⟨b, 4, none⟩ (.int .i64 0)).setCell ⟨b, 5, none⟩ (.int .i64 0)).setCell ⟨b, 2, none⟩ (.bool false)).setCell ⟨b, 6, none⟩ (.slice none 0 0)) b n { c with phase := 0, real := 0, game := 0, loads := false, cuts := [] } (.slice none 0 0) :=
        Blk.set_ (Blk.set_ (Blk.set_ (Blk.set_ (Blk.set_ h 1 _) 4 _) 5 _) 2 _) 6 _
      have HA : Hid (resetP c = { c with phase := 0, real := 0, game := 0, loads := false, cuts := [] }) := by unfold resetP; rw [hph, if_neg h3]; exact Lib.hid rfl
      have hB := (((((Bx.self w b 1 (.int .i64 0)).setCell (p := ⟨b, 4, none⟩) (.inl rfl) (.int .i64 0)).setCell (p := ⟨b, 5, none⟩) (.inl rfl) (.int .i64 0)).setCell (p := ⟨b, 2, none⟩) (.inl rfl) (.bool false)).setCell (p := ⟨b, 6, none⟩) (.inl rfl) (.slice none 0 0))
      have HD : Hid (decide (ph = 0) = false) := Lib.hid (decide_eq_false h0)
      rw [HA.out, HD.out]
      clear hph h h0 h3
      go_enter Tryz.func57, Tryz.ntmps57
      go_wp2_with fail
      go_ret
      exact ⟨rfl, hset, hB⟩
end Go.Proofs.YtohjapfjkilmoaaGreatDoor
