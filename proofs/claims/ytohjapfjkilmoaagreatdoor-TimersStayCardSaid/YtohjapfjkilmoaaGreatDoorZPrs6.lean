/-
  The clock's press: start, pause, resume, load, loaded, reset. (Printed by gen_prs6.py.)
-/
import Derived.Test.YtohjapfjkilmoaaGreatDoorZPrs2
import Derived.Test.YtohjapfjkilmoaaGreatDoorZPrs5
import Derived.Deep.RegionLaw
import Derived.Deep.RegionHeld3
import Derived.Deep.QuietTactic
import Derived.BigQuiet
namespace Go.Proofs.YtohjapfjkilmoaaGreatDoor
open Go Go.RowKit
attribute [local go_sem ↓] Go.wp_at_zero Go.wp_at_succ

/-- what a press answers, of the clock that has gone on to it -/
def PressG (w0 : World) (b n : Nat) (c : Clk) (k : Int) (l : List Rsc) (e : Ending) (w' : World) : Prop :=
  CutS w0 b n (if refP n c k = true then c else doneP n c k) l (.bool (!refP n c k)) e w'
theorem press_no {w0 W : World} {b n m cap : Nat} {c : Clk} {k : Int} {A : Option Addr} {l : List Rsc} (h : refP n c k = true) (hm : c.cuts.length = m)
    (hS : Sq w0 W (rBlk b 66 (clkC n c (.slice A m cap)) :: rOwn w0.heap.size 40 3 (.slice A m cap) m (c.cuts.flatMap cutC) :: l)) : PressG w0 b n c k l (.returned (.bool false)) W := by
  subst hm
  unfold PressG
  rw [h]
  exact ⟨rfl, A, cap, hS⟩
theorem press_yes {w0 W : World} {b n m cap : Nat} {c c2 : Clk} {k : Int} {A : Option Addr} {l : List Rsc} (h : refP n c k = false) (h2 : doneP n c k = c2) (hm : c2.cuts.length = m)
    (hS : Sq w0 W (rBlk b 66 (clkC n c2 (.slice A m cap)) :: rOwn w0.heap.size 40 3 (.slice A m cap) m (c2.cuts.flatMap cutC) :: l)) : PressG w0 b n c k l (.returned (.bool true)) W := by
  subst hm
  unfold PressG
  rw [h, if_neg (by simp), h2]
  exact ⟨rfl, A, cap, hS⟩
/-- what a press asks of the clock -/
structure PressBd (n : Nat) (c : Clk) (t : Int) : Prop where
  bd : ClkBd c
  bd1 : ClkBd (advP c t)
  begun : 0 ≤ c.begun ∧ c.begun ≤ 1125899906842624
  t_ : -1125899906842624 ≤ t ∧ t ≤ 1125899906842624
  cuts : c.cuts.length ≤ 100000
  n_ : n ≤ 100000
theorem adv_cuts (c : Clk) (t : Int) : (advP c t).cuts = c.cuts := rfl
theorem adv_begun (c : Clk) (t : Int) : (advP c t).begun = c.begun := rfl

set_option maxRecDepth 100000 in
set_option maxHeartbeats 2000000 in
theorem press1_calls (w0 : World) (b n : Nat) (c : Clk) (t : Int) (A : Option Addr) (cap : Nat) (l : List Rsc) (w : World)
    (hS : Sq w0 w (rBlk b 66 (clkC n c (.slice A c.cuts.length cap)) :: rOwn w0.heap.size 40 3 (.slice A c.cuts.length cap) c.cuts.length (c.cuts.flatMap cutC) :: l)) (hb : PressBd n c t) :
    Calls Tryz.prog 39 #[.pointer (some ⟨b, 0, none⟩), .agg #[.int .i64 t, .int .i64 1]] w (PressG w0 b n (advP c t) 1 l) := by
  obtain ⟨m, hm⟩ : ∃ m, c.cuts.length = m := ⟨_, rfl⟩
  have hm2 := hb.cuts
  have hn := hb.n_
  have hbg := hb.begun
  rw [hm] at hS hm2
  have hS1 := hS.add #[.int .i64 t, .int .i64 1] 50
  have hA := hS1.front 1 rfl rfl
  have HADV := Lib.hid (advance_calls b n c (.slice A m cap) t _ hA.head hb.bd hb.t_)
  have hd1 := hb.bd1.done
  have HBD := Lib.hid hb.bd1
  have hB0 := hS1.size
  rw [← adv_cuts c t] at hm hA
  rw [← adv_begun c t] at hbg
  obtain ⟨c1, hc1⟩ : ∃ c1, advP c t = c1 := ⟨_, rfl⟩
  rw [hc1] at hm hA hbg HADV HBD hd1 ⊢
  have hlt : b < w.heap.size := Blk.lt (hS.nth 0 rfl)
  clear hc1 hS hS1 hb
  go_enter Tryz.func39, Tryz.ntmps39
  go_wp2_with fail
  refine HADV.out.mono ?_
  rintro e w1 ⟨rfl, hC1, hbx⟩
  have hS2 : Sq w0 w1 (rBlk b 66 (clkC n c1 (.slice A m cap)) :: rBlk w.heap.size 50 #[.int .i64 t, .int .i64 1] :: rOwn w0.heap.size 40 3 (.slice A m cap) m (c1.cuts.flatMap cutC) :: l) := hA.turnB hbx hC1
  have hS3 : Sq w0 w1 (rBlk b 66 (clkC n c1 (.slice A m cap)) :: rOwn w0.heap.size 40 3 (.slice A m cap) m (c1.cuts.flatMap cutC) :: rBlk w.heap.size 50 #[.int .i64 t, .int .i64 1] :: l) := (hS2.front 2 rfl rfl).front 1 rfl rfl
  obtain ⟨c0, k1, k2, k3, k4, k5, k6, k7, k8, k9, k10, k11⟩ := hC1.cells
  obtain ⟨f1, f2, f3, f4, f5, f6, f7, f8, f9, f10, f11⟩ := hC1.frz
  obtain ⟨q0, q1, _, _⟩ := Blk.two (hS2.nth 1 rfl)
  have HM := Lib.hid hm
  have hne : w.heap.size ≠ b := by omega
  obtain ⟨ph, hph⟩ : ∃ ph, c1.phase = ph := ⟨_, rfl⟩
  have HPH := Lib.hid hph
  rw [hph] at k1
  clear hA HADV hbx hC1 hS2 hph
  by_cases h0 : ph = 0
  · subst h0
    have hS4 := (((((hS3.set_ 1 (.int .i64 1)).set_ 4 (.int .i64 0)).set_ 5 (.int .i64 0)).set_ 2 (.bool false)).set_ 6 (.slice none 0 0)).set_ 10 (.int .i64 (c1.begun + 1))
    have hS5 := ((((hS4.drop 1 rfl rfl).drop 1 rfl rfl).nil w0.heap.size 40 3).front 1 rfl rfl)
    obtain ⟨bg1, bg2⟩ := hbg
    clear hS4 hS3 hm hm2 hd1
    go_wp2_with fail
    go_ret
    exact press_yes (c2 := { c1 with phase := 1, real := 0, game := 0, loads := false, cuts := [], begun := c1.begun + 1 }) (by unfold refP; rw [HPH.out]; rfl) rfl rfl hS5
  · have e0 : (ph != 0) = true := by simpa using h0
    go_wp2_with fail
    go_ret
    exact press_no (by unfold refP; rw [HPH.out]; simpa using h0) HM.out (hS3.drop 2 rfl rfl)

set_option maxRecDepth 100000 in
set_option maxHeartbeats 2000000 in
theorem press5_calls (w0 : World) (b n : Nat) (c : Clk) (t : Int) (A : Option Addr) (cap : Nat) (l : List Rsc) (w : World)
    (hS : Sq w0 w (rBlk b 66 (clkC n c (.slice A c.cuts.length cap)) :: rOwn w0.heap.size 40 3 (.slice A c.cuts.length cap) c.cuts.length (c.cuts.flatMap cutC) :: l)) (hb : PressBd n c t) :
    Calls Tryz.prog 39 #[.pointer (some ⟨b, 0, none⟩), .agg #[.int .i64 t, .int .i64 5]] w (PressG w0 b n (advP c t) 5 l) := by
  obtain ⟨m, hm⟩ : ∃ m, c.cuts.length = m := ⟨_, rfl⟩
  have hm2 := hb.cuts
  have hn := hb.n_
  have hbg := hb.begun
  rw [hm] at hS hm2
  have hS1 := hS.add #[.int .i64 t, .int .i64 5] 50
  have hA := hS1.front 1 rfl rfl
  have HADV := Lib.hid (advance_calls b n c (.slice A m cap) t _ hA.head hb.bd hb.t_)
  have hd1 := hb.bd1.done
  have HBD := Lib.hid hb.bd1
  have hB0 := hS1.size
  rw [← adv_cuts c t] at hm hA
  rw [← adv_begun c t] at hbg
  obtain ⟨c1, hc1⟩ : ∃ c1, advP c t = c1 := ⟨_, rfl⟩
  rw [hc1] at hm hA hbg HADV HBD hd1 ⊢
  have hlt : b < w.heap.size := Blk.lt (hS.nth 0 rfl)
  clear hc1 hS hS1 hb
  go_enter Tryz.func39, Tryz.ntmps39
  go_wp2_with fail
  refine HADV.out.mono ?_
  rintro e w1 ⟨rfl, hC1, hbx⟩
  have hS2 : Sq w0 w1 (rBlk b 66 (clkC n c1 (.slice A m cap)) :: rBlk w.heap.size 50 #[.int .i64 t, .int .i64 5] :: rOwn w0.heap.size 40 3 (.slice A m cap) m (c1.cuts.flatMap cutC) :: l) := hA.turnB hbx hC1
  have hS3 : Sq w0 w1 (rBlk b 66 (clkC n c1 (.slice A m cap)) :: rOwn w0.heap.size 40 3 (.slice A m cap) m (c1.cuts.flatMap cutC) :: rBlk w.heap.size 50 #[.int .i64 t, .int .i64 5] :: l) := (hS2.front 2 rfl rfl).front 1 rfl rfl
  obtain ⟨c0, k1, k2, k3, k4, k5, k6, k7, k8, k9, k10, k11⟩ := hC1.cells
  obtain ⟨f1, f2, f3, f4, f5, f6, f7, f8, f9, f10, f11⟩ := hC1.frz
  obtain ⟨q0, q1, _, _⟩ := Blk.two (hS2.nth 1 rfl)
  have HM := Lib.hid hm
  have hne : w.heap.size ≠ b := by omega
  obtain ⟨ph, hph⟩ : ∃ ph, c1.phase = ph := ⟨_, rfl⟩
  have HPH := Lib.hid hph
  rw [hph] at k1
  clear hA HADV hbx hC1 hS2 hph
  by_cases h0 : ph = 1
  · subst h0
    have hS4 := hS3.set_ 1 (.int .i64 2)
    clear hS3 hm hm2 hd1
    go_wp2_with fail
    go_ret
    exact press_yes (c2 := { c1 with phase := 2 }) (by unfold refP; rw [HPH.out]; rfl) rfl HM.out (hS4.drop 2 rfl rfl)
  · have e0 : (ph == 1) = false := by simpa using h0
    go_wp2_with fail
    go_ret
    exact press_no (by unfold refP; rw [HPH.out]; simpa using h0) HM.out (hS3.drop 2 rfl rfl)

set_option maxRecDepth 100000 in
set_option maxHeartbeats 2000000 in
theorem press6_calls (w0 : World) (b n : Nat) (c : Clk) (t : Int) (A : Option Addr) (cap : Nat) (l : List Rsc) (w : World)
    (hS : Sq w0 w (rBlk b 66 (clkC n c (.slice A c.cuts.length cap)) :: rOwn w0.heap.size 40 3 (.slice A c.cuts.length cap) c.cuts.length (c.cuts.flatMap cutC) :: l)) (hb : PressBd n c t) :
    Calls Tryz.prog 39 #[.pointer (some ⟨b, 0, none⟩), .agg #[.int .i64 t, .int .i64 6]] w (PressG w0 b n (advP c t) 6 l) := by
  obtain ⟨m, hm⟩ : ∃ m, c.cuts.length = m := ⟨_, rfl⟩
  have hm2 := hb.cuts
  have hn := hb.n_
  have hbg := hb.begun
  rw [hm] at hS hm2
  have hS1 := hS.add #[.int .i64 t, .int .i64 6] 50
  have hA := hS1.front 1 rfl rfl
  have HADV := Lib.hid (advance_calls b n c (.slice A m cap) t _ hA.head hb.bd hb.t_)
  have hd1 := hb.bd1.done
  have HBD := Lib.hid hb.bd1
  have hB0 := hS1.size
  rw [← adv_cuts c t] at hm hA
  rw [← adv_begun c t] at hbg
  obtain ⟨c1, hc1⟩ : ∃ c1, advP c t = c1 := ⟨_, rfl⟩
  rw [hc1] at hm hA hbg HADV HBD hd1 ⊢
  have hlt : b < w.heap.size := Blk.lt (hS.nth 0 rfl)
  clear hc1 hS hS1 hb
  go_enter Tryz.func39, Tryz.ntmps39
  go_wp2_with fail
  refine HADV.out.mono ?_
  rintro e w1 ⟨rfl, hC1, hbx⟩
  have hS2 : Sq w0 w1 (rBlk b 66 (clkC n c1 (.slice A m cap)) :: rBlk w.heap.size 50 #[.int .i64 t, .int .i64 6] :: rOwn w0.heap.size 40 3 (.slice A m cap) m (c1.cuts.flatMap cutC) :: l) := hA.turnB hbx hC1
  have hS3 : Sq w0 w1 (rBlk b 66 (clkC n c1 (.slice A m cap)) :: rOwn w0.heap.size 40 3 (.slice A m cap) m (c1.cuts.flatMap cutC) :: rBlk w.heap.size 50 #[.int .i64 t, .int .i64 6] :: l) := (hS2.front 2 rfl rfl).front 1 rfl rfl
  obtain ⟨c0, k1, k2, k3, k4, k5, k6, k7, k8, k9, k10, k11⟩ := hC1.cells
  obtain ⟨f1, f2, f3, f4, f5, f6, f7, f8, f9, f10, f11⟩ := hC1.frz
  obtain ⟨q0, q1, _, _⟩ := Blk.two (hS2.nth 1 rfl)
  have HM := Lib.hid hm
  have hne : w.heap.size ≠ b := by omega
  obtain ⟨ph, hph⟩ : ∃ ph, c1.phase = ph := ⟨_, rfl⟩
  have HPH := Lib.hid hph
  rw [hph] at k1
  clear hA HADV hbx hC1 hS2 hph
  by_cases h0 : ph = 2
  · subst h0
    have hS4 := hS3.set_ 1 (.int .i64 1)
    clear hS3 hm hm2 hd1
    go_wp2_with fail
    go_ret
    exact press_yes (c2 := { c1 with phase := 1 }) (by unfold refP; rw [HPH.out]; rfl) rfl HM.out (hS4.drop 2 rfl rfl)
  · have e0 : (ph != 2) = true := by simpa using h0
    go_wp2_with fail
    go_ret
    exact press_no (by unfold refP; rw [HPH.out]; simpa using h0) HM.out (hS3.drop 2 rfl rfl)

set_option maxRecDepth 100000 in
set_option maxHeartbeats 2000000 in
theorem press7_calls (w0 : World) (b n : Nat) (c : Clk) (t : Int) (A : Option Addr) (cap : Nat) (l : List Rsc) (w : World)
    (hS : Sq w0 w (rBlk b 66 (clkC n c (.slice A c.cuts.length cap)) :: rOwn w0.heap.size 40 3 (.slice A c.cuts.length cap) c.cuts.length (c.cuts.flatMap cutC) :: l)) (hb : PressBd n c t) :
    Calls Tryz.prog 39 #[.pointer (some ⟨b, 0, none⟩), .agg #[.int .i64 t, .int .i64 7]] w (PressG w0 b n (advP c t) 7 l) := by
  obtain ⟨m, hm⟩ : ∃ m, c.cuts.length = m := ⟨_, rfl⟩
  have hm2 := hb.cuts
  have hn := hb.n_
  have hbg := hb.begun
  rw [hm] at hS hm2
  have hS1 := hS.add #[.int .i64 t, .int .i64 7] 50
  have hA := hS1.front 1 rfl rfl
  have HADV := Lib.hid (advance_calls b n c (.slice A m cap) t _ hA.head hb.bd hb.t_)
  have hd1 := hb.bd1.done
  have HBD := Lib.hid hb.bd1
  have hB0 := hS1.size
  rw [← adv_cuts c t] at hm hA
  rw [← adv_begun c t] at hbg
  obtain ⟨c1, hc1⟩ : ∃ c1, advP c t = c1 := ⟨_, rfl⟩
  rw [hc1] at hm hA hbg HADV HBD hd1 ⊢
  have hlt : b < w.heap.size := Blk.lt (hS.nth 0 rfl)
  clear hc1 hS hS1 hb
  go_enter Tryz.func39, Tryz.ntmps39
  go_wp2_with fail
  refine HADV.out.mono ?_
  rintro e w1 ⟨rfl, hC1, hbx⟩
  have hS2 : Sq w0 w1 (rBlk b 66 (clkC n c1 (.slice A m cap)) :: rBlk w.heap.size 50 #[.int .i64 t, .int .i64 7] :: rOwn w0.heap.size 40 3 (.slice A m cap) m (c1.cuts.flatMap cutC) :: l) := hA.turnB hbx hC1
  have hS3 : Sq w0 w1 (rBlk b 66 (clkC n c1 (.slice A m cap)) :: rOwn w0.heap.size 40 3 (.slice A m cap) m (c1.cuts.flatMap cutC) :: rBlk w.heap.size 50 #[.int .i64 t, .int .i64 7] :: l) := (hS2.front 2 rfl rfl).front 1 rfl rfl
  obtain ⟨c0, k1, k2, k3, k4, k5, k6, k7, k8, k9, k10, k11⟩ := hC1.cells
  obtain ⟨f1, f2, f3, f4, f5, f6, f7, f8, f9, f10, f11⟩ := hC1.frz
  obtain ⟨q0, q1, _, _⟩ := Blk.two (hS2.nth 1 rfl)
  have HM := Lib.hid hm
  have hne : w.heap.size ≠ b := by omega
  obtain ⟨ph, hph⟩ : ∃ ph, c1.phase = ph := ⟨_, rfl⟩
  have HPH := Lib.hid hph
  rw [hph] at k1
  clear hA HADV hbx hC1 hS2 hph
  obtain ⟨ld, hld⟩ : ∃ ld, c1.loads = ld := ⟨_, rfl⟩
  have HLD := Lib.hid hld
  rw [hld] at k2
  clear hld
  by_cases h0 : ph = 1
  · subst h0
    by_cases hl : ld = true
    · subst hl
      go_wp2_with fail
      go_ret
      exact press_no (by unfold refP; rw [HPH.out, HLD.out]; rfl) HM.out (hS3.drop 2 rfl rfl)
    · have hl' : ld = false := by cases ld <;> simp_all
      subst hl'
      have hS4 := (hS3.set_ 2 (.bool true))
      clear hl hm hm2 hd1
      go_wp2_with fail
      go_ret
      exact press_yes (c2 := { c1 with loads := true }) (by unfold refP; rw [HPH.out, HLD.out]; rfl) rfl HM.out (hS4.drop 2 rfl rfl)
  · have e0 : (ph == 1) = false := by simpa using h0
    go_wp2_with fail
    go_ret
    exact press_no (by unfold refP; rw [HPH.out]; simp [h0]) HM.out (hS3.drop 2 rfl rfl)

set_option maxRecDepth 100000 in
set_option maxHeartbeats 2000000 in
theorem press8_calls (w0 : World) (b n : Nat) (c : Clk) (t : Int) (A : Option Addr) (cap : Nat) (l : List Rsc) (w : World)
    (hS : Sq w0 w (rBlk b 66 (clkC n c (.slice A c.cuts.length cap)) :: rOwn w0.heap.size 40 3 (.slice A c.cuts.length cap) c.cuts.length (c.cuts.flatMap cutC) :: l)) (hb : PressBd n c t) :
    Calls Tryz.prog 39 #[.pointer (some ⟨b, 0, none⟩), .agg #[.int .i64 t, .int .i64 8]] w (PressG w0 b n (advP c t) 8 l) := by
  obtain ⟨m, hm⟩ : ∃ m, c.cuts.length = m := ⟨_, rfl⟩
  have hm2 := hb.cuts
  have hn := hb.n_
  have hbg := hb.begun
  rw [hm] at hS hm2
  have hS1 := hS.add #[.int .i64 t, .int .i64 8] 50
  have hA := hS1.front 1 rfl rfl
  have HADV := Lib.hid (advance_calls b n c (.slice A m cap) t _ hA.head hb.bd hb.t_)
  have hd1 := hb.bd1.done
  have HBD := Lib.hid hb.bd1
  have hB0 := hS1.size
  rw [← adv_cuts c t] at hm hA
  rw [← adv_begun c t] at hbg
  obtain ⟨c1, hc1⟩ : ∃ c1, advP c t = c1 := ⟨_, rfl⟩
  rw [hc1] at hm hA hbg HADV HBD hd1 ⊢
  have hlt : b < w.heap.size := Blk.lt (hS.nth 0 rfl)
  clear hc1 hS hS1 hb
  go_enter Tryz.func39, Tryz.ntmps39
  go_wp2_with fail
  refine HADV.out.mono ?_
  rintro e w1 ⟨rfl, hC1, hbx⟩
  have hS2 : Sq w0 w1 (rBlk b 66 (clkC n c1 (.slice A m cap)) :: rBlk w.heap.size 50 #[.int .i64 t, .int .i64 8] :: rOwn w0.heap.size 40 3 (.slice A m cap) m (c1.cuts.flatMap cutC) :: l) := hA.turnB hbx hC1
  have hS3 : Sq w0 w1 (rBlk b 66 (clkC n c1 (.slice A m cap)) :: rOwn w0.heap.size 40 3 (.slice A m cap) m (c1.cuts.flatMap cutC) :: rBlk w.heap.size 50 #[.int .i64 t, .int .i64 8] :: l) := (hS2.front 2 rfl rfl).front 1 rfl rfl
  obtain ⟨c0, k1, k2, k3, k4, k5, k6, k7, k8, k9, k10, k11⟩ := hC1.cells
  obtain ⟨f1, f2, f3, f4, f5, f6, f7, f8, f9, f10, f11⟩ := hC1.frz
  obtain ⟨q0, q1, _, _⟩ := Blk.two (hS2.nth 1 rfl)
  have HM := Lib.hid hm
  have hne : w.heap.size ≠ b := by omega
  obtain ⟨ph, hph⟩ : ∃ ph, c1.phase = ph := ⟨_, rfl⟩
  have HPH := Lib.hid hph
  rw [hph] at k1
  clear hA HADV hbx hC1 hS2 hph
  obtain ⟨ld, hld⟩ : ∃ ld, c1.loads = ld := ⟨_, rfl⟩
  have HLD := Lib.hid hld
  rw [hld] at k2
  clear hld
  by_cases h0 : ph = 1
  · subst h0
    by_cases hl : ld = false
    · subst hl
      go_wp2_with fail
      go_ret
      exact press_no (by unfold refP; rw [HPH.out, HLD.out]; rfl) HM.out (hS3.drop 2 rfl rfl)
    · have hl' : ld = true := by cases ld <;> simp_all
      subst hl'
      have hS4 := (hS3.set_ 2 (.bool false))
      clear hl hm hm2 hd1
      go_wp2_with fail
      go_ret
      exact press_yes (c2 := { c1 with loads := false }) (by unfold refP; rw [HPH.out, HLD.out]; rfl) rfl HM.out (hS4.drop 2 rfl rfl)
  · have e0 : (ph == 1) = false := by simpa using h0
    go_wp2_with fail
    go_ret
    exact press_no (by unfold refP; rw [HPH.out]; simp [h0]) HM.out (hS3.drop 2 rfl rfl)

set_option maxRecDepth 100000 in
set_option maxHeartbeats 2000000 in
theorem press9_calls (w0 : World) (b n : Nat) (c : Clk) (t : Int) (A : Option Addr) (cap : Nat) (l : List Rsc) (w : World)
    (hS : Sq w0 w (rBlk b 66 (clkC n c (.slice A c.cuts.length cap)) :: rOwn w0.heap.size 40 3 (.slice A c.cuts.length cap) c.cuts.length (c.cuts.flatMap cutC) :: l)) (hb : PressBd n c t) :
    Calls Tryz.prog 39 #[.pointer (some ⟨b, 0, none⟩), .agg #[.int .i64 t, .int .i64 9]] w (PressG w0 b n (advP c t) 9 l) := by
  obtain ⟨m, hm⟩ : ∃ m, c.cuts.length = m := ⟨_, rfl⟩
  have hm2 := hb.cuts
  have hn := hb.n_
  have hbg := hb.begun
  rw [hm] at hS hm2
  have hS1 := hS.add #[.int .i64 t, .int .i64 9] 50
  have hA := hS1.front 1 rfl rfl
  have HADV := Lib.hid (advance_calls b n c (.slice A m cap) t _ hA.head hb.bd hb.t_)
  have hd1 := hb.bd1.done
  have HBD := Lib.hid hb.bd1
  have hB0 := hS1.size
  rw [← adv_cuts c t] at hm hA
  rw [← adv_begun c t] at hbg
  obtain ⟨c1, hc1⟩ : ∃ c1, advP c t = c1 := ⟨_, rfl⟩
  rw [hc1] at hm hA hbg HADV HBD hd1 ⊢
  have hlt : b < w.heap.size := Blk.lt (hS.nth 0 rfl)
  clear hc1 hS hS1 hb
  go_enter Tryz.func39, Tryz.ntmps39
  go_wp2_with fail
  refine HADV.out.mono ?_
  rintro e w1 ⟨rfl, hC1, hbx⟩
  have hS2 : Sq w0 w1 (rBlk b 66 (clkC n c1 (.slice A m cap)) :: rBlk w.heap.size 50 #[.int .i64 t, .int .i64 9] :: rOwn w0.heap.size 40 3 (.slice A m cap) m (c1.cuts.flatMap cutC) :: l) := hA.turnB hbx hC1
  have hS3 : Sq w0 w1 (rBlk b 66 (clkC n c1 (.slice A m cap)) :: rOwn w0.heap.size 40 3 (.slice A m cap) m (c1.cuts.flatMap cutC) :: rBlk w.heap.size 50 #[.int .i64 t, .int .i64 9] :: l) := (hS2.front 2 rfl rfl).front 1 rfl rfl
  obtain ⟨c0, k1, k2, k3, k4, k5, k6, k7, k8, k9, k10, k11⟩ := hC1.cells
  obtain ⟨f1, f2, f3, f4, f5, f6, f7, f8, f9, f10, f11⟩ := hC1.frz
  obtain ⟨q0, q1, _, _⟩ := Blk.two (hS2.nth 1 rfl)
  have HM := Lib.hid hm
  have hne : w.heap.size ≠ b := by omega
  obtain ⟨ph, hph⟩ : ∃ ph, c1.phase = ph := ⟨_, rfl⟩
  have HPH := Lib.hid hph
  rw [hph] at k1
  clear hA HADV hbx hC1 hS2 hph
  have HC : Hid (ClkAt w1 b n c1 (.slice A m cap)) := hS3.head
  have HR := Lib.hid (reset_calls b n c1 (.slice A m cap) w1 HC.out HBD.out)
  rw [HPH.out] at HR
  go_wp2_with fail
  refine HR.out.mono ?_
  rintro e w2 ⟨rfl, hC2, hbx2⟩
  by_cases h0 : ph = 0
  · subst h0
    rw [if_pos rfl, if_pos rfl] at hC2
    have hS4 := hS3.turnB hbx2 hC2
    go_wp2_with fail
    go_ret
    exact press_no (by unfold refP; rw [HPH.out]; rfl) HM.out (hS4.drop 2 rfl rfl)
  · rw [if_neg h0, if_neg h0] at hC2
    have hS4 := hS3.turnB hbx2 hC2
    have hS5 := ((((hS4.drop 1 rfl rfl).drop 1 rfl rfl).nil w0.heap.size 40 3).front 1 rfl rfl)
    have hd : (!decide (ph = 0)) = true := by simpa using h0
    rw [hd]
    go_wp2_with fail
    go_ret
    exact press_yes (c2 := resetP c1) (by unfold refP; rw [HPH.out]; simpa using h0) rfl rfl hS5
end Go.Proofs.YtohjapfjkilmoaaGreatDoor
/-
  The clock's press: split, skip, undo. (Printed by gen_prs6.py.)
-/
namespace Go.Proofs.YtohjapfjkilmoaaGreatDoor
open Go Go.RowKit
attribute [local go_sem ↓] Go.wp_at_zero Go.wp_at_succ

theorem cutP_keeps (n : Nat) (c : Clk) (x : Cut) : (cutP n c x).real = c.real ∧ (cutP n c x).game = c.game := by
  unfold cutP
  split <;> exact ⟨rfl, rfl⟩
theorem flat_take {α : Type} (f : α → List Value) (k : Nat) (hf : ∀ a, (f a).length = k) : ∀ (rs : List α) (m : Nat), (rs.take m).flatMap f = (rs.flatMap f).take (m * k)
  | [], m => by simp
  | r :: rs, 0 => by simp
  | r :: rs, m + 1 => by
    simp only [List.take_succ_cons, List.flatMap_cons, flat_take f k hf rs m]
    rw [List.take_append, hf, List.take_of_length_le (l := f r) (by rw [hf, Nat.add_mul]; omega), show (m + 1) * k - k = m * k by rw [Nat.add_mul]; omega]
/-- the first one says less -/
theorem Sq.weak {w W : World} {l : List Rsc} {r r' : Rsc} (h : Sq w W (r :: l)) (hp : r.P W → r'.P W) (hok : r'.Ok) (hf : ∀ k, r'.fp k → r.fp k) : Sq w W (r' :: l) :=
  ⟨h.below, h.hp.tail.cons (hp h.head) hok (fun k hk => h.hp.new _ (List.mem_cons_self ..) k (hf k hk)) (fun s hs k hk hk2 => (List.pairwise_cons.1 h.hp.apart).1 s hs k (hf k hk) hk2)⟩

set_option maxRecDepth 100000 in
set_option maxHeartbeats 2000000 in
theorem press2_calls (w0 : World) (b n : Nat) (c : Clk) (t : Int) (A : Option Addr) (cap : Nat) (l : List Rsc) (w : World)
    (hS : Sq w0 w (rBlk b 66 (clkC n c (.slice A c.cuts.length cap)) :: rOwn w0.heap.size 40 3 (.slice A c.cuts.length cap) c.cuts.length (c.cuts.flatMap cutC) :: l)) (hb : PressBd n c t) :
    Calls Tryz.prog 39 #[.pointer (some ⟨b, 0, none⟩), .agg #[.int .i64 t, .int .i64 2]] w (PressG w0 b n (advP c t) 2 l) := by
  obtain ⟨m, hm⟩ : ∃ m, c.cuts.length = m := ⟨_, rfl⟩
  have hm2 := hb.cuts
  have hn := hb.n_
  have hbg := hb.begun
  rw [hm] at hS hm2
  have hS1 := hS.add #[.int .i64 t, .int .i64 2] 50
  have hA := hS1.front 1 rfl rfl
  have HADV := Lib.hid (advance_calls b n c (.slice A m cap) t _ hA.head hb.bd hb.t_)
  have hd1 := hb.bd1.done
  have HBD := Lib.hid hb.bd1
  have hB0 := hS1.size
  rw [← adv_cuts c t] at hm hA
  rw [← adv_begun c t] at hbg
  obtain ⟨c1, hc1⟩ : ∃ c1, advP c t = c1 := ⟨_, rfl⟩
  rw [hc1] at hm hA hbg HADV HBD hd1 ⊢
  have hlt : b < w.heap.size := Blk.lt (hS.nth 0 rfl)
  clear hc1 hS hS1 hb
  go_enter Tryz.func39, Tryz.ntmps39
  go_wp2_with fail
  refine HADV.out.mono ?_
  rintro e w1 ⟨rfl, hC1, hbx⟩
  have hS2 : Sq w0 w1 (rBlk b 66 (clkC n c1 (.slice A m cap)) :: rBlk w.heap.size 50 #[.int .i64 t, .int .i64 2] :: rOwn w0.heap.size 40 3 (.slice A m cap) m (c1.cuts.flatMap cutC) :: l) := hA.turnB hbx hC1
  have hS3 : Sq w0 w1 (rBlk b 66 (clkC n c1 (.slice A m cap)) :: rOwn w0.heap.size 40 3 (.slice A m cap) m (c1.cuts.flatMap cutC) :: rBlk w.heap.size 50 #[.int .i64 t, .int .i64 2] :: l) := (hS2.front 2 rfl rfl).front 1 rfl rfl
  obtain ⟨c0, k1, k2, k3, k4, k5, k6, k7, k8, k9, k10, k11⟩ := hC1.cells
  obtain ⟨f1, f2, f3, f4, f5, f6, f7, f8, f9, f10, f11⟩ := hC1.frz
  obtain ⟨q0, q1, _, _⟩ := Blk.two (hS2.nth 1 rfl)
  have HM := Lib.hid hm
  have hne : w.heap.size ≠ b := by omega
  obtain ⟨ph, hph⟩ : ∃ ph, c1.phase = ph := ⟨_, rfl⟩
  have HPH := Lib.hid hph
  rw [hph] at k1
  clear hA HADV hbx hC1 hS2 hph
  have hS4 := hS3.drew
  have HCUT : Hid (Calls Tryz.prog 56 #[.pointer (some ⟨b, 0, none⟩), .agg #[.int .i64 c1.real, .int .i64 c1.game, .bool false]] w1.drew (CutS w0 b n (cutP n c1 (c1.real, c1.game, false)) (rBlk w.heap.size 50 #[.int .i64 t, .int .i64 2] :: l) (.tuple #[]))) := by
    have h := hS4
    rw [← HM.out] at h
    exact cut_calls w0 b n c1 (c1.real, c1.game, false) A cap _ _ h (by rw [HM.out]; exact hm2) hn
  by_cases h0 : ph = 1
  · subst h0
    have HCL : Hid (∀ W L, Sq w0 W (rBlk b 66 (clkC n c1 (.slice A m cap)) :: L) → W.cell? ⟨b, 4, none⟩ = some (.int .i64 c1.real) ∧ W.cell? ⟨b, 5, none⟩ = some (.int .i64 c1.game)) := fun W L h => ⟨Blk.cell h.head 4, Blk.cell h.head 5⟩
    have HC3 : Hid (∀ W v L, Sq w0 W (rBlk b 66 (clkC n (cutP n c1 (c1.real, c1.game, false)) v) :: L) → W.cell? ⟨b, 4, none⟩ = some (.int .i64 c1.real) ∧ W.cell? ⟨b, 5, none⟩ = some (.int .i64 c1.game)) := by
      intro W v L h
      have e4 := Blk.cell h.head 4
      have e5 := Blk.cell h.head 5
      rw [show (clkC n (cutP n c1 (c1.real, c1.game, false)) v)[4]? = some (.int .i64 (cutP n c1 (c1.real, c1.game, false)).real) from rfl, (cutP_keeps n c1 _).1] at e4
      rw [show (clkC n (cutP n c1 (c1.real, c1.game, false)) v)[5]? = some (.int .i64 (cutP n c1 (c1.real, c1.game, false)).game) from rfl, (cutP_keeps n c1 _).2] at e5
      exact ⟨e4, e5⟩
    clear hm hm2 hd1
    go_upto_region 12 with (fail)
    go_region_held3 (fun W => W.cell? ⟨b, 4, none⟩ = some (.int .i64 c1.real) ∧ W.cell? ⟨b, 5, none⟩ = some (.int .i64 c1.game))
      (first | exact HCL.out _ _ hS4 | exact HC3.out _ _ _ hS5)
      (first | (go_at_call 56; ((with_reducible refine HCUT.out.mono ?_); rintro e w2 ⟨rfl, A2, cap2, hS5⟩)))
    go_wp2_with fail
    go_ret
    exact press_yes (by unfold refP; rw [HPH.out]; rfl) rfl rfl (hS5.drop 2 rfl rfl)
  · have e0 : (ph == 1) = false := by simpa using h0
    go_wp2_with fail
    go_ret
    exact press_no (by unfold refP; rw [HPH.out]; simpa using h0) HM.out (hS3.drop 2 rfl rfl)

set_option maxRecDepth 100000 in
set_option maxHeartbeats 2000000 in
theorem press3_calls (w0 : World) (b n : Nat) (c : Clk) (t : Int) (A : Option Addr) (cap : Nat) (l : List Rsc) (w : World)
    (hS : Sq w0 w (rBlk b 66 (clkC n c (.slice A c.cuts.length cap)) :: rOwn w0.heap.size 40 3 (.slice A c.cuts.length cap) c.cuts.length (c.cuts.flatMap cutC) :: l)) (hb : PressBd n c t) :
    Calls Tryz.prog 39 #[.pointer (some ⟨b, 0, none⟩), .agg #[.int .i64 t, .int .i64 3]] w (PressG w0 b n (advP c t) 3 l) := by
  obtain ⟨m, hm⟩ : ∃ m, c.cuts.length = m := ⟨_, rfl⟩
  have hm2 := hb.cuts
  have hn := hb.n_
  have hbg := hb.begun
  rw [hm] at hS hm2
  have hS1 := hS.add #[.int .i64 t, .int .i64 3] 50
  have hA := hS1.front 1 rfl rfl
  have HADV := Lib.hid (advance_calls b n c (.slice A m cap) t _ hA.head hb.bd hb.t_)
  have hd1 := hb.bd1.done
  have HBD := Lib.hid hb.bd1
  have hB0 := hS1.size
  rw [← adv_cuts c t] at hm hA
  rw [← adv_begun c t] at hbg
  obtain ⟨c1, hc1⟩ : ∃ c1, advP c t = c1 := ⟨_, rfl⟩
  rw [hc1] at hm hA hbg HADV HBD hd1 ⊢
  have hlt : b < w.heap.size := Blk.lt (hS.nth 0 rfl)
  clear hc1 hS hS1 hb
  go_enter Tryz.func39, Tryz.ntmps39
  go_wp2_with fail
  refine HADV.out.mono ?_
  rintro e w1 ⟨rfl, hC1, hbx⟩
  have hS2 : Sq w0 w1 (rBlk b 66 (clkC n c1 (.slice A m cap)) :: rBlk w.heap.size 50 #[.int .i64 t, .int .i64 3] :: rOwn w0.heap.size 40 3 (.slice A m cap) m (c1.cuts.flatMap cutC) :: l) := hA.turnB hbx hC1
  have hS3 : Sq w0 w1 (rBlk b 66 (clkC n c1 (.slice A m cap)) :: rOwn w0.heap.size 40 3 (.slice A m cap) m (c1.cuts.flatMap cutC) :: rBlk w.heap.size 50 #[.int .i64 t, .int .i64 3] :: l) := (hS2.front 2 rfl rfl).front 1 rfl rfl
  obtain ⟨c0, k1, k2, k3, k4, k5, k6, k7, k8, k9, k10, k11⟩ := hC1.cells
  obtain ⟨f1, f2, f3, f4, f5, f6, f7, f8, f9, f10, f11⟩ := hC1.frz
  obtain ⟨q0, q1, _, _⟩ := Blk.two (hS2.nth 1 rfl)
  have HM := Lib.hid hm
  have hne : w.heap.size ≠ b := by omega
  obtain ⟨ph, hph⟩ : ∃ ph, c1.phase = ph := ⟨_, rfl⟩
  have HPH := Lib.hid hph
  rw [hph] at k1
  clear hA HADV hbx hC1 hS2 hph
  have HCUT : Hid (∀ nq, Calls Tryz.prog 56 #[.pointer (some ⟨b, 0, none⟩), .agg #[.int .i64 0, .int .i64 0, .bool true]] (w1.drewN nq) (CutS w0 b n (cutP n c1 (0, 0, true)) (rBlk w.heap.size 50 #[.int .i64 t, .int .i64 3] :: l) (.tuple #[]))) := by
    intro nq
    have h := hS3.drewN nq
    rw [← HM.out] at h
    exact cut_calls w0 b n c1 (0, 0, true) A cap _ _ h (by rw [HM.out]; exact hm2) hn
  by_cases h0 : ph = 1
  · subst h0
    by_cases hmn : m + 1 = n
    · have t1 : (((m : Int) + 1) == (n : Int)) = true := by simp; omega
      clear hmn
      go_wp2_with fail
      go_quiet (fail)
      go_wp2_with fail
      go_ret
      exact press_no (by unfold refP; rw [HPH.out, HM.out]; simp at t1 ⊢; omega) HM.out ((hS3.drop 2 rfl rfl).drewN _)
    · have t1 : (((m : Int) + 1) == (n : Int)) = false := by simp; omega
      have HR : Hid (refP n c1 3 = false) := by
        unfold refP
        rw [HPH.out, HM.out, if_neg (by decide), if_neg (by decide), if_pos rfl]
        exact decide_eq_false (by omega)
      clear hmn
      go_wp2_with fail
      go_quiet (fail)
      go_wp2_with fail
      refine (HCUT.out _).mono ?_
      rintro e w2 ⟨rfl, A2, cap2, hS4⟩
      go_wp2_with fail
      go_ret
      exact press_yes HR.out rfl rfl (hS4.drop 2 rfl rfl)
  · have e0 : (ph == 1) = false := by simpa using h0
    go_wp2_with fail
    go_quiet (fail)
    go_wp2_with fail
    go_ret
    exact press_no (by unfold refP; rw [HPH.out]; simp [h0]) HM.out ((hS3.drop 2 rfl rfl).drewN _)

set_option maxRecDepth 100000 in
set_option maxHeartbeats 2000000 in
theorem press4_calls (w0 : World) (b n : Nat) (c : Clk) (t : Int) (A : Option Addr) (cap : Nat) (l : List Rsc) (w : World)
    (hS : Sq w0 w (rBlk b 66 (clkC n c (.slice A c.cuts.length cap)) :: rOwn w0.heap.size 40 3 (.slice A c.cuts.length cap) c.cuts.length (c.cuts.flatMap cutC) :: l)) (hb : PressBd n c t) :
    Calls Tryz.prog 39 #[.pointer (some ⟨b, 0, none⟩), .agg #[.int .i64 t, .int .i64 4]] w (PressG w0 b n (advP c t) 4 l) := by
  obtain ⟨m, hm⟩ : ∃ m, c.cuts.length = m := ⟨_, rfl⟩
  have hm2 := hb.cuts
  have hn := hb.n_
  have hbg := hb.begun
  rw [hm] at hS hm2
  have hS1 := hS.add #[.int .i64 t, .int .i64 4] 50
  have hA := hS1.front 1 rfl rfl
  have HADV := Lib.hid (advance_calls b n c (.slice A m cap) t _ hA.head hb.bd hb.t_)
  have hd1 := hb.bd1.done
  have HBD := Lib.hid hb.bd1
  have hB0 := hS1.size
  rw [← adv_cuts c t] at hm hA
  rw [← adv_begun c t] at hbg
  obtain ⟨c1, hc1⟩ : ∃ c1, advP c t = c1 := ⟨_, rfl⟩
  rw [hc1] at hm hA hbg HADV HBD hd1 ⊢
  have hlt : b < w.heap.size := Blk.lt (hS.nth 0 rfl)
  clear hc1 hS hS1 hb
  go_enter Tryz.func39, Tryz.ntmps39
  go_wp2_with fail
  refine HADV.out.mono ?_
  rintro e w1 ⟨rfl, hC1, hbx⟩
  have hS2 : Sq w0 w1 (rBlk b 66 (clkC n c1 (.slice A m cap)) :: rBlk w.heap.size 50 #[.int .i64 t, .int .i64 4] :: rOwn w0.heap.size 40 3 (.slice A m cap) m (c1.cuts.flatMap cutC) :: l) := hA.turnB hbx hC1
  have hS3 : Sq w0 w1 (rBlk b 66 (clkC n c1 (.slice A m cap)) :: rOwn w0.heap.size 40 3 (.slice A m cap) m (c1.cuts.flatMap cutC) :: rBlk w.heap.size 50 #[.int .i64 t, .int .i64 4] :: l) := (hS2.front 2 rfl rfl).front 1 rfl rfl
  obtain ⟨c0, k1, k2, k3, k4, k5, k6, k7, k8, k9, k10, k11⟩ := hC1.cells
  obtain ⟨f1, f2, f3, f4, f5, f6, f7, f8, f9, f10, f11⟩ := hC1.frz
  obtain ⟨q0, q1, _, _⟩ := Blk.two (hS2.nth 1 rfl)
  have HM := Lib.hid hm
  have hne : w.heap.size ≠ b := by omega
  obtain ⟨ph, hph⟩ : ∃ ph, c1.phase = ph := ⟨_, rfl⟩
  have HPH := Lib.hid hph
  rw [hph] at k1
  clear hA HADV hbx hC1 hS2 hph
  by_cases h0 : ph = 0
  · subst h0
    go_wp2_with fail
    go_ret
    exact press_no (by unfold refP; rw [HPH.out]; rfl) HM.out (hS3.drop 2 rfl rfl)
  · have e0 : (ph == 0) = false := by simpa using h0
    rcases Nat.eq_zero_or_pos m with hm0 | hm0
    · subst hm0
      go_wp2_with fail
      go_ret
      exact press_no (by unfold refP; rw [HM.out]; simp) HM.out (hS3.drop 2 rfl rfl)
    · have t0 : ((m : Int) == 0) = false := by simp; omega
      have HO : w1.ownsRow w0.heap.size 40 3 (.slice A m cap) m (c1.cuts.flatMap cutC) := hS3.nth 1 rfl
      have hcap := own_cap HO
      obtain ⟨q, rfl⟩ : ∃ q, m = q + 1 := ⟨m - 1, by omega⟩
      obtain ⟨g, cp, hv, _, _⟩ := HO.form (by omega)
      injection hv with hA1 _ hA2
      subst hA1 hA2
      have hS4 := ((hS3.front 1 rfl rfl).weak (r' := rOwn w0.heap.size 40 3 (.slice (some ⟨g, 0, none⟩) q cap) q ((c1.cuts.take q).flatMap cutC)) (fun h => by rw [flat_take cutC 3 cutC_len]; exact own_short h (by omega) (by simp)) (rOwn_ok _ _ _ _ _ _) (fun _ hk => hk)).front 1 rfl rfl
      have hS5 := hS4.set_ 6 (.slice (some ⟨g, 0, none⟩) q cap)
      have HR : Hid (refP n c1 4 = false) := by
        unfold refP
        rw [HPH.out, HM.out, if_neg (by decide), if_neg (by decide), if_neg (by decide), if_pos rfl]
        exact decide_eq_false (by omega)
      have HL : Hid ((c1.cuts.take q).length = q) := by show _ = _; rw [List.length_take, HM.out]; omega
      clear hS4 HO hm hd1
      go_upto_region 20 with (fail)
      go_region
      by_cases h3 : ph = 3
      · subst h3
        have hS6 := (hS5.drew).set_ 1 (.int .i64 1)
        have HD : Hid (doneP n c1 4 = { c1 with cuts := c1.cuts.take q, phase := 1 }) := by
          unfold doneP
          rw [HM.out, HPH.out]
          exact Lib.hid rfl
        clear hS5 hS3
        go_wp2_with fail
        go_ret
        exact press_yes HR.out HD.out HL.out (hS6.drop 2 rfl rfl)
      · have e3 : (ph == 3) = false := by simpa using h3
        have HD : Hid (doneP n c1 4 = { c1 with cuts := c1.cuts.take q }) := by
          unfold doneP
          rw [HM.out, if_neg (by decide), if_neg (by decide), if_neg (by decide), if_pos rfl, HPH.out, if_neg h3, ← HPH.out]
          exact Lib.hid rfl
        clear h3
        go_wp2_with fail
        go_ret
        exact press_yes HR.out HD.out HL.out (hS5.drew.drop 2 rfl rfl)
end Go.Proofs.YtohjapfjkilmoaaGreatDoor
