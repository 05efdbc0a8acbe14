/-
  The clock's press: start, pause, resume, load, loaded, reset. (Printed by gen_prs6.py.)
-/
import Derived.Test.YtmngnmffmohhcaaGreatDoorZPrs3
import Derived.Test.YtmngnmffmohhcaaGreatDoorZPrs2
import Derived.Deep.RegionLaw
import Derived.Deep.RegionHeld3
import Derived.Deep.QuietTactic
import Derived.BigQuiet
import Derived.Test.YtmngnmffmohhcaaGreatDoorZSlot4
namespace Go.Proofs.YtmngnmffmohhcaaGreatDoor
open Go Go.RowKit
attribute [local go_sem ↓] Go.wp_at_zero Go.wp_at_succ

/-- what a press answers, of the clock that has gone on to it -/
def PressG (w0 : World) (b n : Nat) (c : Clk) (k : Int) (l : List Rsc) (e : Ending) (w' : World) : Prop :=
  CutS w0 b n (if refP n c k = true then c else doneP n c k) l (.bool (!refP n c k)) e w'
theorem press_no {w0 W : World} {b n m cap : Nat} {c : Clk} {k : Int} {A : Option Addr} {l : List Rsc} (h : refP n c k = true) (hm : c.cuts.length = m)
    (hS : Sq w0 W (rBlk b 89 (clkC n c (.slice A m cap)) :: rOwn w0.heap.size 41 3 (.slice A m cap) m (c.cuts.flatMap cutC) :: l)) : PressG w0 b n c k l (.returned (.bool false)) W := by
  subst hm
  unfold PressG
  rw [h]
  exact ⟨rfl, A, cap, hS⟩
theorem press_yes {w0 W : World} {b n m cap : Nat} {c c2 : Clk} {k : Int} {A : Option Addr} {l : List Rsc} (h : refP n c k = false) (h2 : doneP n c k = c2) (hm : c2.cuts.length = m)
    (hS : Sq w0 W (rBlk b 89 (clkC n c2 (.slice A m cap)) :: rOwn w0.heap.size 41 3 (.slice A m cap) m (c2.cuts.flatMap cutC) :: l)) : PressG w0 b n c k l (.returned (.bool true)) W := by
  subst hm
  unfold PressG
  rw [h, if_neg (by simp), h2]
  exact ⟨rfl, A, cap, hS⟩
/-- what a press asks of the clock -/
structure PressBd (n : Nat) (c : Clk) (t : Int) : Prop where
  bd : ClkBd c
  bd1 : ClkBd (advP c t)
  begun : 0 ≤ c.begun ∧ c.begun ≤ 1125899906842624
  t_ : -1125899906842624 ≤ t ∧ t ≤ 1125899906842624
  cuts : c.cuts.length ≤ 100000
  n_ : n ≤ 100000
theorem adv_cuts (c : Clk) (t : Int) : (advP c t).cuts = c.cuts := rfl
theorem adv_begun (c : Clk) (t : Int) : (advP c t).begun = c.begun := rfl

set_option maxRecDepth 100000 in
set_option maxHeartbeats 2000000 in
theorem press1_calls (w0 : World) (b n : Nat) (c : Clk) (t : Int) (A : Option Addr) (cap : Nat) (l : List Rsc) (w : World)
    (hS : Sq w0 w (rBlk b 89 (clkC n c (.slice A c.cuts.length cap)) :: rOwn w0.heap.size 41 3 (.slice A c.cuts.length cap) c.cuts.length (c.cuts.flatMap cutC) :: l)) (hb : PressBd n c t) :
    Calls Tryz.prog 62 #[.pointer (some ⟨b, 0, none⟩), .agg #[.int .i64 t, .int .i64 1]] w (PressG w0 b n (advP c t) 1 l) := by
  obtain ⟨m, hm⟩ : ∃ m, c.cuts.length = m := ⟨_, rfl⟩
  have hm2 := hb.cuts
  have hn := hb.n_
  have hbg := hb.begun
  rw [hm] at hS hm2
  have hS1 := hS.add #[.int .i64 t, .int .i64 1] 45
  have hA := hS1.front 1 rfl rfl
  have HADV := Lib.hid (advance_calls b n c (.slice A m cap) t _ hA.head hb.bd hb.t_)
  have hd1 := hb.bd1.done
  have HBD := Lib.hid hb.bd1
  have hB0 := hS1.size
  rw [← adv_cuts c t] at hm hA
  rw [← adv_begun c t] at hbg
  obtain ⟨c1, hc1⟩ : ∃ c1, advP c t = c1 := ⟨_, rfl⟩
  rw [hc1] at hm hA hbg HADV HBD hd1 ⊢
  have hlt : b < w.heap.size := Blk.lt (hS.nth 0 rfl)
  clear hc1 hS hS1 hb
  go_enter Tryz.func62, Tryz.ntmps62
  go_wp2_with fail
  refine HADV.out.mono ?_
  rintro e w1 ⟨rfl, hC1, hbx⟩
  have hS2 : Sq w0 w1 (rBlk b 89 (clkC n c1 (.slice A m cap)) :: rBlk w.heap.size 45 #[.int .i64 t, .int .i64 1] :: rOwn w0.heap.size 41 3 (.slice A m cap) m (c1.cuts.flatMap cutC) :: l) := hA.turnB hbx hC1
  have hS3 : Sq w0 w1 (rBlk b 89 (clkC n c1 (.slice A m cap)) :: rOwn w0.heap.size 41 3 (.slice A m cap) m (c1.cuts.flatMap cutC) :: rBlk w.heap.size 45 #[.int .i64 t, .int .i64 1] :: l) := (hS2.front 2 rfl rfl).front 1 rfl rfl
  obtain ⟨c0, k1, k2, k3, k4, k5, k6, k7, k8, k9, k10, k11⟩ := hC1.cells
  obtain ⟨f1, f2, f3, f4, f5, f6, f7, f8, f9, f10, f11⟩ := hC1.frz
  obtain ⟨q0, q1, _, _⟩ := Blk.two (hS2.nth 1 rfl)
  have HM := Lib.hid hm
  have hne : w.heap.size ≠ b := by omega
  obtain ⟨ph, hph⟩ : ∃ ph, c1.phase = ph := ⟨_, rfl⟩
  have HPH := Lib.hid hph
  rw [hph] at k1
  clear hA HADV hbx hC1 hS2 hph
  by_cases h0 : ph = 0
  · subst h0
    have hS4 := (((((hS3.set_ 1 (.int .i64 1)).set_ 4 (.int .i64 0)).set_ 5 (.int .i64 0)).set_ 2 (.bool false)).set_ 6 (.slice none 0 0)).set_ 10 (.int .i64 (c1.begun + 1))
    have hS5 := ((((hS4.drop 1 rfl rfl).drop 1 rfl rfl).nil w0.heap.size 41 3).front 1 rfl rfl)
    obtain ⟨bg1, bg2⟩ := hbg
    clear hS4 hS3 hm hm2 hd1
    go_wp2_with fail
    go_ret
    exact press_yes (c2 := { c1 with phase := 1, real := 0, game := 0, loads := false, cuts := [], begun := c1.begun + 1 }) (by unfold refP; rw [HPH.out]; rfl) rfl rfl hS5
  · have e0 : (ph != 0) = true := by simpa using h0
    go_wp2_with fail
    go_ret
    exact press_no (by unfold refP; rw [HPH.out]; simpa using h0) HM.out (hS3.drop 2 rfl rfl)

set_option maxRecDepth 100000 in
set_option maxHeartbeats 2000000 in
theorem press5_calls (w0 : World) (b n : Nat) (c : Clk) (t : Int) (A : Option Addr) (cap : Nat) (l : List Rsc) (w : World)
    (hS : Sq w0 w (rBlk b 89 (clkC n c (.slice A c.cuts.length cap)) :: rOwn w0.heap.size 41 3 (.slice A c.cuts.length cap) c.cuts.length (c.cuts.flatMap cutC) :: l)) (hb : PressBd n c t) :
    Calls Tryz.prog 62 #[.pointer (some ⟨b, 0, none⟩), .agg #[.int .i64 t, .int .i64 5]] w (PressG w0 b n (advP c t) 5 l) := by
  obtain ⟨m, hm⟩ : ∃ m, c.cuts.length = m := ⟨_, rfl⟩
  have hm2 := hb.cuts
  have hn := hb.n_
  have hbg := hb.begun
  rw [hm] at hS hm2
  have hS1 := hS.add #[.int .i64 t, .int .i64 5] 45
  have hA := hS1.front 1 rfl rfl
  have HADV := Lib.hid (advance_calls b n c (.slice A m cap) t _ hA.head hb.bd hb.t_)
  have hd1 := hb.bd1.done
  have HBD := Lib.hid hb.bd1
  have hB0 := hS1.size
  rw [← adv_cuts c t] at hm hA
  rw [← adv_begun c t] at hbg
  obtain ⟨c1, hc1⟩ : ∃ c1, advP c t = c1 := ⟨_, rfl⟩
  rw [hc1] at hm hA hbg HADV HBD hd1 ⊢
  have hlt : b < w.heap.size := Blk.lt (hS.nth 0 rfl)
  clear hc1 hS hS1 hb
  go_enter Tryz.func62, Tryz.ntmps62
  go_wp2_with fail
  refine HADV.out.mono ?_
  rintro e w1 ⟨rfl, hC1, hbx⟩
  have hS2 : Sq w0 w1 (rBlk b 89 (clkC n c1 (.slice A m cap)) :: rBlk w.heap.size 45 #[.int .i64 t, .int .i64 5] :: rOwn w0.heap.size 41 3 (.slice A m cap) m (c1.cuts.flatMap cutC) :: l) := hA.turnB hbx hC1
  have hS3 : Sq w0 w1 (rBlk b 89 (clkC n c1 (.slice A m cap)) :: rOwn w0.heap.size 41 3 (.slice A m cap) m (c1.cuts.flatMap cutC) :: rBlk w.heap.size 45 #[.int .i64 t, .int .i64 5] :: l) := (hS2.front 2 rfl rfl).front 1 rfl rfl
  obtain ⟨c0, k1, k2, k3, k4, k5, k6, k7, k8, k9, k10, k11⟩ := hC1.cells
  obtain ⟨f1, f2, f3, f4, f5, f6, f7, f8, f9, f10, f11⟩ := hC1.frz
  obtain ⟨q0, q1, _, _⟩ := Blk.two (hS2.nth 1 rfl)
  have HM := Lib.hid hm
  have hne : w.heap.size ≠ b := by omega
  obtain ⟨ph, hph⟩ : ∃ ph, c1.phase = ph := ⟨_, rfl⟩
  have HPH := Lib.hid hph
  rw [hph] at k1
  clear hA HADV hbx hC1 hS2 hph
  by_cases h0 : ph = 1
  · subst h0
    have hS4 := hS3.set_ 1 (.int .i64 2)
    clear hS3 hm hm2 hd1
    go_wp2_with fail
    go_ret
    exact press_yes (c2 := { c1 with phase := 2 }) (by unfold refP; rw [HPH.out]; rfl) rfl HM.out (hS4.drop 2 rfl rfl)
  · have e0 : (ph == 1) = false := by simpa using h0
    go_wp2_with fail
    go_ret
    exact press_no (by unfold refP; rw [HPH.out]; simpa using h0) HM.out (hS3.drop 2 rfl rfl)

set_option maxRecDepth 100000 in
set_option maxHeartbeats 2000000 in
theorem press6_calls (w0 : World) (b n : Nat) (c : Clk) (t : Int) (A : Option Addr) (cap : Nat) (l : List Rsc) (w : World)
    (hS : Sq w0 w (rBlk b 89 (clkC n c (.slice A c.cuts.length cap)) :: rOwn w0.heap.size 41 3 (.slice A c.cuts.length cap) c.cuts.length (c.cuts.flatMap cutC) :: l)) (hb : PressBd n c t) :
    Calls Tryz.prog 62 #[.pointer (some ⟨b, 0, none⟩), .agg #[.int .i64 t, .int .i64 6]] w (PressG w0 b n (advP c t) 6 l) := by
  obtain ⟨m, hm⟩ : ∃ m, c.cuts.length = m := ⟨_, rfl⟩
  have hm2 := hb.cuts
  have hn := hb.n_
  have hbg := hb.begun
  rw [hm] at hS hm2
  have hS1 := hS.add #[.int .i64 t, .int .i64 6] 45
  have hA := hS1.front 1 rfl rfl
  have HADV := Lib.hid (advance_calls b n c (.slice A m cap) t _ hA.head hb.bd hb.t_)
  have hd1 := hb.bd1.done
  have HBD := Lib.hid hb.bd1
  have hB0 := hS1.size
  rw [← adv_cuts c t] at hm hA
  rw [← adv_begun c t] at hbg
  obtain ⟨c1, hc1⟩ : ∃ c1, advP c t = c1 := ⟨_, rfl⟩
  rw [hc1] at hm hA hbg HADV HBD hd1 ⊢
  have hlt : b < w.heap.size := Blk.lt (hS.nth 0 rfl)
  clear hc1 hS hS1 hb
  go_enter Tryz.func62, Tryz.ntmps62
  go_wp2_with fail
  refine HADV.out.mono ?_
  rintro e w1 ⟨rfl, hC1, hbx⟩
  have hS2 : Sq w0 w1 (rBlk b 89 (clkC n c1 (.slice A m cap)) :: rBlk w.heap.size 45 #[.int .i64 t, .int .i64 6] :: rOwn w0.heap.size 41 3 (.slice A m cap) m (c1.cuts.flatMap cutC) :: l) := hA.turnB hbx hC1
  have hS3 : Sq w0 w1 (rBlk b 89 (clkC n c1 (.slice A m cap)) :: rOwn w0.heap.size 41 3 (.slice A m cap) m (c1.cuts.flatMap cutC) :: rBlk w.heap.size 45 #[.int .i64 t, .int .i64 6] :: l) := (hS2.front 2 rfl rfl).front 1 rfl rfl
  obtain ⟨c0, k1, k2, k3, k4, k5, k6, k7, k8, k9, k10, k11⟩ := hC1.cells
  obtain ⟨f1, f2, f3, f4, f5, f6, f7, f8, f9, f10, f11⟩ := hC1.frz
  obtain ⟨q0, q1, _, _⟩ := Blk.two (hS2.nth 1 rfl)
  have HM := Lib.hid hm
  have hne : w.heap.size ≠ b := by omega
  obtain ⟨ph, hph⟩ : ∃ ph, c1.phase = ph := ⟨_, rfl⟩
  have HPH := Lib.hid hph
  rw [hph] at k1
  clear hA HADV hbx hC1 hS2 hph
  by_cases h0 : ph = 2
  · subst h0
    have hS4 := hS3.set_ 1 (.int .i64 1)
    clear hS3 hm hm2 hd1
    go_wp2_with fail
    go_ret
    exact press_yes (c2 := { c1 with phase := 1 }) (by unfold refP; rw [HPH.out]; rfl) rfl HM.out (hS4.drop 2 rfl rfl)
  · have e0 : (ph != 2) = true := by simpa using h0
    go_wp2_with fail
    go_ret
    exact press_no (by unfold refP; rw [HPH.out]; simpa using h0) HM.out (hS3.drop 2 rfl rfl)

set_option maxRecDepth 100000 in
set_option maxHeartbeats 2000000 in
theorem press7_calls (w0 : World) (b n : Nat) (c : Clk) (t : Int) (A : Option Addr) (cap : Nat) (l : List Rsc) (w : World)
    (hS : Sq w0 w (rBlk b 89 (clkC n c (.slice A c.cuts.length cap)) :: rOwn w0.heap.size 41 3 (.slice A c.cuts.length cap) c.cuts.length (c.cuts.flatMap cutC) :: l)) (hb : PressBd n c t) :
    Calls Tryz.prog 62 #[.pointer (some ⟨b, 0, none⟩), .agg #[.int .i64 t, .int .i64 7]] w (PressG w0 b n (advP c t) 7 l) := by
  obtain ⟨m, hm⟩ : ∃ m, c.cuts.length = m := ⟨_, rfl⟩
  have hm2 := hb.cuts
  have hn := hb.n_
  have hbg := hb.begun
  rw [hm] at hS hm2
  have hS1 := hS.add #[.int .i64 t, .int .i64 7] 45
  have hA := hS1.front 1 rfl rfl
  have HADV := Lib.hid (advance_calls b n c (.slice A m cap) t _ hA.head hb.bd hb.t_)
  have hd1 := hb.bd1.done
  have HBD := Lib.hid hb.bd1
  have hB0 := hS1.size
  rw [← adv_cuts c t] at hm hA
  rw [← adv_begun c t] at hbg
  obtain ⟨c1, hc1⟩ : ∃ c1, advP c t = c1 := ⟨_, rfl⟩
  rw [hc1] at hm hA hbg HADV HBD hd1 ⊢
  have hlt : b < w.heap.size := Blk.lt (hS.nth 0 rfl)
  clear hc1 hS hS1 hb
  go_enter Tryz.func62, Tryz.ntmps62
  go_wp2_with fail
  refine HADV.out.mono ?_
  rintro e w1 ⟨rfl, hC1, hbx⟩
  have hS2 : Sq w0 w1 (rBlk b 89 (clkC n c1 (.slice A m cap)) :: rBlk w.heap.size 45 #[.int .i64 t, .int .i64 7] :: rOwn w0.heap.size 41 3 (.slice A m cap) m (c1.cuts.flatMap cutC) :: l) := hA.turnB hbx hC1
  have hS3 : Sq w0 w1 (rBlk b 89 (clkC n c1 (.slice A m cap)) :: rOwn w0.heap.size 41 3 (.slice A m cap) m (c1.cuts.flatMap cutC) :: rBlk w.heap.size 45 #[.int .i64 t, .int .i64 7] :: l) := (hS2.front 2 rfl rfl).front 1 rfl rfl
  obtain ⟨c0, k1, k2, k3, k4, k5, k6, k7, k8, k9, k10, k11⟩ := hC1.cells
  obtain ⟨f1, f2, f3, f4, f5, f6, f7, f8, f9, f10, f11⟩ := hC1.frz
  obtain ⟨q0, q1, _, _⟩ := Blk.two (hS2.nth 1 rfl)
  have HM := Lib.hid hm
  have hne : w.heap.size ≠ b := by omega
  obtain ⟨ph, hph⟩ : ∃ ph, c1.phase = ph := ⟨_, rfl⟩
  have HPH := Lib.hid hph
  rw [hph] at k1
  clear hA HADV hbx hC1 hS2 hph
  obtain ⟨ld, hld⟩ : ∃ ld, c1.loads = ld := ⟨_, rfl⟩
  have HLD := Lib.hid hld
  rw [hld] at k2
  clear hld
  by_cases h0 : ph = 1
  · subst h0
    by_cases hl : ld = true
    · subst hl
      go_wp2_with fail
      go_ret
      exact press_no (by unfold refP; rw [HPH.out, HLD.out]; rfl) HM.out (hS3.drop 2 rfl rfl)
    · have hl' : ld = false := by cases ld <;> simp_all
      subst hl'
      have hS4 := (hS3.set_ 2 (.bool true))
      clear hl hm hm2 hd1
      go_wp2_with fail
      go_ret
      exact press_yes (c2 := { c1 with loads := true }) (by unfold refP; rw [HPH.out, HLD.out]; rfl) rfl HM.out (hS4.drop 2 rfl rfl)
  · have e0 : (ph == 1) = false := by simpa using h0
    go_wp2_with fail
    go_ret
    exact press_no (by unfold refP; rw [HPH.out]; simp [h0]) HM.out (hS3.drop 2 rfl rfl)

set_option maxRecDepth 100000 in
set_option maxHeartbeats 2000000 in
theorem press8_calls (w0 : World) (b n : Nat) (c : Clk) (t : Int) (A : Option Addr) (cap : Nat) (l : List Rsc) (w : World)
    (hS : Sq w0 w (rBlk b 89 (clkC n c (.slice A c.cuts.length cap)) :: rOwn w0.heap.size 41 3 (.slice A c.cuts.length cap) c.cuts.length (c.cuts.flatMap cutC) :: l)) (hb : PressBd n c t) :
    Calls Tryz.prog 62 #[.pointer (some ⟨b, 0, none⟩), .agg #[.int .i64 t, .int .i64 8]] w (PressG w0 b n (advP c t) 8 l) := by
  obtain ⟨m, hm⟩ : ∃ m, c.cuts.length = m := ⟨_, rfl⟩
  have hm2 := hb.cuts
  have hn := hb.n_
  have hbg := hb.begun
  rw [hm] at hS hm2
  have hS1 := hS.add #[.int .i64 t, .int .i64 8] 45
  have hA := hS1.front 1 rfl rfl
  have HADV := Lib.hid (advance_calls b n c (.slice A m cap) t _ hA.head hb.bd hb.t_)
  have hd1 := hb.bd1.done
  have HBD := Lib.hid hb.bd1
  have hB0 := hS1.size
  rw [← adv_cuts c t] at hm hA
  rw [← adv_begun c t] at hbg
  obtain ⟨c1, hc1⟩ : ∃ c1, advP c t = c1 := ⟨_, rfl⟩
  rw [hc1] at hm hA hbg HADV HBD hd1 ⊢
  have hlt : b < w.heap.size := Blk.lt (hS.nth 0 rfl)
  clear hc1 hS hS1 hb
  go_enter Tryz.func62, Tryz.ntmps62
  go_wp2_with fail
  refine HADV.out.mono ?_
  rintro e w1 ⟨rfl, hC1, hbx⟩
  have hS2 : Sq w0 w1 (rBlk b 89 (clkC n c1 (.slice A m cap)) :: rBlk w.heap.size 45 #[.int .i64 t, .int .i64 8] :: rOwn w0.heap.size 41 3 (.slice A m cap) m (c1.cuts.flatMap cutC) :: l) := hA.turnB hbx hC1
  have hS3 : Sq w0 w1 (rBlk b 89 (clkC n c1 (.slice A m cap)) :: rOwn w0.heap.size 41 3 (.slice A m cap) m (c1.cuts.flatMap cutC) :: rBlk w.heap.size 45 #[.int .i64 t, .int .i64 8] :: l) := (hS2.front 2 rfl rfl).front 1 rfl rfl
  obtain ⟨c0, k1, k2, k3, k4, k5, k6, k7, k8, k9, k10, k11⟩ := hC1.cells
  obtain ⟨f1, f2, f3, f4, f5, f6, f7, f8, f9, f10, f11⟩ := hC1.frz
  obtain ⟨q0, q1, _, _⟩ := Blk.two (hS2.nth 1 rfl)
  have HM := Lib.hid hm
  have hne : w.heap.size ≠ b := by omega
  obtain ⟨ph, hph⟩ : ∃ ph, c1.phase = ph := ⟨_, rfl⟩
  have HPH := Lib.hid hph
  rw [hph] at k1
  clear hA HADV hbx hC1 hS2 hph
  obtain ⟨ld, hld⟩ : ∃ ld, c1.loads = ld := ⟨_, rfl⟩
  have HLD := Lib.hid hld
  rw [hld] at k2
  clear hld
  by_cases h0 : ph = 1
  · subst h0
    by_cases hl : ld = false
    · subst hl
      go_wp2_with fail
      go_ret
      exact press_no (by unfold refP; rw [HPH.out, HLD.out]; rfl) HM.out (hS3.drop 2 rfl rfl)
    · have hl' : ld = true := by cases ld <;> simp_all
      subst hl'
      have hS4 := (hS3.set_ 2 (.bool false))
      clear hl hm hm2 hd1
      go_wp2_with fail
      go_ret
      exact press_yes (c2 := { c1 with loads := false }) (by unfold refP; rw [HPH.out, HLD.out]; rfl) rfl HM.out (hS4.drop 2 rfl rfl)
  · have e0 : (ph == 1) = false := by simpa using h0
    go_wp2_with fail
    go_ret
    exact press_no (by unfold refP; rw [HPH.out]; simp [h0]) HM.out (hS3.drop 2 rfl rfl)

set_option maxRecDepth 100000 in
set_option maxHeartbeats 2000000 in
theorem press9_calls (w0 : World) (b n : Nat) (c : Clk) (t : Int) (A : Option Addr) (cap : Nat) (l : List Rsc) (w : World)
    (hS : Sq w0 w (rBlk b 89 (clkC n c (.slice A c.cuts.length cap)) :: rOwn w0.heap.size 41 3 (.slice A c.cuts.length cap) c.cuts.length (c.cuts.flatMap cutC) :: l)) (hb : PressBd n c t) :
    Calls Tryz.prog 62 #[.pointer (some ⟨b, 0, none⟩), .agg #[.int .i64 t, .int .i64 9]] w (PressG w0 b n (advP c t) 9 l) := by
  obtain ⟨m, hm⟩ : ∃ m, c.cuts.length = m := ⟨_, rfl⟩
  have hm2 := hb.cuts
  have hn := hb.n_
  have hbg := hb.begun
  rw [hm] at hS hm2
  have hS1 := hS.add #[.int .i64 t, .int .i64 9] 45
  have hA := hS1.front 1 rfl rfl
  have HADV := Lib.hid (advance_calls b n c (.slice A m cap) t _ hA.head hb.bd hb.t_)
  have hd1 := hb.bd1.done
  have HBD := Lib.hid hb.bd1
  have hB0 := hS1.size
  rw [← adv_cuts c t] at hm hA
  rw [← adv_begun c t] at hbg
  obtain ⟨c1, hc1⟩ : ∃ c1, advP c t = c1 := ⟨_, rfl⟩
  rw [hc1] at hm hA hbg HADV HBD hd1 ⊢
  have hlt : b < w.heap.size := Blk.lt (hS.nth 0 rfl)
  clear hc1 hS hS1 hb
  go_enter Tryz.func62, Tryz.ntmps62
  go_wp2_with fail
  refine HADV.out.mono ?_
  rintro e w1 ⟨rfl, hC1, hbx⟩
  have hS2 : Sq w0 w1 (rBlk b 89 (clkC n c1 (.slice A m cap)) :: rBlk w.heap.size 45 #[.int .i64 t, .int .i64 9] :: rOwn w0.heap.size 41 3 (.slice A m cap) m (c1.cuts.flatMap cutC) :: l) := hA.turnB hbx hC1
  have hS3 : Sq w0 w1 (rBlk b 89 (clkC n c1 (.slice A m cap)) :: rOwn w0.heap.size 41 3 (.slice A m cap) m (c1.cuts.flatMap cutC) :: rBlk w.heap.size 45 #[.int .i64 t, .int .i64 9] :: l) := (hS2.front 2 rfl rfl).front 1 rfl rfl
  obtain ⟨c0, k1, k2, k3, k4, k5, k6, k7, k8, k9, k10, k11⟩ := hC1.cells
  obtain ⟨f1, f2, f3, f4, f5, f6, f7, f8, f9, f10, f11⟩ := hC1.frz
  obtain ⟨q0, q1, _, _⟩ := Blk.two (hS2.nth 1 rfl)
  have HM := Lib.hid hm
  have hne : w.heap.size ≠ b := by omega
  obtain ⟨ph, hph⟩ : ∃ ph, c1.phase = ph := ⟨_, rfl⟩
  have HPH := Lib.hid hph
  rw [hph] at k1
  clear hA HADV hbx hC1 hS2 hph
  have HC : Hid (ClkAt w1 b n c1 (.slice A m cap)) := hS3.head
  have HR := Lib.hid (reset_calls b n c1 (.slice A m cap) w1 HC.out HBD.out)
  rw [HPH.out] at HR
  go_wp2_with fail
  refine HR.out.mono ?_
  rintro e w2 ⟨rfl, hC2, hbx2⟩
  by_cases h0 : ph = 0
  · subst h0
    rw [if_pos rfl, if_pos rfl] at hC2
    have hS4 := hS3.turnB hbx2 hC2
    go_wp2_with fail
    go_ret
    exact press_no (by unfold refP; rw [HPH.out]; rfl) HM.out (hS4.drop 2 rfl rfl)
  · rw [if_neg h0, if_neg h0] at hC2
    have hS4 := hS3.turnB hbx2 hC2
    have hS5 := ((((hS4.drop 1 rfl rfl).drop 1 rfl rfl).nil w0.heap.size 41 3).front 1 rfl rfl)
    have hd : (!decide (ph = 0)) = true := by simpa using h0
    rw [hd]
    go_wp2_with fail
    go_ret
    exact press_yes (c2 := resetP c1) (by unfold refP; rw [HPH.out]; simpa using h0) rfl rfl hS5
end Go.Proofs.YtmngnmffmohhcaaGreatDoor
/-
  The clock's press: split, skip, undo. (Printed by gen_prs6.py.)
-/
namespace Go.Proofs.YtmngnmffmohhcaaGreatDoor
open Go Go.RowKit
attribute [local go_sem ↓] Go.wp_at_zero Go.wp_at_succ

theorem cutP_keeps (n : Nat) (c : Clk) (x : Cut) : (cutP n c x).real = c.real ∧ (cutP n c x).game = c.game := by
  unfold cutP
  split <;> exact ⟨rfl, rfl⟩
theorem flat_take {α : Type} (f : α → List Value) (k : Nat) (hf : ∀ a, (f a).length = k) : ∀ (rs : List α) (m : Nat), (rs.take m).flatMap f = (rs.flatMap f).take (m * k)
  | [], m => by simp
  | r :: rs, 0 => by simp
  | r :: rs, m + 1 => by
    simp only [List.take_succ_cons, List.flatMap_cons, flat_take f k hf rs m]
    rw [List.take_append, hf, List.take_of_length_le (l := f r) (by rw [hf, Nat.add_mul]; omega), show (m + 1) * k - k = m * k by rw [Nat.add_mul]; omega]
/-- the first one says less -/
theorem Sq.weak {w W : World} {l : List Rsc} {r r' : Rsc} (h : Sq w W (r :: l)) (hp : r.P W → r'.P W) (hok : r'.Ok) (hf : ∀ k, r'.fp k → r.fp k) : Sq w W (r' :: l) :=
  ⟨h.below, h.hp.tail.cons (hp h.head) hok (fun k hk => h.hp.new _ (List.mem_cons_self ..) k (hf k hk)) (fun s hs k hk hk2 => (List.pairwise_cons.1 h.hp.apart).1 s hs k (hf k hk) hk2)⟩

set_option maxRecDepth 100000 in
set_option maxHeartbeats 2000000 in
theorem press2_calls (w0 : World) (b n : Nat) (c : Clk) (t : Int) (A : Option Addr) (cap : Nat) (l : List Rsc) (w : World)
    (hS : Sq w0 w (rBlk b 89 (clkC n c (.slice A c.cuts.length cap)) :: rOwn w0.heap.size 41 3 (.slice A c.cuts.length cap) c.cuts.length (c.cuts.flatMap cutC) :: l)) (hb : PressBd n c t) :
    Calls Tryz.prog 62 #[.pointer (some ⟨b, 0, none⟩), .agg #[.int .i64 t, .int .i64 2]] w (PressG w0 b n (advP c t) 2 l) := by
  obtain ⟨m, hm⟩ : ∃ m, c.cuts.length = m := ⟨_, rfl⟩
  have hm2 := hb.cuts
  have hn := hb.n_
  have hbg := hb.begun
  rw [hm] at hS hm2
  have hS1 := hS.add #[.int .i64 t, .int .i64 2] 45
  have hA := hS1.front 1 rfl rfl
  have HADV := Lib.hid (advance_calls b n c (.slice A m cap) t _ hA.head hb.bd hb.t_)
  have hd1 := hb.bd1.done
  have HBD := Lib.hid hb.bd1
  have hB0 := hS1.size
  rw [← adv_cuts c t] at hm hA
  rw [← adv_begun c t] at hbg
  obtain ⟨c1, hc1⟩ : ∃ c1, advP c t = c1 := ⟨_, rfl⟩
  rw [hc1] at hm hA hbg HADV HBD hd1 ⊢
  have hlt : b < w.heap.size := Blk.lt (hS.nth 0 rfl)
  clear hc1 hS hS1 hb
  go_enter Tryz.func62, Tryz.ntmps62
  go_wp2_with fail
  refine HADV.out.mono ?_
  rintro e w1 ⟨rfl, hC1, hbx⟩
  have hS2 : Sq w0 w1 (rBlk b 89 (clkC n c1 (.slice A m cap)) :: rBlk w.heap.size 45 #[.int .i64 t, .int .i64 2] :: rOwn w0.heap.size 41 3 (.slice A m cap) m (c1.cuts.flatMap cutC) :: l) := hA.turnB hbx hC1
  have hS3 : Sq w0 w1 (rBlk b 89 (clkC n c1 (.slice A m cap)) :: rOwn w0.heap.size 41 3 (.slice A m cap) m (c1.cuts.flatMap cutC) :: rBlk w.heap.size 45 #[.int .i64 t, .int .i64 2] :: l) := (hS2.front 2 rfl rfl).front 1 rfl rfl
  obtain ⟨c0, k1, k2, k3, k4, k5, k6, k7, k8, k9, k10, k11⟩ := hC1.cells
  obtain ⟨f1, f2, f3, f4, f5, f6, f7, f8, f9, f10, f11⟩ := hC1.frz
  obtain ⟨q0, q1, _, _⟩ := Blk.two (hS2.nth 1 rfl)
  have HM := Lib.hid hm
  have hne : w.heap.size ≠ b := by omega
  obtain ⟨ph, hph⟩ : ∃ ph, c1.phase = ph := ⟨_, rfl⟩
  have HPH := Lib.hid hph
  rw [hph] at k1
  clear hA HADV hbx hC1 hS2 hph
  have hS4 := hS3.drew
  have HCUT : Hid (Calls Tryz.prog 80 #[.pointer (some ⟨b, 0, none⟩), .agg #[.int .i64 c1.real, .int .i64 c1.game, .bool false]] w1.drew (CutS w0 b n (cutP n c1 (c1.real, c1.game, false)) (rBlk w.heap.size 45 #[.int .i64 t, .int .i64 2] :: l) (.tuple #[]))) := by
    have h := hS4
    rw [← HM.out] at h
    exact cut_calls w0 b n c1 (c1.real, c1.game, false) A cap _ _ h (by rw [HM.out]; exact hm2) hn
  by_cases h0 : ph = 1
  · subst h0
    have HCL : Hid (∀ W L, Sq w0 W (rBlk b 89 (clkC n c1 (.slice A m cap)) :: L) → W.cell? ⟨b, 4, none⟩ = some (.int .i64 c1.real) ∧ W.cell? ⟨b, 5, none⟩ = some (.int .i64 c1.game)) := fun W L h => ⟨Blk.cell h.head 4, Blk.cell h.head 5⟩
    have HC3 : Hid (∀ W v L, Sq w0 W (rBlk b 89 (clkC n (cutP n c1 (c1.real, c1.game, false)) v) :: L) → W.cell? ⟨b, 4, none⟩ = some (.int .i64 c1.real) ∧ W.cell? ⟨b, 5, none⟩ = some (.int .i64 c1.game)) := by
      intro W v L h
      have e4 := Blk.cell h.head 4
      have e5 := Blk.cell h.head 5
      rw [show (clkC n (cutP n c1 (c1.real, c1.game, false)) v)[4]? = some (.int .i64 (cutP n c1 (c1.real, c1.game, false)).real) from rfl, (cutP_keeps n c1 _).1] at e4
      rw [show (clkC n (cutP n c1 (c1.real, c1.game, false)) v)[5]? = some (.int .i64 (cutP n c1 (c1.real, c1.game, false)).game) from rfl, (cutP_keeps n c1 _).2] at e5
      exact ⟨e4, e5⟩
    clear hm hm2 hd1
    go_upto_region 12 with (fail)
    go_region_held3 (fun W => W.cell? ⟨b, 4, none⟩ = some (.int .i64 c1.real) ∧ W.cell? ⟨b, 5, none⟩ = some (.int .i64 c1.game))
      (first | exact HCL.out _ _ hS4 | exact HC3.out _ _ _ hS5)
      (first | (go_at_call 80; ((with_reducible refine HCUT.out.mono ?_); rintro e w2 ⟨rfl, A2, cap2, hS5⟩)))
    go_wp2_with fail
    go_ret
    exact press_yes (by unfold refP; rw [HPH.out]; rfl) rfl rfl (hS5.drop 2 rfl rfl)
  · have e0 : (ph == 1) = false := by simpa using h0
    go_wp2_with fail
    go_ret
    exact press_no (by unfold refP; rw [HPH.out]; simpa using h0) HM.out (hS3.drop 2 rfl rfl)

set_option maxRecDepth 100000 in
set_option maxHeartbeats 2000000 in
theorem press3_calls (w0 : World) (b n : Nat) (c : Clk) (t : Int) (A : Option Addr) (cap : Nat) (l : List Rsc) (w : World)
    (hS : Sq w0 w (rBlk b 89 (clkC n c (.slice A c.cuts.length cap)) :: rOwn w0.heap.size 41 3 (.slice A c.cuts.length cap) c.cuts.length (c.cuts.flatMap cutC) :: l)) (hb : PressBd n c t) :
    Calls Tryz.prog 62 #[.pointer (some ⟨b, 0, none⟩), .agg #[.int .i64 t, .int .i64 3]] w (PressG w0 b n (advP c t) 3 l) := by
  obtain ⟨m, hm⟩ : ∃ m, c.cuts.length = m := ⟨_, rfl⟩
  have hm2 := hb.cuts
  have hn := hb.n_
  have hbg := hb.begun
  rw [hm] at hS hm2
  have hS1 := hS.add #[.int .i64 t, .int .i64 3] 45
  have hA := hS1.front 1 rfl rfl
  have HADV := Lib.hid (advance_calls b n c (.slice A m cap) t _ hA.head hb.bd hb.t_)
  have hd1 := hb.bd1.done
  have HBD := Lib.hid hb.bd1
  have hB0 := hS1.size
  rw [← adv_cuts c t] at hm hA
  rw [← adv_begun c t] at hbg
  obtain ⟨c1, hc1⟩ : ∃ c1, advP c t = c1 := ⟨_, rfl⟩
  rw [hc1] at hm hA hbg HADV HBD hd1 ⊢
  have hlt : b < w.heap.size := Blk.lt (hS.nth 0 rfl)
  clear hc1 hS hS1 hb
  go_enter Tryz.func62, Tryz.ntmps62
  go_wp2_with fail
  refine HADV.out.mono ?_
  rintro e w1 ⟨rfl, hC1, hbx⟩
  have hS2 : Sq w0 w1 (rBlk b 89 (clkC n c1 (.slice A m cap)) :: rBlk w.heap.size 45 #[.int .i64 t, .int .i64 3] :: rOwn w0.heap.size 41 3 (.slice A m cap) m (c1.cuts.flatMap cutC) :: l) := hA.turnB hbx hC1
  have hS3 : Sq w0 w1 (rBlk b 89 (clkC n c1 (.slice A m cap)) :: rOwn w0.heap.size 41 3 (.slice A m cap) m (c1.cuts.flatMap cutC) :: rBlk w.heap.size 45 #[.int .i64 t, .int .i64 3] :: l) := (hS2.front 2 rfl rfl).front 1 rfl rfl
  obtain ⟨c0, k1, k2, k3, k4, k5, k6, k7, k8, k9, k10, k11⟩ := hC1.cells
  obtain ⟨f1, f2, f3, f4, f5, f6, f7, f8, f9, f10, f11⟩ := hC1.frz
  obtain ⟨q0, q1, _, _⟩ := Blk.two (hS2.nth 1 rfl)
  have HM := Lib.hid hm
  have hne : w.heap.size ≠ b := by omega
  obtain ⟨ph, hph⟩ : ∃ ph, c1.phase = ph := ⟨_, rfl⟩
  have HPH := Lib.hid hph
  rw [hph] at k1
  clear hA HADV hbx hC1 hS2 hph
  have HCUT : Hid (∀ nq, Calls Tryz.prog 80 #[.pointer (some ⟨b, 0, none⟩), .agg #[.int .i64 0, .int .i64 0, .bool true]] (w1.drewN nq) (CutS w0 b n (cutP n c1 (0, 0, true)) (rBlk w.heap.size 45 #[.int .i64 t, .int .i64 3] :: l) (.tuple #[]))) := by
    intro nq
    have h := hS3.drewN nq
    rw [← HM.out] at h
    exact cut_calls w0 b n c1 (0, 0, true) A cap _ _ h (by rw [HM.out]; exact hm2) hn
  by_cases h0 : ph = 1
  · subst h0
    by_cases hmn : m + 1 = n
    · have t1 : (((m : Int) + 1) == (n : Int)) = true := by simp; omega
      clear hmn
      go_wp2_with fail
      go_quiet (fail)
      go_wp2_with fail
      go_ret
      exact press_no (by unfold refP; rw [HPH.out, HM.out]; simp at t1 ⊢; omega) HM.out ((hS3.drop 2 rfl rfl).drewN _)
    · have t1 : (((m : Int) + 1) == (n : Int)) = false := by simp; omega
      have HR : Hid (refP n c1 3 = false) := by
        unfold refP
        rw [HPH.out, HM.out, if_neg (by decide), if_neg (by decide), if_pos rfl]
        exact decide_eq_false (by omega)
      clear hmn
      go_wp2_with fail
      go_quiet (fail)
      go_wp2_with fail
      refine (HCUT.out _).mono ?_
      rintro e w2 ⟨rfl, A2, cap2, hS4⟩
      go_wp2_with fail
      go_ret
      exact press_yes HR.out rfl rfl (hS4.drop 2 rfl rfl)
  · have e0 : (ph == 1) = false := by simpa using h0
    go_wp2_with fail
    go_quiet (fail)
    go_wp2_with fail
    go_ret
    exact press_no (by unfold refP; rw [HPH.out]; simp [h0]) HM.out ((hS3.drop 2 rfl rfl).drewN _)

set_option maxRecDepth 100000 in
set_option maxHeartbeats 2000000 in
theorem press4_calls (w0 : World) (b n : Nat) (c : Clk) (t : Int) (A : Option Addr) (cap : Nat) (l : List Rsc) (w : World)
    (hS : Sq w0 w (rBlk b 89 (clkC n c (.slice A c.cuts.length cap)) :: rOwn w0.heap.size 41 3 (.slice A c.cuts.length cap) c.cuts.length (c.cuts.flatMap cutC) :: l)) (hb : PressBd n c t) :
    Calls Tryz.prog 62 #[.pointer (some ⟨b, 0, none⟩), .agg #[.int .i64 t, .int .i64 4]] w (PressG w0 b n (advP c t) 4 l) := by
  obtain ⟨m, hm⟩ : ∃ m, c.cuts.length = m := ⟨_, rfl⟩
  have hm2 := hb.cuts
  have hn := hb.n_
  have hbg := hb.begun
  rw [hm] at hS hm2
  have hS1 := hS.add #[.int .i64 t, .int .i64 4] 45
  have hA := hS1.front 1 rfl rfl
  have HADV := Lib.hid (advance_calls b n c (.slice A m cap) t _ hA.head hb.bd hb.t_)
  have hd1 := hb.bd1.done
  have HBD := Lib.hid hb.bd1
  have hB0 := hS1.size
  rw [← adv_cuts c t] at hm hA
  rw [← adv_begun c t] at hbg
  obtain ⟨c1, hc1⟩ : ∃ c1, advP c t = c1 := ⟨_, rfl⟩
  rw [hc1] at hm hA hbg HADV HBD hd1 ⊢
  have hlt : b < w.heap.size := Blk.lt (hS.nth 0 rfl)
  clear hc1 hS hS1 hb
  go_enter Tryz.func62, Tryz.ntmps62
  go_wp2_with fail
  refine HADV.out.mono ?_
  rintro e w1 ⟨rfl, hC1, hbx⟩
  have hS2 : Sq w0 w1 (rBlk b 89 (clkC n c1 (.slice A m cap)) :: rBlk w.heap.size 45 #[.int .i64 t, .int .i64 4] :: rOwn w0.heap.size 41 3 (.slice A m cap) m (c1.cuts.flatMap cutC) :: l) := hA.turnB hbx hC1
  have hS3 : Sq w0 w1 (rBlk b 89 (clkC n c1 (.slice A m cap)) :: rOwn w0.heap.size 41 3 (.slice A m cap) m (c1.cuts.flatMap cutC) :: rBlk w.heap.size 45 #[.int .i64 t, .int .i64 4] :: l) := (hS2.front 2 rfl rfl).front 1 rfl rfl
  obtain ⟨c0, k1, k2, k3, k4, k5, k6, k7, k8, k9, k10, k11⟩ := hC1.cells
  obtain ⟨f1, f2, f3, f4, f5, f6, f7, f8, f9, f10, f11⟩ := hC1.frz
  obtain ⟨q0, q1, _, _⟩ := Blk.two (hS2.nth 1 rfl)
  have HM := Lib.hid hm
  have hne : w.heap.size ≠ b := by omega
  obtain ⟨ph, hph⟩ : ∃ ph, c1.phase = ph := ⟨_, rfl⟩
  have HPH := Lib.hid hph
  rw [hph] at k1
  clear hA HADV hbx hC1 hS2 hph
  by_cases h0 : ph = 0
  · subst h0
    go_wp2_with fail
    go_ret
    exact press_no (by unfold refP; rw [HPH.out]; rfl) HM.out (hS3.drop 2 rfl rfl)
  · have e0 : (ph == 0) = false := by simpa using h0
    rcases Nat.eq_zero_or_pos m with hm0 | hm0
    · subst hm0
      go_wp2_with fail
      go_ret
      exact press_no (by unfold refP; rw [HM.out]; simp) HM.out (hS3.drop 2 rfl rfl)
    · have t0 : ((m : Int) == 0) = false := by simp; omega
      have HO : w1.ownsRow w0.heap.size 41 3 (.slice A m cap) m (c1.cuts.flatMap cutC) := hS3.nth 1 rfl
      have hcap := own_cap HO
      obtain ⟨q, rfl⟩ : ∃ q, m = q + 1 := ⟨m - 1, by omega⟩
      obtain ⟨g, cp, hv, _, _⟩ := HO.form (by omega)
      injection hv with hA1 _ hA2
      subst hA1 hA2
      have hS4 := ((hS3.front 1 rfl rfl).weak (r' := rOwn w0.heap.size 41 3 (.slice (some ⟨g, 0, none⟩) q cap) q ((c1.cuts.take q).flatMap cutC)) (fun h => by rw [flat_take cutC 3 cutC_len]; exact own_short h (by omega) (by simp)) (rOwn_ok _ _ _ _ _ _) (fun _ hk => hk)).front 1 rfl rfl
      have hS5 := hS4.set_ 6 (.slice (some ⟨g, 0, none⟩) q cap)
      have HR : Hid (refP n c1 4 = false) := by
        unfold refP
        rw [HPH.out, HM.out, if_neg (by decide), if_neg (by decide), if_neg (by decide), if_pos rfl]
        exact decide_eq_false (by omega)
      have HL : Hid ((c1.cuts.take q).length = q) := by show _ = _; rw [List.length_take, HM.out]; omega
      clear hS4 HO hm hd1
      go_upto_region 20 with (fail)
      go_region
      by_cases h3 : ph = 3
      · subst h3
        have hS6 := (hS5.drew).set_ 1 (.int .i64 1)
        have HD : Hid (doneP n c1 4 = { c1 with cuts := c1.cuts.take q, phase := 1 }) := by
          unfold doneP
          rw [HM.out, HPH.out]
          exact Lib.hid rfl
        clear hS5 hS3
        go_wp2_with fail
        go_ret
        exact press_yes HR.out HD.out HL.out (hS6.drop 2 rfl rfl)
      · have e3 : (ph == 3) = false := by simpa using h3
        have HD : Hid (doneP n c1 4 = { c1 with cuts := c1.cuts.take q }) := by
          unfold doneP
          rw [HM.out, if_neg (by decide), if_neg (by decide), if_neg (by decide), if_pos rfl, HPH.out, if_neg h3, ← HPH.out]
          exact Lib.hid rfl
        clear h3
        go_wp2_with fail
        go_ret
        exact press_yes HR.out HD.out HL.out (hS5.drew.drop 2 rfl rfl)
end Go.Proofs.YtmngnmffmohhcaaGreatDoor
/-
  The clock's press of any kind, and follow, by contracts. (Printed by gen_prs7.py.)
-/
namespace Go.Proofs.YtmngnmffmohhcaaGreatDoor
open Go Go.RowKit
attribute [local go_sem ↓] Go.wp_at_zero Go.wp_at_succ

theorem press_calls (w0 : World) (b n : Nat) (c : Clk) (t k : Int) (A : Option Addr) (cap : Nat) (l : List Rsc) (w : World)
    (hS : Sq w0 w (rBlk b 89 (clkC n c (.slice A c.cuts.length cap)) :: rOwn w0.heap.size 41 3 (.slice A c.cuts.length cap) c.cuts.length (c.cuts.flatMap cutC) :: l)) (hb : PressBd n c t) (hk : 1 ≤ k ∧ k ≤ 9) :
    Calls Tryz.prog 62 #[.pointer (some ⟨b, 0, none⟩), .agg #[.int .i64 t, .int .i64 k]] w (PressG w0 b n (advP c t) k l) := by
  rcases (show k = 1 ∨ k = 2 ∨ k = 3 ∨ k = 4 ∨ k = 5 ∨ k = 6 ∨ k = 7 ∨ k = 8 ∨ k = 9 by omega) with rfl | rfl | rfl | rfl | rfl | rfl | rfl | rfl | rfl
  · exact press1_calls w0 b n c t A cap l w hS hb
  · exact press2_calls w0 b n c t A cap l w hS hb
  · exact press3_calls w0 b n c t A cap l w hS hb
  · exact press4_calls w0 b n c t A cap l w hS hb
  · exact press5_calls w0 b n c t A cap l w hS hb
  · exact press6_calls w0 b n c t A cap l w hS hb
  · exact press7_calls w0 b n c t A cap l w hS hb
  · exact press8_calls w0 b n c t A cap l w hS hb
  · exact press9_calls w0 b n c t A cap l w hS hb

/-! ### bounds -/
/-- what a clock may hold behind k presses -/
structure FB (k : Int) (c : Clk) : Prop where
  at_ : 0 ≤ c.at_ ∧ c.at_ ≤ 345686400000
  real : -345686400000 * k ≤ c.real ∧ c.real ≤ 345686400000 * k
  game : -345686400000 * k ≤ c.game ∧ c.game ≤ 345686400000 * k
  begun : 0 ≤ c.begun ∧ c.begun ≤ k
  done : 0 ≤ c.done ∧ c.done ≤ k
  cuts : (c.cuts.length : Int) ≤ k
theorem FB.adv {k : Int} {c : Clk} (h : FB k c) (_hk : 0 ≤ k) {t : Int} (ht : 0 ≤ t ∧ t ≤ 345686400000) : FB (k + 1) (advP c t) := by
  obtain ⟨⟨a1, a2⟩, ⟨r1, r2⟩, ⟨g1, g2⟩, ⟨b1, b2⟩, ⟨d1, d2⟩, cl⟩ := h
  refine ⟨ht, ?_, ?_, ?_, ?_, ?_⟩
  · show -345686400000 * (k + 1) ≤ (if c.phase = 1 ∨ c.phase = 3 then c.real + (t - c.at_) else c.real) ∧ (if c.phase = 1 ∨ c.phase = 3 then c.real + (t - c.at_) else c.real) ≤ 345686400000 * (k + 1)
    split <;> omega
  · show -345686400000 * (k + 1) ≤ (if c.phase = 1 ∨ c.phase = 3 then (if c.loads = true then c.game else c.game + (t - c.at_)) else c.game) ∧ (if c.phase = 1 ∨ c.phase = 3 then (if c.loads = true then c.game else c.game + (t - c.at_)) else c.game) ≤ 345686400000 * (k + 1)
    split
    · split <;> omega
    · omega
  · show 0 ≤ c.begun ∧ c.begun ≤ k + 1
    omega
  · show 0 ≤ c.done ∧ c.done ≤ k + 1
    omega
  · show (c.cuts.length : Int) ≤ k + 1
    omega
theorem done_times (n : Nat) (c : Clk) (k : Int) : ((doneP n c k).real = c.real ∨ (doneP n c k).real = 0) ∧ ((doneP n c k).game = c.game ∨ (doneP n c k).game = 0) ∧ ((doneP n c k).cuts.length ≤ c.cuts.length + 1) ∧ (c.begun ≤ (doneP n c k).begun ∧ (doneP n c k).begun ≤ c.begun + 1) ∧ (c.done ≤ (doneP n c k).done ∧ (doneP n c k).done ≤ c.done + 1) := by
  unfold doneP cutP resetP
  repeat' split
  all_goals (refine ⟨?_, ?_, ?_, ⟨?_, ?_⟩, ?_, ?_⟩ <;> (first | exact .inl rfl | exact .inr rfl | (simp; done) | (simp; omega) | omega))
theorem FB.press {k : Int} {c : Clk} (n : Nat) (h : FB k c) (hk : 0 ≤ k) {p : Pz} (ht : 0 ≤ p.1 ∧ p.1 ≤ 345686399999) (h0 : (c.cuts.length : Int) ≤ k ∧ c.begun ≤ k ∧ c.done ≤ k) : FB (k + 1) (pressP n c p) := by
  have h1 := h.adv hk (t := p.1) (by omega)
  unfold pressP
  split
  · exact h1
  · obtain ⟨e1, e2, e3, ⟨e4, e5⟩, e6, e7⟩ := done_times n (advP c p.1) p.2
    have e8 := done_at n (advP c p.1) p.2
    rw [show (advP c p.1).cuts = c.cuts from rfl] at e3
    rw [show (advP c p.1).begun = c.begun from rfl] at e4 e5
    rw [show (advP c p.1).done = c.done from rfl] at e6 e7
    have hbg := h.begun
    have hdn := h.done
    obtain ⟨x1, x2⟩ := h1.real
    obtain ⟨x3, x4⟩ := h1.game
    refine ⟨by rw [e8]; exact h1.at_, ?_, ?_, by omega, by omega, by omega⟩
    · rcases e1 with e | e <;> rw [e] <;> omega
    · rcases e2 with e | e <;> rw [e] <;> omega
theorem fol_bd (n : Nat) (u : Int) {l : List Pz} (hl : PzOk l) : ∀ k, k ≤ l.length → FB k (folP n u l k).1 ∧ (folP n u l k).2.length ≤ k
  | 0, _ => by
    refine ⟨⟨?_, ?_, ?_, ?_, ?_, ?_⟩, ?_⟩ <;> simp [folP, clk0]
  | k + 1, hk => by
    have hlt : k < l.length := by omega
    obtain ⟨ih, ihl⟩ := fol_bd n u hl k (by omega)
    have hp := hl.at_ _ (List.getElem_mem hlt)
    rw [folP_step n u l k hlt]
    split
    · refine ⟨?_, ?_⟩
      · have := ih.press n (by omega) hp ⟨ih.cuts, ih.begun.2, ih.done.2⟩
        simpa using this
      · simp only
        split
        · simp; omega
        · omega
    · refine ⟨?_, by omega⟩
      obtain ⟨a, ⟨r1, r2⟩, ⟨g1, g2⟩, ⟨b1, b2⟩, ⟨d1, d2⟩, cl⟩ := ih
      exact ⟨a, by omega, by omega, by omega, by omega, by omega⟩
theorem FB.pbd {k : Int} {c : Clk} {n : Nat} (h : FB k c) (hk : 0 ≤ k) (hk2 : k ≤ 2001) (hn : n ≤ 100000) {t : Int} (ht : 0 ≤ t ∧ t ≤ 345686400000) : PressBd n c t := by
  have h1 := h.adv hk ht
  obtain ⟨⟨a1, a2⟩, ⟨r1, r2⟩, ⟨g1, g2⟩, ⟨b1, b2⟩, ⟨d1, d2⟩, cl⟩ := h
  obtain ⟨⟨s1, s2⟩, ⟨t1, t2⟩, ⟨u1, u2⟩, ⟨v1, v2⟩, ⟨x1, x2⟩, _⟩ := h1
  exact ⟨⟨by omega, by omega, by omega, by omega⟩, ⟨by omega, by omega, by omega, by omega⟩, by omega, by omega, by omega, hn⟩

/-- a clock in new memory, and the refused ones -/
def FolS (n : Nat) (f : Clk × List Int) (w : World) (e : Ending) (w' : World) : Prop :=
  ∃ (gc : Nat) (A1 : Option Addr) (cap1 : Nat) (A2 : Option Addr) (cap2 : Nat), e = .returned (.tuple #[.pointer (some ⟨gc, 0, none⟩), .slice A2 f.2.length cap2]) ∧
    Sq w w' [rBlk gc 89 (clkC n f.1 (.slice A1 f.1.cuts.length cap1)), rOwn w.heap.size 41 3 (.slice A1 f.1.cuts.length cap1) f.1.cuts.length (f.1.cuts.flatMap cutC), rOwn w.heap.size 3 1 (.slice A2 f.2.length cap2) f.2.length (f.2.map (Value.int .i64))]

set_option maxRecDepth 100000 in
set_option maxHeartbeats 4000000 in
theorem followT_calls (b : Nat) (n : Nat) (A : Option Addr) (m c : Nat) (l : List Pz) (u : Int) (w : World) (hr : Rd w b 2 (.slice A m c) m (l.flatMap pzC)) (hn : n ≤ 100000) (hl : PzOk l) (hm : m ≤ 2000) :
    Calls Tryz.prog 37 #[.int .i64 n, .slice A m c, .int .i64 u] w (FolS n (folP n u l l.length) w) := by
  obtain ⟨j0, hj, hy0, hy1, hy2⟩ := info_parts info_int
  obtain ⟨hlen, hnc, hcm, hcells⟩ := hr.cells pzC_len (by omega)
  unfold maxLen at hcm
  have HL := Lib.hid hlen
  have HC := Lib.hid hcells
  have HOK := Lib.hid hl
  have HBD := Lib.hid (fol_bd n u hl)
  have hS0 : Sq w (w.alloc (.cells #[.int .i64 n, .int .i64 0, .bool false, .int .i64 0, .int .i64 0, .int .i64 0, .slice none 0 0, .int .i64 0, .int .i64 0, .bool false, .int .i64 0, .int .i64 0] 89))
      [rBlk w.heap.size 89 (clkC n (folP n u l 0).1 (.slice none (folP n u l 0).1.cuts.length 0)), rOwn w.heap.size 41 3 (.slice none (folP n u l 0).1.cuts.length 0) (folP n u l 0).1.cuts.length ((folP n u l 0).1.cuts.flatMap cutC), rOwn w.heap.size 3 1 (.slice none (folP n u l 0).2.length 0) (folP n u l 0).2.length ((folP n u l 0).2.map (Value.int .i64))] :=
    ((((Sq.start w).nil w.heap.size 3 1).nil w.heap.size 41 3).add #[.int .i64 n, .int .i64 0, .bool false, .int .i64 0, .int .i64 0, .int .i64 0, .slice none 0 0, .int .i64 0, .int .i64 0, .bool false, .int .i64 0, .int .i64 0] 89)
  clear hcells hlen hl hr
  go_enter Tryz.func37, Tryz.ntmps37
  go_wp2_with fail
  go_loopw [9, 17] (fun rf i wr => ∃ (k : Nat) (A1 : Option Addr) (cap1 : Nat) (A2 : Option Addr) (cap2 : Nat), k ≤ m ∧ i = .int .i64 k ∧ rf = .slice A2 (folP n u l k).2.length cap2 ∧ Sq w wr [rBlk w.heap.size 89 (clkC n (folP n u l k).1 (.slice A1 (folP n u l k).1.cuts.length cap1)), rOwn w.heap.size 41 3 (.slice A1 (folP n u l k).1.cuts.length cap1) (folP n u l k).1.cuts.length ((folP n u l k).1.cuts.flatMap cutC), rOwn w.heap.size 3 1 (.slice A2 (folP n u l k).2.length cap2) (folP n u l k).2.length ((folP n u l k).2.map (Value.int .i64))]) (fun _ i _ => m - (intOf i).toNat)
  case atStart => exact ⟨0, none, 0, none, 0, Nat.zero_le _, rfl, rfl, hS0⟩
  case round =>
    clear hS0
    obtain ⟨k, A1, cap1, A2, cap2, hk, rfl, rfl, hS⟩ := hrel
    by_cases hlt : k < m
    · have hkr : k < l.length := by rw [HL.out]; exact hlt
      obtain ⟨g, o, hA, _, hcs⟩ := HC.out (by omega)
      subst hA
      have hst := folP_step n u l k hkr
      have hpa := HOK.out.at_ _ (List.getElem_mem hkr)
      have hpk := HOK.out.kind _ (List.getElem_mem hkr)
      have x0 := below_cell hS.below (hcs k hkr 0 (by omega))
      have x1 := below_cell hS.below (hcs k hkr 1 (by omega))
      obtain ⟨p, hp⟩ : ∃ p, l[k] = p := ⟨_, rfl⟩
      rw [hp] at hst hpa hpk x0 x1
      obtain ⟨t, kd⟩ := p
      simp only at hpa hpk
      replace x0 : wr.cell? ⟨g, o + k * 2, none⟩ = some (.int .i64 t) := x0
      replace x1 : wr.cell? ⟨g, o + k * 2 + 1, none⟩ = some (.int .i64 kd) := x1
      obtain ⟨fb, fl⟩ := HBD.out k (by omega)
      have hz := hS.size
      obtain ⟨F, hF⟩ : ∃ F, folP n u l k = F := ⟨_, rfl⟩
      obtain ⟨F2, hF2⟩ : ∃ F2, folP n u l (k + 1) = F2 := ⟨_, rfl⟩
      rw [hF, hF2] at hst
      rw [hF] at fb fl hS ⊢
      have HF2 := Lib.hid hF2
      obtain ⟨c1, rs⟩ := F
      simp only at hst fb fl hS
      have hSa := ((hS.add #[.int .i64 t, .int .i64 kd] 45).front 2 rfl rfl).front 2 rfl rfl
      obtain ⟨gp, hgp⟩ : ∃ gp, wr.heap.size = gp := ⟨_, rfl⟩
      obtain ⟨wa, hwa⟩ : ∃ wa, wr.alloc (.cells #[.int .i64 t, .int .i64 kd] 45) = wa := ⟨_, rfl⟩
      rw [hwa] at hSa
      obtain ⟨y0, y1, _, _⟩ := Blk.two (show Blk wa wr.heap.size 45 #[.int .i64 t, .int .i64 kd] from hSa.nth 2 rfl)
      by_cases hu : t ≤ u
      · rw [if_pos hu] at hst
        have HP := Lib.hid (press_calls w w.heap.size n c1 t kd A1 cap1 _ wa hSa (fb.pbd (by omega) (by omega) hn (by omega)) hpk)
        clear hcs hp hF hF2 hS hSa fb hgp
        go_wp2_with fail
        refine HP.out.mono ?_
        rintro e w2 ⟨rfl, B1, capB, hS2⟩
        have hC2 : (if refP n (advP c1 t) kd = true then advP c1 t else doneP n (advP c1 t) kd) = pressP n c1 (t, kd) := rfl
        rw [hC2] at hS2
        obtain ⟨C2, hC2'⟩ : ∃ C2, pressP n c1 (t, kd) = C2 := ⟨_, rfl⟩
        rw [hC2'] at hS2 hst
        obtain ⟨B, hB⟩ : ∃ B, refP n (advP c1 t) kd = B := ⟨_, rfl⟩
        rw [hB] at hst ⊢
        clear hC2 hC2' hB HP y0 y1 hwa x0 x1
        cases B
        · rw [if_neg (by decide)] at hst
          have HST : Hid (folP n u l (k + 1) = (C2, rs)) := HF2.out.trans hst
          clear hst
          go_wp2_with fail
          go_roundw
          case rel => exact ⟨k + 1, B1, capB, A2, cap2, by omega, by go_num, by rw [HST.out], by rw [HST.out]; exact hS2.drop 2 rfl rfl⟩
          case measure => simp [intOf]; omega
        · rw [if_pos rfl] at hst
          have HST : Hid (folP n u l (k + 1) = (C2, rs ++ [(k : Int)])) := HF2.out.trans hst
          have hSf := (hS2.drop 2 rfl rfl).front 2 rfl rfl
          have HO : w2.ownsRow w.heap.size 3 1 (.slice A2 rs.length cap2) rs.length (rs.map (Value.int .i64)) := hSf.head
          have hz2 := hS2.size
          clear hst hS2
          go_wp2_with (first
            | (at_builtin; refine wpList_append_own_at _ rfl _ _ 22 rfl w.heap.size 3 j0 (.int .i64 0) 1 8 Tryz.underlying22 hj hy0 hy1 hy2 rfl (by decide) _ _ _ rfl (HO.alloc _) ⟨w2.heap.size, 0, none⟩ 1 1 [.int .i64 k] rfl rfl (World.news_of_block (heap_alloc_new _ _)) (one1 rfl) (by unfold maxLen; omega) (by omega) (by simp; omega) ?_; intro v' w8 hown' hgrow _ hblk; obtain ⟨A8, c8, hv8⟩ := own_form hown'; subst hv8; have hS8 := (hSf.alloc _).append hown' hgrow hblk; clear hown' hgrow hblk HO))
          have hS9 := (hS8.front 2 rfl rfl).front 2 rfl rfl
          go_roundw
          case rel => exact ⟨k + 1, B1, capB, A8, c8, by omega, by go_num, by rw [HST.out, List.length_append]; rfl, by rw [HST.out, List.length_append, List.map_append]; exact hS9⟩
          case measure => simp [intOf]; omega
      · rw [if_neg hu] at hst
        have HST : Hid (folP n u l (k + 1) = (c1, rs)) := HF2.out.trans hst
        clear hcs hp hF hF2 hS fb hgp hst
        go_wp2_with fail
        go_roundw
        case rel => exact ⟨k + 1, A1, cap1, A2, cap2, by omega, by go_num, by rw [HST.out], by rw [HST.out]; exact hSa.drop 2 rfl rfl⟩
        case measure => simp [intOf]; omega
    · obtain rfl : k = m := by omega
      have HLL := Lib.hid HL.out.symm
      go_wp2_with fail
      refine bodyPost_ret (v := .tuple #[.pointer (some ⟨w.heap.size, 0, none⟩), .slice A2 (folP n u l k).2.length cap2]) (by simp [results, Tryz.results37, go_sem]) rfl ?_
      rw [HL.out]
      exact ⟨w.heap.size, A1, cap1, A2, cap2, rfl, hS⟩
end Go.Proofs.YtmngnmffmohhcaaGreatDoor
/-
  Refused and Attempts of the program by contracts. (Printed by gen_prs8.py.)
-/
namespace Go.Proofs.YtmngnmffmohhcaaGreatDoor
open Go Go.RowKit
attribute [local go_sem ↓] Go.wp_at_zero Go.wp_at_succ

/-- the clock behind all presses -/
def endP_ (q : Int) (l : List Pz) : Clk × List Int := folP q.toNat 345686400000 l l.length
def refL (q : Int) (l : List Pz) : List Int := if segF q l = 0 then (endP_ q l).2 else []
def begV (q : Int) (l : List Pz) : Int := if segF q l = 0 then (endP_ q l).1.begun else 0
def donV (q : Int) (l : List Pz) : Int := if segF q l = 0 then (if (endP_ q l).1.phase = 3 then (endP_ q l).1.done + 1 else (endP_ q l).1.done) else 0
theorem segF_ok {q : Int} {l : List Pz} (h : segF q l = 0) : (1 ≤ q ∧ q ≤ 100) ∧ PzOk l ∧ l.length ≤ 2000 := by
  unfold segF at h
  cases ho : outB q 1 100
  · rw [ho, if_neg (by decide)] at h
    have h1 := of_outB ho
    exact ⟨h1, prF_ok h⟩
  · rw [ho, if_pos rfl] at h
    exact absurd h (by decide)
def RefS (q : Int) (l : List Pz) (w : World) (e : Ending) (w' : World) : Prop :=
  ∃ v, e = .returned (.tuple #[v, .int .i64 (segF q l)]) ∧ w'.ownsRow w.heap.size 3 1 v (refL q l).length ((refL q l).map (Value.int .i64)) ∧ Below w.heap.size w w'

set_option maxRecDepth 100000 in
set_option maxHeartbeats 1000000 in
theorem refused_calls (b : Nat) (q : Int) (A : Option Addr) (m c : Nat) (l : List Pz) (w : World) (hr : Rd w b 2 (.slice A m c) m (l.flatMap pzC)) :
    Calls Tryz.prog 16 #[.int .i64 q, .slice A m c] w (RefS q l w) := by
  have HF := Lib.hid (clockFault_calls b q A m c l w hr)
  have hl := (hr.cells pzC_len (by omega)).1
  by_cases h0 : segF q l = 0
  · obtain ⟨hq, hok, hlm⟩ := segF_ok h0
    obtain ⟨n, rfl⟩ : ∃ n : Nat, q = (n : Int) := ⟨q.toNat, by omega⟩
    have HFOL := fun W (hW : Below w.heap.size w W) => followT_calls b n A m c l 345686400000 W (hr.below hW) (by omega) hok (by omega)
    have HRL : Hid (refL (n : Int) l = (folP n 345686400000 l l.length).2) := by
      unfold refL
      rw [if_pos h0]
      exact Lib.hid rfl
    unfold RefS
    rw [h0] at HF ⊢
    have HFO := Lib.hid HFOL
    clear HFOL h0 hok hr hl
    go_enter Tryz.func16, Tryz.ntmps16
    go_wp2_with fail
    refine HF.out.mono ?_
    rintro e w1 ⟨rfl, hb1⟩
    go_wp2_with fail
    refine (HFO.out _ hb1).mono ?_
    rintro e w2 ⟨gc, A1, cap1, A2, cap2, rfl, hS⟩
    rw [← HRL.out] at hS ⊢
    have hO : w2.ownsRow w1.heap.size 3 1 (.slice A2 (refL (n : Int) l).length cap2) (refL (n : Int) l).length ((refL (n : Int) l).map (Value.int .i64)) := hS.nth 2 rfl
    have hfin := below_call hb1 hS.below (Nat.le_refl _)
    go_wp2_with fail
    go_ret2
    exact ⟨_, rfl, own_base hO hb1.size, hfin⟩
  · have HRL : Hid (refL q l = []) := by unfold refL; rw [if_neg h0]; exact Lib.hid rfl
    obtain ⟨E, hE⟩ : ∃ E, segF q l = E := ⟨_, rfl⟩
    unfold RefS
    rw [hE] at HF h0 ⊢
    have hx : (E != 0) = true := by simpa using h0
    rw [HRL.out]
    clear hr hl hE
    go_enter Tryz.func16, Tryz.ntmps16
    go_wp2_with fail
    refine HF.out.mono ?_
    rintro e w1 ⟨rfl, hb1⟩
    go_wp2_with fail
    go_ret2
    exact ⟨_, rfl, World.ownsRow_nil _ _ _ _, hb1⟩

def AttS (q : Int) (l : List Pz) (w : World) (e : Ending) (w' : World) : Prop :=
  e = .returned (.tuple #[.int .i64 (begV q l), .int .i64 (donV q l), .int .i64 (segF q l)]) ∧ Below w.heap.size w w'
end Go.Proofs.YtmngnmffmohhcaaGreatDoor
