/-
  race.Rate by contracts: the fault; the new ratings.
-/
import Derived.Test.YtedfieopmjpibaaGreatDoorZRatePlain
import Derived.Test.YtedfieopmjpibaaGreatDoorZRat5
import Derived.Test.YtedfieopmjpibaaGreatDoorZClone
namespace Go.Proofs.YtedfieopmjpibaaGreatDoor
open Go Go.RowKit

set_option maxRecDepth 100000 in
theorem rate0_calls (b : Nat) (A : Option Addr) (n c : Nat) (rs : List Rtd) (A2 : Option Addr) (m c2 : Nat) (r : List Res) (wt : Int) (w : World) (hr : Rd w b 3 (.slice A n c) n (rs.flatMap ratedC)) (hr2 : Rd w b 3 (.slice A2 m c2) m (r.flatMap resC)) (hrs : Rts rs) (hss : Rss r) (hf : ¬ ratesF rs r wt = 0) :
    Calls Tryz.prog 15 #[.slice A n c, .slice A2 m c2, .int .i64 wt] w fun e w' => e = .returned (.tuple #[.slice none 0 0, .int .i64 (ratesF rs r wt)]) ∧ Below w.heap.size w w' := by
  obtain ⟨E1, hE1⟩ : ∃ x, ratedF rs = x := ⟨_, rfl⟩
  obtain ⟨E2, hE2⟩ : ∃ x, resF rs r wt = x := ⟨_, rfl⟩
  have hfe := first_rates rs r wt
  obtain ⟨E3, hE3⟩ : ∃ x, ratesF rs r wt = x := ⟨_, rfl⟩
  rw [hE1, hE2, hE3] at hfe
  rw [hE3] at hf ⊢
  have hne : (E3 != 0) = true := by rw [bne_iff_ne]; exact hf
  have HE1 := Lib.hid hE1
  have HE2 := Lib.hid hE2
  have HFE := Lib.hid hfe
  clear hE1 hE2 hE3 hfe hf
  go_enter Tryz.func15, Tryz.ntmps15
  go_wp2_with fail
  refine (checkRated_calls b A n c rs _ hr hrs).mono ?_
  rintro e w1 ⟨rfl, hb1⟩
  rw [HE1.out]
  go_wp2_with fail
  refine (resultsFault_calls b A n c rs A2 m c2 r wt _ (hr.below hb1) (hr2.below hb1) hss).mono ?_
  rintro e w2 ⟨rfl, hb2⟩
  rw [HE2.out]
  go_wp2_with fail
  refine (first_calls (w2.heap.size + 5) _ 2 2 [E1, E2] _ (Rd.lit w2 _ 1 2 #[.int .i64 E1, .int .i64 E2] _ (by omega) (by decide) rfl)).mono ?_
  rintro e w3 ⟨rfl, n3, rfl⟩
  rw [HFE.out]
  go_wp2_with fail
  go_ret2
  exact ⟨rfl, below_drewN ((below_call hb1 hb2 (Nat.le_refl _)).alloc (Nat.le_trans hb1.size hb2.size) _) _⟩
end Go.Proofs.YtedfieopmjpibaaGreatDoor
