/-
  Slots of the stream as slots in memory; when; shown of splitlaw2.
-/
import Derived.Test.YtaendemgkabdfaaGreatDoorZStream
import Derived.Test.YtaendemgkabdfaaGreatDoorZSlot12
import Derived.Test.YtaendemgkabdfaaGreatDoorZSlot7
import Derived.Deep.DeepCutAuto
namespace Go.Proofs.YtaendemgkabdfaaGreatDoor
open Go Go.RowKit

theorem slts_of {w W : World} {b K n c h : Nat} {A : Option Addr} {xs : List Slt} {l : List Rsc} (hS : Sp w b K W (rOwn w.heap.size 52 5 (.slice A n c) n (xs.flatMap sltC) :: rAll (hostR w.heap.size) xs :: l)) (hz : SltZs h xs) (hh : h ≤ 1000) : Slts W b A n c xs := by
  have h0 : W.ownsRow w.heap.size 52 5 (.slice A n c) n (xs.flatMap sltC) := hS.head
  have h1 : ∀ x ∈ xs, (hostR w.heap.size x).P W := hS.tail.head
  exact ⟨Rd.own h0 hS.hb, fun x hx => ⟨Rd.own (h1 x hx) hS.hb, (hz x hx).hk, (hz x hx).hw, (hz x hx).hh, Nat.le_trans (hz x hx).hn hh, (hz x hx).hs, (hz x hx).hl⟩⟩
def shownX : Slt := ⟨⟨#[97]⟩, ⟨#[98]⟩, none, 0, [], 5, 10⟩
theorem shown_E : tabE 1 [shownX] = 0 := by decide +kernel
theorem shown_L : tabL 1 [shownX] = [(⟨#[97]⟩, 1, 6, 16)] := by
  unfold tabL
  rw [if_pos shown_E]
  rfl
set_option maxRecDepth 100000 in
theorem shown_calls (b : Nat) (w : World) (hb : b < w.heap.size) : Calls Tryz.prog 24 #[] w (BRet (.bool true) w) := by
  have hb0 : Below w.heap.size w (w.alloc (.cells #[.string ⟨#[97]⟩, .string ⟨#[98]⟩, .slice none 0 0, .int .i64 5, .int .i64 10] 52)) := (Below.refl _ _).alloc (Nat.le_refl _) _
  have hrd : Rd (w.alloc (.cells #[.string ⟨#[97]⟩, .string ⟨#[98]⟩, .slice none 0 0, .int .i64 5, .int .i64 10] 52)) b 5 (.slice (some ⟨w.heap.size, 0, none⟩) 1 1) 1 ([shownX].flatMap sltC) := Rd.lit0 (n := 1) hb (by decide) rfl
  have hsl : Slts (w.alloc (.cells #[.string ⟨#[97]⟩, .string ⟨#[98]⟩, .slice none 0 0, .int .i64 5, .int .i64 10] 52)) b (some ⟨w.heap.size, 0, none⟩) 1 1 [shownX] :=
    ⟨hrd, fun x hx => by
      simp at hx
      subst hx
      exact ⟨Rd.nil _ _ _, by decide, by decide, (by intro s hs; cases hs), by decide, by decide, by decide⟩⟩
  have hcall := timetableX_calls b _ 1 1 [shownX] 1 _ hsl (by omega) (by omega) (by simp; omega)
  rw [shown_E, shown_L] at hcall
  have HC := Lib.hid hcall
  clear hcall hsl hrd
  go_enter Tryz.func24, Tryz.ntmps24
  go_wp2_with fail
  refine HC.out.mono ?_
  rintro e w1 ⟨v, rfl, hown, hb1⟩
  have hb2 := below_call hb0 hb1 (Nat.le_refl _)
  obtain ⟨g, cap, hv, _⟩ := hown.form (by decide)
  subst hv
  have c3 := own_cell plcC 4 plcC_len hown 0 3 (by decide) (by decide) (by omega)
  replace c3 : w1.cell? ⟨g, 3, none⟩ = some (.int .i64 16) := c3
  go_wp2_with fail
  go_ret
  exact ⟨rfl, hb2⟩

end Go.Proofs.YtaendemgkabdfaaGreatDoor
