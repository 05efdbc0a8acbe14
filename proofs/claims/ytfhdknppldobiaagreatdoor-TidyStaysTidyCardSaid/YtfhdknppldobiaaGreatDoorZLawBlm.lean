/-
  BlameIsJust: the law's own walk.
-/
import Derived.Test.YtfhdknppldobiaaGreatDoorZLawStart
import Derived.Test.YtfhdknppldobiaaGreatDoorZHld3
import Derived.Test.YtfhdknppldobiaaGreatDoorZRulX
import Derived.Test.YtfhdknppldobiaaGreatDoorZSrn1
import Derived.Test.YtfhdknppldobiaaGreatDoorZRat4
import Derived.Deep.DeepCutAuto
import Derived.Deep.RegionHeld3
namespace Go.Proofs.YtfhdknppldobiaaGreatDoor
open Go Go.RowKit TxtP
attribute [local go_sem ↓] Go.wp_at_zero Go.wp_at_succ

/-- a rule as the stream makes one is right -/
theorem rg_right {d : Nat} (hd : d ≤ 4) {s : ByteArray} (h : RgS d s) : parseE numF s = (0, 0) ∧ s.size ≤ 1400 := by
  obtain ⟨x, h⟩ := h
  have h1 := wR_le d hd
  have h2 := h.sz
  have h3 := h.dep
  exact ⟨(h.rx.check numF_ok (by omega) (by omega)).1, by omega⟩
end Go.Proofs.YtfhdknppldobiaaGreatDoor
