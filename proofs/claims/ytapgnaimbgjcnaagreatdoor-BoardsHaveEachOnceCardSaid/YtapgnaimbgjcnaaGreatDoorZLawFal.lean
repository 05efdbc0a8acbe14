/-
  RecordsFall: the law's own walk. (Printed by gen_lawfal.py.)
-/
import Derived.Test.YtapgnaimbgjcnaaGreatDoorZLawStart
import Derived.Test.YtapgnaimbgjcnaaGreatDoorZSortRun0
import Derived.Test.YtapgnaimbgjcnaaGreatDoorZBid3
import Derived.Test.YtapgnaimbgjcnaaGreatDoorZSortEv
import Derived.Deep.RegionHeld3
import Derived.Deep.DeepCutAuto
import Derived.Test.YtapgnaimbgjcnaaGreatDoorZBt7
import Derived.Test.YtapgnaimbgjcnaaGreatDoorZEvK
import Derived.Test.YtapgnaimbgjcnaaGreatDoorZTk
import Derived.Test.YtapgnaimbgjcnaaGreatDoorZSlot1
import Derived.Test.YtapgnaimbgjcnaaGreatDoorZSlot3
import Derived.Shelf.SlGeneric
import Derived.Shelf.SlSortCmp.WholeK
import Derived.Test.YtapgnaimbgjcnaaGreatDoorProg
import Derived.Test.YtapgnaimbgjcnaaGreatDoorZDk5
import Derived.Test.YtapgnaimbgjcnaaGreatDoorZTakF
import Derived.Test.YtapgnaimbgjcnaaGreatDoorZSortMem
import Derived.RegionTactic
import Derived.Test.YtapgnaimbgjcnaaGreatDoorZEv11
import Derived.Deep.CutBlock
import Derived.Deep.QuietTactic
import Derived.Lib.Split
import Derived.Lib.SplitLaws
import Derived.Lib.IndexBytes
import Derived.Lib.AtoiErr
import Derived.Lib.AtoiBound
import Derived.Lib.ItoaMem
import Derived.Lib.SlicesS
import Derived.Test.YtapgnaimbgjcnaaGreatDoorZFlat
import Derived.Test.YtapgnaimbgjcnaaGreatDoorZItoa
import Derived.Lib.Hide
import Derived.Lib.AtoiErrMem
import Derived.Deep.RegionLaw
import Derived.BigQuiet
import Derived.Test.YtapgnaimbgjcnaaGreatDoorZEvZ
import Derived.Test.YtapgnaimbgjcnaaGreatDoorZRat4
namespace Go.Proofs.YtapgnaimbgjcnaaGreatDoor
open Go Go.RowKit
def anyX : ByteArray := ⟨#[97, 110, 121]⟩
theorem anyX_key : keyBv anyX = true := by decide +kernel
theorem cat_any {l : List Bev} {u : Int} (h : bevsF l = 0) (h0 : 0 ≤ u) (h1 : u ≤ 1000) : catF l [anyX] u = 0 := by
 unfold catF
 rw [if_pos h]
 have hk : ([anyX].any (fun s => !keyBv s)) = false := by rw [List.any_cons, anyX_key]; rfl
 rw [if_neg (by rw [hk]; decide)]
 have hm : momB u = true := by
  unfold momB outB
  rw [Bool.not_eq_true', decide_eq_false_iff_not]
  omega
 rw [if_pos hm]
theorem errs0_calls (l : List Int) (n : Nat) (hl : l.length = n) (hE : firstE l = 0) (hn : n ≤ 10) (W : World) : Calls Tryz.prog 42 #[.slice (some ⟨W.heap.size, 0, none⟩) n n] (W.alloc (.cells (l.map (Value.int .i64)).toArray 32)) (fun e w' => e = .returned (.int .i64 0) ∧ Below W.heap.size W w') := by
 subst hl
 have h := errsK_calls (W.heap.size + 5) _ l.length l.length l _ (Rd.lit W (W.heap.size + 5) 1 l.length (l.map (Value.int .i64)).toArray 32 (by omega) (by unfold maxLen; omega) (by simp))
 rw [hE] at h
 refine h.mono ?_
 rintro e w' ⟨he, nq, rfl⟩
 exact ⟨he, below_drewN ((Below.refl _ _).alloc (Nat.le_refl _) _) nq⟩
end Go.Proofs.YtapgnaimbgjcnaaGreatDoor
