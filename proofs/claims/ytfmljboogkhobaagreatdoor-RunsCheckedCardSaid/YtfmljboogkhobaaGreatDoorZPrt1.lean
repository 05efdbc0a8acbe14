/-
  A press's line: timer.Read's closure by its contract.
-/
import Derived.Test.YtfmljboogkhobaaGreatDoorZTxt2
import Derived.Test.YtfmljboogkhobaaGreatDoorZPrsPure
import Derived.Test.YtfmljboogkhobaaGreatDoorZSlotPure
import Derived.Deep.DeepCutAuto
import Derived.Deep.RegionLaw
import Derived.Deep.RegionHeld3
import Derived.Deep.QuietTactic
import Derived.BigQuiet
import Derived.Laws.Concat
namespace Go.Proofs.YtfmljboogkhobaaGreatDoor
open Go Go.RowKit TxtP

/-- the words for kinds -/
def kindsL : List ByteArray := [⟨#[115, 116, 97, 114, 116]⟩, ⟨#[115, 112, 108, 105, 116]⟩, ⟨#[115, 107, 105, 112]⟩, ⟨#[117, 110, 100, 111]⟩, ⟨#[112, 97, 117, 115, 101]⟩, ⟨#[114, 101, 115, 117, 109, 101]⟩, ⟨#[108, 111, 97, 100]⟩, ⟨#[108, 111, 97, 100, 101, 100]⟩, ⟨#[114, 101, 115, 101, 116]⟩]
def LitR (l : List ByteArray) (w : World) (e : Ending) (w' : World) : Prop := e = .returned (.slice (some ⟨w.heap.size, 0, none⟩) l.length l.length) ∧ Below w.heap.size w w' ∧ Blk w' w.heap.size 9 (strCs l)
theorem idx_lit (l : List ByteArray) (x : ByteArray) (g : Nat) (W : World) (hl : l.length ≤ 9223372036854775807) (hk : Blk W g 9 (strCs l)) :
    Calls Tryz.prog 131 #[.slice (some ⟨g, 0, none⟩) l.length l.length, .string x] W fun e w' => e = .returned (.int .i64 (Lib.idxOfS l x)) ∧ W = w' := by
  refine (Tryz.slices_Index_string g 0 l.length l.length l x W (Nat.le_refl _) hl ?_).mono ?_
  · intro j hj
    rw [Nat.zero_add, hk.cell j, strCs_at hj, List.getD_eq_getElem?_getD, List.getElem?_eq_getElem hj]
    rfl
  · rintro e w1 ⟨rfl, rfl⟩
    rw [List.take_length]
    exact ⟨rfl, rfl⟩
theorem idx_bd (l : List ByteArray) (x : ByteArray) : -1 ≤ Lib.idxOfS l x ∧ Lib.idxOfS l x < l.length := by
  have gen : ∀ (l : List ByteArray) (i : Nat), -1 ≤ Lib.idxFromS l x i ∧ Lib.idxFromS l x i < ((l.length + i : Nat) : Int) := by
    intro l
    induction l with
    | nil => intro i; unfold Lib.idxFromS; omega
    | cons z zs ih =>
      intro i
      unfold Lib.idxFromS
      split
      · simp; omega
      · have := ih (i + 1)
        simp only [List.length_cons]
        omega
  have := gen l 0
  unfold Lib.idxOfS
  simpa using this

/-- a line's two words -/
def twoW (l : List UInt8) : ByteArray × ByteArray := ((pcs 32 ⟨l.toArray⟩).getD 0 ⟨#[]⟩, (pcs 32 ⟨l.toArray⟩).getD 1 ⟨#[]⟩)
/-- is a line a press? -/
def fP (l : List UInt8) : Bool := wrdB ⟨l.toArray⟩ 2 && (numB (twoW l).1.data.toList 15 && decide (0 ≤ Lib.idxOfS kindsL (twoW l).2))
/-- the press that a line is -/
def vP (l : List UInt8) : Pz := (numI (twoW l).1.data.toList, 1 + Lib.idxOfS kindsL (twoW l).2)
theorem ba_eta (s : ByteArray) : (⟨s.data.toList.toArray⟩ : ByteArray) = s := by cases s; simp
theorem wrd_two {s : ByteArray} (h : wrdB s 2 = true) : ∃ a b, pcs 32 s = [a, b] ∧ twoW s.data.toList = (a, b) := by
  unfold wrdB at h
  rw [Bool.and_eq_true] at h
  have hl := of_decide_eq_true h.1
  obtain ⟨a, b, hab⟩ : ∃ a b, pcs 32 s = [a, b] := by
    match pcs 32 s, hl with
    | [a, b], _ => exact ⟨a, b, rfl⟩
  refine ⟨a, b, hab, ?_⟩
  unfold twoW
  rw [ba_eta, hab]; rfl
end Go.Proofs.YtfmljboogkhobaaGreatDoor
/-
  Strings that are added up, as a law of its own for a walk. No Go text is named here.
-/
namespace Go.Proofs.YtfmljboogkhobaaGreatDoor
open Go Go.RowKit TxtP

/-- strings that are added up, as a law of its own -/
def sumS (a b : ByteArray) : ByteArray := a ++ b
def AddOk (a b : ByteArray) : Prop := a.size + b.size ≤ 1000000
theorem run_sumS {P : Program} {w : World} (a b : ByteArray) (h : AddOk a b) : (Op.stringOp .add a b).run P w = .ok (.string (sumS a b)) w := by
  refine run_string_add_sum _ _ _ ?_
  unfold AddOk at h
  omega
theorem sumS_data (a b : ByteArray) : (sumS a b).data.toList = a.data.toList ++ b.data.toList := by
  unfold sumS
  rw [ByteArray.data_append, Array.toList_append]
theorem sumS_size (a b : ByteArray) : (sumS a b).size = a.size + b.size := by
  unfold sumS
  rw [ByteArray.size_append]
theorem addOk_of {a b : ByteArray} (h1 : a.size ≤ 200000) (h2 : b.size ≤ 200000) : AddOk a b := by unfold AddOk; omega
end Go.Proofs.YtfmljboogkhobaaGreatDoor
