/-
  Words with commas between: base.ReadCommas by its contract.
-/
import Derived.Test.YtfmljboogkhobaaGreatDoorZTxt2
import Derived.Test.YtfmljboogkhobaaGreatDoorZPrt1
import Derived.Test.YtfmljboogkhobaaGreatDoorZSlotPure
import Derived.Test.YtfmljboogkhobaaGreatDoorZSlot4
namespace Go.Proofs.YtfmljboogkhobaaGreatDoor
open Go Go.RowKit TxtP

theorem own_of_blk {W : World} {base g n : Nat} {t : TypeId} {cs : Array Value} (h : Blk W g t cs) (hg : base ≤ g) (hc : cs.size = n) (hm : n ≤ maxLen) :
    W.ownsRow base t 1 (.slice (some ⟨g, 0, none⟩) n n) n cs.toList := by
  refine ⟨by rw [Array.length_toList]; omega, .inr ⟨g, n, cs, rfl, hg, h, Nat.le_refl _, hm, by omega, ?_⟩⟩
  rw [Nat.mul_one, ← hc, ← Array.length_toList, List.take_length]
theorem strCs_list (l : List ByteArray) : (strCs l).toList = strsV l := by simp [strCs, strsV]
/-- are these words with commas between, or none? -/
def hstB (s : ByteArray) : Bool := decide (s.data.toList = [45]) || (pcs 44 s).all (fun x => !x.data.toList.isEmpty)
def hstL (s : ByteArray) : List ByteArray := if s.data.toList = [45] then [] else pcs 44 s
def RcR (s : ByteArray) (w : World) (e : Ending) (w' : World) : Prop :=
  Below w.heap.size w w' ∧ (hstB s = true → ∃ A c, e = .returned (.tuple #[.slice A (hstL s).length c, .bool true]) ∧ w'.ownsRow w.heap.size 9 1 (.slice A (hstL s).length c) (hstL s).length (strsV (hstL s))) ∧
    (hstB s = false → e = .returned (.tuple #[.slice none 0 0, .bool false]))
theorem RcR.no {s : ByteArray} {w w' : World} (hb : Below w.heap.size w w') (h : hstB s = false) : RcR s w (.returned (.tuple #[.slice none 0 0, .bool false])) w' :=
  ⟨hb, fun h2 => by (rw [h] at h2; cases h2), fun _ => rfl⟩
theorem hst_empty {s x : ByteArray} (hs : ¬ s.data.toList = [45]) (h : x ∈ pcs 44 s) (h2 : x.data.toList = []) : hstB s = false := by
  unfold hstB
  rw [decide_eq_false hs, Bool.false_or, List.all_eq_false]
  exact ⟨x, h, by rw [h2]; decide⟩
theorem hst_all {s : ByteArray} (h : ∀ k (h : k < (pcs 44 s).length), (pcs 44 s)[k].size ≠ 0) : hstB s = true := by
  unfold hstB
  rw [Bool.or_eq_true]
  right
  rw [List.all_eq_true]
  intro x hx2
  obtain ⟨k, hk, rfl⟩ := List.getElem_of_mem hx2
  have := h k hk
  cases hd : (pcs 44 s)[k].data.toList with
  | nil => exact absurd (by have e : (pcs 44 s)[k].data.toList.length = 0 := by rw [hd]; rfl
                            simpa using e) this
  | cons a t => rfl
end Go.Proofs.YtfmljboogkhobaaGreatDoor
/-
  Several numbers that are read: base.Numbers and splitref2.NumbersIn by contracts.
-/
namespace Go.Proofs.YtfmljboogkhobaaGreatDoor
open Go Go.RowKit TxtP

theorem info_intN : (Tryz.prog.info? 3).map (fun i => (i.zero, i.size, i.bytes)) = some (some (.int .i64 0), 1, 8) := by kernel_rfl
def nmsB (ss : List ByteArray) (most : Nat) : Bool := ss.all (fun s => numB s.data.toList most)
def nmsL (ss : List ByteArray) : List Int := ss.map (fun s => numI s.data.toList)
theorem nmsB_snoc {ss : List ByteArray} {most k : Nat} (hk : k < ss.length) : nmsB (ss.take (k + 1)) most = (nmsB (ss.take k) most && numB ss[k].data.toList most) := by
  unfold nmsB
  rw [List.take_succ_eq_append_getElem hk, List.all_append]
  simp
theorem nmsB_at {ss : List ByteArray} {most k : Nat} (hk : k < ss.length) (h : numB ss[k].data.toList most = false) : nmsB ss most = false := by
  unfold nmsB
  rw [List.all_eq_false]
  exact ⟨ss[k], List.getElem_mem hk, by rw [h]; decide⟩
def NmR (ss : List ByteArray) (most : Nat) (w : World) (e : Ending) (w' : World) : Prop :=
  Below w.heap.size w w' ∧ (nmsB ss most = true → ∃ A c, e = .returned (.tuple #[.slice A ss.length c, .bool true]) ∧ w'.ownsRow w.heap.size 3 1 (.slice A ss.length c) ss.length ((nmsL ss).map (Value.int .i64))) ∧
    (nmsB ss most = false → e = .returned (.tuple #[.slice none 0 0, .bool false]))
theorem numR_form2 (a : ByteArray) (most : Nat) (hm : most ≤ 17) : ∃ (z : Int) (B : Bool), -1000000000000000000 < z ∧ z < 1000000000000000000 ∧ numR a.data.toList most = .tuple #[.int .i64 z, .bool B] ∧ B = numB a.data.toList most ∧ (B = true → z = numI a.data.toList) := by
  cases hb : numB a.data.toList most
  · exact ⟨0, false, by decide, by decide, numR_no hb, rfl, fun h => by cases h⟩
  · have h1 := (numB_iff.1 hb)
    have h2 := body_len a.data.toList
    have h3 := numI_bound (l := a.data.toList) (by omega)
    exact ⟨_, true, h3.1, h3.2, numR_yes hb, rfl, fun _ => rfl⟩
/-- what NumbersIn answers -/
def NiR (ss : List ByteArray) (most : Nat) (w : World) (e : Ending) (w' : World) : Prop :=
  ∃ A c zs, e = .returned (.tuple #[.slice A ss.length c, .bool (nmsB ss most)]) ∧ zs.length = ss.length ∧ (nmsB ss most = true → zs = nmsL ss) ∧ (∀ z ∈ zs, -1000000000000000000 < z ∧ z < 1000000000000000000) ∧ w'.ownsRow w.heap.size 3 1 (.slice A ss.length c) ss.length (zs.map (Value.int .i64)) ∧ Below w.heap.size w w'
end Go.Proofs.YtfmljboogkhobaaGreatDoor
