/-
  base.Key and splitref2.Key by contracts: both answer keyB.
-/
import Derived.Test.YtedfieopmjpibaaDoorZKey
namespace Go.Proofs.YtedfieopmjpibaaDoor
open Go Go.RowKit

def smallB (c : UInt8) : Bool := decide (97 ≤ c.toNat ∧ c.toNat ≤ 122)
def okB (c : UInt8) : Bool := decide ((97 ≤ c.toNat ∧ c.toNat ≤ 122) ∨ (48 ≤ c.toNat ∧ c.toNat ≤ 57) ∨ c.toNat = 45 ∨ c.toNat = 95)
/-- is it a key? -/
def keyB (l : List UInt8) : Bool := decide (1 ≤ l.length ∧ l.length ≤ 40) && (l.take 1).all smallB && l.all okB

theorem bytes_all (p : UInt8 → Bool) (h : (List.range 256).all (fun n => p (UInt8.ofNat n)) = true) (c : UInt8) : p c = true := by
  rw [List.all_eq_true] at h
  have := h c.toNat (by simp; exact c.toNat_lt)
  simpa using this
def smallsL : List UInt8 := [97, 98, 99, 100, 101, 102, 103, 104, 105, 106, 107, 108, 109, 110, 111, 112, 113, 114, 115, 116, 117, 118, 119, 120, 121, 122]
def oksL : List UInt8 := [97, 98, 99, 100, 101, 102, 103, 104, 105, 106, 107, 108, 109, 110, 111, 112, 113, 114, 115, 116, 117, 118, 119, 120, 121, 122, 48, 49, 50, 51, 52, 53, 54, 55, 56, 57, 45, 95]
theorem smalls_eq (c : UInt8) : smallsL.contains c = smallB c := by
  have := bytes_all (fun c => smallsL.contains c == smallB c) (by decide +kernel) c
  simpa using this
theorem oks_eq (c : UInt8) : oksL.contains c = okB c := by
  have := bytes_all (fun c => oksL.contains c == okB c) (by decide +kernel) c
  simpa using this
theorem only_smalls (l : List UInt8) : onlyB l smallsL = l.all smallB := by unfold onlyB; simp only [smalls_eq]
theorem only_oks (l : List UInt8) : onlyB l oksL = l.all okB := by unfold onlyB; simp only [oks_eq]

theorem keyB_size {l : List UInt8} (h : ¬ (1 ≤ l.length ∧ l.length ≤ 40)) : keyB l = false := by unfold keyB; simp [h]
theorem take_one (s : ByteArray) (h : 0 < s.size) : s.data.toList.take 1 = [s[0]] := by
  have := take_snoc s 0 h
  simpa using this

theorem keyB_head {s : ByteArray} (h : 0 < s.size) (h' : smallB s[0] = false) : keyB s.data.toList = false := by
  unfold keyB
  rw [take_one s h]
  simp [h']
theorem keyB_all {s : ByteArray} (h : 0 < s.size) (h1 : s.size ≤ 40) (h' : smallB s[0] = true) : keyB s.data.toList = s.data.toList.all okB := by
  unfold keyB
  rw [take_one s h]
  have : 1 ≤ s.data.toList.length ∧ s.data.toList.length ≤ 40 := by simp; omega
  simp only [List.all_cons, h', List.all_nil, Bool.and_true, decide_eq_true this, Bool.true_and]
theorem all_snoc_ok (l : List UInt8) (c : UInt8) : (l ++ [c]).all okB = (l.all okB && okB c) := by simp
theorem all_no {l : List UInt8} {c : UInt8} (h : c ∈ l) (h' : okB c = false) : l.all okB = false := by
  rw [List.all_eq_false]
  exact ⟨c, h, by simpa using h'⟩
theorem pos_of {n : Nat} (h : ¬ n = 0) : 0 < n := by omega
theorem isEmpty_f {s : ByteArray} (h : 0 < s.size) : s.toList.isEmpty = false := by
  rw [Lib.toList_data]
  cases hl : s.data.toList with
  | nil => have : s.data.toList.length = 0 := by rw [hl]; rfl
           simp at this; rw [this] at h; exact absurd h (Nat.lt_irrefl _)
  | cons a l => rfl

end Go.Proofs.YtedfieopmjpibaaDoor
