/-
  base.Key and splitref2.Key by contracts: both answer keyB.
-/
import Derived.Test.YthbcogekfdllmaaGreatZNum2
namespace Go.Proofs.YthbcogekfdllmaaGreat
open Go Go.RowKit

def smallB (c : UInt8) : Bool := decide (97 ≤ c.toNat ∧ c.toNat ≤ 122)
def okB (c : UInt8) : Bool := decide ((97 ≤ c.toNat ∧ c.toNat ≤ 122) ∨ (48 ≤ c.toNat ∧ c.toNat ≤ 57) ∨ c.toNat = 45 ∨ c.toNat = 95)
/-- is it a key? -/
def keyB (l : List UInt8) : Bool := decide (1 ≤ l.length ∧ l.length ≤ 40) && (l.take 1).all smallB && l.all okB

theorem bytes_all (p : UInt8 → Bool) (h : (List.range 256).all (fun n => p (UInt8.ofNat n)) = true) (c : UInt8) : p c = true := by
  rw [List.all_eq_true] at h
  have := h c.toNat (by simp; exact c.toNat_lt)
  simpa using this
def smallsL : List UInt8 := [97, 98, 99, 100, 101, 102, 103, 104, 105, 106, 107, 108, 109, 110, 111, 112, 113, 114, 115, 116, 117, 118, 119, 120, 121, 122]
def oksL : List UInt8 := [97, 98, 99, 100, 101, 102, 103, 104, 105, 106, 107, 108, 109, 110, 111, 112, 113, 114, 115, 116, 117, 118, 119, 120, 121, 122, 48, 49, 50, 51, 52, 53, 54, 55, 56, 57, 45, 95]
theorem smalls_eq (c : UInt8) : smallsL.contains c = smallB c := by
  have := bytes_all (fun c => smallsL.contains c == smallB c) (by decide +kernel) c
  simpa using this
theorem oks_eq (c : UInt8) : oksL.contains c = okB c := by
  have := bytes_all (fun c => oksL.contains c == okB c) (by decide +kernel) c
  simpa using this
theorem only_smalls (l : List UInt8) : onlyB l smallsL = l.all smallB := by unfold onlyB; simp only [smalls_eq]
theorem only_oks (l : List UInt8) : onlyB l oksL = l.all okB := by unfold onlyB; simp only [oks_eq]

theorem keyB_size {l : List UInt8} (h : ¬ (1 ≤ l.length ∧ l.length ≤ 40)) : keyB l = false := by unfold keyB; simp [h]
theorem take_one (s : ByteArray) (h : 0 < s.size) : s.data.toList.take 1 = [s[0]] := by
  have := take_snoc s 0 h
  simpa using this

theorem keyB_head {s : ByteArray} (h : 0 < s.size) (h' : smallB s[0] = false) : keyB s.data.toList = false := by
  unfold keyB
  rw [take_one s h]
  simp [h']
theorem keyB_all {s : ByteArray} (h : 0 < s.size) (h1 : s.size ≤ 40) (h' : smallB s[0] = true) : keyB s.data.toList = s.data.toList.all okB := by
  unfold keyB
  rw [take_one s h]
  have : 1 ≤ s.data.toList.length ∧ s.data.toList.length ≤ 40 := by simp; omega
  simp only [List.all_cons, h', List.all_nil, Bool.and_true, decide_eq_true this, Bool.true_and]
theorem all_snoc_ok (l : List UInt8) (c : UInt8) : (l ++ [c]).all okB = (l.all okB && okB c) := by simp
theorem all_no {l : List UInt8} {c : UInt8} (h : c ∈ l) (h' : okB c = false) : l.all okB = false := by
  rw [List.all_eq_false]
  exact ⟨c, h, by simpa using h'⟩
theorem isEmpty_f {s : ByteArray} (h : 0 < s.size) : s.toList.isEmpty = false := by
  rw [Lib.toList_data]
  cases hl : s.data.toList with
  | nil => have : s.data.toList.length = 0 := by rw [hl]; rfl
           simp at this; rw [this] at h; exact absurd h (Nat.lt_irrefl _)
  | cons a l => rfl

set_option maxRecDepth 100000 in
set_option maxHeartbeats 1000000 in
theorem key_calls (s : ByteArray) (w : World) (hs : s.size ≤ maxLen) :
    Calls Tryz.prog 49 #[.string s] w fun e w' => e = .returned (.bool (keyB s.data.toList)) ∧ w = w' := by
  unfold maxLen at hs
  by_cases h0 : s.size = 0
  · rw [keyB_size (by simp; omega)]
    have he : s.toList = [] := by rw [Lib.toList_data]; exact List.eq_nil_of_length_eq_zero (by simpa using h0)
    go_enter Tryz.func49, Tryz.ntmps49
    go_wp2
    go_ret
    exact ⟨rfl, rfl⟩
  have he := isEmpty_f (s := s) (by omega)
  have he' : (s.toList == []) = false := by rw [← he]; cases s.toList <;> rfl
  have hpos : 0 < s.size := by omega
  by_cases h40 : 40 < s.size
  · rw [keyB_size (by simp; omega)]
    go_enter Tryz.func49, Tryz.ntmps49
    go_wp2
    go_ret
    exact ⟨rfl, rfl⟩
  by_cases ha : s[0].toNat < 97
  · rw [keyB_head hpos (by unfold smallB; simp; omega)]
    have t1 : (s[0].toNat : Int) < 97 := by omega
    clear ha
    go_enter Tryz.func49, Tryz.ntmps49
    go_wp2
    go_ret
    exact ⟨rfl, rfl⟩
  by_cases hz : 122 < s[0].toNat
  · rw [keyB_head hpos (by unfold smallB; simp; omega)]
    have t1 : ¬ (s[0].toNat : Int) < 97 := by omega
    have t2 : (122 : Int) < (s[0].toNat : Int) := by omega
    clear ha hz
    go_enter Tryz.func49, Tryz.ntmps49
    go_wp2
    go_ret
    exact ⟨rfl, rfl⟩
  have HK := Lib.hid (keyB_all hpos (by omega) (by unfold smallB; simp; omega))
  have t1 : ¬ (s[0].toNat : Int) < 97 := by omega
  have t2 : ¬ (122 : Int) < (s[0].toNat : Int) := by omega
  clear ha hz
  go_enter Tryz.func49, Tryz.ntmps49
  go_wp2
  go_loop [24] (fun i => ∃ k : Nat, k ≤ s.size ∧ i = .int .i64 k ∧ Hid ((s.data.toList.take k).all okB = true)) (fun i => s.size - (intOf i).toNat)
  case atStart => exact ⟨0, Nat.zero_le _, rfl, by simp [Hid]⟩
  case round =>
    clear t1 t2
    obtain ⟨k, hk, rfl, HO⟩ := hrel
    by_cases hlt : k < s.size
    · have hsn := all_snoc_ok (s.data.toList.take k) s[k]
      rw [← take_snoc s k hlt] at hsn
      have hmem : s[k] ∈ s.data.toList := by
        show s.data.toList[k]'(by simpa using hlt) ∈ _
        exact List.getElem_mem _
      have hno := all_no hmem
      clear hmem
      by_cases c_small : 97 ≤ s[k].toNat ∧ s[k].toNat ≤ 122
      · have ho : okB s[k] = true := by unfold okB; simp; omega
        rw [ho, Bool.and_true, HO.out] at hsn
        have HS := Lib.hid hsn
        have t1 : (97 : Int) ≤ (s[k].toNat : Int) := by omega
        have t2 : (s[k].toNat : Int) ≤ 122 := by omega
        clear hsn hno ho c_small
        go_wp2
        go_round
        case rel => exact ⟨k + 1, by omega, by go_num, HS⟩
        case measure => simp [intOf]; omega
      by_cases c_digit : 48 ≤ s[k].toNat ∧ s[k].toNat ≤ 57
      · have ho : okB s[k] = true := by unfold okB; simp; omega
        rw [ho, Bool.and_true, HO.out] at hsn
        have HS := Lib.hid hsn
        have t1 : ¬ (97 : Int) ≤ (s[k].toNat : Int) := by omega
        have t2 : (48 : Int) ≤ (s[k].toNat : Int) := by omega
        have t3 : (s[k].toNat : Int) ≤ 57 := by omega
        clear hsn hno ho c_digit
        go_wp2
        go_round
        case rel => exact ⟨k + 1, by omega, by go_num, HS⟩
        case measure => simp [intOf]; omega
      by_cases c_dash : s[k].toNat = 45
      · have ho : okB s[k] = true := by unfold okB; simp; omega
        rw [ho, Bool.and_true, HO.out] at hsn
        have HS := Lib.hid hsn
        have t1 : ¬ (97 : Int) ≤ (s[k].toNat : Int) := by omega
        have t2 : ¬ (48 : Int) ≤ (s[k].toNat : Int) := by omega
        have t3 : ((s[k].toNat : Int) == 45) = true := by simp; omega
        clear hsn hno ho c_dash
        go_wp2
        go_round
        case rel => exact ⟨k + 1, by omega, by go_num, HS⟩
        case measure => simp [intOf]; omega
      by_cases c_low : s[k].toNat = 95
      · have ho : okB s[k] = true := by unfold okB; simp; omega
        rw [ho, Bool.and_true, HO.out] at hsn
        have HS := Lib.hid hsn
        have t1 : ¬ (97 : Int) ≤ (s[k].toNat : Int) := by omega
        have t2 : (48 : Int) ≤ (s[k].toNat : Int) := by omega
        have t3 : ¬ (s[k].toNat : Int) ≤ 57 := by omega
        have t4 : ((s[k].toNat : Int) == 45) = false := by simp; omega
        have t5 : ((s[k].toNat : Int) == 95) = true := by simp; omega
        clear hsn hno ho c_low
        go_wp2
        go_round
        case rel => exact ⟨k + 1, by omega, by go_num, HS⟩
        case measure => simp [intOf]; omega
      have ho : okB s[k] = false := by unfold okB; simp; omega
      have HN := Lib.hid (hno ho)
      clear hsn hno ho
      by_cases d_0 : s[k].toNat < 48
      · have t1 : ¬ (97 : Int) ≤ (s[k].toNat : Int) := by omega
        have t2 : ¬ (48 : Int) ≤ (s[k].toNat : Int) := by omega
        have t4 : ((s[k].toNat : Int) == 45) = false := by simp; omega
        have t5 : ((s[k].toNat : Int) == 95) = false := by simp; omega
        clear c_small c_digit c_dash c_low d_0
        go_wp2
        go_ret
        exact ⟨ret_bool (HN.out.symm.trans HK.out.symm), rfl⟩
      by_cases d_1 : s[k].toNat < 97
      · have t1 : ¬ (97 : Int) ≤ (s[k].toNat : Int) := by omega
        have t2 : (48 : Int) ≤ (s[k].toNat : Int) := by omega
        have t3 : ¬ (s[k].toNat : Int) ≤ 57 := by omega
        have t4 : ((s[k].toNat : Int) == 45) = false := by simp; omega
        have t5 : ((s[k].toNat : Int) == 95) = false := by simp; omega
        clear c_small c_digit c_dash c_low d_1
        go_wp2
        go_ret
        exact ⟨ret_bool (HN.out.symm.trans HK.out.symm), rfl⟩
      have t1 : (97 : Int) ≤ (s[k].toNat : Int) := by omega
      have t1b : ¬ (s[k].toNat : Int) ≤ 122 := by omega
      have t2 : (48 : Int) ≤ (s[k].toNat : Int) := by omega
      have t3 : ¬ (s[k].toNat : Int) ≤ 57 := by omega
      have t4 : ((s[k].toNat : Int) == 45) = false := by simp; omega
      have t5 : ((s[k].toNat : Int) == 95) = false := by simp; omega
      clear c_small c_digit c_dash c_low d_0 d_1
      go_wp2
      go_ret
      exact ⟨ret_bool (HN.out.symm.trans HK.out.symm), rfl⟩
    · go_wp2
      go_ret
      exact ⟨ret_bool (by rw [HK.out, ← HO.out, List.take_of_length_le (by simp; omega)]), rfl⟩
end Go.Proofs.YthbcogekfdllmaaGreat
