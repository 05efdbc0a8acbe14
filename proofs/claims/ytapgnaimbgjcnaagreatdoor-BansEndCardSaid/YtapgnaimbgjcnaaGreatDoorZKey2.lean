/-
  base.Key and splitref2.Key by contracts: both answer keyB.
-/
import Derived.Test.YtapgnaimbgjcnaaGreatDoorZFlat
import Derived.Lib.IndexBytes
import Derived.Test.YtapgnaimbgjcnaaGreatDoorZBase
import Derived.Outline
import Derived.RegionTactic
import Derived.ChangeAlike
import Derived.BigRegion
namespace Go.Proofs.YtapgnaimbgjcnaaGreatDoor
open Go Go.RowKit
def smallB (c : UInt8) : Bool := decide (97 ≤ c.toNat ∧ c.toNat ≤ 122)
def okB (c : UInt8) : Bool := decide ((97 ≤ c.toNat ∧ c.toNat ≤ 122) ∨ (48 ≤ c.toNat ∧ c.toNat ≤ 57) ∨ c.toNat = 45 ∨ c.toNat = 95)
def keyB (l : List UInt8) : Bool := decide (1 ≤ l.length ∧ l.length ≤ 40) && (l.take 1).all smallB && l.all okB
theorem bytes_all (p : UInt8 → Bool) (h : (List.range 256).all (fun n => p (UInt8.ofNat n)) = true) (c : UInt8) : p c = true := by
 rw [List.all_eq_true] at h
 have := h c.toNat (by simp; exact c.toNat_lt)
 simpa using this
def smallsL : List UInt8 := [97, 98, 99, 100, 101, 102, 103, 104, 105, 106, 107, 108, 109, 110, 111, 112, 113, 114, 115, 116, 117, 118, 119, 120, 121, 122]
def oksL : List UInt8 := [97, 98, 99, 100, 101, 102, 103, 104, 105, 106, 107, 108, 109, 110, 111, 112, 113, 114, 115, 116, 117, 118, 119, 120, 121, 122, 48, 49, 50, 51, 52, 53, 54, 55, 56, 57, 45, 95]
theorem smalls_eq (c : UInt8) : smallsL.contains c = smallB c := by
 have := bytes_all (fun c => smallsL.contains c == smallB c) (by decide +kernel) c
 simpa using this
theorem oks_eq (c : UInt8) : oksL.contains c = okB c := by
 have := bytes_all (fun c => oksL.contains c == okB c) (by decide +kernel) c
 simpa using this
theorem only_smalls (l : List UInt8) : onlyB l smallsL = l.all smallB := by unfold onlyB; simp only [smalls_eq]
theorem only_oks (l : List UInt8) : onlyB l oksL = l.all okB := by unfold onlyB; simp only [oks_eq]
theorem keyB_size {l : List UInt8} (h : ¬ (1 ≤ l.length ∧ l.length ≤ 40)) : keyB l = false := by unfold keyB; simp [h]
theorem take_one (s : ByteArray) (h : 0 < s.size) : s.data.toList.take 1 = [s[0]] := by
 have := take_snoc s 0 h
 simpa using this
theorem keyB_head {s : ByteArray} (h : 0 < s.size) (h' : smallB s[0] = false) : keyB s.data.toList = false := by
 unfold keyB
 rw [take_one s h]
 simp [h']
theorem keyB_all {s : ByteArray} (h : 0 < s.size) (h1 : s.size ≤ 40) (h' : smallB s[0] = true) : keyB s.data.toList = s.data.toList.all okB := by
 unfold keyB
 rw [take_one s h]
 have : 1 ≤ s.data.toList.length ∧ s.data.toList.length ≤ 40 := by simp; omega
 simp only [List.all_cons, h', List.all_nil, Bool.and_true, decide_eq_true this, Bool.true_and]
theorem all_snoc_ok (l : List UInt8) (c : UInt8) : (l ++ [c]).all okB = (l.all okB && okB c) := by simp
theorem all_no {l : List UInt8} {c : UInt8} (h : c ∈ l) (h' : okB c = false) : l.all okB = false := by
 rw [List.all_eq_false]
 exact ⟨c, h, by simpa using h'⟩
theorem isEmpty_f {s : ByteArray} (h : 0 < s.size) : s.toList.isEmpty = false := by
 rw [Lib.toList_data]
 cases hl : s.data.toList with
 | nil => have : s.data.toList.length = 0 := by rw [hl]; rfl
          simp at this; rw [this] at h; exact absurd h (Nat.lt_irrefl _)
 | cons a l => rfl
set_option maxRecDepth 100000 in
set_option maxHeartbeats 1000000 in
theorem key_calls (s : ByteArray) (w : World) (hs : s.size ≤ maxLen) :
 Calls Tryz.prog 103 #[.string s] w fun e w' => e = .returned (.bool (keyB s.data.toList)) ∧ w = w' := by
 unfold maxLen at hs
 by_cases h0 : s.size = 0
 · rw [keyB_size (by simp; omega)]
   have he : s.toList = [] := by rw [Lib.toList_data]; exact List.eq_nil_of_length_eq_zero (by simpa using h0)
   go_enter Tryz.func103, Tryz.ntmps103
   go_wp2
   go_ret
   exact ⟨rfl, rfl⟩
 have he := isEmpty_f (s := s) (by omega)
 have he' : (s.toList == []) = false := by rw [← he]; cases s.toList <;> rfl
 have hpos : 0 < s.size := by omega
 by_cases h40 : 40 < s.size
 · rw [keyB_size (by simp; omega)]
   go_enter Tryz.func103, Tryz.ntmps103
   go_wp2
   go_ret
   exact ⟨rfl, rfl⟩
 by_cases ha : s[0].toNat < 97
 · rw [keyB_head hpos (by unfold smallB; simp; omega)]
   have t1 : (s[0].toNat : Int) < 97 := by omega
   clear ha
   go_enter Tryz.func103, Tryz.ntmps103
   go_wp2
   go_ret
   exact ⟨rfl, rfl⟩
 by_cases hz : 122 < s[0].toNat
 · rw [keyB_head hpos (by unfold smallB; simp; omega)]
   have t1 : ¬ (s[0].toNat : Int) < 97 := by omega
   have t2 : (122 : Int) < (s[0].toNat : Int) := by omega
   clear ha hz
   go_enter Tryz.func103, Tryz.ntmps103
   go_wp2
   go_ret
   exact ⟨rfl, rfl⟩
 have HK := Lib.hid (keyB_all hpos (by omega) (by unfold smallB; simp; omega))
 have t1 : ¬ (s[0].toNat : Int) < 97 := by omega
 have t2 : ¬ (122 : Int) < (s[0].toNat : Int) := by omega
 clear ha hz
 go_enter Tryz.func103, Tryz.ntmps103
 go_wp2
 go_loop [24] (fun i => ∃ k : Nat, k ≤ s.size ∧ i = .int .i64 k ∧ Hid ((s.data.toList.take k).all okB = true)) (fun i => s.size - (intOf i).toNat)
 case atStart => exact ⟨0, Nat.zero_le _, rfl, by simp [Hid]⟩
 case round =>
  clear t1 t2
  obtain ⟨k, hk, rfl, HO⟩ := hrel
  by_cases hlt : k < s.size
  · have hsn := all_snoc_ok (s.data.toList.take k) s[k]
    rw [← take_snoc s k hlt] at hsn
    have hmem : s[k] ∈ s.data.toList := by
     show s.data.toList[k]'(by simpa using hlt) ∈ _
     exact List.getElem_mem _
    have hno := all_no hmem
    clear hmem
    by_cases c_small : 97 ≤ s[k].toNat ∧ s[k].toNat ≤ 122
    · have ho : okB s[k] = true := by unfold okB; simp; omega
      rw [ho, Bool.and_true, HO.out] at hsn
      have HS := Lib.hid hsn
      have t1 : (97 : Int) ≤ (s[k].toNat : Int) := by omega
      have t2 : (s[k].toNat : Int) ≤ 122 := by omega
      clear hsn hno ho c_small
      go_wp2
      go_round
      case rel => exact ⟨k + 1, by omega, by go_num, HS⟩
      case measure => simp [intOf]; omega
    by_cases c_digit : 48 ≤ s[k].toNat ∧ s[k].toNat ≤ 57
    · have ho : okB s[k] = true := by unfold okB; simp; omega
      rw [ho, Bool.and_true, HO.out] at hsn
      have HS := Lib.hid hsn
      have t1 : ¬ (97 : Int) ≤ (s[k].toNat : Int) := by omega
      have t2 : (48 : Int) ≤ (s[k].toNat : Int) := by omega
      have t3 : (s[k].toNat : Int) ≤ 57 := by omega
      clear hsn hno ho c_digit
      go_wp2
      go_round
      case rel => exact ⟨k + 1, by omega, by go_num, HS⟩
      case measure => simp [intOf]; omega
    by_cases c_dash : s[k].toNat = 45
    · have ho : okB s[k] = true := by unfold okB; simp; omega
      rw [ho, Bool.and_true, HO.out] at hsn
      have HS := Lib.hid hsn
      have t1 : ¬ (97 : Int) ≤ (s[k].toNat : Int) := by omega
      have t2 : ¬ (48 : Int) ≤ (s[k].toNat : Int) := by omega
      have t3 : ((s[k].toNat : Int) == 45) = true := by simp; omega
      clear hsn hno ho c_dash
      go_wp2
      go_round
      case rel => exact ⟨k + 1, by omega, by go_num, HS⟩
      case measure => simp [intOf]; omega
    by_cases c_low : s[k].toNat = 95
    · have ho : okB s[k] = true := by unfold okB; simp; omega
      rw [ho, Bool.and_true, HO.out] at hsn
      have HS := Lib.hid hsn
      have t1 : ¬ (97 : Int) ≤ (s[k].toNat : Int) := by omega
      have t2 : (48 : Int) ≤ (s[k].toNat : Int) := by omega
      have t3 : ¬ (s[k].toNat : Int) ≤ 57 := by omega
      have t4 : ((s[k].toNat : Int) == 45) = false := by simp; omega
      have t5 : ((s[k].toNat : Int) == 95) = true := by simp; omega
      clear hsn hno ho c_low
      go_wp2
      go_round
      case rel => exact ⟨k + 1, by omega, by go_num, HS⟩
      case measure => simp [intOf]; omega
    have ho : okB s[k] = false := by unfold okB; simp; omega
    have HN := Lib.hid (hno ho)
    clear hsn hno ho
    by_cases d_0 : s[k].toNat < 48
    · have t1 : ¬ (97 : Int) ≤ (s[k].toNat : Int) := by omega
      have t2 : ¬ (48 : Int) ≤ (s[k].toNat : Int) := by omega
      have t4 : ((s[k].toNat : Int) == 45) = false := by simp; omega
      have t5 : ((s[k].toNat : Int) == 95) = false := by simp; omega
      clear c_small c_digit c_dash c_low d_0
      go_wp2
      go_ret
      exact ⟨ret_bool (HN.out.symm.trans HK.out.symm), rfl⟩
    by_cases d_1 : s[k].toNat < 97
    · have t1 : ¬ (97 : Int) ≤ (s[k].toNat : Int) := by omega
      have t2 : (48 : Int) ≤ (s[k].toNat : Int) := by omega
      have t3 : ¬ (s[k].toNat : Int) ≤ 57 := by omega
      have t4 : ((s[k].toNat : Int) == 45) = false := by simp; omega
      have t5 : ((s[k].toNat : Int) == 95) = false := by simp; omega
      clear c_small c_digit c_dash c_low d_1
      go_wp2
      go_ret
      exact ⟨ret_bool (HN.out.symm.trans HK.out.symm), rfl⟩
    have t1 : (97 : Int) ≤ (s[k].toNat : Int) := by omega
    have t1b : ¬ (s[k].toNat : Int) ≤ 122 := by omega
    have t2 : (48 : Int) ≤ (s[k].toNat : Int) := by omega
    have t3 : ¬ (s[k].toNat : Int) ≤ 57 := by omega
    have t4 : ((s[k].toNat : Int) == 45) = false := by simp; omega
    have t5 : ((s[k].toNat : Int) == 95) = false := by simp; omega
    clear c_small c_digit c_dash c_low d_0 d_1
    go_wp2
    go_ret
    exact ⟨ret_bool (HN.out.symm.trans HK.out.symm), rfl⟩
  · go_wp2
    go_ret
    exact ⟨ret_bool (by rw [HK.out, ← HO.out, List.take_of_length_le (by simp; omega)]), rfl⟩
end Go.Proofs.YtapgnaimbgjcnaaGreatDoor
/-
  splitref2.Key by a contract: it answers keyB.
-/
namespace Go.Proofs.YtapgnaimbgjcnaaGreatDoor
open Go Go.RowKit
theorem only_smalls_calls (s : ByteArray) (w : World) (hs : s.size ≤ maxLen) :
 Calls Tryz.prog 123 #[.string s, .string ⟨#[97, 98, 99, 100, 101, 102, 103, 104, 105, 106, 107, 108, 109, 110, 111, 112, 113, 114, 115, 116, 117, 118, 119, 120, 121, 122]⟩] w fun e w' => e = .returned (.bool (s.data.toList.all smallB)) ∧ w = w' := by
 have := only_calls s ⟨#[97, 98, 99, 100, 101, 102, 103, 104, 105, 106, 107, 108, 109, 110, 111, 112, 113, 114, 115, 116, 117, 118, 119, 120, 121, 122]⟩ w hs
 rwa [show (ByteArray.mk #[97, 98, 99, 100, 101, 102, 103, 104, 105, 106, 107, 108, 109, 110, 111, 112, 113, 114, 115, 116, 117, 118, 119, 120, 121, 122]).data.toList = smallsL from rfl, only_smalls] at this
def allOk (l : List UInt8) : Bool := l.all okB
theorem only_oks_calls (s : ByteArray) (w : World) (hs : s.size ≤ maxLen) :
 Calls Tryz.prog 123 #[.string s, .string ⟨#[97, 98, 99, 100, 101, 102, 103, 104, 105, 106, 107, 108, 109, 110, 111, 112, 113, 114, 115, 116, 117, 118, 119, 120, 121, 122, 48, 49, 50, 51, 52, 53, 54, 55, 56, 57, 45, 95]⟩] w fun e w' => e = .returned (.bool (allOk s.data.toList)) ∧ w = w' := by
 have := only_calls s ⟨#[97, 98, 99, 100, 101, 102, 103, 104, 105, 106, 107, 108, 109, 110, 111, 112, 113, 114, 115, 116, 117, 118, 119, 120, 121, 122, 48, 49, 50, 51, 52, 53, 54, 55, 56, 57, 45, 95]⟩ w hs
 rwa [show (ByteArray.mk #[97, 98, 99, 100, 101, 102, 103, 104, 105, 106, 107, 108, 109, 110, 111, 112, 113, 114, 115, 116, 117, 118, 119, 120, 121, 122, 48, 49, 50, 51, 52, 53, 54, 55, 56, 57, 45, 95]).data.toList = oksL from rfl, only_oks] at this
set_option maxRecDepth 100000 in
theorem keyQ_calls (s : ByteArray) (w : World) (hs : s.size ≤ maxLen) :
 Calls Tryz.prog 66 #[.string s] w fun e w' => e = .returned (.bool (keyB s.data.toList)) ∧ w = w' := by
 unfold maxLen at hs
 by_cases h0 : 1 ≤ s.size ∧ s.size ≤ 40
 · obtain ⟨h1, h2⟩ := h0
   have ho : outB (s.size : Int) 1 40 = false := outB_f (by omega) (by omega)
   have HO := Lib.hid ho
   clear ho
   cases hsm : smallB s[0]
   · have HK := Lib.hid (keyB_head h1 hsm)
     have HF := Lib.hid (show (s.extract 0 1).data.toList.all smallB = false by rw [Lib.extract_data]; simp [take_one s h1, hsm])
     clear hsm
     go_enter Tryz.func66, Tryz.ntmps66
     go_wp2_with fail
     refine (in_calls _ _ _ _).mono ?_
     rintro e w' ⟨rfl, rfl⟩
     rw [HO.out]
     go_wp2_with fail
     refine (only_smalls_calls _ _ (by simp [maxLen]; omega)).mono ?_
     rintro e w' ⟨rfl, rfl⟩
     rw [HF.out]
     go_wp2_with fail
     go_ret
     exact ⟨ret_bool HK.out.symm, rfl⟩
   · have HK := Lib.hid (show keyB s.data.toList = allOk s.data.toList from keyB_all h1 h2 hsm)
     have HF := Lib.hid (show (s.extract 0 1).data.toList.all smallB = true by rw [Lib.extract_data]; simp [take_one s h1, hsm])
     clear hsm
     go_enter Tryz.func66, Tryz.ntmps66
     go_wp2_with fail
     refine (in_calls _ _ _ _).mono ?_
     rintro e w' ⟨rfl, rfl⟩
     rw [HO.out]
     go_wp2_with fail
     refine (only_smalls_calls _ _ (by simp [maxLen]; omega)).mono ?_
     rintro e w' ⟨rfl, rfl⟩
     rw [HF.out]
     go_wp2_with fail
     refine (only_oks_calls _ _ (by simp [maxLen]; omega)).mono ?_
     rintro e w' ⟨rfl, rfl⟩
     go_wp2_with fail
     go_ret
     exact ⟨ret_bool HK.out.symm, rfl⟩
 · have HK := Lib.hid (keyB_size (l := s.data.toList) (by simpa using h0))
   have ho : outB (s.size : Int) 1 40 = true := outB_t (by omega)
   have HO := Lib.hid ho
   clear ho h0
   go_enter Tryz.func66, Tryz.ntmps66
   go_wp2_with fail
   refine (in_calls _ _ _ _).mono ?_
   rintro e w' ⟨rfl, rfl⟩
   rw [HO.out]
   go_wp2_with fail
   go_ret
   exact ⟨ret_bool HK.out.symm, rfl⟩
end Go.Proofs.YtapgnaimbgjcnaaGreatDoor
/-
  race.ratingFault and splitref2.RatingFault by contracts: both answer ratF.
-/
namespace Go.Proofs.YtapgnaimbgjcnaaGreatDoor
open Go Go.RowKit
def ratF (n d : Int) : Int := if d < 1 ∨ ¬ Int.gcd n d = 1 then 3 else if ¬ 1000 % d = 0 ∨ n < -10000 * d ∨ 10000 * d < n then 1 else 0
theorem ratF_low {n d : Int} (h : d < 1) : ratF n d = 3 := by unfold ratF; rw [if_pos (.inl h)]
theorem ratF_gcd {n d : Int} (h : ¬ Int.gcd n d = 1) : ratF n d = 3 := by unfold ratF; rw [if_pos (.inr h)]
theorem ratF_mod {n d : Int} (h : 1 ≤ d) (hg : Int.gcd n d = 1) (hm : ¬ 1000 % d = 0) : ratF n d = 1 := by unfold ratF; rw [if_neg (by omega), if_pos (.inl hm)]
theorem ratF_out {n d : Int} (h : 1 ≤ d) (hg : Int.gcd n d = 1) (hm : n < -10000 * d ∨ 10000 * d < n) : ratF n d = 1 := by unfold ratF; rw [if_neg (by omega), if_pos (.inr hm)]
theorem ratF_ok {n d : Int} (h : 1 ≤ d) (hg : Int.gcd n d = 1) (hm : 1000 % d = 0) (h1 : -10000 * d ≤ n) (h2 : n ≤ 10000 * d) : ratF n d = 0 := by unfold ratF; rw [if_neg (by omega), if_neg (by omega)]
theorem mod_le {d : Int} (_h : 1 ≤ d) (hm : 1000 % d = 0) : d ≤ 1000 := by
 rcases Int.lt_or_le 1000 d with hl | hl
 · rw [Int.emod_eq_of_lt (by omega) hl] at hm; omega
 · exact hl
set_option maxRecDepth 100000 in
theorem ratingFault_calls (n d : Int) (w : World) (hn : I64 n) (hd : I64 d) :
 Calls Tryz.prog 148 #[.agg #[.int .i64 n, .int .i64 d]] w (BRet (.int .i64 (ratF n d)) w) := by
 obtain ⟨hn0, hn1⟩ := hn
 obtain ⟨hd0, hd1⟩ := hd
 have hA : ∀ o : Obj, Below w.heap.size w (w.alloc o) := fun o => (Below.refl _ _).alloc (Nat.le_refl _) o
 by_cases h1 : d < 1
 · have HF := Lib.hid (ratF_low (n := n) h1)
   go_enter Tryz.func148, Tryz.ntmps148
   go_wp2_with fail
   go_ret
   exact ⟨ret_int HF.out.symm, hA _⟩
 by_cases h2 : Int.gcd n d = 1
 · have hL : lowB n d = true := by unfold lowB; simpa using h2
   have HL := Lib.hid hL
   by_cases h3 : 1000 % d = 0
   · have hle := mod_le (by omega) h3
     have h3' : ((1000 : Int) % d != 0) = false := by rw [h3]; rfl
     by_cases h4 : n < -10000 * d ∨ 10000 * d < n
     · have HF := Lib.hid (ratF_out (by omega) h2 h4)
       have HO := Lib.hid (outB_t (n := n) (lo := -10000 * d) (hi := 10000 * d) h4)
       clear h2 h3 h4 hL
       go_enter Tryz.func148, Tryz.ntmps148
       go_wp2_with fail
       refine (lowestB_calls n d _ hn0 hn1 (by omega) hd1).mono ?_
       rintro e w1 ⟨rfl, hb1⟩
       rw [HL.out]
       have B0 : Blk w1 w.heap.size 73 #[.int .i64 n, .int .i64 d] := (Blk.new w _ _).below hb1
       obtain ⟨b1, b2, b3, b4⟩ := B0.two
       go_wp2_with fail
       refine (out_calls _ _ _ _).mono ?_
       rintro e w2 ⟨rfl, rfl⟩
       rw [HO.out]
       go_wp2_with fail
       go_ret
       exact ⟨ret_int HF.out.symm, below_call (hA _) hb1 (Nat.le_refl _)⟩
     · have HF := Lib.hid (ratF_ok (n := n) (by omega) h2 h3 (by omega) (by omega))
       have HO := Lib.hid (outB_f (n := n) (lo := -10000 * d) (hi := 10000 * d) (by omega) (by omega))
       clear h2 h3 h4 hL
       go_enter Tryz.func148, Tryz.ntmps148
       go_wp2_with fail
       refine (lowestB_calls n d _ hn0 hn1 (by omega) hd1).mono ?_
       rintro e w1 ⟨rfl, hb1⟩
       rw [HL.out]
       have B0 : Blk w1 w.heap.size 73 #[.int .i64 n, .int .i64 d] := (Blk.new w _ _).below hb1
       obtain ⟨b1, b2, b3, b4⟩ := B0.two
       go_wp2_with fail
       refine (out_calls _ _ _ _).mono ?_
       rintro e w2 ⟨rfl, rfl⟩
       rw [HO.out]
       go_wp2_with fail
       go_ret
       exact ⟨ret_int HF.out.symm, below_call (hA _) hb1 (Nat.le_refl _)⟩
   · have HF := Lib.hid (ratF_mod (by omega) h2 h3)
     have h3' : ((1000 : Int) % d != 0) = true := by rw [bne_iff_ne]; exact h3
     clear h2 h3 hL
     go_enter Tryz.func148, Tryz.ntmps148
     go_wp2_with fail
     refine (lowestB_calls n d _ hn0 hn1 (by omega) hd1).mono ?_
     rintro e w1 ⟨rfl, hb1⟩
     rw [HL.out]
     have B0 : Blk w1 w.heap.size 73 #[.int .i64 n, .int .i64 d] := (Blk.new w _ _).below hb1
     obtain ⟨b1, b2, b3, b4⟩ := B0.two
     go_wp2_with fail
     go_ret
     exact ⟨ret_int HF.out.symm, below_call (hA _) hb1 (Nat.le_refl _)⟩
 · have HF := Lib.hid (ratF_gcd h2)
   have hL : lowB n d = false := by unfold lowB; simpa using h2
   have HL := Lib.hid hL
   clear h2 hL
   go_enter Tryz.func148, Tryz.ntmps148
   go_wp2_with fail
   refine (lowestB_calls n d _ hn0 hn1 (by omega) hd1).mono ?_
   rintro e w1 ⟨rfl, hb1⟩
   rw [HL.out]
   go_wp2_with fail
   go_ret
   exact ⟨ret_int HF.out.symm, below_call (hA _) hb1 (Nat.le_refl _)⟩
end Go.Proofs.YtapgnaimbgjcnaaGreatDoor
/-
  race.CheckRated and splitref2.RatedFault by contracts: both answer ratedF.
-/
namespace Go.Proofs.YtapgnaimbgjcnaaGreatDoor
open Go Go.RowKit
def leS (a b : ByteArray) : Bool := Op.bytesLess a.toList b.toList || a.toList == b.toList
theorem le_nil {s : ByteArray} (h : keyB s.data.toList = true) : leS s ⟨#[]⟩ = false := by
 have hs : 0 < s.size := by
  rcases Nat.eq_zero_or_pos s.size with h0 | h0
  · rw [keyB_size (by simp; omega)] at h; cases h
  · exact h0
 have he := isEmpty_f hs
 unfold leS
 rw [Lib.toList_data ⟨#[]⟩]
 cases hl : s.toList with
 | nil => rw [hl] at he; cases he
 | cons a l => rfl
end Go.Proofs.YtapgnaimbgjcnaaGreatDoor
