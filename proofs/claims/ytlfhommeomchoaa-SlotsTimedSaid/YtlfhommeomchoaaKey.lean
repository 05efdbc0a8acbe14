/-
  Keys: only, base.Key and splitref2.Key by contracts: both answer keyB.
-/
import Derived.Test.YtlfhommeomchoaaNum2
import Derived.Lib.Bytealg
import Derived.Lib.IndexAny
import Derived.Lib.Strings
namespace Go.Proofs.Ytlfhommeomchoaa
open Go Go.RowKit

set_option maxRecDepth 100000 in
theorem indexByte_calls (s : ByteArray) (c : Int) (w : World) :
    Calls Try.prog 136 #[.string s, .int .u8 c] w fun e w' => e = .returned (.int .i64 (Lib.indexByte s.data.toList c.toNat.toUInt8)) ∧ w = w' := by
  go_enter Try.func136, Try.ntmps136
  go_wp2
  rw [run_callFunc_extern Try.func140 (by kernel_rfl) (by kernel_rfl) (by kernel_rfl) (e := Extern.BytealgIndexByte.indexByte) (by kernel_rfl), Lib.run_indexByteString]
  simp only [Result.andThen]
  rw [Oper.upon_value]
  go_wp2
  go_ret
  exact ⟨rfl, rfl⟩

theorem take_snoc (s : ByteArray) (k : Nat) (h : k < s.size) : s.data.toList.take (k + 1) = s.data.toList.take k ++ [s[k]] := by
  rw [List.take_succ_eq_append_getElem (by simpa using h)]; rfl

/-- has l none but bytes of m? -/
def onlyB (l m : List UInt8) : Bool := l.all fun c => m.contains c
theorem onlyB_snoc (l m : List UInt8) (c : UInt8) : onlyB (l ++ [c]) m = (onlyB l m && m.contains c) := by simp [onlyB]
theorem onlyB_no {l m : List UInt8} {c : UInt8} (h : c ∈ l) (h' : m.contains c = false) : onlyB l m = false := by
  unfold onlyB
  rw [List.all_eq_false]
  exact ⟨c, h, by simpa using h'⟩
theorem byte_back (c : UInt8) : ((c.toNat : Int)).toNat.toUInt8 = c := by simp

set_option maxRecDepth 100000 in
theorem only_calls (s m : ByteArray) (w : World) (hs : s.size ≤ maxLen) :
    Calls Try.prog 121 #[.string s, .string m] w fun e w' => e = .returned (.bool (onlyB s.data.toList m.data.toList)) ∧ w = w' := by
  unfold maxLen at hs
  go_enter Try.func121, Try.ntmps121
  go_wp2
  go_loop [8] (fun i => ∃ k : Nat, k ≤ s.size ∧ i = .int .i64 k ∧ Hid (onlyB (s.data.toList.take k) m.data.toList = true)) (fun i => s.size - (intOf i).toNat)
  case atStart => exact ⟨0, Nat.zero_le _, rfl, by simp [Hid, onlyB]⟩
  case round =>
    obtain ⟨k, hk, rfl, HO⟩ := hrel
    by_cases hlt : k < s.size
    · have hc := Lib.contains_iff_indexByte m.data.toList s[k]
      have hsn := onlyB_snoc (s.data.toList.take k) m.data.toList s[k]
      rw [← take_snoc s k hlt, HO.out, Bool.true_and] at hsn
      have hmem : s[k] ∈ s.data.toList := by
        show s.data.toList[k]'(by simpa using hlt) ∈ _
        exact List.getElem_mem _
      have hn := onlyB_no (m := m.data.toList) hmem
      by_cases hin : m.data.toList.contains s[k] = true
      · rw [hin] at hc hsn
        have hge : 0 ≤ Lib.indexByte m.data.toList s[k] := by simpa using hc.symm
        have hc' := fun W => indexByte_calls m (s[k].toNat : Int) W
        rw [byte_back] at hc'
        have HC := Lib.hid hc'
        have HS := Lib.hid hsn
        clear hc' hc hn hin hsn
        go_wp2_with fail
        refine (HC.out _).mono ?_
        rintro e w' ⟨rfl, rfl⟩
        go_wp2
        go_round
        case rel => exact ⟨k + 1, by omega, by go_num, HS⟩
        case measure => simp [intOf]; omega
      · have hf : m.data.toList.contains s[k] = false := by simpa using hin
        rw [hf] at hc
        have hge : Lib.indexByte m.data.toList s[k] < 0 := by
          have := of_decide_eq_false hc.symm
          omega
        have hc' := fun W => indexByte_calls m (s[k].toNat : Int) W
        rw [byte_back] at hc'
        have HC := Lib.hid hc'
        have HN := Lib.hid (hn hf)
        clear hc' hc hn hin hsn hf
        go_wp2_with fail
        refine (HC.out _).mono ?_
        rintro e w' ⟨rfl, rfl⟩
        go_wp2
        go_ret
        exact ⟨ret_bool HN.out.symm, rfl⟩
    · go_wp2
      go_ret
      exact ⟨ret_bool (by rw [← HO.out, List.take_of_length_le (by simp; omega)]), rfl⟩
end Go.Proofs.Ytlfhommeomchoaa
