/-
  Numbers, on: base.Lowest (its loop over uint64), in, Out, sign by contracts.
-/
import Derived.Test.YthbcogekfdllmaaGreatZFlat
import Derived.Lib.Bytealg
import Derived.Lib.IndexAny
import Derived.Lib.Strings
namespace Go.Proofs.YthbcogekfdllmaaGreat
open Go Go.RowKit

/-- is n not from lo to hi? -/
def outB (n lo hi : Int) : Bool := decide (n < lo ∨ hi < n)
theorem outB_t {n lo hi : Int} (h : n < lo ∨ hi < n) : outB n lo hi = true := by unfold outB; simpa using h
theorem outB_f {n lo hi : Int} (h : lo ≤ n) (h' : n ≤ hi) : outB n lo hi = false := by unfold outB; simp; omega
theorem out_calls (n lo hi : Int) (w : World) : Calls Tryz.prog 48 #[.int .i64 n, .int .i64 lo, .int .i64 hi] w fun e w' => e = .returned (.bool (outB n lo hi)) ∧ w = w' := by
  by_cases h1 : n < lo
  · rw [outB_t (.inl h1)]
    go_enter Tryz.func48, Tryz.ntmps48
    go_wp2
    go_ret
    exact ⟨rfl, rfl⟩
  · by_cases h2 : hi < n
    · rw [outB_t (.inr h2)]
      go_enter Tryz.func48, Tryz.ntmps48
      go_wp2
      go_ret
      exact ⟨rfl, rfl⟩
    · rw [outB_f (by omega) (by omega)]
      go_enter Tryz.func48, Tryz.ntmps48
      go_wp2
      go_ret
      exact ⟨rfl, rfl⟩

theorem in_calls (n lo hi : Int) (w : World) : Calls Tryz.prog 38 #[.int .i64 n, .int .i64 lo, .int .i64 hi] w fun e w' => e = .returned (.bool (!outB n lo hi)) ∧ w = w' := by
  by_cases h1 : n < lo
  · rw [outB_t (.inl h1)]
    have h1' : ¬ lo ≤ n := by omega
    go_enter Tryz.func38, Tryz.ntmps38
    go_wp2
    go_ret
    exact ⟨rfl, rfl⟩
  · by_cases h2 : hi < n
    · rw [outB_t (.inr h2)]
      have h1' : lo ≤ n := by omega
      have h2' : ¬ n ≤ hi := by omega
      go_enter Tryz.func38, Tryz.ntmps38
      go_wp2
      go_ret
      exact ⟨rfl, rfl⟩
    · rw [outB_f (by omega) (by omega)]
      have h1' : lo ≤ n := by omega
      have h2' : n ≤ hi := by omega
      go_enter Tryz.func38, Tryz.ntmps38
      go_wp2
      go_ret
      exact ⟨rfl, rfl⟩

/-- is n / d in lowest terms? -/
def lowB (n d : Int) : Bool := decide (Int.gcd n d = 1)

theorem u64_neg {n : Int} (h : n < 0) (h' : -9223372036854775808 ≤ n) : Value.int .u64 (IntKind.u64.wrap (-IntKind.u64.wrap n)) = .int .u64 (n.natAbs : Nat) := by
  congr 1
  simp only [IntKind.wrap_u64]
  omega
theorem u64_cast {n : Int} {m : Nat} (h : n = (m : Int)) : Value.int .u64 n = .int .u64 (m : Nat) := by rw [h]

theorem lowestB_calls (n d : Int) (w : World) (hn0 : -9223372036854775808 ≤ n) (hn1 : n ≤ 9223372036854775807) (hd0 : 1 ≤ d) (hd1 : d ≤ 9223372036854775807) :
    Calls Tryz.prog 96 #[.agg #[.int .i64 n, .int .i64 d]] w (BRet (.bool (lowB n d)) w) := by
  obtain ⟨G, hG, hl⟩ : ∃ G, Nat.gcd n.natAbs d.toNat = G ∧ lowB n d = decide (G = 1) := ⟨Int.gcd n d, by show _ = Nat.gcd n.natAbs d.natAbs; congr 1; omega, rfl⟩
  rw [hl]
  clear hl
  have HG := Lib.hid hG
  clear hG
  by_cases hs : n < 0
  · go_enter Tryz.func96, Tryz.ntmps96
    go_wp2_with fail
    go_quiet (fail)
    go_wp2_with fail
    go_loopw [3, 4] (fun u v wr => ∃ (x y : Nat), u = .int .u64 x ∧ v = .int .u64 y ∧ x ≤ 9223372036854775808 ∧ y ≤ 9223372036854775808 ∧ Hid (Nat.gcd x y = G) ∧ Below w.heap.size w wr) (fun _ v _ => (intOf v).toNat)
    case atStart => exact ⟨n.natAbs, d.toNat, u64_neg (by omega) (by omega), u64_cast (by omega), by omega, by omega, HG, below_drewN ((Below.refl _ _).alloc (Nat.le_refl _) _) _⟩
    case round =>
      obtain ⟨x, y, rfl, rfl, hx, hy, HX, hbl⟩ := hrel
      by_cases h0 : y = 0
      · subst h0
        have hx1 : (((x : Nat) : Int) == 1) = decide (G = 1) := by
          have := HX.out
          rw [Nat.gcd_zero_right] at this
          subst this
          rw [Bool.eq_iff_iff]; simp; omega
        have H1 := Lib.hid hx1
        clear hx1
        go_wp2
        rw [H1.out]
        go_ret
        exact ⟨rfl, hbl⟩
      · have hb0 : ((y : Int) != 0) = true := by rw [bne_iff_ne]; omega
        have hy0 : (0 : Int) < (y : Int) := by omega
        have hlt := Nat.mod_lt x (show y > 0 by omega)
        have em : (x : Int) % (y : Int) = ((x % y : Nat) : Int) := by simp
        go_wp2_with fail
        go_quiet (fail)
        rw [em]
        go_wp2
        go_roundw
        case rel => exact ⟨y, x % y, rfl, rfl, by omega, by omega, (show Nat.gcd y (x % y) = G by rw [← HX.out, Nat.gcd_comm x y, Nat.gcd_rec y x, Nat.gcd_comm]), below_drewN hbl _⟩
        case measure => simp [intOf]; omega
  · go_enter Tryz.func96, Tryz.ntmps96
    go_wp2_with fail
    go_quiet (fail)
    go_wp2_with fail
    go_loopw [3, 4] (fun u v wr => ∃ (x y : Nat), u = .int .u64 x ∧ v = .int .u64 y ∧ x ≤ 9223372036854775808 ∧ y ≤ 9223372036854775808 ∧ Hid (Nat.gcd x y = G) ∧ Below w.heap.size w wr) (fun _ v _ => (intOf v).toNat)
    case atStart => exact ⟨n.natAbs, d.toNat, u64_cast (by omega), u64_cast (by omega), by omega, by omega, HG, below_drewN ((Below.refl _ _).alloc (Nat.le_refl _) _) _⟩
    case round =>
      obtain ⟨x, y, rfl, rfl, hx, hy, HX, hbl⟩ := hrel
      by_cases h0 : y = 0
      · subst h0
        have hx1 : (((x : Nat) : Int) == 1) = decide (G = 1) := by
          have := HX.out
          rw [Nat.gcd_zero_right] at this
          subst this
          rw [Bool.eq_iff_iff]; simp; omega
        have H1 := Lib.hid hx1
        clear hx1
        go_wp2
        rw [H1.out]
        go_ret
        exact ⟨rfl, hbl⟩
      · have hb0 : ((y : Int) != 0) = true := by rw [bne_iff_ne]; omega
        have hy0 : (0 : Int) < (y : Int) := by omega
        have hlt := Nat.mod_lt x (show y > 0 by omega)
        have em : (x : Int) % (y : Int) = ((x % y : Nat) : Int) := by simp
        go_wp2_with fail
        go_quiet (fail)
        rw [em]
        go_wp2
        go_roundw
        case rel => exact ⟨y, x % y, rfl, rfl, by omega, by omega, (show Nat.gcd y (x % y) = G by rw [← HX.out, Nat.gcd_comm x y, Nat.gcd_rec y x, Nat.gcd_comm]), below_drewN hbl _⟩
        case measure => simp [intOf]; omega
end Go.Proofs.YthbcogekfdllmaaGreat
/-
  Keys: only, base.Key and splitref2.Key by contracts: both answer keyB.
-/
namespace Go.Proofs.YthbcogekfdllmaaGreat
open Go Go.RowKit

set_option maxRecDepth 100000 in
theorem indexByte_calls (s : ByteArray) (c : Int) (w : World) :
    Calls Tryz.prog 76 #[.string s, .int .u8 c] w fun e w' => e = .returned (.int .i64 (Lib.indexByte s.data.toList c.toNat.toUInt8)) ∧ w = w' := by
  go_enter Tryz.func76, Tryz.ntmps76
  go_wp2
  rw [run_callFunc_extern Tryz.func122 (by kernel_rfl) (by kernel_rfl) (by kernel_rfl) (e := Extern.BytealgIndexByte.indexByte) (by kernel_rfl), Lib.run_indexByteString]
  simp only [Result.andThen]
  rw [Oper.upon_value]
  go_wp2
  go_ret
  exact ⟨rfl, rfl⟩

theorem take_snoc (s : ByteArray) (k : Nat) (h : k < s.size) : s.data.toList.take (k + 1) = s.data.toList.take k ++ [s[k]] := by
  rw [List.take_succ_eq_append_getElem (by simpa using h)]; rfl

/-- has l none but bytes of m? -/
def onlyB (l m : List UInt8) : Bool := l.all fun c => m.contains c
theorem onlyB_snoc (l m : List UInt8) (c : UInt8) : onlyB (l ++ [c]) m = (onlyB l m && m.contains c) := by simp [onlyB]
theorem onlyB_no {l m : List UInt8} {c : UInt8} (h : c ∈ l) (h' : m.contains c = false) : onlyB l m = false := by
  unfold onlyB
  rw [List.all_eq_false]
  exact ⟨c, h, by simpa using h'⟩
theorem byte_back (c : UInt8) : ((c.toNat : Int)).toNat.toUInt8 = c := by simp

set_option maxRecDepth 100000 in
theorem only_calls (s m : ByteArray) (w : World) (hs : s.size ≤ maxLen) :
    Calls Tryz.prog 60 #[.string s, .string m] w fun e w' => e = .returned (.bool (onlyB s.data.toList m.data.toList)) ∧ w = w' := by
  unfold maxLen at hs
  go_enter Tryz.func60, Tryz.ntmps60
  go_wp2
  go_loop [8] (fun i => ∃ k : Nat, k ≤ s.size ∧ i = .int .i64 k ∧ Hid (onlyB (s.data.toList.take k) m.data.toList = true)) (fun i => s.size - (intOf i).toNat)
  case atStart => exact ⟨0, Nat.zero_le _, rfl, by simp [Hid, onlyB]⟩
  case round =>
    obtain ⟨k, hk, rfl, HO⟩ := hrel
    by_cases hlt : k < s.size
    · have hc := Lib.contains_iff_indexByte m.data.toList s[k]
      have hsn := onlyB_snoc (s.data.toList.take k) m.data.toList s[k]
      rw [← take_snoc s k hlt, HO.out, Bool.true_and] at hsn
      have hmem : s[k] ∈ s.data.toList := by
        show s.data.toList[k]'(by simpa using hlt) ∈ _
        exact List.getElem_mem _
      have hn := onlyB_no (m := m.data.toList) hmem
      by_cases hin : m.data.toList.contains s[k] = true
      · rw [hin] at hc hsn
        have hge : 0 ≤ Lib.indexByte m.data.toList s[k] := by simpa using hc.symm
        have hc' := fun W => indexByte_calls m (s[k].toNat : Int) W
        rw [byte_back] at hc'
        have HC := Lib.hid hc'
        have HS := Lib.hid hsn
        clear hc' hc hn hin hsn
        go_wp2_with fail
        refine (HC.out _).mono ?_
        rintro e w' ⟨rfl, rfl⟩
        go_wp2
        go_round
        case rel => exact ⟨k + 1, by omega, by go_num, HS⟩
        case measure => simp [intOf]; omega
      · have hf : m.data.toList.contains s[k] = false := by simpa using hin
        rw [hf] at hc
        have hge : Lib.indexByte m.data.toList s[k] < 0 := by
          have := of_decide_eq_false hc.symm
          omega
        have hc' := fun W => indexByte_calls m (s[k].toNat : Int) W
        rw [byte_back] at hc'
        have HC := Lib.hid hc'
        have HN := Lib.hid (hn hf)
        clear hc' hc hn hin hsn hf
        go_wp2_with fail
        refine (HC.out _).mono ?_
        rintro e w' ⟨rfl, rfl⟩
        go_wp2
        go_ret
        exact ⟨ret_bool HN.out.symm, rfl⟩
    · go_wp2
      go_ret
      exact ⟨ret_bool (by rw [← HO.out, List.take_of_length_le (by simp; omega)]), rfl⟩
end Go.Proofs.YthbcogekfdllmaaGreat
