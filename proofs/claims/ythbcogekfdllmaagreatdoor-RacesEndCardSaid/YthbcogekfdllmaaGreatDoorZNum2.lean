/-
  Numbers, on: base.Lowest (its loop over uint64), in, Out, sign by contracts.
-/
import Derived.Test.YthbcogekfdllmaaGreatDoorZFlat
import Derived.Lib.Bytealg
import Derived.Lib.IndexAny
import Derived.Lib.Strings
namespace Go.Proofs.YthbcogekfdllmaaGreatDoor
open Go Go.RowKit

/-- is n not from lo to hi? -/
def outB (n lo hi : Int) : Bool := decide (n < lo ∨ hi < n)
theorem outB_t {n lo hi : Int} (h : n < lo ∨ hi < n) : outB n lo hi = true := by unfold outB; simpa using h
theorem outB_f {n lo hi : Int} (h : lo ≤ n) (h' : n ≤ hi) : outB n lo hi = false := by unfold outB; simp; omega
theorem out_calls (n lo hi : Int) (w : World) : Calls Tryz.prog 66 #[.int .i64 n, .int .i64 lo, .int .i64 hi] w fun e w' => e = .returned (.bool (outB n lo hi)) ∧ w = w' := by
  by_cases h1 : n < lo
  · rw [outB_t (.inl h1)]
    go_enter Tryz.func66, Tryz.ntmps66
    go_wp2
    go_ret
    exact ⟨rfl, rfl⟩
  · by_cases h2 : hi < n
    · rw [outB_t (.inr h2)]
      go_enter Tryz.func66, Tryz.ntmps66
      go_wp2
      go_ret
      exact ⟨rfl, rfl⟩
    · rw [outB_f (by omega) (by omega)]
      go_enter Tryz.func66, Tryz.ntmps66
      go_wp2
      go_ret
      exact ⟨rfl, rfl⟩

/-- is n / d in lowest terms? -/
def lowB (n d : Int) : Bool := decide (Int.gcd n d = 1)

theorem u64_neg {n : Int} (h : n < 0) (h' : -9223372036854775808 ≤ n) : Value.int .u64 (IntKind.u64.wrap (-IntKind.u64.wrap n)) = .int .u64 (n.natAbs : Nat) := by
  congr 1
  simp only [IntKind.wrap_u64]
  omega
theorem u64_cast {n : Int} {m : Nat} (h : n = (m : Int)) : Value.int .u64 n = .int .u64 (m : Nat) := by rw [h]

theorem lowestB_calls (n d : Int) (w : World) (hn0 : -9223372036854775808 ≤ n) (hn1 : n ≤ 9223372036854775807) (hd0 : 1 ≤ d) (hd1 : d ≤ 9223372036854775807) :
    Calls Tryz.prog 168 #[.agg #[.int .i64 n, .int .i64 d]] w (BRet (.bool (lowB n d)) w) := by
  obtain ⟨G, hG, hl⟩ : ∃ G, Nat.gcd n.natAbs d.toNat = G ∧ lowB n d = decide (G = 1) := ⟨Int.gcd n d, by show _ = Nat.gcd n.natAbs d.natAbs; congr 1; omega, rfl⟩
  rw [hl]
  clear hl
  have HG := Lib.hid hG
  clear hG
  by_cases hs : n < 0
  · go_enter Tryz.func168, Tryz.ntmps168
    go_wp2_with fail
    go_quiet (fail)
    go_wp2_with fail
    go_loopw [3, 4] (fun u v wr => ∃ (x y : Nat), u = .int .u64 x ∧ v = .int .u64 y ∧ x ≤ 9223372036854775808 ∧ y ≤ 9223372036854775808 ∧ Hid (Nat.gcd x y = G) ∧ Below w.heap.size w wr) (fun _ v _ => (intOf v).toNat)
    case atStart => exact ⟨n.natAbs, d.toNat, u64_neg (by omega) (by omega), u64_cast (by omega), by omega, by omega, HG, below_drewN ((Below.refl _ _).alloc (Nat.le_refl _) _) _⟩
    case round =>
      obtain ⟨x, y, rfl, rfl, hx, hy, HX, hbl⟩ := hrel
      by_cases h0 : y = 0
      · subst h0
        have hx1 : (((x : Nat) : Int) == 1) = decide (G = 1) := by
          have := HX.out
          rw [Nat.gcd_zero_right] at this
          subst this
          rw [Bool.eq_iff_iff]; simp; omega
        have H1 := Lib.hid hx1
        clear hx1
        go_wp2
        rw [H1.out]
        go_ret
        exact ⟨rfl, hbl⟩
      · have hb0 : ((y : Int) != 0) = true := by rw [bne_iff_ne]; omega
        have hy0 : (0 : Int) < (y : Int) := by omega
        have hlt := Nat.mod_lt x (show y > 0 by omega)
        have em : (x : Int) % (y : Int) = ((x % y : Nat) : Int) := by simp
        go_wp2_with fail
        go_quiet (fail)
        rw [em]
        go_wp2
        go_roundw
        case rel => exact ⟨y, x % y, rfl, rfl, by omega, by omega, (show Nat.gcd y (x % y) = G by rw [← HX.out, Nat.gcd_comm x y, Nat.gcd_rec y x, Nat.gcd_comm]), below_drewN hbl _⟩
        case measure => simp [intOf]; omega
  · go_enter Tryz.func168, Tryz.ntmps168
    go_wp2_with fail
    go_quiet (fail)
    go_wp2_with fail
    go_loopw [3, 4] (fun u v wr => ∃ (x y : Nat), u = .int .u64 x ∧ v = .int .u64 y ∧ x ≤ 9223372036854775808 ∧ y ≤ 9223372036854775808 ∧ Hid (Nat.gcd x y = G) ∧ Below w.heap.size w wr) (fun _ v _ => (intOf v).toNat)
    case atStart => exact ⟨n.natAbs, d.toNat, u64_cast (by omega), u64_cast (by omega), by omega, by omega, HG, below_drewN ((Below.refl _ _).alloc (Nat.le_refl _) _) _⟩
    case round =>
      obtain ⟨x, y, rfl, rfl, hx, hy, HX, hbl⟩ := hrel
      by_cases h0 : y = 0
      · subst h0
        have hx1 : (((x : Nat) : Int) == 1) = decide (G = 1) := by
          have := HX.out
          rw [Nat.gcd_zero_right] at this
          subst this
          rw [Bool.eq_iff_iff]; simp; omega
        have H1 := Lib.hid hx1
        clear hx1
        go_wp2
        rw [H1.out]
        go_ret
        exact ⟨rfl, hbl⟩
      · have hb0 : ((y : Int) != 0) = true := by rw [bne_iff_ne]; omega
        have hy0 : (0 : Int) < (y : Int) := by omega
        have hlt := Nat.mod_lt x (show y > 0 by omega)
        have em : (x : Int) % (y : Int) = ((x % y : Nat) : Int) := by simp
        go_wp2_with fail
        go_quiet (fail)
        rw [em]
        go_wp2
        go_roundw
        case rel => exact ⟨y, x % y, rfl, rfl, by omega, by omega, (show Nat.gcd y (x % y) = G by rw [← HX.out, Nat.gcd_comm x y, Nat.gcd_rec y x, Nat.gcd_comm]), below_drewN hbl _⟩
        case measure => simp [intOf]; omega
end Go.Proofs.YthbcogekfdllmaaGreatDoor
/-
  Keys: only, base.Key and splitref2.Key by contracts: both answer keyB.
-/
namespace Go.Proofs.YthbcogekfdllmaaGreatDoor
open Go Go.RowKit

set_option maxRecDepth 100000 in
theorem indexByte_calls (s : ByteArray) (c : Int) (w : World) :
    Calls Tryz.prog 196 #[.string s, .int .u8 c] w fun e w' => e = .returned (.int .i64 (Lib.indexByte s.data.toList c.toNat.toUInt8)) ∧ w = w' := by
  go_enter Tryz.func196, Tryz.ntmps196
  go_wp2
  rw [run_callFunc_extern Tryz.func254 (by kernel_rfl) (by kernel_rfl) (by kernel_rfl) (e := Extern.BytealgIndexByte.indexByte) (by kernel_rfl), Lib.run_indexByteString]
  simp only [Result.andThen]
  rw [Oper.upon_value]
  go_wp2
  go_ret
  exact ⟨rfl, rfl⟩

theorem take_snoc (s : ByteArray) (k : Nat) (h : k < s.size) : s.data.toList.take (k + 1) = s.data.toList.take k ++ [s[k]] := by
  rw [List.take_succ_eq_append_getElem (by simpa using h)]; rfl

theorem byte_back (c : UInt8) : ((c.toNat : Int)).toNat.toUInt8 = c := by simp

end Go.Proofs.YthbcogekfdllmaaGreatDoor
