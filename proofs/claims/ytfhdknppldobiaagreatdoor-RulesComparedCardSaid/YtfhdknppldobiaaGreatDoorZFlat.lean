/-
  Slices of structs: their cells, a field that is stored; what quiet and memory-making calls answer. No Go text is named here.
-/
import Derived.Test.YtfhdknppldobiaaGreatDoorZBase
import Derived.Test.YtfhdknppldobiaaGreatDoorProg
import Derived.RegionTactic
import Derived.BigRegion
import Derived.Outline
import Derived.Lib.Bytealg
import Derived.Lib.IndexAny
import Derived.Lib.Strings
namespace Go.Proofs.YtfhdknppldobiaaGreatDoor
open Go Go.RowKit

theorem flat_get {α : Type} (f : α → List Value) (k : Nat) (hf : ∀ a, (f a).length = k) : ∀ (rs : List α) (i j : Nat) (hi : i < rs.length), j < k → (rs.flatMap f)[i * k + j]? = (f rs[i])[j]?
  | [], i, j, hi, _ => by simp at hi
  | r :: rs, 0, j, _, hj => by
    simp only [List.flatMap_cons, Nat.zero_mul, Nat.zero_add, List.getElem_cons_zero]
    rw [List.getElem?_append_left (by rw [hf]; exact hj)]
  | r :: rs, i + 1, j, hi, hj => by
    simp only [List.flatMap_cons, List.getElem_cons_succ]
    rw [List.getElem?_append_right (by rw [hf, Nat.add_mul]; omega), hf, show (i + 1) * k + j - k = i * k + j by rw [Nat.add_mul]; omega]
    exact flat_get f k hf rs i j (by simpa using hi) hj
theorem flat_len {α : Type} (f : α → List Value) (k : Nat) (hf : ∀ a, (f a).length = k) (rs : List α) : (rs.flatMap f).length = rs.length * k := by
  induction rs with
  | nil => simp
  | cons r rs ih => simp only [List.flatMap_cons, List.length_append, hf, ih, List.length_cons, Nat.add_mul]; omega
theorem flat_set {α : Type} (f : α → List Value) (k : Nat) (hf : ∀ a, (f a).length = k) (u : Value) : ∀ (rs : List α) (i j : Nat) (hi : i < rs.length) (r' : α), j < k → f r' = (f rs[i]).set j u → (rs.flatMap f).set (i * k + j) u = (rs.set i r').flatMap f
  | [], i, j, hi, _, _, _ => by simp at hi
  | r :: rs, 0, j, _, r', hj, h => by
    simp only [List.flatMap_cons, Nat.zero_mul, Nat.zero_add, List.set_cons_zero, List.getElem_cons_zero] at h ⊢
    rw [h, List.set_append_left _ _ (by rw [hf]; exact hj)]
  | r :: rs, i + 1, j, hi, r', hj, h => by
    simp only [List.flatMap_cons, List.set_cons_succ, List.getElem_cons_succ] at h ⊢
    rw [List.set_append_right _ _ (by rw [hf, Nat.add_mul]; omega), hf, show (i + 1) * k + j - k = i * k + j by rw [Nat.add_mul]; omega, flat_set f k hf u rs i j (by simpa using hi) r' hj h]
/-- a field of an owned struct is stored -/
theorem own_store {α : Type} {w : World} {base : Nat} {e : TypeId} {g cap : Nat} (f : α → List Value) (k : Nat) (hf : ∀ a, (f a).length = k) {rs : List α}
    (h : w.ownsRow base e k (.slice (some ⟨g, 0, none⟩) rs.length cap) rs.length (rs.flatMap f)) (i j : Nat) (hi : i < rs.length) (hj : j < k) (u : Value) (r' : α) (hr : f r' = (f rs[i]).set j u) :
    (w.setCell ⟨g, i * k + j, none⟩ u).ownsRow base e k (.slice (some ⟨g, 0, none⟩) (rs.set i r').length cap) (rs.set i r').length ((rs.set i r').flatMap f) := by
  have := (h.stored (i * k + j) u).1
  rw [flat_set f k hf u rs i j hi r' hj hr] at this
  rw [List.length_set]
  exact this
theorem own_cell {α : Type} {w : World} {base : Nat} {e : TypeId} {g cap n : Nat} (f : α → List Value) (k : Nat) (hf : ∀ a, (f a).length = k) {rs : List α}
    (h : w.ownsRow base e k (.slice (some ⟨g, 0, none⟩) n cap) n (rs.flatMap f)) (i j : Nat) (hi : i < rs.length) (hn : i < n) (hj : j < k) : w.cell? ⟨g, i * k + j, none⟩ = (f rs[i])[j]? := by
  rw [h.cellAt (i * k + j) (by
    calc i * k + j < i * k + k := by omega
      _ = (i + 1) * k := by rw [Nat.add_mul, Nat.one_mul]
      _ ≤ n * k := Nat.mul_le_mul_right _ hn), flat_get f k hf rs i j hi hj]
/-- the cells of a slice of structs -/
theorem Rd.cells {α : Type} {w : World} {b k n c : Nat} {A : Option Addr} {f : α → List Value} {rs : List α} (h : Rd w b k (.slice A n c) n (rs.flatMap f)) (hf : ∀ a, (f a).length = k) (hk : 0 < k) :
    rs.length = n ∧ n ≤ c ∧ c ≤ maxLen ∧ (0 < n → ∃ g o, A = some ⟨g, o, none⟩ ∧ g ≠ b ∧ ∀ i (hi : i < rs.length) j, j < k → w.cell? ⟨g, o + i * k + j, none⟩ = (f rs[i])[j]?) := by
  obtain ⟨A', c', e1, e2, e3, e4, e5, e6⟩ := h
  injection e1 with ea eb ec
  subst ea ec
  have hl : rs.length = n := by
    have := e4
    rw [flat_len f k hf] at this
    exact Nat.eq_of_mul_eq_mul_right hk this
  refine ⟨hl, e2, e3, fun hn => ?_⟩
  obtain ⟨g, o, f1, f2, f3⟩ := e6 hn
  refine ⟨g, o, f1, f2, fun i hi j hj => ?_⟩
  have hg := flat_get f k hf rs i j hi hj
  have hlt : j < (f rs[i]).length := by rw [hf]; exact hj
  rw [List.getElem?_eq_getElem hlt] at hg ⊢
  rw [Nat.add_assoc]
  exact f3 _ _ hg
theorem own_base {w : World} {base base' : Nat} {e : TypeId} {size n : Nat} {v : Value} {xs : List Value} (h : w.ownsRow base e size v n xs) (hb : base' ≤ base) : w.ownsRow base' e size v n xs := by
  refine ⟨h.1, ?_⟩
  rcases h.2 with h' | ⟨g, cap, cur, h1, h2, h3⟩
  · exact .inl h'
  · exact .inr ⟨g, cap, cur, h1, by omega, h3⟩
/-- the call returns v and at most draws -/
def QRet (v : Value) (w : World) (e : Ending) (w' : World) : Prop := e = .returned v ∧ ∃ n, w' = w.drewN n
/-- the call returns v and has made at most new memory -/
def BRet (v : Value) (w : World) (e : Ending) (w' : World) : Prop := e = .returned v ∧ Below w.heap.size w w'
theorem ret_int {k : IntKind} {a b : Int} (h : a = b) : Ending.returned (.int k a) = .returned (.int k b) := by rw [h]
end Go.Proofs.YtfhdknppldobiaaGreatDoor
/-
  Numbers: Gcd, Lowest, Fraction, divisor, plus, sign, in, Out by contracts.
-/
namespace Go.Proofs.YtfhdknppldobiaaGreatDoor
open Go Go.RowKit

theorem QRet.b {v : Value} {w w' : World} {e : Ending} (h : QRet v w e w') : BRet v w e w' := by
  obtain ⟨rfl, n, rfl⟩ := h
  exact ⟨rfl, below_drewN (Below.refl _ _) n⟩

theorem ret_bool {a b : Bool} (h : a = b) : Ending.returned (.bool a) = .returned (.bool b) := by rw [h]
end Go.Proofs.YtfhdknppldobiaaGreatDoor
/-
  Numbers, on: base.Lowest (its loop over uint64), in, Out, sign by contracts.
-/
namespace Go.Proofs.YtfhdknppldobiaaGreatDoor
open Go Go.RowKit

/-- is n not from lo to hi? -/
def outB (n lo hi : Int) : Bool := decide (n < lo ∨ hi < n)
theorem outB_t {n lo hi : Int} (h : n < lo ∨ hi < n) : outB n lo hi = true := by unfold outB; simpa using h
theorem outB_f {n lo hi : Int} (h : lo ≤ n) (h' : n ≤ hi) : outB n lo hi = false := by unfold outB; simp; omega
theorem out_calls (n lo hi : Int) (w : World) : Calls Tryz.prog 129 #[.int .i64 n, .int .i64 lo, .int .i64 hi] w fun e w' => e = .returned (.bool (outB n lo hi)) ∧ w = w' := by
  by_cases h1 : n < lo
  · rw [outB_t (.inl h1)]
    go_enter Tryz.func129, Tryz.ntmps129
    go_wp2
    go_ret
    exact ⟨rfl, rfl⟩
  · by_cases h2 : hi < n
    · rw [outB_t (.inr h2)]
      go_enter Tryz.func129, Tryz.ntmps129
      go_wp2
      go_ret
      exact ⟨rfl, rfl⟩
    · rw [outB_f (by omega) (by omega)]
      go_enter Tryz.func129, Tryz.ntmps129
      go_wp2
      go_ret
      exact ⟨rfl, rfl⟩

theorem in_calls (n lo hi : Int) (w : World) : Calls Tryz.prog 86 #[.int .i64 n, .int .i64 lo, .int .i64 hi] w fun e w' => e = .returned (.bool (!outB n lo hi)) ∧ w = w' := by
  by_cases h1 : n < lo
  · rw [outB_t (.inl h1)]
    have h1' : ¬ lo ≤ n := by omega
    go_enter Tryz.func86, Tryz.ntmps86
    go_wp2
    go_ret
    exact ⟨rfl, rfl⟩
  · by_cases h2 : hi < n
    · rw [outB_t (.inr h2)]
      have h1' : lo ≤ n := by omega
      have h2' : ¬ n ≤ hi := by omega
      go_enter Tryz.func86, Tryz.ntmps86
      go_wp2
      go_ret
      exact ⟨rfl, rfl⟩
    · rw [outB_f (by omega) (by omega)]
      have h1' : lo ≤ n := by omega
      have h2' : n ≤ hi := by omega
      go_enter Tryz.func86, Tryz.ntmps86
      go_wp2
      go_ret
      exact ⟨rfl, rfl⟩


end Go.Proofs.YtfhdknppldobiaaGreatDoor
/-
  Keys: only, base.Key and splitref2.Key by contracts: both answer keyB.
-/
namespace Go.Proofs.YtfhdknppldobiaaGreatDoor
open Go Go.RowKit

set_option maxRecDepth 100000 in
theorem indexByte_calls (s : ByteArray) (c : Int) (w : World) :
    Calls Tryz.prog 173 #[.string s, .int .u8 c] w fun e w' => e = .returned (.int .i64 (Lib.indexByte s.data.toList c.toNat.toUInt8)) ∧ w = w' := by
  go_enter Tryz.func173, Tryz.ntmps173
  go_wp2
  rw [run_callFunc_extern Tryz.func255 (by kernel_rfl) (by kernel_rfl) (by kernel_rfl) (e := Extern.BytealgIndexByte.indexByte) (by kernel_rfl), Lib.run_indexByteString]
  simp only [Result.andThen]
  rw [Oper.upon_value]
  go_wp2
  go_ret
  exact ⟨rfl, rfl⟩

theorem take_snoc (s : ByteArray) (k : Nat) (h : k < s.size) : s.data.toList.take (k + 1) = s.data.toList.take k ++ [s[k]] := by
  rw [List.take_succ_eq_append_getElem (by simpa using h)]; rfl

/-- has l none but bytes of m? -/
def onlyB (l m : List UInt8) : Bool := l.all fun c => m.contains c
theorem onlyB_snoc (l m : List UInt8) (c : UInt8) : onlyB (l ++ [c]) m = (onlyB l m && m.contains c) := by simp [onlyB]
theorem onlyB_no {l m : List UInt8} {c : UInt8} (h : c ∈ l) (h' : m.contains c = false) : onlyB l m = false := by
  unfold onlyB
  rw [List.all_eq_false]
  exact ⟨c, h, by simpa using h'⟩
theorem byte_back (c : UInt8) : ((c.toNat : Int)).toNat.toUInt8 = c := by simp

set_option maxRecDepth 100000 in
theorem only_calls (s m : ByteArray) (w : World) (hs : s.size ≤ maxLen) :
    Calls Tryz.prog 126 #[.string s, .string m] w fun e w' => e = .returned (.bool (onlyB s.data.toList m.data.toList)) ∧ w = w' := by
  unfold maxLen at hs
  go_enter Tryz.func126, Tryz.ntmps126
  go_wp2
  go_loop [8] (fun i => ∃ k : Nat, k ≤ s.size ∧ i = .int .i64 k ∧ Hid (onlyB (s.data.toList.take k) m.data.toList = true)) (fun i => s.size - (intOf i).toNat)
  case atStart => exact ⟨0, Nat.zero_le _, rfl, by simp [Hid, onlyB]⟩
  case round =>
    obtain ⟨k, hk, rfl, HO⟩ := hrel
    by_cases hlt : k < s.size
    · have hc := Lib.contains_iff_indexByte m.data.toList s[k]
      have hsn := onlyB_snoc (s.data.toList.take k) m.data.toList s[k]
      rw [← take_snoc s k hlt, HO.out, Bool.true_and] at hsn
      have hmem : s[k] ∈ s.data.toList := by
        show s.data.toList[k]'(by simpa using hlt) ∈ _
        exact List.getElem_mem _
      have hn := onlyB_no (m := m.data.toList) hmem
      by_cases hin : m.data.toList.contains s[k] = true
      · rw [hin] at hc hsn
        have hge : 0 ≤ Lib.indexByte m.data.toList s[k] := by simpa using hc.symm
        have hc' := fun W => indexByte_calls m (s[k].toNat : Int) W
        rw [byte_back] at hc'
        have HC := Lib.hid hc'
        have HS := Lib.hid hsn
        clear hc' hc hn hin hsn
        go_wp2_with fail
        refine (HC.out _).mono ?_
        rintro e w' ⟨rfl, rfl⟩
        go_wp2
        go_round
        case rel => exact ⟨k + 1, by omega, by go_num, HS⟩
        case measure => simp [intOf]; omega
      · have hf : m.data.toList.contains s[k] = false := by simpa using hin
        rw [hf] at hc
        have hge : Lib.indexByte m.data.toList s[k] < 0 := by
          have := of_decide_eq_false hc.symm
          omega
        have hc' := fun W => indexByte_calls m (s[k].toNat : Int) W
        rw [byte_back] at hc'
        have HC := Lib.hid hc'
        have HN := Lib.hid (hn hf)
        clear hc' hc hn hin hsn hf
        go_wp2_with fail
        refine (HC.out _).mono ?_
        rintro e w' ⟨rfl, rfl⟩
        go_wp2
        go_ret
        exact ⟨ret_bool HN.out.symm, rfl⟩
    · go_wp2
      go_ret
      exact ⟨ret_bool (by rw [← HO.out, List.take_of_length_le (by simp; omega)]), rfl⟩
end Go.Proofs.YtfhdknppldobiaaGreatDoor
