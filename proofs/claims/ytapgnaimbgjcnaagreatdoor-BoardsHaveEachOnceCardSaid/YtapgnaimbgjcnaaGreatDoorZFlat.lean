/-
  Slices of structs: their cells, a field that is stored; what quiet and memory-making calls answer. No Go text is named here.
-/
import Derived.Test.YtapgnaimbgjcnaaGreatDoorZBase
import Derived.Test.YtapgnaimbgjcnaaGreatDoorProg
import Derived.RegionTactic
import Derived.BigRegion
import Derived.Outline
import Derived.Lib.Bytealg
import Derived.Lib.IndexAny
import Derived.Lib.Strings
import Derived.Lib.IndexBytes
import Derived.ChangeAlike
namespace Go.Proofs.YtapgnaimbgjcnaaGreatDoor
open Go Go.RowKit
theorem flat_get {α : Type} (f : α → List Value) (k : Nat) (hf : ∀ a, (f a).length = k) : ∀ (rs : List α) (i j : Nat) (hi : i < rs.length), j < k → (rs.flatMap f)[i * k + j]? = (f rs[i])[j]?
 | [], i, j, hi, _ => by simp at hi
 | r :: rs, 0, j, _, hj => by
   simp only [List.flatMap_cons, Nat.zero_mul, Nat.zero_add, List.getElem_cons_zero]
   rw [List.getElem?_append_left (by rw [hf]; exact hj)]
 | r :: rs, i + 1, j, hi, hj => by
   simp only [List.flatMap_cons, List.getElem_cons_succ]
   rw [List.getElem?_append_right (by rw [hf, Nat.add_mul]; omega), hf, show (i + 1) * k + j - k = i * k + j by rw [Nat.add_mul]; omega]
   exact flat_get f k hf rs i j (by simpa using hi) hj
theorem flat_len {α : Type} (f : α → List Value) (k : Nat) (hf : ∀ a, (f a).length = k) (rs : List α) : (rs.flatMap f).length = rs.length * k := by
 induction rs with
 | nil => simp
 | cons r rs ih => simp only [List.flatMap_cons, List.length_append, hf, ih, List.length_cons, Nat.add_mul]; omega
theorem own_cell {α : Type} {w : World} {base : Nat} {e : TypeId} {g cap n : Nat} (f : α → List Value) (k : Nat) (hf : ∀ a, (f a).length = k) {rs : List α}
 (h : w.ownsRow base e k (.slice (some ⟨g, 0, none⟩) n cap) n (rs.flatMap f)) (i j : Nat) (hi : i < rs.length) (hn : i < n) (hj : j < k) : w.cell? ⟨g, i * k + j, none⟩ = (f rs[i])[j]? := by
 rw [h.cellAt (i * k + j) (by
  calc i * k + j < i * k + k := by omega
   _ = (i + 1) * k := by rw [Nat.add_mul, Nat.one_mul]
   _ ≤ n * k := Nat.mul_le_mul_right _ hn), flat_get f k hf rs i j hi hj]
theorem Rd.cells {α : Type} {w : World} {b k n c : Nat} {A : Option Addr} {f : α → List Value} {rs : List α} (h : Rd w b k (.slice A n c) n (rs.flatMap f)) (hf : ∀ a, (f a).length = k) (hk : 0 < k) :
 rs.length = n ∧ n ≤ c ∧ c ≤ maxLen ∧ (0 < n → ∃ g o, A = some ⟨g, o, none⟩ ∧ g ≠ b ∧ ∀ i (hi : i < rs.length) j, j < k → w.cell? ⟨g, o + i * k + j, none⟩ = (f rs[i])[j]?) := by
 obtain ⟨A', c', e1, e2, e3, e4, e5, e6⟩ := h
 injection e1 with ea eb ec
 subst ea ec
 have hl : rs.length = n := by
  have := e4
  rw [flat_len f k hf] at this
  exact Nat.eq_of_mul_eq_mul_right hk this
 refine ⟨hl, e2, e3, fun hn => ?_⟩
 obtain ⟨g, o, f1, f2, f3⟩ := e6 hn
 refine ⟨g, o, f1, f2, fun i hi j hj => ?_⟩
 have hg := flat_get f k hf rs i j hi hj
 have hlt : j < (f rs[i]).length := by rw [hf]; exact hj
 rw [List.getElem?_eq_getElem hlt] at hg ⊢
 rw [Nat.add_assoc]
 exact f3 _ _ hg
theorem own_base {w : World} {base base' : Nat} {e : TypeId} {size n : Nat} {v : Value} {xs : List Value} (h : w.ownsRow base e size v n xs) (hb : base' ≤ base) : w.ownsRow base' e size v n xs := by
 refine ⟨h.1, ?_⟩
 rcases h.2 with h' | ⟨g, cap, cur, h1, h2, h3⟩
 · exact .inl h'
 · exact .inr ⟨g, cap, cur, h1, by omega, h3⟩
def QRet (v : Value) (w : World) (e : Ending) (w' : World) : Prop := e = .returned v ∧ ∃ n, w' = w.drewN n
def BRet (v : Value) (w : World) (e : Ending) (w' : World) : Prop := e = .returned v ∧ Below w.heap.size w w'
theorem ret_int {k : IntKind} {a b : Int} (h : a = b) : Ending.returned (.int k a) = .returned (.int k b) := by rw [h]
end Go.Proofs.YtapgnaimbgjcnaaGreatDoor
/-
  The arithmetic of ratings: fractions in lowest terms, rounding half away from 0. No Go text is named here.
-/
namespace Go.Proofs.YtapgnaimbgjcnaaGreatDoor.RatP
def lowN (n d : Int) : Int := n / (Int.gcd n d : Int)
def lowD (n d : Int) : Int := d / (Int.gcd n d : Int)
def expd (A B : Int) : Int := min 800000 (max 0 (400000 + A - B))
theorem expd_bd (A B : Int) : 0 ≤ expd A B ∧ expd A B ≤ 800000 := by unfold expd; omega
end Go.Proofs.YtapgnaimbgjcnaaGreatDoor.RatP
/-
  Numbers: Gcd, Lowest, Fraction, divisor, plus, sign, in, Out by contracts.
-/
namespace Go.Proofs.YtapgnaimbgjcnaaGreatDoor
open Go Go.RowKit
theorem QRet.b {v : Value} {w w' : World} {e : Ending} (h : QRet v w e w') : BRet v w e w' := by
 obtain ⟨rfl, n, rfl⟩ := h
 exact ⟨rfl, below_drewN (Below.refl _ _) n⟩
theorem ret_bool {a b : Bool} (h : a = b) : Ending.returned (.bool a) = .returned (.bool b) := by rw [h]
theorem drew_add (w : World) (a b : Nat) : (w.drewN a).drewN b = w.drewN (a + b) := by rw [World.drewN_drewN]
theorem gcd_calls (a b : Nat) (w : World) (ha : a ≤ 9223372036854775807) (hb : b ≤ 9223372036854775807) :
 Calls Tryz.prog 133 #[.int .i64 a, .int .i64 b] w (QRet (.int .i64 (Nat.gcd a b : Nat)) w) := by
 obtain ⟨G, hG⟩ : ∃ G, Nat.gcd a b = G := ⟨_, rfl⟩
 rw [hG]
 have HG := Lib.hid hG
 clear hG
 go_enter Tryz.func133, Tryz.ntmps133
 go_wp2
 go_loopw [0, 1] (fun u v wr => ∃ x y nq : Nat, u = .int .i64 x ∧ v = .int .i64 y ∧ x ≤ 9223372036854775807 ∧ y ≤ 9223372036854775807 ∧ Hid (Nat.gcd x y = G) ∧ wr = w.drewN nq) (fun _ v _ => (intOf v).toNat)
 case atStart => exact ⟨a, b, 0, rfl, rfl, ha, hb, HG, rfl⟩
 case round =>
  obtain ⟨x, y, nq, rfl, rfl, hx, hy, HX, rfl⟩ := hrel
  by_cases h0 : y = 0
  · subst h0
    go_wp2
    go_ret
    exact ⟨ret_int (by rw [← HX.out, Nat.gcd_zero_right]), nq, rfl⟩
  · have hb0 : ((y : Int) != 0) = true := by rw [bne_iff_ne]; omega
    have hy0 : (0 : Int) < (y : Int) := by omega
    have hlt := Nat.mod_lt x (show y > 0 by omega)
    have em : (x : Int) % (y : Int) = ((x % y : Nat) : Int) := by simp
    go_wp2_with fail
    go_quiet (fail)
    rw [em]
    go_wp2
    go_roundw
    case rel => exact ⟨y, x % y, _, rfl, rfl, hy, by omega, (show Nat.gcd y (x % y) = G by rw [← HX.out, Nat.gcd_comm x y, Nat.gcd_rec y x, Nat.gcd_comm]), drew_add _ _ _⟩
    case measure => simp [intOf]; omega
def FracB (n d : Int) (w : World) (e : Ending) (w' : World) : Prop := e = .returned (.agg #[.int .i64 n, .int .i64 d]) ∧ Below w.heap.size w w'
theorem quo_exact {n d : Int} {G : Nat} (h : Int.gcd n d = G) (hd : 0 < d) : n.tdiv (G : Int) = RatP.lowN n d ∧ d / (G : Int) = RatP.lowD n d ∧ 0 < (G : Int) := by
 have hp : 0 < Int.gcd n d := Int.gcd_pos_of_ne_zero_right _ (by omega)
 subst h
 refine ⟨?_, ?_, by omega⟩
 · unfold RatP.lowN
   exact Int.tdiv_eq_ediv_of_dvd (Int.gcd_dvd_left n d)
 · rfl
theorem gcd_callsI (a b : Int) (w : World) (ha0 : 0 ≤ a) (ha : a ≤ 9223372036854775807) (hb0 : 0 ≤ b) (hb : b ≤ 9223372036854775807) :
 Calls Tryz.prog 133 #[.int .i64 a, .int .i64 b] w (QRet (.int .i64 (Int.gcd a b : Nat)) w) := by
 obtain ⟨a, rfl⟩ := Int.eq_ofNat_of_zero_le ha0
 obtain ⟨b, rfl⟩ := Int.eq_ofNat_of_zero_le hb0
 exact gcd_calls a b w (by omega) (by omega)
theorem fraction_calls (n d : Int) (w : World) (hn0 : -9223372036854775807 ≤ n) (hn1 : n ≤ 9223372036854775807) (hd0 : 1 ≤ d) (hd1 : d ≤ 9223372036854775807) :
 Calls Tryz.prog 80 #[.int .i64 n, .int .i64 d] w (FracB (RatP.lowN n d) (RatP.lowD n d) w) := by
 obtain ⟨G, hG⟩ : ∃ G, Int.gcd n d = G := ⟨_, rfl⟩
 obtain ⟨q1, q2, q3⟩ := quo_exact hG (by omega)
 by_cases hs : 0 ≤ n
 · have hc := fun W => gcd_callsI n d W hs hn1 (by omega) hd1
   rw [hG] at hc
   have hq : n / (G : Int) = RatP.lowN n d := by rw [← hG]; rfl
   have g1 : n / (G : Int) ≤ n := Int.ediv_le_self _ hs
   have g2 : 0 ≤ n / (G : Int) := Int.ediv_nonneg hs (by omega)
   have g3 : d / (G : Int) ≤ d := Int.ediv_le_self _ (by omega)
   have g4 : 0 ≤ d / (G : Int) := Int.ediv_nonneg (by omega) (by omega)
   have HC := Lib.hid hc
   have HQ := Lib.hid hq
   have HQ2 := Lib.hid q2
   have hmx : ¬ n < -n := by omega
   clear hG hc q1 q2 hq
   go_enter Tryz.func80, Tryz.ntmps80
   go_wp2_with fail
   refine (HC.out _).mono ?_
   rintro e w' ⟨rfl, nq, rfl⟩
   go_wp2_with fail
   go_region
   go_wp2
   rw [HQ.out, HQ2.out]
   refine bodyPost_ret (v := .agg #[.int .i64 (RatP.lowN n d), .int .i64 (RatP.lowD n d)]) (by simp [results, Tryz.results80, go_sem]) rfl ⟨rfl, ?_⟩
   exact ((below_drewN (((Below.refl _ _).alloc (Nat.le_refl _) _)) _).setCell (p := ⟨w.heap.size, 0, none⟩) (Nat.le_refl _) _).setCell (p := ⟨w.heap.size, 1, none⟩) (Nat.le_refl _) _
 · have hc := fun W => gcd_callsI (-n) d W (by omega) (by omega) (by omega) hd1
   rw [show Int.gcd (-n) d = G from by rw [Int.neg_gcd, hG]] at hc
   have HC := Lib.hid hc
   have HQ := Lib.hid q1
   have HQ2 := Lib.hid q2
   have hmx : n < -n := by omega
   have g3 : d / (G : Int) ≤ d := Int.ediv_le_self _ (by omega)
   have g4 : 0 ≤ d / (G : Int) := Int.ediv_nonneg (by omega) (by omega)
   clear hG hc q1 q2
   go_enter Tryz.func80, Tryz.ntmps80
   go_wp2_with fail
   refine (HC.out _).mono ?_
   rintro e w' ⟨rfl, nq, rfl⟩
   go_wp2_with fail
   go_region
   go_wp2
   rw [HQ.out, HQ2.out]
   refine bodyPost_ret (v := .agg #[.int .i64 (RatP.lowN n d), .int .i64 (RatP.lowD n d)]) (by simp [results, Tryz.results80, go_sem]) rfl ⟨rfl, ?_⟩
   exact ((below_drewN (((Below.refl _ _).alloc (Nat.le_refl _) _)) _).setCell (p := ⟨w.heap.size, 0, none⟩) (Nat.le_refl _) _).setCell (p := ⟨w.heap.size, 1, none⟩) (Nat.le_refl _) _
end Go.Proofs.YtapgnaimbgjcnaaGreatDoor
/-
  Numbers, on: base.Lowest (its loop over uint64), in, Out, sign by contracts.
-/
namespace Go.Proofs.YtapgnaimbgjcnaaGreatDoor
open Go Go.RowKit
def outB (n lo hi : Int) : Bool := decide (n < lo ∨ hi < n)
theorem outB_t {n lo hi : Int} (h : n < lo ∨ hi < n) : outB n lo hi = true := by unfold outB; simpa using h
theorem outB_f {n lo hi : Int} (h : lo ≤ n) (h' : n ≤ hi) : outB n lo hi = false := by unfold outB; simp; omega
theorem of_outB {n lo hi : Int} (h : outB n lo hi = false) : lo ≤ n ∧ n ≤ hi := by unfold outB at h; simp at h; exact h
theorem out_calls (n lo hi : Int) (w : World) : Calls Tryz.prog 104 #[.int .i64 n, .int .i64 lo, .int .i64 hi] w fun e w' => e = .returned (.bool (outB n lo hi)) ∧ w = w' := by
 by_cases h1 : n < lo
 · rw [outB_t (.inl h1)]
   go_enter Tryz.func104, Tryz.ntmps104
   go_wp2
   go_ret
   exact ⟨rfl, rfl⟩
 · by_cases h2 : hi < n
   · rw [outB_t (.inr h2)]
     go_enter Tryz.func104, Tryz.ntmps104
     go_wp2
     go_ret
     exact ⟨rfl, rfl⟩
   · rw [outB_f (by omega) (by omega)]
     go_enter Tryz.func104, Tryz.ntmps104
     go_wp2
     go_ret
     exact ⟨rfl, rfl⟩
theorem in_calls (n lo hi : Int) (w : World) : Calls Tryz.prog 86 #[.int .i64 n, .int .i64 lo, .int .i64 hi] w fun e w' => e = .returned (.bool (!outB n lo hi)) ∧ w = w' := by
 by_cases h1 : n < lo
 · rw [outB_t (.inl h1)]
   have h1' : ¬ lo ≤ n := by omega
   go_enter Tryz.func86, Tryz.ntmps86
   go_wp2
   go_ret
   exact ⟨rfl, rfl⟩
 · by_cases h2 : hi < n
   · rw [outB_t (.inr h2)]
     have h1' : lo ≤ n := by omega
     have h2' : ¬ n ≤ hi := by omega
     go_enter Tryz.func86, Tryz.ntmps86
     go_wp2
     go_ret
     exact ⟨rfl, rfl⟩
   · rw [outB_f (by omega) (by omega)]
     have h1' : lo ≤ n := by omega
     have h2' : n ≤ hi := by omega
     go_enter Tryz.func86, Tryz.ntmps86
     go_wp2
     go_ret
     exact ⟨rfl, rfl⟩
def lowB (n d : Int) : Bool := decide (Int.gcd n d = 1)
theorem u64_neg {n : Int} (h : n < 0) (h' : -9223372036854775808 ≤ n) : Value.int .u64 (IntKind.u64.wrap (-IntKind.u64.wrap n)) = .int .u64 (n.natAbs : Nat) := by
 congr 1
 simp only [IntKind.wrap_u64]
 omega
theorem u64_cast {n : Int} {m : Nat} (h : n = (m : Int)) : Value.int .u64 n = .int .u64 (m : Nat) := by rw [h]
theorem lowestB_calls (n d : Int) (w : World) (hn0 : -9223372036854775808 ≤ n) (hn1 : n ≤ 9223372036854775807) (hd0 : 1 ≤ d) (hd1 : d ≤ 9223372036854775807) :
 Calls Tryz.prog 200 #[.agg #[.int .i64 n, .int .i64 d]] w (BRet (.bool (lowB n d)) w) := by
 obtain ⟨G, hG, hl⟩ : ∃ G, Nat.gcd n.natAbs d.toNat = G ∧ lowB n d = decide (G = 1) := ⟨Int.gcd n d, by show _ = Nat.gcd n.natAbs d.natAbs; congr 1; omega, rfl⟩
 rw [hl]
 clear hl
 have HG := Lib.hid hG
 clear hG
 by_cases hs : n < 0
 · go_enter Tryz.func200, Tryz.ntmps200
   go_wp2_with fail
   go_quiet (fail)
   go_wp2_with fail
   go_loopw [3, 4] (fun u v wr => ∃ (x y : Nat), u = .int .u64 x ∧ v = .int .u64 y ∧ x ≤ 9223372036854775808 ∧ y ≤ 9223372036854775808 ∧ Hid (Nat.gcd x y = G) ∧ Below w.heap.size w wr) (fun _ v _ => (intOf v).toNat)
   case atStart => exact ⟨n.natAbs, d.toNat, u64_neg (by omega) (by omega), u64_cast (by omega), by omega, by omega, HG, below_drewN ((Below.refl _ _).alloc (Nat.le_refl _) _) _⟩
   case round =>
    obtain ⟨x, y, rfl, rfl, hx, hy, HX, hbl⟩ := hrel
    by_cases h0 : y = 0
    · subst h0
      have hx1 : (((x : Nat) : Int) == 1) = decide (G = 1) := by
       have := HX.out
       rw [Nat.gcd_zero_right] at this
       subst this
       rw [Bool.eq_iff_iff]; simp; omega
      have H1 := Lib.hid hx1
      clear hx1
      go_wp2
      rw [H1.out]
      go_ret
      exact ⟨rfl, hbl⟩
    · have hb0 : ((y : Int) != 0) = true := by rw [bne_iff_ne]; omega
      have hy0 : (0 : Int) < (y : Int) := by omega
      have hlt := Nat.mod_lt x (show y > 0 by omega)
      have em : (x : Int) % (y : Int) = ((x % y : Nat) : Int) := by simp
      go_wp2_with fail
      go_quiet (fail)
      rw [em]
      go_wp2
      go_roundw
      case rel => exact ⟨y, x % y, rfl, rfl, by omega, by omega, (show Nat.gcd y (x % y) = G by rw [← HX.out, Nat.gcd_comm x y, Nat.gcd_rec y x, Nat.gcd_comm]), below_drewN hbl _⟩
      case measure => simp [intOf]; omega
 · go_enter Tryz.func200, Tryz.ntmps200
   go_wp2_with fail
   go_quiet (fail)
   go_wp2_with fail
   go_loopw [3, 4] (fun u v wr => ∃ (x y : Nat), u = .int .u64 x ∧ v = .int .u64 y ∧ x ≤ 9223372036854775808 ∧ y ≤ 9223372036854775808 ∧ Hid (Nat.gcd x y = G) ∧ Below w.heap.size w wr) (fun _ v _ => (intOf v).toNat)
   case atStart => exact ⟨n.natAbs, d.toNat, u64_cast (by omega), u64_cast (by omega), by omega, by omega, HG, below_drewN ((Below.refl _ _).alloc (Nat.le_refl _) _) _⟩
   case round =>
    obtain ⟨x, y, rfl, rfl, hx, hy, HX, hbl⟩ := hrel
    by_cases h0 : y = 0
    · subst h0
      have hx1 : (((x : Nat) : Int) == 1) = decide (G = 1) := by
       have := HX.out
       rw [Nat.gcd_zero_right] at this
       subst this
       rw [Bool.eq_iff_iff]; simp; omega
      have H1 := Lib.hid hx1
      clear hx1
      go_wp2
      rw [H1.out]
      go_ret
      exact ⟨rfl, hbl⟩
    · have hb0 : ((y : Int) != 0) = true := by rw [bne_iff_ne]; omega
      have hy0 : (0 : Int) < (y : Int) := by omega
      have hlt := Nat.mod_lt x (show y > 0 by omega)
      have em : (x : Int) % (y : Int) = ((x % y : Nat) : Int) := by simp
      go_wp2_with fail
      go_quiet (fail)
      rw [em]
      go_wp2
      go_roundw
      case rel => exact ⟨y, x % y, rfl, rfl, by omega, by omega, (show Nat.gcd y (x % y) = G by rw [← HX.out, Nat.gcd_comm x y, Nat.gcd_rec y x, Nat.gcd_comm]), below_drewN hbl _⟩
      case measure => simp [intOf]; omega
end Go.Proofs.YtapgnaimbgjcnaaGreatDoor
/-
  Keys: only, base.Key and splitref2.Key by contracts: both answer keyB.
-/
namespace Go.Proofs.YtapgnaimbgjcnaaGreatDoor
open Go Go.RowKit
set_option maxRecDepth 100000 in
theorem indexByte_calls (s : ByteArray) (c : Int) (w : World) :
 Calls Tryz.prog 165 #[.string s, .int .u8 c] w fun e w' => e = .returned (.int .i64 (Lib.indexByte s.data.toList c.toNat.toUInt8)) ∧ w = w' := by
 go_enter Tryz.func165, Tryz.ntmps165
 go_wp2
 rw [run_callFunc_extern Tryz.func264 (by kernel_rfl) (by kernel_rfl) (by kernel_rfl) (e := Extern.BytealgIndexByte.indexByte) (by kernel_rfl), Lib.run_indexByteString]
 simp only [Result.andThen]
 rw [Oper.upon_value]
 go_wp2
 go_ret
 exact ⟨rfl, rfl⟩
theorem take_snoc (s : ByteArray) (k : Nat) (h : k < s.size) : s.data.toList.take (k + 1) = s.data.toList.take k ++ [s[k]] := by
 rw [List.take_succ_eq_append_getElem (by simpa using h)]; rfl
def onlyB (l m : List UInt8) : Bool := l.all fun c => m.contains c
theorem onlyB_snoc (l m : List UInt8) (c : UInt8) : onlyB (l ++ [c]) m = (onlyB l m && m.contains c) := by simp [onlyB]
theorem onlyB_no {l m : List UInt8} {c : UInt8} (h : c ∈ l) (h' : m.contains c = false) : onlyB l m = false := by
 unfold onlyB
 rw [List.all_eq_false]
 exact ⟨c, h, by simpa using h'⟩
theorem byte_back (c : UInt8) : ((c.toNat : Int)).toNat.toUInt8 = c := by simp
set_option maxRecDepth 100000 in
theorem only_calls (s m : ByteArray) (w : World) (hs : s.size ≤ maxLen) :
 Calls Tryz.prog 123 #[.string s, .string m] w fun e w' => e = .returned (.bool (onlyB s.data.toList m.data.toList)) ∧ w = w' := by
 unfold maxLen at hs
 go_enter Tryz.func123, Tryz.ntmps123
 go_wp2
 go_loop [8] (fun i => ∃ k : Nat, k ≤ s.size ∧ i = .int .i64 k ∧ Hid (onlyB (s.data.toList.take k) m.data.toList = true)) (fun i => s.size - (intOf i).toNat)
 case atStart => exact ⟨0, Nat.zero_le _, rfl, by simp [Hid, onlyB]⟩
 case round =>
  obtain ⟨k, hk, rfl, HO⟩ := hrel
  by_cases hlt : k < s.size
  · have hc := Lib.contains_iff_indexByte m.data.toList s[k]
    have hsn := onlyB_snoc (s.data.toList.take k) m.data.toList s[k]
    rw [← take_snoc s k hlt, HO.out, Bool.true_and] at hsn
    have hmem : s[k] ∈ s.data.toList := by
     show s.data.toList[k]'(by simpa using hlt) ∈ _
     exact List.getElem_mem _
    have hn := onlyB_no (m := m.data.toList) hmem
    by_cases hin : m.data.toList.contains s[k] = true
    · rw [hin] at hc hsn
      have hge : 0 ≤ Lib.indexByte m.data.toList s[k] := by simpa using hc.symm
      have hc' := fun W => indexByte_calls m (s[k].toNat : Int) W
      rw [byte_back] at hc'
      have HC := Lib.hid hc'
      have HS := Lib.hid hsn
      clear hc' hc hn hin hsn
      go_wp2_with fail
      refine (HC.out _).mono ?_
      rintro e w' ⟨rfl, rfl⟩
      go_wp2
      go_round
      case rel => exact ⟨k + 1, by omega, by go_num, HS⟩
      case measure => simp [intOf]; omega
    · have hf : m.data.toList.contains s[k] = false := by simpa using hin
      rw [hf] at hc
      have hge : Lib.indexByte m.data.toList s[k] < 0 := by
       have := of_decide_eq_false hc.symm
       omega
      have hc' := fun W => indexByte_calls m (s[k].toNat : Int) W
      rw [byte_back] at hc'
      have HC := Lib.hid hc'
      have HN := Lib.hid (hn hf)
      clear hc' hc hn hin hsn hf
      go_wp2_with fail
      refine (HC.out _).mono ?_
      rintro e w' ⟨rfl, rfl⟩
      go_wp2
      go_ret
      exact ⟨ret_bool HN.out.symm, rfl⟩
  · go_wp2
    go_ret
    exact ⟨ret_bool (by rw [← HO.out, List.take_of_length_le (by simp; omega)]), rfl⟩
end Go.Proofs.YtapgnaimbgjcnaaGreatDoor
/-
  base.Key and splitref2.Key by contracts: both answer keyB.
-/
namespace Go.Proofs.YtapgnaimbgjcnaaGreatDoor
open Go Go.RowKit
def smallB (c : UInt8) : Bool := decide (97 ≤ c.toNat ∧ c.toNat ≤ 122)
def okB (c : UInt8) : Bool := decide ((97 ≤ c.toNat ∧ c.toNat ≤ 122) ∨ (48 ≤ c.toNat ∧ c.toNat ≤ 57) ∨ c.toNat = 45 ∨ c.toNat = 95)
def keyB (l : List UInt8) : Bool := decide (1 ≤ l.length ∧ l.length ≤ 40) && (l.take 1).all smallB && l.all okB
theorem bytes_all (p : UInt8 → Bool) (h : (List.range 256).all (fun n => p (UInt8.ofNat n)) = true) (c : UInt8) : p c = true := by
 rw [List.all_eq_true] at h
 have := h c.toNat (by simp; exact c.toNat_lt)
 simpa using this
def smallsL : List UInt8 := [97, 98, 99, 100, 101, 102, 103, 104, 105, 106, 107, 108, 109, 110, 111, 112, 113, 114, 115, 116, 117, 118, 119, 120, 121, 122]
def oksL : List UInt8 := [97, 98, 99, 100, 101, 102, 103, 104, 105, 106, 107, 108, 109, 110, 111, 112, 113, 114, 115, 116, 117, 118, 119, 120, 121, 122, 48, 49, 50, 51, 52, 53, 54, 55, 56, 57, 45, 95]
theorem smalls_eq (c : UInt8) : smallsL.contains c = smallB c := by
 have := bytes_all (fun c => smallsL.contains c == smallB c) (by decide +kernel) c
 simpa using this
theorem oks_eq (c : UInt8) : oksL.contains c = okB c := by
 have := bytes_all (fun c => oksL.contains c == okB c) (by decide +kernel) c
 simpa using this
theorem only_smalls (l : List UInt8) : onlyB l smallsL = l.all smallB := by unfold onlyB; simp only [smalls_eq]
theorem only_oks (l : List UInt8) : onlyB l oksL = l.all okB := by unfold onlyB; simp only [oks_eq]
theorem keyB_size {l : List UInt8} (h : ¬ (1 ≤ l.length ∧ l.length ≤ 40)) : keyB l = false := by unfold keyB; simp [h]
theorem take_one (s : ByteArray) (h : 0 < s.size) : s.data.toList.take 1 = [s[0]] := by
 have := take_snoc s 0 h
 simpa using this
theorem keyB_head {s : ByteArray} (h : 0 < s.size) (h' : smallB s[0] = false) : keyB s.data.toList = false := by
 unfold keyB
 rw [take_one s h]
 simp [h']
theorem keyB_all {s : ByteArray} (h : 0 < s.size) (h1 : s.size ≤ 40) (h' : smallB s[0] = true) : keyB s.data.toList = s.data.toList.all okB := by
 unfold keyB
 rw [take_one s h]
 have : 1 ≤ s.data.toList.length ∧ s.data.toList.length ≤ 40 := by simp; omega
 simp only [List.all_cons, h', List.all_nil, Bool.and_true, decide_eq_true this, Bool.true_and]
theorem all_snoc_ok (l : List UInt8) (c : UInt8) : (l ++ [c]).all okB = (l.all okB && okB c) := by simp
theorem all_no {l : List UInt8} {c : UInt8} (h : c ∈ l) (h' : okB c = false) : l.all okB = false := by
 rw [List.all_eq_false]
 exact ⟨c, h, by simpa using h'⟩
theorem isEmpty_f {s : ByteArray} (h : 0 < s.size) : s.toList.isEmpty = false := by
 rw [Lib.toList_data]
 cases hl : s.data.toList with
 | nil => have : s.data.toList.length = 0 := by rw [hl]; rfl
          simp at this; rw [this] at h; exact absurd h (Nat.lt_irrefl _)
 | cons a l => rfl
set_option maxRecDepth 100000 in
set_option maxHeartbeats 1000000 in
theorem key_calls (s : ByteArray) (w : World) (hs : s.size ≤ maxLen) :
 Calls Tryz.prog 103 #[.string s] w fun e w' => e = .returned (.bool (keyB s.data.toList)) ∧ w = w' := by
 unfold maxLen at hs
 by_cases h0 : s.size = 0
 · rw [keyB_size (by simp; omega)]
   have he : s.toList = [] := by rw [Lib.toList_data]; exact List.eq_nil_of_length_eq_zero (by simpa using h0)
   go_enter Tryz.func103, Tryz.ntmps103
   go_wp2
   go_ret
   exact ⟨rfl, rfl⟩
 have he := isEmpty_f (s := s) (by omega)
 have he' : (s.toList == []) = false := by rw [← he]; cases s.toList <;> rfl
 have hpos : 0 < s.size := by omega
 by_cases h40 : 40 < s.size
 · rw [keyB_size (by simp; omega)]
   go_enter Tryz.func103, Tryz.ntmps103
   go_wp2
   go_ret
   exact ⟨rfl, rfl⟩
 by_cases ha : s[0].toNat < 97
 · rw [keyB_head hpos (by unfold smallB; simp; omega)]
   have t1 : (s[0].toNat : Int) < 97 := by omega
   clear ha
   go_enter Tryz.func103, Tryz.ntmps103
   go_wp2
   go_ret
   exact ⟨rfl, rfl⟩
 by_cases hz : 122 < s[0].toNat
 · rw [keyB_head hpos (by unfold smallB; simp; omega)]
   have t1 : ¬ (s[0].toNat : Int) < 97 := by omega
   have t2 : (122 : Int) < (s[0].toNat : Int) := by omega
   clear ha hz
   go_enter Tryz.func103, Tryz.ntmps103
   go_wp2
   go_ret
   exact ⟨rfl, rfl⟩
 have HK := Lib.hid (keyB_all hpos (by omega) (by unfold smallB; simp; omega))
 have t1 : ¬ (s[0].toNat : Int) < 97 := by omega
 have t2 : ¬ (122 : Int) < (s[0].toNat : Int) := by omega
 clear ha hz
 go_enter Tryz.func103, Tryz.ntmps103
 go_wp2
 go_loop [24] (fun i => ∃ k : Nat, k ≤ s.size ∧ i = .int .i64 k ∧ Hid ((s.data.toList.take k).all okB = true)) (fun i => s.size - (intOf i).toNat)
 case atStart => exact ⟨0, Nat.zero_le _, rfl, by simp [Hid]⟩
 case round =>
  clear t1 t2
  obtain ⟨k, hk, rfl, HO⟩ := hrel
  by_cases hlt : k < s.size
  · have hsn := all_snoc_ok (s.data.toList.take k) s[k]
    rw [← take_snoc s k hlt] at hsn
    have hmem : s[k] ∈ s.data.toList := by
     show s.data.toList[k]'(by simpa using hlt) ∈ _
     exact List.getElem_mem _
    have hno := all_no hmem
    clear hmem
    by_cases c_small : 97 ≤ s[k].toNat ∧ s[k].toNat ≤ 122
    · have ho : okB s[k] = true := by unfold okB; simp; omega
      rw [ho, Bool.and_true, HO.out] at hsn
      have HS := Lib.hid hsn
      have t1 : (97 : Int) ≤ (s[k].toNat : Int) := by omega
      have t2 : (s[k].toNat : Int) ≤ 122 := by omega
      clear hsn hno ho c_small
      go_wp2
      go_round
      case rel => exact ⟨k + 1, by omega, by go_num, HS⟩
      case measure => simp [intOf]; omega
    by_cases c_digit : 48 ≤ s[k].toNat ∧ s[k].toNat ≤ 57
    · have ho : okB s[k] = true := by unfold okB; simp; omega
      rw [ho, Bool.and_true, HO.out] at hsn
      have HS := Lib.hid hsn
      have t1 : ¬ (97 : Int) ≤ (s[k].toNat : Int) := by omega
      have t2 : (48 : Int) ≤ (s[k].toNat : Int) := by omega
      have t3 : (s[k].toNat : Int) ≤ 57 := by omega
      clear hsn hno ho c_digit
      go_wp2
      go_round
      case rel => exact ⟨k + 1, by omega, by go_num, HS⟩
      case measure => simp [intOf]; omega
    by_cases c_dash : s[k].toNat = 45
    · have ho : okB s[k] = true := by unfold okB; simp; omega
      rw [ho, Bool.and_true, HO.out] at hsn
      have HS := Lib.hid hsn
      have t1 : ¬ (97 : Int) ≤ (s[k].toNat : Int) := by omega
      have t2 : ¬ (48 : Int) ≤ (s[k].toNat : Int) := by omega
      have t3 : ((s[k].toNat : Int) == 45) = true := by simp; omega
      clear hsn hno ho c_dash
      go_wp2
      go_round
      case rel => exact ⟨k + 1, by omega, by go_num, HS⟩
      case measure => simp [intOf]; omega
    by_cases c_low : s[k].toNat = 95
    · have ho : okB s[k] = true := by unfold okB; simp; omega
      rw [ho, Bool.and_true, HO.out] at hsn
      have HS := Lib.hid hsn
      have t1 : ¬ (97 : Int) ≤ (s[k].toNat : Int) := by omega
      have t2 : (48 : Int) ≤ (s[k].toNat : Int) := by omega
      have t3 : ¬ (s[k].toNat : Int) ≤ 57 := by omega
      have t4 : ((s[k].toNat : Int) == 45) = false := by simp; omega
      have t5 : ((s[k].toNat : Int) == 95) = true := by simp; omega
      clear hsn hno ho c_low
      go_wp2
      go_round
      case rel => exact ⟨k + 1, by omega, by go_num, HS⟩
      case measure => simp [intOf]; omega
    have ho : okB s[k] = false := by unfold okB; simp; omega
    have HN := Lib.hid (hno ho)
    clear hsn hno ho
    by_cases d_0 : s[k].toNat < 48
    · have t1 : ¬ (97 : Int) ≤ (s[k].toNat : Int) := by omega
      have t2 : ¬ (48 : Int) ≤ (s[k].toNat : Int) := by omega
      have t4 : ((s[k].toNat : Int) == 45) = false := by simp; omega
      have t5 : ((s[k].toNat : Int) == 95) = false := by simp; omega
      clear c_small c_digit c_dash c_low d_0
      go_wp2
      go_ret
      exact ⟨ret_bool (HN.out.symm.trans HK.out.symm), rfl⟩
    by_cases d_1 : s[k].toNat < 97
    · have t1 : ¬ (97 : Int) ≤ (s[k].toNat : Int) := by omega
      have t2 : (48 : Int) ≤ (s[k].toNat : Int) := by omega
      have t3 : ¬ (s[k].toNat : Int) ≤ 57 := by omega
      have t4 : ((s[k].toNat : Int) == 45) = false := by simp; omega
      have t5 : ((s[k].toNat : Int) == 95) = false := by simp; omega
      clear c_small c_digit c_dash c_low d_1
      go_wp2
      go_ret
      exact ⟨ret_bool (HN.out.symm.trans HK.out.symm), rfl⟩
    have t1 : (97 : Int) ≤ (s[k].toNat : Int) := by omega
    have t1b : ¬ (s[k].toNat : Int) ≤ 122 := by omega
    have t2 : (48 : Int) ≤ (s[k].toNat : Int) := by omega
    have t3 : ¬ (s[k].toNat : Int) ≤ 57 := by omega
    have t4 : ((s[k].toNat : Int) == 45) = false := by simp; omega
    have t5 : ((s[k].toNat : Int) == 95) = false := by simp; omega
    clear c_small c_digit c_dash c_low d_0 d_1
    go_wp2
    go_ret
    exact ⟨ret_bool (HN.out.symm.trans HK.out.symm), rfl⟩
  · go_wp2
    go_ret
    exact ⟨ret_bool (by rw [HK.out, ← HO.out, List.take_of_length_le (by simp; omega)]), rfl⟩
end Go.Proofs.YtapgnaimbgjcnaaGreatDoor
/-
  splitref2.Key by a contract: it answers keyB.
-/
namespace Go.Proofs.YtapgnaimbgjcnaaGreatDoor
open Go Go.RowKit
theorem only_smalls_calls (s : ByteArray) (w : World) (hs : s.size ≤ maxLen) :
 Calls Tryz.prog 123 #[.string s, .string ⟨#[97, 98, 99, 100, 101, 102, 103, 104, 105, 106, 107, 108, 109, 110, 111, 112, 113, 114, 115, 116, 117, 118, 119, 120, 121, 122]⟩] w fun e w' => e = .returned (.bool (s.data.toList.all smallB)) ∧ w = w' := by
 have := only_calls s ⟨#[97, 98, 99, 100, 101, 102, 103, 104, 105, 106, 107, 108, 109, 110, 111, 112, 113, 114, 115, 116, 117, 118, 119, 120, 121, 122]⟩ w hs
 rwa [show (ByteArray.mk #[97, 98, 99, 100, 101, 102, 103, 104, 105, 106, 107, 108, 109, 110, 111, 112, 113, 114, 115, 116, 117, 118, 119, 120, 121, 122]).data.toList = smallsL from rfl, only_smalls] at this
def allOk (l : List UInt8) : Bool := l.all okB
theorem only_oks_calls (s : ByteArray) (w : World) (hs : s.size ≤ maxLen) :
 Calls Tryz.prog 123 #[.string s, .string ⟨#[97, 98, 99, 100, 101, 102, 103, 104, 105, 106, 107, 108, 109, 110, 111, 112, 113, 114, 115, 116, 117, 118, 119, 120, 121, 122, 48, 49, 50, 51, 52, 53, 54, 55, 56, 57, 45, 95]⟩] w fun e w' => e = .returned (.bool (allOk s.data.toList)) ∧ w = w' := by
 have := only_calls s ⟨#[97, 98, 99, 100, 101, 102, 103, 104, 105, 106, 107, 108, 109, 110, 111, 112, 113, 114, 115, 116, 117, 118, 119, 120, 121, 122, 48, 49, 50, 51, 52, 53, 54, 55, 56, 57, 45, 95]⟩ w hs
 rwa [show (ByteArray.mk #[97, 98, 99, 100, 101, 102, 103, 104, 105, 106, 107, 108, 109, 110, 111, 112, 113, 114, 115, 116, 117, 118, 119, 120, 121, 122, 48, 49, 50, 51, 52, 53, 54, 55, 56, 57, 45, 95]).data.toList = oksL from rfl, only_oks] at this
set_option maxRecDepth 100000 in
theorem keyQ_calls (s : ByteArray) (w : World) (hs : s.size ≤ maxLen) :
 Calls Tryz.prog 66 #[.string s] w fun e w' => e = .returned (.bool (keyB s.data.toList)) ∧ w = w' := by
 unfold maxLen at hs
 by_cases h0 : 1 ≤ s.size ∧ s.size ≤ 40
 · obtain ⟨h1, h2⟩ := h0
   have ho : outB (s.size : Int) 1 40 = false := outB_f (by omega) (by omega)
   have HO := Lib.hid ho
   clear ho
   cases hsm : smallB s[0]
   · have HK := Lib.hid (keyB_head h1 hsm)
     have HF := Lib.hid (show (s.extract 0 1).data.toList.all smallB = false by rw [Lib.extract_data]; simp [take_one s h1, hsm])
     clear hsm
     go_enter Tryz.func66, Tryz.ntmps66
     go_wp2_with fail
     refine (in_calls _ _ _ _).mono ?_
     rintro e w' ⟨rfl, rfl⟩
     rw [HO.out]
     go_wp2_with fail
     refine (only_smalls_calls _ _ (by simp [maxLen]; omega)).mono ?_
     rintro e w' ⟨rfl, rfl⟩
     rw [HF.out]
     go_wp2_with fail
     go_ret
     exact ⟨ret_bool HK.out.symm, rfl⟩
   · have HK := Lib.hid (show keyB s.data.toList = allOk s.data.toList from keyB_all h1 h2 hsm)
     have HF := Lib.hid (show (s.extract 0 1).data.toList.all smallB = true by rw [Lib.extract_data]; simp [take_one s h1, hsm])
     clear hsm
     go_enter Tryz.func66, Tryz.ntmps66
     go_wp2_with fail
     refine (in_calls _ _ _ _).mono ?_
     rintro e w' ⟨rfl, rfl⟩
     rw [HO.out]
     go_wp2_with fail
     refine (only_smalls_calls _ _ (by simp [maxLen]; omega)).mono ?_
     rintro e w' ⟨rfl, rfl⟩
     rw [HF.out]
     go_wp2_with fail
     refine (only_oks_calls _ _ (by simp [maxLen]; omega)).mono ?_
     rintro e w' ⟨rfl, rfl⟩
     go_wp2_with fail
     go_ret
     exact ⟨ret_bool HK.out.symm, rfl⟩
 · have HK := Lib.hid (keyB_size (l := s.data.toList) (by simpa using h0))
   have ho : outB (s.size : Int) 1 40 = true := outB_t (by omega)
   have HO := Lib.hid ho
   clear ho h0
   go_enter Tryz.func66, Tryz.ntmps66
   go_wp2_with fail
   refine (in_calls _ _ _ _).mono ?_
   rintro e w' ⟨rfl, rfl⟩
   rw [HO.out]
   go_wp2_with fail
   go_ret
   exact ⟨ret_bool HK.out.symm, rfl⟩
end Go.Proofs.YtapgnaimbgjcnaaGreatDoor
/-
  race.ratingFault and splitref2.RatingFault by contracts: both answer ratF.
-/
namespace Go.Proofs.YtapgnaimbgjcnaaGreatDoor
open Go Go.RowKit
def ratF (n d : Int) : Int := if d < 1 ∨ ¬ Int.gcd n d = 1 then 3 else if ¬ 1000 % d = 0 ∨ n < -10000 * d ∨ 10000 * d < n then 1 else 0
theorem ratF_low {n d : Int} (h : d < 1) : ratF n d = 3 := by unfold ratF; rw [if_pos (.inl h)]
theorem ratF_gcd {n d : Int} (h : ¬ Int.gcd n d = 1) : ratF n d = 3 := by unfold ratF; rw [if_pos (.inr h)]
theorem ratF_mod {n d : Int} (h : 1 ≤ d) (hg : Int.gcd n d = 1) (hm : ¬ 1000 % d = 0) : ratF n d = 1 := by unfold ratF; rw [if_neg (by omega), if_pos (.inl hm)]
theorem ratF_out {n d : Int} (h : 1 ≤ d) (hg : Int.gcd n d = 1) (hm : n < -10000 * d ∨ 10000 * d < n) : ratF n d = 1 := by unfold ratF; rw [if_neg (by omega), if_pos (.inr hm)]
theorem ratF_ok {n d : Int} (h : 1 ≤ d) (hg : Int.gcd n d = 1) (hm : 1000 % d = 0) (h1 : -10000 * d ≤ n) (h2 : n ≤ 10000 * d) : ratF n d = 0 := by unfold ratF; rw [if_neg (by omega), if_neg (by omega)]
theorem mod_le {d : Int} (_h : 1 ≤ d) (hm : 1000 % d = 0) : d ≤ 1000 := by
 rcases Int.lt_or_le 1000 d with hl | hl
 · rw [Int.emod_eq_of_lt (by omega) hl] at hm; omega
 · exact hl
set_option maxRecDepth 100000 in
theorem ratingFault_calls (n d : Int) (w : World) (hn : I64 n) (hd : I64 d) :
 Calls Tryz.prog 148 #[.agg #[.int .i64 n, .int .i64 d]] w (BRet (.int .i64 (ratF n d)) w) := by
 obtain ⟨hn0, hn1⟩ := hn
 obtain ⟨hd0, hd1⟩ := hd
 have hA : ∀ o : Obj, Below w.heap.size w (w.alloc o) := fun o => (Below.refl _ _).alloc (Nat.le_refl _) o
 by_cases h1 : d < 1
 · have HF := Lib.hid (ratF_low (n := n) h1)
   go_enter Tryz.func148, Tryz.ntmps148
   go_wp2_with fail
   go_ret
   exact ⟨ret_int HF.out.symm, hA _⟩
 by_cases h2 : Int.gcd n d = 1
 · have hL : lowB n d = true := by unfold lowB; simpa using h2
   have HL := Lib.hid hL
   by_cases h3 : 1000 % d = 0
   · have hle := mod_le (by omega) h3
     have h3' : ((1000 : Int) % d != 0) = false := by rw [h3]; rfl
     by_cases h4 : n < -10000 * d ∨ 10000 * d < n
     · have HF := Lib.hid (ratF_out (by omega) h2 h4)
       have HO := Lib.hid (outB_t (n := n) (lo := -10000 * d) (hi := 10000 * d) h4)
       clear h2 h3 h4 hL
       go_enter Tryz.func148, Tryz.ntmps148
       go_wp2_with fail
       refine (lowestB_calls n d _ hn0 hn1 (by omega) hd1).mono ?_
       rintro e w1 ⟨rfl, hb1⟩
       rw [HL.out]
       have B0 : Blk w1 w.heap.size 73 #[.int .i64 n, .int .i64 d] := (Blk.new w _ _).below hb1
       obtain ⟨b1, b2, b3, b4⟩ := B0.two
       go_wp2_with fail
       refine (out_calls _ _ _ _).mono ?_
       rintro e w2 ⟨rfl, rfl⟩
       rw [HO.out]
       go_wp2_with fail
       go_ret
       exact ⟨ret_int HF.out.symm, below_call (hA _) hb1 (Nat.le_refl _)⟩
     · have HF := Lib.hid (ratF_ok (n := n) (by omega) h2 h3 (by omega) (by omega))
       have HO := Lib.hid (outB_f (n := n) (lo := -10000 * d) (hi := 10000 * d) (by omega) (by omega))
       clear h2 h3 h4 hL
       go_enter Tryz.func148, Tryz.ntmps148
       go_wp2_with fail
       refine (lowestB_calls n d _ hn0 hn1 (by omega) hd1).mono ?_
       rintro e w1 ⟨rfl, hb1⟩
       rw [HL.out]
       have B0 : Blk w1 w.heap.size 73 #[.int .i64 n, .int .i64 d] := (Blk.new w _ _).below hb1
       obtain ⟨b1, b2, b3, b4⟩ := B0.two
       go_wp2_with fail
       refine (out_calls _ _ _ _).mono ?_
       rintro e w2 ⟨rfl, rfl⟩
       rw [HO.out]
       go_wp2_with fail
       go_ret
       exact ⟨ret_int HF.out.symm, below_call (hA _) hb1 (Nat.le_refl _)⟩
   · have HF := Lib.hid (ratF_mod (by omega) h2 h3)
     have h3' : ((1000 : Int) % d != 0) = true := by rw [bne_iff_ne]; exact h3
     clear h2 h3 hL
     go_enter Tryz.func148, Tryz.ntmps148
     go_wp2_with fail
     refine (lowestB_calls n d _ hn0 hn1 (by omega) hd1).mono ?_
     rintro e w1 ⟨rfl, hb1⟩
     rw [HL.out]
     have B0 : Blk w1 w.heap.size 73 #[.int .i64 n, .int .i64 d] := (Blk.new w _ _).below hb1
     obtain ⟨b1, b2, b3, b4⟩ := B0.two
     go_wp2_with fail
     go_ret
     exact ⟨ret_int HF.out.symm, below_call (hA _) hb1 (Nat.le_refl _)⟩
 · have HF := Lib.hid (ratF_gcd h2)
   have hL : lowB n d = false := by unfold lowB; simpa using h2
   have HL := Lib.hid hL
   clear h2 hL
   go_enter Tryz.func148, Tryz.ntmps148
   go_wp2_with fail
   refine (lowestB_calls n d _ hn0 hn1 (by omega) hd1).mono ?_
   rintro e w1 ⟨rfl, hb1⟩
   rw [HL.out]
   go_wp2_with fail
   go_ret
   exact ⟨ret_int HF.out.symm, below_call (hA _) hb1 (Nat.le_refl _)⟩
end Go.Proofs.YtapgnaimbgjcnaaGreatDoor
/-
  race.CheckRated and splitref2.RatedFault by contracts: both answer ratedF.
-/
namespace Go.Proofs.YtapgnaimbgjcnaaGreatDoor
open Go Go.RowKit
def leS (a b : ByteArray) : Bool := Op.bytesLess a.toList b.toList || a.toList == b.toList
theorem le_nil {s : ByteArray} (h : keyB s.data.toList = true) : leS s ⟨#[]⟩ = false := by
 have hs : 0 < s.size := by
  rcases Nat.eq_zero_or_pos s.size with h0 | h0
  · rw [keyB_size (by simp; omega)] at h; cases h
  · exact h0
 have he := isEmpty_f hs
 unfold leS
 rw [Lib.toList_data ⟨#[]⟩]
 cases hl : s.toList with
 | nil => rw [hl] at he; cases he
 | cons a l => rfl
end Go.Proofs.YtapgnaimbgjcnaaGreatDoor
