/-
  The stream of raw numbers (splitmake): Below, Next, Range, Flip, each by a contract: a number within its range, and only the stream's own block is turned.
-/
import Derived.Test.YthbcogekfdllmaaGreatDoorProg
import Derived.Test.YthbcogekfdllmaaGreatDoorZBase
import Derived.Outline
namespace Go.Proofs.YthbcogekfdllmaaGreatDoor
open Go Go.RowKit

def NumB (n : Int) (w : World) (e : Ending) (w' : World) : Prop := (∃ v : Int, e = .returned (.int .i64 v) ∧ 0 ≤ v ∧ v < n) ∧ w = w'

theorem below_calls (x n : Int) (w : World) (hn : 1 ≤ n) (hn' : n ≤ 9223372036854775807) :
    Calls Tryz.prog 109 #[.int .i64 x, .int .i64 n] w (NumB n w) := by
  have h1 : ¬ n < 1 := by omega
  have h3 : x.tmod n < n := Int.tmod_lt_of_pos _ (by omega)
  have h4 : -n < x.tmod n := by have := Int.lt_tmod_of_pos x (show 0 < n by omega); omega
  by_cases h2 : x.tmod n < 0
  · go_enter Tryz.func109, Tryz.ntmps109
    go_wp2
    go_ret
    exact ⟨⟨_, rfl, by omega, by omega⟩, rfl⟩
  · go_enter Tryz.func109, Tryz.ntmps109
    go_wp2
    go_ret
    exact ⟨⟨_, rfl, by omega, by omega⟩, rfl⟩

/-- the row of raw numbers, in a block before b -/
def LRow (w : World) (b : Nat) (A : Option Addr) (len : Nat) : Prop :=
  0 < len → ∃ g o, A = some ⟨g, o, none⟩ ∧ g < b ∧ ∀ j, j < len → ∃ z, w.cell? ⟨g, o + j, none⟩ = some (.int .i64 z)
/-- block b holds a stream of which at most K numbers were taken -/
def Strm (w : World) (b K : Nat) : Prop :=
  ∃ (A : Option Addr) (len cap : Nat) (k : Int), w.cell? ⟨b, 0, none⟩ = some (.slice A len cap) ∧ w.cell? ⟨b, 1, none⟩ = some (.int .i64 k) ∧ w.frozen? ⟨b, 1, none⟩ = false ∧
    0 ≤ k ∧ k ≤ K ∧ len ≤ 9223372036854775807 ∧ LRow w b A len

theorem Strm.step {w : World} {b K : Nat} {A : Option Addr} {len cap : Nat} {k : Int} (h0 : w.cell? ⟨b, 0, none⟩ = some (.slice A len cap)) (h1 : w.cell? ⟨b, 1, none⟩ = some (.int .i64 k)) (hf : w.frozen? ⟨b, 1, none⟩ = false)
    (hk : 0 ≤ k) (hK : k ≤ K) (hl : len ≤ 9223372036854775807) (hA : LRow w b A len) (n : Nat) : Strm ((w.setCell ⟨b, 1, none⟩ (.int .i64 (k + 1))).drewN n) b (K + 1) := by
  refine ⟨A, len, cap, k + 1, ?_, World.cell?_setCell_same _ _ _ h1, ?_, by omega, by omega, hl, fun hlen => ?_⟩
  · exact (World.cell?_setCell_other _ _ _ _ (by simp)).trans h0
  · exact (World.frozen?_setCell _ _ _ _).trans hf
  · obtain ⟨g, o, rfl, hg, hz⟩ := hA hlen
    refine ⟨g, o, rfl, hg, fun j hj => ?_⟩
    obtain ⟨z, hz⟩ := hz j hj
    refine ⟨z, (World.cell?_setCell_other _ _ _ _ (fun e => ?_)).trans hz⟩
    injection e with e
    omega
theorem Strm.keep {w w' : World} {b K : Nat} (h : Strm w b K) (hb : ∀ k, k ≤ b → w'.heap[k]? = w.heap[k]?) : Strm w' b K := by
  obtain ⟨A, len, cap, n, h0, h1, h2, h3, h4, h5, h6⟩ := h
  have hc : ∀ i, w'.cell? ⟨b, i, none⟩ = w.cell? ⟨b, i, none⟩ := fun i => World.cell?_of_block (hb b (Nat.le_refl _))
  have hf : ∀ i, w'.frozen? ⟨b, i, none⟩ = w.frozen? ⟨b, i, none⟩ := fun i => World.frozen?_of_block (hb b (Nat.le_refl _))
  refine ⟨A, len, cap, n, (hc 0).trans h0, (hc 1).trans h1, (hf 1).trans h2, h3, h4, h5, fun hlen => ?_⟩
  obtain ⟨g, o, rfl, hg, hz⟩ := h6 hlen
  refine ⟨g, o, rfl, hg, fun j hj => ?_⟩
  obtain ⟨z, hz⟩ := hz j hj
  exact ⟨z, (World.cell?_of_block (hb g (Nat.le_of_lt hg))).trans hz⟩
theorem Strm.lt {w : World} {b K : Nat} (h : Strm w b K) : b < w.heap.size := by
  obtain ⟨A, len, cap, n, h0, _⟩ := h
  exact World.block_lt_of_cell? w _ h0
theorem Strm.below {w w' : World} {b K : Nat} (h : Strm w b K) (k : Below w.heap.size w w') : Strm w' b K :=
  h.keep (fun i hi => k.block i (by have := h.lt; omega))
theorem Strm.more {w : World} {b K K' : Nat} (h : Strm w b K) (hK : K ≤ K') : Strm w b K' := by
  obtain ⟨A, len, cap, n, h0, h1, h2, h3, h4, h5, h6⟩ := h
  exact ⟨A, len, cap, n, h0, h1, h2, h3, by omega, h5, h6⟩
theorem Strm.drewN {w : World} {b K : Nat} (h : Strm w b K) (n : Nat) : Strm (w.drewN n) b K := h
theorem Strm.drew {w : World} {b K : Nat} (h : Strm w b K) : Strm w.drew b K := h
theorem Strm.alloc {w : World} {b K : Nat} (h : Strm w b K) (o : Obj) : Strm (w.alloc o) b K := h.below ((Below.refl _ _).alloc (Nat.le_refl _) o)
theorem Strm.grown {w w' : World} {b K : Nat} (h : Strm w b K) {row : Option Nat} (hg : w.grownBy w' row) (hr : ∀ k, row = some k → b < k) : Strm w' b K :=
  h.keep (fun i hi => hg.block i (by have := h.lt; omega) (fun e => by have := hr i e.symm; omega))
theorem Strm.setCell {w : World} {b K : Nat} (h : Strm w b K) {p : Addr} (hp : b < p.block) (u : Value) : Strm (w.setCell p u) b K :=
  h.keep (fun i hi => Below.heap_setCell _ _ _ _ (by omega))

/-- What a drawn number is, and what the draw has turned: K: numbers taken till then. -/
def NumS (lo hi : Int) (b K : Nat) (w : World) (e : Ending) (w' : World) : Prop :=
  ∃ v : Int, e = .returned (.int .i64 v) ∧ lo ≤ v ∧ v ≤ hi ∧ Strm w' b K ∧ Bx w.heap.size b w w'

theorem mod_nat {k : Int} {len : Nat} (_hk : 0 ≤ k) (hl : 0 < len) : ∃ i : Nat, k % (len : Int) = (i : Int) ∧ i < len := by
  have h0 : 0 ≤ k % (len : Int) := Int.emod_nonneg _ (by omega)
  have h1 : k % (len : Int) < (len : Int) := Int.emod_lt_of_pos _ (by omega)
  exact ⟨(k % (len : Int)).toNat, by omega, by omega⟩
theorem quo_bd {k : Int} {len : Nat} (hk : 0 ≤ k) : ∃ r : Int, k / (len : Int) = r ∧ 0 ≤ r ∧ r ≤ k :=
  ⟨_, rfl, Int.ediv_nonneg hk (by omega), Int.ediv_le_self _ hk⟩

theorem next_calls (b K : Nat) (n : Int) (w : World) (hn : 1 ≤ n) (hn' : n ≤ 9223372036854775807) (hs : Strm w b K) (hK : K ≤ 10000000) :
    Calls Tryz.prog 47 #[.pointer (some ⟨b, 0, none⟩), .int .i64 n] w (NumS 0 (n - 1) b (K + 1) w) := by
  obtain ⟨A, len, cap, k, hc0, hc1, hf, hk, hkK, hl, hA⟩ := hs
  have hst := fun nq => Strm.step hc0 hc1 hf hk hkK hl hA nq
  have hbx : ∀ nq, Bx w.heap.size b w ((w.setCell ⟨b, 1, none⟩ (.int .i64 (k + 1))).drewN nq) := fun nq => ((Bx.refl _ _ _).setCell (p := ⟨b, 1, none⟩) (.inl rfl) _).drewN nq
  by_cases h0 : len = 0
  · subst h0
    clear hA
    go_enter Tryz.func47, Tryz.ntmps47
    go_wp2_with fail
    refine (below_calls _ _ _ hn hn').mono ?_
    rintro e w' ⟨⟨v, rfl, h1, h2⟩, rfl⟩
    go_wp2_with fail
    go_ret
    exact ⟨v, rfl, h1, by omega, hst 0, hbx 0⟩
  · have h0' : ((len : Int) == 0) = false := by simp; omega
    obtain ⟨g, o, rfl, hgb0, hz⟩ := hA (by omega)
    have hgb : g ≠ b := by omega
    obtain ⟨i, hi, hil⟩ := mod_nat (len := len) hk (by clear hA hz hst; omega)
    obtain ⟨z, hcz⟩ := hz i hil
    obtain ⟨r, hr, hr0, hr1⟩ := quo_bd (len := len) hk
    have HI := Lib.hid hi
    have HR := Lib.hid hr
    clear hi hr hz hA
    go_enter Tryz.func47, Tryz.ntmps47
    go_wp2_with fail
    go_quiet (fail)
    rw [HI.out]
    go_wp2_with fail
    go_quiet (fail)
    rw [HR.out]
    go_wp2_with fail
    refine (below_calls _ _ _ (by omega) (by omega)).mono ?_
    rintro e w' ⟨⟨v1, rfl, h1, h2⟩, rfl⟩
    go_wp2_with fail
    refine (below_calls _ _ _ hn hn').mono ?_
    rintro e w' ⟨⟨v, rfl, h1, h2⟩, rfl⟩
    go_wp2_with fail
    go_ret
    exact ⟨v, rfl, h1, by omega, hst _, hbx _⟩
end Go.Proofs.YthbcogekfdllmaaGreatDoor
/-
  The stream of raw numbers, on: Range, Flip, Pick, Some, Odd by contracts.
-/
namespace Go.Proofs.YthbcogekfdllmaaGreatDoor
open Go Go.RowKit

theorem range_calls (b K : Nat) (lo hi : Int) (w : World) (h1 : lo ≤ hi) (hlo : -2305843009213693952 ≤ lo) (hhi : hi ≤ 2305843009213693951) (hs : Strm w b K) (hK : K ≤ 10000000) :
    Calls Tryz.prog 7 #[.pointer (some ⟨b, 0, none⟩), .int .i64 lo, .int .i64 hi] w (NumS lo hi b (K + 1) w) := by
  have h2 : ¬ hi < lo := by omega
  go_enter Tryz.func7, Tryz.ntmps7
  go_wp2_with fail
  refine (next_calls b K _ _ (by omega) (by omega) hs hK).mono ?_
  rintro e w' ⟨v, rfl, g1, g2, hs', hb'⟩
  go_wp2_with fail
  go_ret
  exact ⟨_, rfl, by omega, by omega, hs', hb'⟩

/-- one of some values was drawn -/
def OneS (xs : List Value) (b K : Nat) (w : World) (e : Ending) (w' : World) : Prop :=
  ∃ v : Value, e = .returned v ∧ v ∈ xs ∧ Strm w' b K ∧ Bx w.heap.size b w w'

theorem pick_calls (b K : Nat) (A : Option Addr) (n c : Nat) (xs : List Value) (w : World) (h0 : 0 < n) (hr : Rd w b 1 (.slice A n c) n xs) (hx : ∀ x ∈ xs, ∃ z, x = .int .i64 z) (hs : Strm w b K) (hK : K ≤ 10000000) :
    Calls Tryz.prog 46 #[.pointer (some ⟨b, 0, none⟩), .slice A n c] w (OneS xs b (K + 1) w) := by
  obtain ⟨A', c', e1, e2, e3, e4, e5, e6⟩ := hr
  injection e1 with ea eb ec
  subst ea ec
  obtain ⟨g, o, rfl, f2, f3⟩ := e6 h0
  unfold maxLen at e3
  go_enter Tryz.func46, Tryz.ntmps46
  go_wp2_with fail
  refine (next_calls b K _ _ (by omega) (by omega) hs hK).mono ?_
  rintro e w' ⟨v, rfl, g1, g2, hs', hb'⟩
  obtain ⟨i, rfl⟩ := Int.eq_ofNat_of_zero_le g1
  have hi : i < n := by omega
  have hil : i < xs.length := by omega
  obtain ⟨z, hz⟩ := hx _ (List.getElem_mem hil)
  have hc : w'.cell? ⟨g, o + i, none⟩ = some (.int .i64 z) := (hb'.cell (f3 i _ (List.getElem?_eq_getElem hil)) f2).trans (by rw [hz])
  have hm : Value.int .i64 z ∈ xs := by rw [← hz]; exact List.getElem_mem hil
  clear f3 hx hz
  go_wp2_with fail
  go_ret
  exact ⟨_, rfl, hm, hs', hb'⟩
end Go.Proofs.YthbcogekfdllmaaGreatDoor
/-
  The stream of raw numbers, on: Some, Odd by contracts.
-/
namespace Go.Proofs.YthbcogekfdllmaaGreatDoor
open Go Go.RowKit

theorem some_calls (b K : Nat) (A : Option Addr) (n c : Nat) (xs : List Value) (w : World) (h0 : 0 < n) (hr : Rd w b 1 (.slice A n c) n xs) (hx : ∀ x ∈ xs, ∃ z, x = .string z) (hs : Strm w b K) (hK : K ≤ 10000000) :
    Calls Tryz.prog 45 #[.pointer (some ⟨b, 0, none⟩), .slice A n c] w (OneS xs b (K + 1) w) := by
  obtain ⟨A', c', e1, e2, e3, e4, e5, e6⟩ := hr
  injection e1 with ea eb ec
  subst ea ec
  obtain ⟨g, o, rfl, f2, f3⟩ := e6 h0
  unfold maxLen at e3
  go_enter Tryz.func45, Tryz.ntmps45
  go_wp2_with fail
  refine (next_calls b K _ _ (by omega) (by omega) hs hK).mono ?_
  rintro e w' ⟨v, rfl, g1, g2, hs', hb'⟩
  obtain ⟨i, rfl⟩ := Int.eq_ofNat_of_zero_le g1
  have hi : i < n := by omega
  have hil : i < xs.length := by omega
  obtain ⟨z, hz⟩ := hx _ (List.getElem_mem hil)
  have hc : w'.cell? ⟨g, o + i, none⟩ = some (.string z) := (hb'.cell (f3 i _ (List.getElem?_eq_getElem hil)) f2).trans (by rw [hz])
  have hm : Value.string z ∈ xs := by rw [← hz]; exact List.getElem_mem hil
  clear f3 hx hz
  go_wp2_with fail
  go_ret
  exact ⟨_, rfl, hm, hs', hb'⟩

end Go.Proofs.YthbcogekfdllmaaGreatDoor
