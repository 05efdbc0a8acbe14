/-
  The stream to the letter: what Next, Range, Flip and Pick answer is a function of the raw numbers and of how many were taken.
-/
import Derived.Test.YthbcogekfdllmaaGreatDoorZLawStart
import Derived.Test.YthbcogekfdllmaaGreatDoorZBase
namespace Go.Proofs.YthbcogekfdllmaaGreatDoor
open Go Go.RowKit

/-- Below -/
def belX (x n : Int) : Int := if x.tmod n < 0 then x.tmod n + n else x.tmod n
theorem belX_bd (x : Int) {n : Int} (hn : 1 ≤ n) : 0 ≤ belX x n ∧ belX x n < n := by
  have h3 : x.tmod n < n := Int.tmod_lt_of_pos _ (by omega)
  have h4 : -n < x.tmod n := by have := Int.lt_tmod_of_pos x (show 0 < n by omega); omega
  unfold belX
  split <;> omega
/-- what a stream goes over: the numbers, and a bound of the block in which they lie -/
structure ZsT where
  l : List Int
  lo : Nat
/-- the number that is taken when p were taken, of those from 0 to n - 1 -/
def nxX (zs : ZsT) (p : Nat) (n : Int) : Int :=
  if zs.l.length = 0 then belX (((p : Int) + 1) * 7919) n
  else belX (wrap64 (belX ((zs.l[p % zs.l.length]?).getD 0) 1073741824 + wrap64 (wrap64 ((p / zs.l.length : Nat) : Int) * wrap64 (7919 + ((p % zs.l.length : Nat) : Int))))) n
theorem nxX_bd (zs : ZsT) (p : Nat) {n : Int} (hn : 1 ≤ n) : 0 ≤ nxX zs p n ∧ nxX zs p n < n := by
  unfold nxX
  split <;> exact belX_bd _ hn
theorem belowX_calls (x n : Int) (w : World) (hn : 1 ≤ n) (hn' : n ≤ 9223372036854775807) :
    Calls Tryz.prog 109 #[.int .i64 x, .int .i64 n] w fun e w' => e = .returned (.int .i64 (belX x n)) ∧ w = w' := by
  have h1 : ¬ n < 1 := by omega
  have h3 : x.tmod n < n := Int.tmod_lt_of_pos _ (by omega)
  have h4 : -n < x.tmod n := by have := Int.lt_tmod_of_pos x (show 0 < n by omega); omega
  by_cases h2 : x.tmod n < 0
  · have hb : belX x n = x.tmod n + n := by unfold belX; rw [if_pos h2]
    have HB := Lib.hid hb
    clear hb
    go_enter Tryz.func109, Tryz.ntmps109
    go_wp2
    go_ret
    exact ⟨by rw [HB.out]; rfl, rfl⟩
  · have hb : belX x n = x.tmod n := by unfold belX; rw [if_neg h2]
    have HB := Lib.hid hb
    clear hb
    go_enter Tryz.func109, Tryz.ntmps109
    go_wp2
    go_ret
    exact ⟨by rw [HB.out]; rfl, rfl⟩
/-- block b holds a stream over zs, of which p numbers were taken -/
def StrmX (w : World) (b : Nat) (zs : ZsT) (p : Nat) : Prop :=
  ∃ (A : Option Addr) (cap : Nat), w.cell? ⟨b, 0, none⟩ = some (.slice A zs.l.length cap) ∧ w.cell? ⟨b, 1, none⟩ = some (.int .i64 (p : Int)) ∧ w.frozen? ⟨b, 1, none⟩ = false ∧
    zs.l.length ≤ 9223372036854775807 ∧ (0 < zs.l.length → ∃ g o, A = some ⟨g, o, none⟩ ∧ (g < zs.lo ∧ zs.lo ≤ b) ∧ ∀ j (hj : j < zs.l.length), w.cell? ⟨g, o + j, none⟩ = some (.int .i64 zs.l[j]))
theorem StrmX.keep2 {w w' : World} {b p : Nat} {zs : ZsT} (h : StrmX w b zs p) (hb : ∀ k, k = b ∨ k < zs.lo → w'.heap[k]? = w.heap[k]?) : StrmX w' b zs p := by
  obtain ⟨A, cap, h0, h1, h2, h5, h6⟩ := h
  have hc : ∀ i, w'.cell? ⟨b, i, none⟩ = w.cell? ⟨b, i, none⟩ := fun i => World.cell?_of_block (hb b (.inl rfl))
  have hf : ∀ i, w'.frozen? ⟨b, i, none⟩ = w.frozen? ⟨b, i, none⟩ := fun i => World.frozen?_of_block (hb b (.inl rfl))
  refine ⟨A, cap, (hc 0).trans h0, (hc 1).trans h1, (hf 1).trans h2, h5, fun hlen => ?_⟩
  obtain ⟨g, o, rfl, hg, hz⟩ := h6 hlen
  exact ⟨g, o, rfl, hg, fun j hj => (World.cell?_of_block (hb g (.inr hg.1))).trans (hz j hj)⟩
theorem StrmX.lt {w : World} {b p : Nat} {zs : ZsT} (h : StrmX w b zs p) : b < w.heap.size := by
  obtain ⟨A, cap, h0, _⟩ := h
  exact World.block_lt_of_cell? w _ h0
theorem StrmX.keep {w w' : World} {b p : Nat} {zs : ZsT} (h : StrmX w b zs p) (hb : ∀ k, k ≤ b → w'.heap[k]? = w.heap[k]?) : StrmX w' b zs p := by
  obtain ⟨A, cap, h0, h1, h2, h5, h6⟩ := h
  have hc : ∀ i, w'.cell? ⟨b, i, none⟩ = w.cell? ⟨b, i, none⟩ := fun i => World.cell?_of_block (hb b (Nat.le_refl _))
  have hf : ∀ i, w'.frozen? ⟨b, i, none⟩ = w.frozen? ⟨b, i, none⟩ := fun i => World.frozen?_of_block (hb b (Nat.le_refl _))
  refine ⟨A, cap, (hc 0).trans h0, (hc 1).trans h1, (hf 1).trans h2, h5, fun hlen => ?_⟩
  obtain ⟨g, o, rfl, hg, hz⟩ := h6 hlen
  exact ⟨g, o, rfl, hg, fun j hj => (World.cell?_of_block (hb g (by omega))).trans (hz j hj)⟩
/-- another stream's call -/
theorem StrmX.other {w w' : World} {a b p : Nat} {zs : ZsT} (h : StrmX w b zs p) (k : Bx w.heap.size a w w') (ha : zs.lo ≤ a) (hab : a ≠ b) (hl : zs.lo ≤ b) : StrmX w' b zs p :=
  h.keep2 (fun i hi => k.block i (by have := h.lt; omega) (by omega))
theorem StrmX.below {w w' : World} {b p : Nat} {zs : ZsT} (h : StrmX w b zs p) (k : Below w.heap.size w w') : StrmX w' b zs p :=
  h.keep (fun i hi => k.block i (by have := h.lt; omega))
theorem StrmX.alloc {w : World} {b p : Nat} {zs : ZsT} (h : StrmX w b zs p) (o : Obj) : StrmX (w.alloc o) b zs p := h.below ((Below.refl _ _).alloc (Nat.le_refl _) o)
theorem StrmX.grown {w w' : World} {b p : Nat} {zs : ZsT} (h : StrmX w b zs p) {row : Option Nat} (hg : w.grownBy w' row) (hr : ∀ k, row = some k → b < k) : StrmX w' b zs p :=
  h.keep (fun i hi => hg.block i (by have := h.lt; omega) (fun e => by have := hr i e.symm; omega))
theorem StrmX.setCell {w : World} {b p : Nat} {zs : ZsT} (h : StrmX w b zs p) {q : Addr} (hp : b < q.block) (u : Value) : StrmX (w.setCell q u) b zs p :=
  h.keep (fun i hi => Below.heap_setCell _ _ _ _ (by omega))
/-- another stream's draw: b' lies before it or behind it; the row lies before both -/
theorem StrmX.strm {w : World} {b p K : Nat} {zs : ZsT} (h : StrmX w b zs p) (hp : p ≤ K) : Strm w b K := by
  obtain ⟨A, cap, h0, h1, h2, h5, h6⟩ := h
  refine ⟨A, zs.l.length, cap, (p : Int), h0, h1, h2, by omega, by omega, h5, fun hl => ?_⟩
  obtain ⟨g, o, hA, hg, hz⟩ := h6 hl
  exact ⟨g, o, hA, Nat.lt_of_lt_of_le hg.1 hg.2, fun j hj => ⟨_, hz j hj⟩⟩
theorem StrmX.step {w : World} {b p : Nat} {A : Option Addr} {cap : Nat} {zs : ZsT} (h0 : w.cell? ⟨b, 0, none⟩ = some (.slice A zs.l.length cap)) (h1 : w.cell? ⟨b, 1, none⟩ = some (.int .i64 (p : Int))) (hf : w.frozen? ⟨b, 1, none⟩ = false)
    (hl : zs.l.length ≤ 9223372036854775807) (hA : 0 < zs.l.length → ∃ g o, A = some ⟨g, o, none⟩ ∧ (g < zs.lo ∧ zs.lo ≤ b) ∧ ∀ j (hj : j < zs.l.length), w.cell? ⟨g, o + j, none⟩ = some (.int .i64 zs.l[j])) (n : Nat) : StrmX ((w.setCell ⟨b, 1, none⟩ (.int .i64 ((p : Int) + 1))).drewN n) b zs (p + 1) := by
  refine ⟨A, cap, ?_, World.cell?_setCell_same _ _ _ h1, ?_, hl, fun hlen => ?_⟩
  · exact (World.cell?_setCell_other _ _ _ _ (by simp)).trans h0
  · exact (World.frozen?_setCell _ _ _ _).trans hf
  · obtain ⟨g, o, rfl, hg, hz⟩ := hA hlen
    refine ⟨g, o, rfl, hg, fun j hj => (World.cell?_setCell_other _ _ _ _ (fun e => ?_)).trans (hz j hj)⟩
    injection e with e
    omega
/-- what a call has drawn: the value, and the stream behind it -/
def DrX (v : Value) (b : Nat) (zs : ZsT) (p : Nat) (w : World) (e : Ending) (w' : World) : Prop := e = .returned v ∧ StrmX w' b zs p ∧ Bx w.heap.size b w w'

set_option maxRecDepth 100000 in
theorem nextX_calls (b p : Nat) (zs : ZsT) (n : Int) (w : World) (hn : 1 ≤ n) (hn' : n ≤ 9223372036854775807) (hs : StrmX w b zs p) (hp : p ≤ 1000000) :
    Calls Tryz.prog 47 #[.pointer (some ⟨b, 0, none⟩), .int .i64 n] w (DrX (.int .i64 (nxX zs p n)) b zs (p + 1) w) := by
  obtain ⟨A, cap, hc0, hc1, hf, hl, hA⟩ := hs
  have hst := fun nq => StrmX.step hc0 hc1 hf hl hA nq
  have hbx : ∀ nq, Bx w.heap.size b w ((w.setCell ⟨b, 1, none⟩ (.int .i64 ((p : Int) + 1))).drewN nq) := fun nq => ((Bx.refl _ _ _).setCell (p := ⟨b, 1, none⟩) (.inl rfl) _).drewN nq
  by_cases h0 : zs.l.length = 0
  · have HV := Lib.hid (show nxX zs p n = belX (((p : Int) + 1) * 7919) n by unfold nxX; rw [if_pos h0])
    rw [h0] at hc0
    clear hA
    go_enter Tryz.func47, Tryz.ntmps47
    go_wp2_with fail
    refine (belowX_calls _ _ _ hn hn').mono ?_
    rintro e w' ⟨rfl, rfl⟩
    go_wp2_with fail
    go_ret
    exact ⟨by rw [HV.out]; rfl, hst 0, hbx 0⟩
  · obtain ⟨len, hlen⟩ : ∃ l, zs.l.length = l := ⟨_, rfl⟩
    have HV := Lib.hid (show nxX zs p n = belX (wrap64 (belX ((zs.l[p % len]?).getD 0) 1073741824 + wrap64 (wrap64 ((p / len : Nat) : Int) * wrap64 (7919 + ((p % len : Nat) : Int))))) n by unfold nxX; rw [if_neg h0, hlen])
    obtain ⟨g, o, rfl, hgb0, hz⟩ := hA (by omega)
    have hgb : g ≠ b := by omega
    have hlp : 0 < len := by omega
    have hil : p % len < zs.l.length := by rw [hlen]; exact Nat.mod_lt _ hlp
    have hcz := hz _ hil
    have hgd : (zs.l[p % len]?).getD 0 = zs.l[p % len] := by rw [List.getElem?_eq_getElem hil]; rfl
    rw [hgd] at HV
    obtain ⟨z, hzz⟩ : ∃ z, zs.l[p % len] = z := ⟨_, rfl⟩
    rw [hzz] at hcz HV
    have hmod : ((p : Int)) % (len : Int) = ((p % len : Nat) : Int) := (Int.natCast_emod p len).symm
    have hdiv : ((p : Int)) / (len : Int) = ((p / len : Nat) : Int) := (Int.natCast_ediv p len).symm
    have hr1 : p / len ≤ p := Nat.div_le_self _ _
    obtain ⟨i, hi⟩ : ∃ i, p % len = i := ⟨_, rfl⟩
    obtain ⟨r, hr⟩ : ∃ r, p / len = r := ⟨_, rfl⟩
    rw [hi] at hcz HV hmod hil
    rw [hr] at HV hdiv hr1
    rw [hlen] at hc0 hl hil
    have h0' : ((len : Int) == 0) = false := by simp; omega
    have HI := Lib.hid hmod
    have HR := Lib.hid hdiv
    clear hmod hdiv hi hr hz hA hgd hzz hlen h0
    go_enter Tryz.func47, Tryz.ntmps47
    go_wp2_with fail
    go_quiet (fail)
    rw [HI.out]
    go_wp2_with fail
    go_quiet (fail)
    rw [HR.out]
    go_wp2_with fail
    refine (belowX_calls _ _ _ (by omega) (by omega)).mono ?_
    rintro e w' ⟨rfl, rfl⟩
    have hbb := belX_bd z (n := 1073741824) (by omega)
    obtain ⟨y, hy⟩ : ∃ y, belX z 1073741824 = y := ⟨_, rfl⟩
    rw [hy] at hbb HV ⊢
    obtain ⟨hb1, hb2⟩ := hbb
    clear hy
    go_wp2_with fail
    refine (belowX_calls _ _ _ hn hn').mono ?_
    rintro e w' ⟨rfl, rfl⟩
    go_wp2_with fail
    go_ret
    exact ⟨by rw [HV.out]; rfl, hst _, hbx _⟩
theorem rangeX_calls (b p : Nat) (zs : ZsT) (lo hi : Int) (w : World) (h1 : lo ≤ hi) (hlo : -2305843009213693952 ≤ lo) (hhi : hi ≤ 2305843009213693951) (hs : StrmX w b zs p) (hp : p ≤ 1000000) :
    Calls Tryz.prog 7 #[.pointer (some ⟨b, 0, none⟩), .int .i64 lo, .int .i64 hi] w (DrX (.int .i64 (lo + nxX zs p (hi - lo + 1))) b zs (p + 1) w) := by
  have h2 : ¬ hi < lo := by omega
  have hbd := nxX_bd zs p (n := hi - lo + 1) (by omega)
  have HN := Lib.hid (nextX_calls b p zs (hi - lo + 1) w (by omega) (by omega) hs hp)
  obtain ⟨v, hv⟩ : ∃ v, nxX zs p (hi - lo + 1) = v := ⟨_, rfl⟩
  rw [hv] at HN hbd ⊢
  obtain ⟨g1, g2⟩ := hbd
  clear hv
  go_enter Tryz.func7, Tryz.ntmps7
  go_wp2_with fail
  refine HN.out.mono ?_
  rintro e w' ⟨rfl, hs', hb'⟩
  go_wp2_with fail
  go_ret
  exact ⟨rfl, hs', hb'⟩
theorem flipX_calls (b p : Nat) (zs : ZsT) (n : Int) (w : World) (hn : 1 ≤ n) (hn' : n ≤ 9223372036854775807) (hs : StrmX w b zs p) (hp : p ≤ 1000000) :
    Calls Tryz.prog 61 #[.pointer (some ⟨b, 0, none⟩), .int .i64 n] w (DrX (.bool (nxX zs p n == 0)) b zs (p + 1) w) := by
  have HN := Lib.hid (nextX_calls b p zs n w hn hn' hs hp)
  obtain ⟨v, hv⟩ : ∃ v, nxX zs p n = v := ⟨_, rfl⟩
  rw [hv] at HN ⊢
  clear hv
  go_enter Tryz.func61, Tryz.ntmps61
  go_wp2_with fail
  refine HN.out.mono ?_
  rintro e w' ⟨rfl, hs', hb'⟩
  go_wp2_with fail
  go_ret
  exact ⟨rfl, hs', hb'⟩
/-- one of some numbers -/
def pkX (zs : ZsT) (p : Nat) (xs : List Int) : Int := (xs[(nxX zs p (xs.length : Int)).toNat]?).getD 0
theorem pickX_calls (b p : Nat) (zs : ZsT) (A : Option Addr) (n c : Nat) (xs : List Int) (w : World) (h0 : 0 < n) (hr : Rd w b 1 (.slice A n c) n (xs.map (Value.int .i64))) (hs : StrmX w b zs p) (hp : p ≤ 1000000) :
    Calls Tryz.prog 46 #[.pointer (some ⟨b, 0, none⟩), .slice A n c] w (DrX (.int .i64 (pkX zs p xs)) b zs (p + 1) w) := by
  obtain ⟨A', c', e1, e2, e3, e4, e5, e6⟩ := hr
  injection e1 with ea eb ec
  subst ea ec
  obtain ⟨g, o, rfl, f2, f3⟩ := e6 h0
  unfold maxLen at e3
  have hxl : xs.length = n := by simpa using e4
  have hbd := nxX_bd zs p (n := (n : Int)) (by omega)
  have HN := Lib.hid (nextX_calls b p zs (n : Int) w (by omega) (by omega) hs hp)
  have hpk : pkX zs p xs = (xs[(nxX zs p (n : Int)).toNat]?).getD 0 := by unfold pkX; rw [hxl]
  rw [hpk]
  obtain ⟨v, hv⟩ : ∃ v, nxX zs p (n : Int) = v := ⟨_, rfl⟩
  rw [hv] at HN hbd ⊢
  obtain ⟨i, rfl⟩ := Int.eq_ofNat_of_zero_le hbd.1
  have hi : i < n := by omega
  have hil : i < xs.length := by omega
  have hx : (xs[((i : Int)).toNat]?).getD 0 = xs[i] := by rw [Int.toNat_natCast, List.getElem?_eq_getElem hil]; rfl
  rw [hx]
  obtain ⟨z, hz⟩ : ∃ z, xs[i] = z := ⟨_, rfl⟩
  have hcw : w.cell? ⟨g, o + i, none⟩ = some (.int .i64 z) := f3 i _ (by rw [List.getElem?_map, List.getElem?_eq_getElem hil, hz]; rfl)
  rw [hz]
  have HC := Lib.hid hcw
  have hi0 : (0 : Int) ≤ (i : Int) := by omega
  have hi1 : (i : Int) < (n : Int) := by omega
  clear f3 hz hx hv hpk hcw e4 e5 e6
  go_enter Tryz.func46, Tryz.ntmps46
  go_wp2_with fail
  refine HN.out.mono ?_
  rintro e w' ⟨rfl, hs', hb'⟩
  have hc : w'.cell? ⟨g, o + i, none⟩ = some (.int .i64 z) := hb'.cell HC.out f2
  go_wp2_with fail
  go_ret
  exact ⟨rfl, hs', hb'⟩
end Go.Proofs.YthbcogekfdllmaaGreatDoor
