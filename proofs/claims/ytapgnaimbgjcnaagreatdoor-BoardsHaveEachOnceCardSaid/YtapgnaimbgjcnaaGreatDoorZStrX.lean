/-
  The stream to the letter: what Next, Range, Flip and Pick answer is a function of the raw numbers and of how many were taken.
-/
import Derived.Test.YtapgnaimbgjcnaaGreatDoorZLawStart
import Derived.Test.YtapgnaimbgjcnaaGreatDoorZBase
import Derived.Test.YtapgnaimbgjcnaaGreatDoorZScmp
namespace Go.Proofs.YtapgnaimbgjcnaaGreatDoor
open Go Go.RowKit
def belX (x n : Int) : Int := if x.tmod n < 0 then x.tmod n + n else x.tmod n
theorem belX_bd (x : Int) {n : Int} (hn : 1 ≤ n) : 0 ≤ belX x n ∧ belX x n < n := by
 have h3 : x.tmod n < n := Int.tmod_lt_of_pos _ (by omega)
 have h4 : -n < x.tmod n := by have := Int.lt_tmod_of_pos x (show 0 < n by omega); omega
 unfold belX
 split <;> omega
structure ZsT where
 l : List Int
 lo : Nat
def nxX (zs : ZsT) (p : Nat) (n : Int) : Int :=
 if zs.l.length = 0 then belX (((p : Int) + 1) * 7919) n
 else belX (wrap64 (belX ((zs.l[p % zs.l.length]?).getD 0) 1073741824 + wrap64 (wrap64 ((p / zs.l.length : Nat) : Int) * wrap64 (7919 + ((p % zs.l.length : Nat) : Int))))) n
theorem nxX_bd (zs : ZsT) (p : Nat) {n : Int} (hn : 1 ≤ n) : 0 ≤ nxX zs p n ∧ nxX zs p n < n := by
 unfold nxX
 split <;> exact belX_bd _ hn
theorem belowX_calls (x n : Int) (w : World) (hn : 1 ≤ n) (hn' : n ≤ 9223372036854775807) :
 Calls Tryz.prog 106 #[.int .i64 x, .int .i64 n] w fun e w' => e = .returned (.int .i64 (belX x n)) ∧ w = w' := by
 have h1 : ¬ n < 1 := by omega
 have h3 : x.tmod n < n := Int.tmod_lt_of_pos _ (by omega)
 have h4 : -n < x.tmod n := by have := Int.lt_tmod_of_pos x (show 0 < n by omega); omega
 by_cases h2 : x.tmod n < 0
 · have hb : belX x n = x.tmod n + n := by unfold belX; rw [if_pos h2]
   have HB := Lib.hid hb
   clear hb
   go_enter Tryz.func106, Tryz.ntmps106
   go_wp2
   go_ret
   exact ⟨by rw [HB.out]; rfl, rfl⟩
 · have hb : belX x n = x.tmod n := by unfold belX; rw [if_neg h2]
   have HB := Lib.hid hb
   clear hb
   go_enter Tryz.func106, Tryz.ntmps106
   go_wp2
   go_ret
   exact ⟨by rw [HB.out]; rfl, rfl⟩
def StrmX (w : World) (b : Nat) (zs : ZsT) (p : Nat) : Prop :=
 ∃ (A : Option Addr) (cap : Nat), w.cell? ⟨b, 0, none⟩ = some (.slice A zs.l.length cap) ∧ w.cell? ⟨b, 1, none⟩ = some (.int .i64 (p : Int)) ∧ w.frozen? ⟨b, 1, none⟩ = false ∧
  zs.l.length ≤ 9223372036854775807 ∧ (0 < zs.l.length → ∃ g o, A = some ⟨g, o, none⟩ ∧ (g < zs.lo ∧ zs.lo ≤ b) ∧ ∀ j (hj : j < zs.l.length), w.cell? ⟨g, o + j, none⟩ = some (.int .i64 zs.l[j]))
theorem StrmX.lt {w : World} {b p : Nat} {zs : ZsT} (h : StrmX w b zs p) : b < w.heap.size := by
 obtain ⟨A, cap, h0, _⟩ := h
 exact World.block_lt_of_cell? w _ h0
theorem StrmX.keep {w w' : World} {b p : Nat} {zs : ZsT} (h : StrmX w b zs p) (hb : ∀ k, k ≤ b → w'.heap[k]? = w.heap[k]?) : StrmX w' b zs p := by
 obtain ⟨A, cap, h0, h1, h2, h5, h6⟩ := h
 have hc : ∀ i, w'.cell? ⟨b, i, none⟩ = w.cell? ⟨b, i, none⟩ := fun i => World.cell?_of_block (hb b (Nat.le_refl _))
 have hf : ∀ i, w'.frozen? ⟨b, i, none⟩ = w.frozen? ⟨b, i, none⟩ := fun i => World.frozen?_of_block (hb b (Nat.le_refl _))
 refine ⟨A, cap, (hc 0).trans h0, (hc 1).trans h1, (hf 1).trans h2, h5, fun hlen => ?_⟩
 obtain ⟨g, o, rfl, hg, hz⟩ := h6 hlen
 exact ⟨g, o, rfl, hg, fun j hj => (World.cell?_of_block (hb g (by omega))).trans (hz j hj)⟩
theorem StrmX.below {w w' : World} {b p : Nat} {zs : ZsT} (h : StrmX w b zs p) (k : Below w.heap.size w w') : StrmX w' b zs p :=
 h.keep (fun i hi => k.block i (by have := h.lt; omega))
theorem StrmX.alloc {w : World} {b p : Nat} {zs : ZsT} (h : StrmX w b zs p) (o : Obj) : StrmX (w.alloc o) b zs p := h.below ((Below.refl _ _).alloc (Nat.le_refl _) o)
theorem StrmX.grown {w w' : World} {b p : Nat} {zs : ZsT} (h : StrmX w b zs p) {row : Option Nat} (hg : w.grownBy w' row) (hr : ∀ k, row = some k → b < k) : StrmX w' b zs p :=
 h.keep (fun i hi => hg.block i (by have := h.lt; omega) (fun e => by have := hr i e.symm; omega))
theorem StrmX.setCell {w : World} {b p : Nat} {zs : ZsT} (h : StrmX w b zs p) {q : Addr} (hp : b < q.block) (u : Value) : StrmX (w.setCell q u) b zs p :=
 h.keep (fun i hi => Below.heap_setCell _ _ _ _ (by omega))
theorem StrmX.strm {w : World} {b p K : Nat} {zs : ZsT} (h : StrmX w b zs p) (hp : p ≤ K) : Strm w b K := by
 obtain ⟨A, cap, h0, h1, h2, h5, h6⟩ := h
 refine ⟨A, zs.l.length, cap, (p : Int), h0, h1, h2, by omega, by omega, h5, fun hl => ?_⟩
 obtain ⟨g, o, hA, hg, hz⟩ := h6 hl
 exact ⟨g, o, hA, Nat.lt_of_lt_of_le hg.1 hg.2, fun j hj => ⟨_, hz j hj⟩⟩
theorem strmX_start {w : World} {a : Option Addr} {len cap : Nat} {zs : List Int} (h : InRow w a len cap zs) (t : TypeId) :
 StrmX (w.alloc (.cells #[.slice a len cap, .int .i64 0] t)) w.heap.size ⟨zs.take len, w.heap.size⟩ 0 := by
 have B := Blk.new w t #[.slice a len cap, .int .i64 0]
 have hlz : (zs.take len).length = len := by
  rcases h with ⟨_, h1, _, h2⟩ | ⟨x, _, h1, h2, h3, h4⟩
  · rw [h1, h2]
    rfl
  · rw [List.length_take]
    omega
 refine ⟨a, cap, by simp only [hlz]; exact B.two.1, B.two.2.1, B.two.2.2.2, ?_, ?_⟩
 · simp only [hlz]
   rcases h with ⟨_, rfl, _, _⟩ | ⟨x, _, h1, h2, _⟩
   · omega
   · unfold maxLen at h2; omega
 · intro hlen
   simp only [hlz] at hlen
   rcases h with ⟨_, rfl, _, _⟩ | ⟨x, rfl, h1, h2, h3, h4, _⟩
   · omega
   · have c0 := h4 0 (by omega)
     obtain ⟨g, o, spot⟩ := x
     have hspot : spot = none := by simpa [Addr.add] using World.cell?_spot c0
     subst hspot
     have hadd : ∀ j, (⟨g, o, none⟩ : Addr).add j = ⟨g, o + j, none⟩ := fun j => by unfold Addr.add; split <;> simp_all
     have hg : g < w.heap.size := by have := World.block_lt_of_cell? w _ c0; rw [hadd] at this; exact this
     refine ⟨g, o, rfl, ⟨hg, Nat.le_refl _⟩, fun j hj => ?_⟩
     simp only [hlz] at hj
     have := h4 j (by omega)
     rw [hadd] at this
     have hjz : j < zs.length := by omega
     simp only [List.getElem_take]
     simp [List.getElem?_eq_getElem hjz] at this
     exact (World.cell?_alloc_lt w _ _ hg).trans this
theorem StrmX.step {w : World} {b p : Nat} {A : Option Addr} {cap : Nat} {zs : ZsT} (h0 : w.cell? ⟨b, 0, none⟩ = some (.slice A zs.l.length cap)) (h1 : w.cell? ⟨b, 1, none⟩ = some (.int .i64 (p : Int))) (hf : w.frozen? ⟨b, 1, none⟩ = false)
 (hl : zs.l.length ≤ 9223372036854775807) (hA : 0 < zs.l.length → ∃ g o, A = some ⟨g, o, none⟩ ∧ (g < zs.lo ∧ zs.lo ≤ b) ∧ ∀ j (hj : j < zs.l.length), w.cell? ⟨g, o + j, none⟩ = some (.int .i64 zs.l[j])) (n : Nat) : StrmX ((w.setCell ⟨b, 1, none⟩ (.int .i64 ((p : Int) + 1))).drewN n) b zs (p + 1) := by
 refine ⟨A, cap, ?_, World.cell?_setCell_same _ _ _ h1, ?_, hl, fun hlen => ?_⟩
 · exact (World.cell?_setCell_other _ _ _ _ (by simp)).trans h0
 · exact (World.frozen?_setCell _ _ _ _).trans hf
 · obtain ⟨g, o, rfl, hg, hz⟩ := hA hlen
   refine ⟨g, o, rfl, hg, fun j hj => (World.cell?_setCell_other _ _ _ _ (fun e => ?_)).trans (hz j hj)⟩
   injection e with e
   omega
def DrX (v : Value) (b : Nat) (zs : ZsT) (p : Nat) (w : World) (e : Ending) (w' : World) : Prop := e = .returned v ∧ StrmX w' b zs p ∧ Bx w.heap.size b w w'
set_option maxRecDepth 100000 in
theorem nextX_calls (b p : Nat) (zs : ZsT) (n : Int) (w : World) (hn : 1 ≤ n) (hn' : n ≤ 9223372036854775807) (hs : StrmX w b zs p) (hp : p ≤ 1000000) :
 Calls Tryz.prog 51 #[.pointer (some ⟨b, 0, none⟩), .int .i64 n] w (DrX (.int .i64 (nxX zs p n)) b zs (p + 1) w) := by
 obtain ⟨A, cap, hc0, hc1, hf, hl, hA⟩ := hs
 have hst := fun nq => StrmX.step hc0 hc1 hf hl hA nq
 have hbx : ∀ nq, Bx w.heap.size b w ((w.setCell ⟨b, 1, none⟩ (.int .i64 ((p : Int) + 1))).drewN nq) := fun nq => ((Bx.refl _ _ _).setCell (p := ⟨b, 1, none⟩) (.inl rfl) _).drewN nq
 by_cases h0 : zs.l.length = 0
 · have HV := Lib.hid (show nxX zs p n = belX (((p : Int) + 1) * 7919) n by unfold nxX; rw [if_pos h0])
   rw [h0] at hc0
   clear hA
   go_enter Tryz.func51, Tryz.ntmps51
   go_wp2_with fail
   refine (belowX_calls _ _ _ hn hn').mono ?_
   rintro e w' ⟨rfl, rfl⟩
   go_wp2_with fail
   go_ret
   exact ⟨by rw [HV.out]; rfl, hst 0, hbx 0⟩
 · obtain ⟨len, hlen⟩ : ∃ l, zs.l.length = l := ⟨_, rfl⟩
   have HV := Lib.hid (show nxX zs p n = belX (wrap64 (belX ((zs.l[p % len]?).getD 0) 1073741824 + wrap64 (wrap64 ((p / len : Nat) : Int) * wrap64 (7919 + ((p % len : Nat) : Int))))) n by unfold nxX; rw [if_neg h0, hlen])
   obtain ⟨g, o, rfl, hgb0, hz⟩ := hA (by omega)
   have hgb : g ≠ b := by omega
   have hlp : 0 < len := by omega
   have hil : p % len < zs.l.length := by rw [hlen]; exact Nat.mod_lt _ hlp
   have hcz := hz _ hil
   have hgd : (zs.l[p % len]?).getD 0 = zs.l[p % len] := by rw [List.getElem?_eq_getElem hil]; rfl
   rw [hgd] at HV
   obtain ⟨z, hzz⟩ : ∃ z, zs.l[p % len] = z := ⟨_, rfl⟩
   rw [hzz] at hcz HV
   have hmod : ((p : Int)) % (len : Int) = ((p % len : Nat) : Int) := (Int.natCast_emod p len).symm
   have hdiv : ((p : Int)) / (len : Int) = ((p / len : Nat) : Int) := (Int.natCast_ediv p len).symm
   have hr1 : p / len ≤ p := Nat.div_le_self _ _
   obtain ⟨i, hi⟩ : ∃ i, p % len = i := ⟨_, rfl⟩
   obtain ⟨r, hr⟩ : ∃ r, p / len = r := ⟨_, rfl⟩
   rw [hi] at hcz HV hmod hil
   rw [hr] at HV hdiv hr1
   rw [hlen] at hc0 hl hil
   have h0' : ((len : Int) == 0) = false := by simp; omega
   have HI := Lib.hid hmod
   have HR := Lib.hid hdiv
   clear hmod hdiv hi hr hz hA hgd hzz hlen h0
   go_enter Tryz.func51, Tryz.ntmps51
   go_wp2_with fail
   go_quiet (fail)
   rw [HI.out]
   go_wp2_with fail
   go_quiet (fail)
   rw [HR.out]
   go_wp2_with fail
   refine (belowX_calls _ _ _ (by omega) (by omega)).mono ?_
   rintro e w' ⟨rfl, rfl⟩
   have hbb := belX_bd z (n := 1073741824) (by omega)
   obtain ⟨y, hy⟩ : ∃ y, belX z 1073741824 = y := ⟨_, rfl⟩
   rw [hy] at hbb HV ⊢
   obtain ⟨hb1, hb2⟩ := hbb
   clear hy
   go_wp2_with fail
   refine (belowX_calls _ _ _ hn hn').mono ?_
   rintro e w' ⟨rfl, rfl⟩
   go_wp2_with fail
   go_ret
   exact ⟨by rw [HV.out]; rfl, hst _, hbx _⟩
theorem rangeX_calls (b p : Nat) (zs : ZsT) (lo hi : Int) (w : World) (h1 : lo ≤ hi) (hlo : -2305843009213693952 ≤ lo) (hhi : hi ≤ 2305843009213693951) (hs : StrmX w b zs p) (hp : p ≤ 1000000) :
 Calls Tryz.prog 9 #[.pointer (some ⟨b, 0, none⟩), .int .i64 lo, .int .i64 hi] w (DrX (.int .i64 (lo + nxX zs p (hi - lo + 1))) b zs (p + 1) w) := by
 have h2 : ¬ hi < lo := by omega
 have hbd := nxX_bd zs p (n := hi - lo + 1) (by omega)
 have HN := Lib.hid (nextX_calls b p zs (hi - lo + 1) w (by omega) (by omega) hs hp)
 obtain ⟨v, hv⟩ : ∃ v, nxX zs p (hi - lo + 1) = v := ⟨_, rfl⟩
 rw [hv] at HN hbd ⊢
 obtain ⟨g1, g2⟩ := hbd
 clear hv
 go_enter Tryz.func9, Tryz.ntmps9
 go_wp2_with fail
 refine HN.out.mono ?_
 rintro e w' ⟨rfl, hs', hb'⟩
 go_wp2_with fail
 go_ret
 exact ⟨rfl, hs', hb'⟩
theorem flipX_calls (b p : Nat) (zs : ZsT) (n : Int) (w : World) (hn : 1 ≤ n) (hn' : n ≤ 9223372036854775807) (hs : StrmX w b zs p) (hp : p ≤ 1000000) :
 Calls Tryz.prog 25 #[.pointer (some ⟨b, 0, none⟩), .int .i64 n] w (DrX (.bool (nxX zs p n == 0)) b zs (p + 1) w) := by
 have HN := Lib.hid (nextX_calls b p zs n w hn hn' hs hp)
 obtain ⟨v, hv⟩ : ∃ v, nxX zs p n = v := ⟨_, rfl⟩
 rw [hv] at HN ⊢
 clear hv
 go_enter Tryz.func25, Tryz.ntmps25
 go_wp2_with fail
 refine HN.out.mono ?_
 rintro e w' ⟨rfl, hs', hb'⟩
 go_wp2_with fail
 go_ret
 exact ⟨rfl, hs', hb'⟩
def pkX (zs : ZsT) (p : Nat) (xs : List Int) : Int := (xs[(nxX zs p (xs.length : Int)).toNat]?).getD 0
theorem pickX_calls (b p : Nat) (zs : ZsT) (A : Option Addr) (n c : Nat) (xs : List Int) (w : World) (h0 : 0 < n) (hr : Rd w b 1 (.slice A n c) n (xs.map (Value.int .i64))) (hs : StrmX w b zs p) (hp : p ≤ 1000000) :
 Calls Tryz.prog 30 #[.pointer (some ⟨b, 0, none⟩), .slice A n c] w (DrX (.int .i64 (pkX zs p xs)) b zs (p + 1) w) := by
 obtain ⟨A', c', e1, e2, e3, e4, e5, e6⟩ := hr
 injection e1 with ea eb ec
 subst ea ec
 obtain ⟨g, o, rfl, f2, f3⟩ := e6 h0
 unfold maxLen at e3
 have hxl : xs.length = n := by simpa using e4
 have hbd := nxX_bd zs p (n := (n : Int)) (by omega)
 have HN := Lib.hid (nextX_calls b p zs (n : Int) w (by omega) (by omega) hs hp)
 have hpk : pkX zs p xs = (xs[(nxX zs p (n : Int)).toNat]?).getD 0 := by unfold pkX; rw [hxl]
 rw [hpk]
 obtain ⟨v, hv⟩ : ∃ v, nxX zs p (n : Int) = v := ⟨_, rfl⟩
 rw [hv] at HN hbd ⊢
 obtain ⟨i, rfl⟩ := Int.eq_ofNat_of_zero_le hbd.1
 have hi : i < n := by omega
 have hil : i < xs.length := by omega
 have hx : (xs[((i : Int)).toNat]?).getD 0 = xs[i] := by rw [Int.toNat_natCast, List.getElem?_eq_getElem hil]; rfl
 rw [hx]
 obtain ⟨z, hz⟩ : ∃ z, xs[i] = z := ⟨_, rfl⟩
 have hcw : w.cell? ⟨g, o + i, none⟩ = some (.int .i64 z) := f3 i _ (by rw [List.getElem?_map, List.getElem?_eq_getElem hil, hz]; rfl)
 rw [hz]
 have HC := Lib.hid hcw
 have hi0 : (0 : Int) ≤ (i : Int) := by omega
 have hi1 : (i : Int) < (n : Int) := by omega
 clear f3 hz hx hv hpk hcw e4 e5 e6
 go_enter Tryz.func30, Tryz.ntmps30
 go_wp2_with fail
 refine HN.out.mono ?_
 rintro e w' ⟨rfl, hs', hb'⟩
 have hc : w'.cell? ⟨g, o + i, none⟩ = some (.int .i64 z) := hb'.cell HC.out f2
 go_wp2_with fail
 go_ret
 exact ⟨rfl, hs', hb'⟩
end Go.Proofs.YtapgnaimbgjcnaaGreatDoor
/-
  The list of resources of XSep beside a stream whose answers are known (XStrX); what the calls of the stream answer. (Printed by gen_sepx.py.)
-/
namespace Go.Proofs.YtapgnaimbgjcnaaGreatDoor
open Go Go.RowKit
structure SpX (zs : ZsT) (w : World) (b K : Nat) (W : World) (l : List Rsc) : Prop where
 strm : StrmX W b zs K
 bx : Bx w.heap.size b w W
 hb : b < w.heap.size
 hold : ∀ r ∈ l, r.P W
 ok : ∀ r ∈ l, r.Ok
 new : ∀ r ∈ l, ∀ g, r.fp g → w.heap.size ≤ g ∧ g < W.heap.size
 apart : l.Pairwise Apart
section
variable {zs : ZsT} {w W W' : World} {b K K' : Nat} {l : List Rsc} {r : Rsc}
theorem SpX.start (h : StrmX w b zs K) : SpX zs w b K w [] := ⟨h, Bx.refl _ _ _, h.lt, (by intro r hr; cases hr), (by intro r hr; cases hr), (by intro r hr; cases hr), List.Pairwise.nil⟩
theorem SpX.size (h : SpX zs w b K W l) : w.heap.size ≤ W.heap.size := h.bx.size
theorem SpX.lt (h : SpX zs w b K W l) : b < W.heap.size := h.strm.lt
theorem SpX.call (h : SpX zs w b K W l) (hs : StrmX W' b zs K') (k : Bx W.heap.size b W W') : SpX zs w b K' W' l :=
 ⟨hs, h.bx.call k (Nat.le_refl _), h.hb, fun r hr => h.ok r hr W W' (fun g hg => by
  have := h.new r hr g hg
  have := h.hb
  exact k.block g (by omega) (by omega)) (h.hold r hr), h.ok, fun r hr g hg => by have := h.new r hr g hg; have := k.size; omega, h.apart⟩
theorem SpX.callB (h : SpX zs w b K W l) (k : Below W.heap.size W W') : SpX zs w b K W' l := h.call (h.strm.below k) (Bx.of_below k b)
theorem SpX.drew (h : SpX zs w b K W l) : SpX zs w b K W.drew l := h.callB (below_drewN (Below.refl _ _) 1)
theorem SpX.drewN (h : SpX zs w b K W l) (n : Nat) : SpX zs w b K (W.drewN n) l := h.callB (below_drewN (Below.refl _ _) n)
theorem SpX.alloc (h : SpX zs w b K W l) (o : Obj) : SpX zs w b K (W.alloc o) l := h.callB ((Below.refl _ _).alloc (Nat.le_refl _) o)
theorem SpX.cons (h : SpX zs w b K W l) (hp : r.P W) (hok : r.Ok) (hn : ∀ g, r.fp g → w.heap.size ≤ g ∧ g < W.heap.size) (ha : ∀ s ∈ l, Apart r s) : SpX zs w b K W (r :: l) :=
 ⟨h.strm, h.bx, h.hb, fun s hs => by rcases List.mem_cons.1 hs with rfl | hs; exact hp; exact h.hold s hs, fun s hs => by rcases List.mem_cons.1 hs with rfl | hs; exact hok; exact h.ok s hs,
  fun s hs => by rcases List.mem_cons.1 hs with rfl | hs; exact hn; exact h.new s hs, List.Pairwise.cons ha h.apart⟩
theorem SpX.add (h : SpX zs w b K W l) (cs : Array Value) (t : TypeId) : SpX zs w b K (W.alloc (.cells cs t)) (rBlk W.heap.size t cs :: l) :=
 (h.alloc _).cons (Blk.new W t cs) (rBlk_ok _ _ _) (fun g hg => by
  have hg : g = W.heap.size := hg
  subst hg
  exact ⟨h.size, by simp⟩) (fun s hs g hg hg2 => by
  have hg : g = W.heap.size := hg
  have := (h.new s hs g hg2).2
  omega)
theorem SpX.tail (h : SpX zs w b K W (r :: l)) : SpX zs w b K W l :=
 ⟨h.strm, h.bx, h.hb, fun s hs => h.hold s (List.mem_cons_of_mem _ hs), fun s hs => h.ok s (List.mem_cons_of_mem _ hs), fun s hs => h.new s (List.mem_cons_of_mem _ hs), (List.pairwise_cons.1 h.apart).2⟩
theorem SpX.bare (h : SpX zs w b K W l) : SpX zs w b K W [] := ⟨h.strm, h.bx, h.hb, (by intro r hr; cases hr), (by intro r hr; cases hr), (by intro r hr; cases hr), List.Pairwise.nil⟩
theorem SpX.head (h : SpX zs w b K W (r :: l)) : r.P W := h.hold r (List.mem_cons_self ..)
theorem SpX.nth (h : SpX zs w b K W l) (i : Nat) (hi : l[i]? = some r) : r.P W := h.hold r (List.mem_of_getElem? hi)
theorem SpX.perm {l' : List Rsc} (h : SpX zs w b K W l) (hp : l.Perm l') : SpX zs w b K W l' :=
 ⟨h.strm, h.bx, h.hb, fun s hs => h.hold s (hp.mem_iff.2 hs), fun s hs => h.ok s (hp.mem_iff.2 hs), fun s hs => h.new s (hp.mem_iff.2 hs), hp.pairwise h.apart (fun h => apart_comm h)⟩
theorem SpX.front (h : SpX zs w b K W l) (i : Nat) (hi : l[i]? = some r) {l' : List Rsc} (hl : l.eraseIdx i = l') : SpX zs w b K W (r :: l') := by
 subst hl
 exact h.perm (front_perm l i r hi)
theorem SpX.drop (h : SpX zs w b K W l) (i : Nat) (hi : l[i]? = some r) {l' : List Rsc} (hl : l.eraseIdx i = l') : SpX zs w b K W l' := (h.front i hi hl).tail
theorem SpX.nil (h : SpX zs w b K W l) (base : Nat) (e : TypeId) (size : Nat) : SpX zs w b K W (rOwn base e size (.slice none 0 0) 0 [] :: l) :=
 h.cons (World.ownsRow_nil _ _ _ _) (rOwn_ok _ _ _ _ _ _) (fun g hg => by simp [rOwn, Value.ownBlock] at hg) (fun s _ g hg => by simp [rOwn, Value.ownBlock] at hg)
theorem SpX.own {e : TypeId} {size n : Nat} {v : Value} {xs : List Value} (h : SpX zs w b K W l) (hs : StrmX W' b zs K') (k : Bx W.heap.size b W W') (ho : W'.ownsRow W.heap.size e size v n xs) : SpX zs w b K' W' (rOwn w.heap.size e size v n xs :: l) :=
 (h.call hs k).cons (own_base ho h.size) (rOwn_ok _ _ _ _ _ _) (fun g hg => by
  have := ho.lt g hg
  have := h.size
  omega) (fun s hs g hg hg2 => by
  have := (ho.lt g hg).1
  have := (h.new s hs g hg2).2
  omega)
theorem SpX.append {base : Nat} {e : TypeId} {size n n' : Nat} {v v' : Value} {xs xs' : List Value} (h : SpX zs w b K W (rOwn base e size v n xs :: l)) (ho : W'.ownsRow base e size v' n' xs') (hg : W.grownBy W' v.ownBlock) (hv : v'.ownBlock = v.ownBlock ∨ v'.ownBlock = some W.heap.size) :
 SpX zs w b K W' (rOwn base e size v' n' xs' :: l) := by
 have hbw := h.hb
 have hrow : ∀ q, v.ownBlock = some q → w.heap.size ≤ q ∧ q < W.heap.size := fun q hq => h.new _ (List.mem_cons_self ..) q hq
 have h0 : SpX zs w b K W' l := ⟨h.strm.grown hg (fun k hk => by have := hrow k hk; omega), h.bx.grown hg (Nat.le_refl _) (fun k hk => .inr (hrow k hk).1), h.hb,
  fun r hr => h.ok r (List.mem_cons_of_mem _ hr) W W' (fun g hgg => hg.block g (h.new r (List.mem_cons_of_mem _ hr) g hgg).2 (fun e => (List.pairwise_cons.1 h.apart).1 r hr g e.symm hgg)) (h.hold r (List.mem_cons_of_mem _ hr)),
  h.tail.ok, fun r hr g hgg => by have := h.tail.new r hr g hgg; have := hg.size; omega, h.tail.apart⟩
 refine h0.cons ho (rOwn_ok _ _ _ _ _ _) (fun g hgg => ?_) (fun s hs g hgg hg2 => ?_)
 · have hgg : v'.ownBlock = some g := hgg
   have hl := (ho.lt g hgg).2
   rcases hv with hv | hv
   · rw [hv] at hgg; exact ⟨(hrow g hgg).1, hl⟩
   · rw [hv] at hgg; injection hgg with hgg; subst hgg; exact ⟨h.size, hl⟩
 · have hgg : v'.ownBlock = some g := hgg
   rcases hv with hv | hv
   · rw [hv] at hgg; exact (List.pairwise_cons.1 h.apart).1 s hs g hgg hg2
   · rw [hv] at hgg; injection hgg with hgg; subst hgg
     have := (h.tail.new s hs _ hg2).2
     omega
theorem SpX.store_ (h : SpX zs w b K W (r :: l)) {g : Nat} (hg : r.fp g) (i : Nat) (u : Value) {r' : Rsc} (hp : r'.P (W.setCell ⟨g, i, none⟩ u)) (hok : r'.Ok) (hf : ∀ k, r'.fp k → r.fp k) : SpX zs w b K (W.setCell ⟨g, i, none⟩ u) (r' :: l) := by
 have hgn := h.new _ (List.mem_cons_self ..) g hg
 have hbw := h.hb
 have hz : (W.setCell ⟨g, i, none⟩ u).heap.size = W.heap.size := by simp [World.setCell]
 have h0 : SpX zs w b K (W.setCell ⟨g, i, none⟩ u) l := ⟨h.strm.setCell (q := ⟨g, i, none⟩) (by show b < g; omega) u, h.bx.setCell (p := ⟨g, i, none⟩) (.inr hgn.1) u, h.hb,
  fun s hs => h.ok s (List.mem_cons_of_mem _ hs) W _ (fun k hk => Below.heap_setCell W ⟨g, i, none⟩ u k (fun e => (List.pairwise_cons.1 h.apart).1 s hs g hg (by have e : k = g := e; rw [← e]; exact hk))) (h.hold s (List.mem_cons_of_mem _ hs)),
  h.tail.ok, fun s hs k hk => by rw [hz]; exact h.tail.new s hs k hk, h.tail.apart⟩
 exact h0.cons hp hok (fun k hk => by rw [hz]; exact h.new _ (List.mem_cons_self ..) k (hf k hk)) (fun s hs k hk hk2 => (List.pairwise_cons.1 h.apart).1 s hs k (hf k hk) hk2)
theorem SpX.set_ {g : Nat} {t : TypeId} {cs : Array Value} (h : SpX zs w b K W (rBlk g t cs :: l)) (i : Nat) (u : Value) : SpX zs w b K (W.setCell ⟨g, i, none⟩ u) (rBlk g t (cs.setIfInBounds i u) :: l) :=
 h.store_ (g := g) rfl i u (r' := rBlk g t (cs.setIfInBounds i u)) (Blk.set_ h.head i u) (rBlk_ok _ _ _) (fun _k hk => hk)
theorem SpX.snoc {α : Type} {f : α → Rsc} {xs : List α} {a : α} (h : SpX zs w b K W (f a :: rAll f xs :: l)) (hf : ∀ a, (f a).Ok) : SpX zs w b K W (rAll f (xs ++ [a]) :: l) := by
 have h1 : (f a).P W := h.head
 have h2 : ∀ x ∈ xs, (f x).P W := h.tail.head
 refine h.tail.tail.cons (fun x hx => ?_) (rAll_ok hf _) (fun g hg => ?_) (fun s hs g hg hg2 => ?_)
 · rcases List.mem_append.1 hx with hx | hx
   · exact h2 x hx
   · simp at hx; subst hx; exact h1
 · obtain ⟨x, hx, hxg⟩ := hg
   rcases List.mem_append.1 hx with hx | hx
   · exact h.tail.new _ (List.mem_cons_self ..) g ⟨x, hx, hxg⟩
   · simp at hx; subst hx; exact h.new _ (List.mem_cons_self ..) g hxg
 · obtain ⟨x, hx, hxg⟩ := hg
   rcases List.mem_append.1 hx with hx | hx
   · exact (List.pairwise_cons.1 h.tail.apart).1 s hs g ⟨x, hx, hxg⟩ hg2
   · simp at hx; subst hx; exact (List.pairwise_cons.1 h.apart).1 s (List.mem_cons_of_mem _ hs) g hxg hg2
theorem SpX.allNil {α : Type} (h : SpX zs w b K W l) (f : α → Rsc) (hf : ∀ a, (f a).Ok) : SpX zs w b K W (rAll f [] :: l) :=
 h.cons (by intro a ha; cases ha) (rAll_ok hf _) (fun g hg => by obtain ⟨a, ha, _⟩ := hg; cases ha) (fun s _ g hg => by obtain ⟨a, ha, _⟩ := hg; cases ha)
theorem SpX.merge {l2 : List Rsc} (h : SpX zs w b K W l) (h2 : SpX zs W b K' W' l2) : SpX zs w b K' W' (l2 ++ l) := by
 have h0 := h.call h2.strm h2.bx
 refine ⟨h2.strm, h0.bx, h.hb, fun s hs => ?_, fun s hs => ?_, fun s hs g hg => ?_, ?_⟩
 · rcases List.mem_append.1 hs with hs | hs
   · exact h2.hold s hs
   · exact h0.hold s hs
 · rcases List.mem_append.1 hs with hs | hs
   · exact h2.ok s hs
   · exact h0.ok s hs
 · rcases List.mem_append.1 hs with hs | hs
   · have := h2.new s hs g hg; have := h.size; omega
   · exact h0.new s hs g hg
 · refine List.pairwise_append.2 ⟨h2.apart, h0.apart, fun r hr s hs g hg hg2 => ?_⟩
   have := (h2.new r hr g hg).1
   have := (h.new s hs g hg2).2
   omega
theorem SpX.rd (h : SpX zs w b K W l) {size n : Nat} {v : Value} {xs : List Value} (hr : Rd w b size v n xs) : Rd W b size v n xs := hr.bx h.bx
theorem SpX.ne {g : Nat} {t : TypeId} {cs : Array Value} (h : SpX zs w b K W l) (i : Nat) (hi : l[i]? = some (rBlk g t cs)) : g ≠ b := by
 have := (h.new _ (List.mem_of_getElem? hi) g rfl).1
 have := h.hb
 omega
end
theorem SpX.at_ {zs : ZsT} {w W : World} {b K K' : Nat} {l : List Rsc} (h : SpX zs w b K W l) (hK : K = K') : SpX zs w b K' W l := hK ▸ h
def SpXS (zs : ZsT) (v : Value) (w : World) (b p : Nat) (l : List Rsc) (e : Ending) (w' : World) : Prop := e = .returned v ∧ SpX zs w b p w' l
section
variable {zs : ZsT} {w W : World} {b p : Nat} {l : List Rsc}
theorem spx_next (h : SpX zs w b p W l) (n : Int) (hn : 1 ≤ n) (hn' : n ≤ 9223372036854775807) (hp : p ≤ 1000000) :
 Calls Tryz.prog 51 #[.pointer (some ⟨b, 0, none⟩), .int .i64 n] W (SpXS zs (.int .i64 (nxX zs p n)) w b (p + 1) l) :=
 (nextX_calls b p zs n W hn hn' h.strm hp).mono (fun _e _w' ⟨he, hs, hb⟩ => ⟨he, h.call hs hb⟩)
theorem spx_range (h : SpX zs w b p W l) (lo hi : Int) (h1 : lo ≤ hi) (hlo : -2305843009213693952 ≤ lo) (hhi : hi ≤ 2305843009213693951) (hp : p ≤ 1000000) :
 Calls Tryz.prog 9 #[.pointer (some ⟨b, 0, none⟩), .int .i64 lo, .int .i64 hi] W (SpXS zs (.int .i64 (lo + nxX zs p (hi - lo + 1))) w b (p + 1) l) :=
 (rangeX_calls b p zs lo hi W h1 hlo hhi h.strm hp).mono (fun _e _w' ⟨he, hs, hb⟩ => ⟨he, h.call hs hb⟩)
theorem spx_flip (h : SpX zs w b p W l) (n : Int) (hn : 1 ≤ n) (hn' : n ≤ 9223372036854775807) (hp : p ≤ 1000000) :
 Calls Tryz.prog 25 #[.pointer (some ⟨b, 0, none⟩), .int .i64 n] W (SpXS zs (.bool (nxX zs p n == 0)) w b (p + 1) l) :=
 (flipX_calls b p zs n W hn hn' h.strm hp).mono (fun _e _w' ⟨he, hs, hb⟩ => ⟨he, h.call hs hb⟩)
theorem spx_pickL (h : SpX zs w b p W l) (xs : List Int) (cs : Array Value) (t : TypeId) (n : Nat) (hx : cs.toList = xs.map (Value.int .i64)) (h0 : 0 < n) (hn : n ≤ maxLen) (hs : cs.size = n) (hp : p ≤ 1000000) :
 Calls Tryz.prog 30 #[.pointer (some ⟨b, 0, none⟩), .slice (some ⟨W.heap.size, 0, none⟩) n n] (W.alloc (.cells cs t)) (SpXS zs (.int .i64 (pkX zs p xs)) w b (p + 1) l) := by
 have hA := h.add cs t
 have hr := blkRd (b := b) 1 n (hA.nth 0 rfl) (hA.ne 0 rfl) hn (by omega)
 rw [hx] at hr
 exact (pickX_calls b p zs _ n n xs _ h0 hr hA.strm hp).mono (fun _e _w' ⟨he, hs, hb⟩ => ⟨he, (hA.call hs hb).tail⟩)
end
theorem pkX_bd (zs : ZsT) (p : Nat) (xs : List Int) (lo hi : Int) (h0 : 0 < xs.length) (h : ∀ x ∈ xs, lo ≤ x ∧ x ≤ hi) : lo ≤ pkX zs p xs ∧ pkX zs p xs ≤ hi := by
 have hb := nxX_bd zs p (n := (xs.length : Int)) (by omega)
 have hi : (nxX zs p (xs.length : Int)).toNat < xs.length := by omega
 unfold pkX
 rw [List.getElem?_eq_getElem hi]
 exact h _ (List.getElem_mem hi)
def oddX (zs : ZsT) (p : Nat) (lo hi : Int) : Int := if nxX zs p 12 = 0 then pkX zs (p + 1) [lo - 1, hi + 1, lo, hi, -1099511627776, 1099511627776] else lo + nxX zs (p + 1) (hi - lo + 1)
theorem oddX_bd (zs : ZsT) (p : Nat) (lo hi : Int) (h1 : lo ≤ hi) (hlo : -1000000000000 ≤ lo) (hhi : hi ≤ 1000000000000) : -1099511627776 ≤ oddX zs p lo hi ∧ oddX zs p lo hi ≤ 1099511627776 := by
 unfold oddX
 split
 · refine pkX_bd _ _ _ _ _ (by simp) ?_
   intro x hx
   simp at hx
   omega
 · have := nxX_bd zs (p + 1) (n := hi - lo + 1) (by omega)
   omega
theorem oddX_calls (b p : Nat) (zs : ZsT) (lo hi : Int) (w : World) (h1 : lo ≤ hi) (hlo : -1000000000000 ≤ lo) (hhi : hi ≤ 1000000000000) (hs : StrmX w b zs p) (hp : p ≤ 900000) :
 Calls Tryz.prog 29 #[.pointer (some ⟨b, 0, none⟩), .int .i64 lo, .int .i64 hi] w (DrX (.int .i64 (oddX zs p lo hi)) b zs (p + 2) w) := by
 have hS := SpX.start hs
 have HF := Lib.hid (spx_flip hS 12 (by omega) (by omega) (by omega))
 by_cases h0 : nxX zs p 12 = 0
 · have HV := Lib.hid (show oddX zs p lo hi = pkX zs (p + 1) [lo - 1, hi + 1, lo, hi, -1099511627776, 1099511627776] by unfold oddX; rw [if_pos h0])
   have hfb : (nxX zs p 12 == 0) = true := by simpa using h0
   rw [hfb] at HF
   rw [HV.out]
   clear h0 hfb HV
   go_enter Tryz.func29, Tryz.ntmps29
   go_wp2_with fail
   refine HF.out.mono ?_
   rintro e w1 ⟨rfl, hS1⟩
   clear hS HF
   go_wp2_with fail
   refine (spx_pickL hS1 [lo - 1, hi + 1, lo, hi, -1099511627776, 1099511627776] #[.int .i64 (lo - 1), .int .i64 (hi + 1), .int .i64 lo, .int .i64 hi, .int .i64 (-1099511627776), .int .i64 1099511627776] 3 6 rfl (by decide) (by decide) rfl (by omega)).mono ?_
   rintro e w2 ⟨rfl, hS2⟩
   go_wp2_with fail
   go_ret
   exact ⟨rfl, hS2.strm, hS2.bx⟩
 · have HV := Lib.hid (show oddX zs p lo hi = lo + nxX zs (p + 1) (hi - lo + 1) by unfold oddX; rw [if_neg h0])
   have hfb : (nxX zs p 12 == 0) = false := by simpa using h0
   rw [hfb] at HF
   rw [HV.out]
   clear h0 hfb HV
   go_enter Tryz.func29, Tryz.ntmps29
   go_wp2_with fail
   refine HF.out.mono ?_
   rintro e w1 ⟨rfl, hS1⟩
   clear hS HF
   go_wp2_with fail
   refine (spx_range hS1 lo hi h1 (by omega) (by omega) (by omega)).mono ?_
   rintro e w2 ⟨rfl, hS2⟩
   go_wp2_with fail
   go_ret
   exact ⟨rfl, hS2.strm, hS2.bx⟩
theorem spx_odd {zs : ZsT} {w W : World} {b p : Nat} {l : List Rsc} (h : SpX zs w b p W l) (lo hi : Int) (h1 : lo ≤ hi) (hlo : -1000000000000 ≤ lo) (hhi : hi ≤ 1000000000000) (hp : p ≤ 900000) :
 Calls Tryz.prog 29 #[.pointer (some ⟨b, 0, none⟩), .int .i64 lo, .int .i64 hi] W (SpXS zs (.int .i64 (oddX zs p lo hi)) w b (p + 2) l) :=
 (oddX_calls b p zs lo hi W h1 hlo hhi h.strm hp).mono (fun _e _w' ⟨he, hs, hb⟩ => ⟨he, h.call hs hb⟩)
end Go.Proofs.YtapgnaimbgjcnaaGreatDoor
/-
  Some of the stream, to the letter: which string it answers. (Turned from XStrX's Pick.)
-/
namespace Go.Proofs.YtapgnaimbgjcnaaGreatDoor
open Go Go.RowKit
def smX (zs : ZsT) (p : Nat) (xs : List ByteArray) : ByteArray := (xs[(nxX zs p (xs.length : Int)).toNat]?).getD ⟨#[]⟩
theorem someX_calls (b p : Nat) (zs : ZsT) (A : Option Addr) (n c : Nat) (xs : List ByteArray) (w : World) (h0 : 0 < n) (hr : Rd w b 1 (.slice A n c) n (xs.map Value.string)) (hs : StrmX w b zs p) (hp : p ≤ 1000000) :
 Calls Tryz.prog 10 #[.pointer (some ⟨b, 0, none⟩), .slice A n c] w (DrX (.string (smX zs p xs)) b zs (p + 1) w) := by
 obtain ⟨A', c', e1, e2, e3, e4, e5, e6⟩ := hr
 injection e1 with ea eb ec
 subst ea ec
 obtain ⟨g, o, rfl, f2, f3⟩ := e6 h0
 unfold maxLen at e3
 have hxl : xs.length = n := by simpa using e4
 have hbd := nxX_bd zs p (n := (n : Int)) (by omega)
 have HN := Lib.hid (nextX_calls b p zs (n : Int) w (by omega) (by omega) hs hp)
 have hpk : smX zs p xs = (xs[(nxX zs p (n : Int)).toNat]?).getD ⟨#[]⟩ := by unfold smX; rw [hxl]
 rw [hpk]
 obtain ⟨v, hv⟩ : ∃ v, nxX zs p (n : Int) = v := ⟨_, rfl⟩
 rw [hv] at HN hbd ⊢
 obtain ⟨i, rfl⟩ := Int.eq_ofNat_of_zero_le hbd.1
 have hi : i < n := by omega
 have hil : i < xs.length := by omega
 have hx : (xs[((i : Int)).toNat]?).getD ⟨#[]⟩ = xs[i] := by rw [Int.toNat_natCast, List.getElem?_eq_getElem hil]; rfl
 rw [hx]
 obtain ⟨z, hz⟩ : ∃ z, xs[i] = z := ⟨_, rfl⟩
 have hcw : w.cell? ⟨g, o + i, none⟩ = some (.string z) := f3 i _ (by rw [List.getElem?_map, List.getElem?_eq_getElem hil, hz]; rfl)
 rw [hz]
 have HC := Lib.hid hcw
 have hi0 : (0 : Int) ≤ (i : Int) := by omega
 have hi1 : (i : Int) < (n : Int) := by omega
 clear f3 hz hx hv hpk hcw e4 e5 e6
 go_enter Tryz.func10, Tryz.ntmps10
 go_wp2_with fail
 refine HN.out.mono ?_
 rintro e w' ⟨rfl, hs', hb'⟩
 have hc : w'.cell? ⟨g, o + i, none⟩ = some (.string z) := hb'.cell HC.out f2
 go_wp2_with fail
 go_ret
 exact ⟨rfl, hs', hb'⟩
section
variable {zs : ZsT} {w W : World} {b p : Nat} {l : List Rsc}
end
theorem smX_mem (zs : ZsT) (p : Nat) (xs : List ByteArray) (h0 : 0 < xs.length) : smX zs p xs ∈ xs := by
 have hb := nxX_bd zs p (n := (xs.length : Int)) (by omega)
 unfold smX
 have hl : (nxX zs p (xs.length : Int)).toNat < xs.length := by omega
 rw [List.getElem?_eq_getElem hl]
 exact List.getElem_mem hl
end Go.Proofs.YtapgnaimbgjcnaaGreatDoor
/-
  The stream to the letter, with each answer named and its bounds beside it. (The words of XSep over XSepX.)
-/
namespace Go.Proofs.YtapgnaimbgjcnaaGreatDoor
open Go Go.RowKit
section
variable {zs : ZsT} {w W : World} {b p : Nat} {l : List Rsc}
theorem spE_next (h : SpX zs w b p W l) (n : Int) (hn : 1 ≤ n) (hn' : n ≤ 9223372036854775807) (hp : p ≤ 1000000) :
 Calls Tryz.prog 51 #[.pointer (some ⟨b, 0, none⟩), .int .i64 n] W (fun e w' => ∃ q : Int, e = .returned (.int .i64 q) ∧ Hid (nxX zs p n = q) ∧ 0 ≤ q ∧ q < n ∧ SpX zs w b (p + 1) w' l) :=
 (spx_next h n hn hn' hp).mono (fun _e _w' ⟨he, hs⟩ => ⟨_, he, Lib.hid rfl, (nxX_bd zs p hn).1, (nxX_bd zs p hn).2, hs⟩)
theorem spE_range (h : SpX zs w b p W l) (lo hi : Int) (h1 : lo ≤ hi) (hlo : -2305843009213693952 ≤ lo) (hhi : hi ≤ 2305843009213693951) (hp : p ≤ 1000000) :
 Calls Tryz.prog 9 #[.pointer (some ⟨b, 0, none⟩), .int .i64 lo, .int .i64 hi] W (fun e w' => ∃ q : Int, e = .returned (.int .i64 q) ∧ Hid (lo + nxX zs p (hi - lo + 1) = q) ∧ lo ≤ q ∧ q ≤ hi ∧ SpX zs w b (p + 1) w' l) :=
 (spx_range h lo hi h1 hlo hhi hp).mono (fun _e _w' ⟨he, hs⟩ => by
  have := nxX_bd zs p (n := hi - lo + 1) (by omega)
  exact ⟨_, he, Lib.hid rfl, by omega, by omega, hs⟩)
theorem spE_flip (h : SpX zs w b p W l) (n : Int) (hn : 1 ≤ n) (hn' : n ≤ 9223372036854775807) (hp : p ≤ 1000000) :
 Calls Tryz.prog 25 #[.pointer (some ⟨b, 0, none⟩), .int .i64 n] W (fun e w' => ∃ fv : Bool, e = .returned (.bool fv) ∧ Hid ((nxX zs p n == 0) = fv) ∧ SpX zs w b (p + 1) w' l) :=
 (spx_flip h n hn hn' hp).mono (fun _e _w' ⟨he, hs⟩ => ⟨_, he, Lib.hid rfl, hs⟩)
theorem spE_odd (h : SpX zs w b p W l) (lo hi : Int) (h1 : lo ≤ hi) (hlo : -1000000000000 ≤ lo) (hhi : hi ≤ 1000000000000) (hp : p ≤ 900000) :
 Calls Tryz.prog 29 #[.pointer (some ⟨b, 0, none⟩), .int .i64 lo, .int .i64 hi] W (fun e w' => ∃ q : Int, e = .returned (.int .i64 q) ∧ Hid (oddX zs p lo hi = q) ∧ -1099511627776 ≤ q ∧ q ≤ 1099511627776 ∧ SpX zs w b (p + 2) w' l) :=
 (spx_odd h lo hi h1 hlo hhi hp).mono (fun _e _w' ⟨he, hs⟩ => ⟨_, he, Lib.hid rfl, (oddX_bd zs p lo hi h1 hlo hhi).1, (oddX_bd zs p lo hi h1 hlo hhi).2, hs⟩)
theorem spE_pickL (h : SpX zs w b p W l) (xs : List Int) (lo hi : Int) (cs : Array Value) (t : TypeId) (n : Nat) (hx : cs.toList = xs.map (Value.int .i64)) (h0 : 0 < n) (hn : n ≤ maxLen) (hs : cs.size = n) (hl : 0 < xs.length) (hb : ∀ x ∈ xs, lo ≤ x ∧ x ≤ hi) (hp : p ≤ 1000000) :
 Calls Tryz.prog 30 #[.pointer (some ⟨b, 0, none⟩), .slice (some ⟨W.heap.size, 0, none⟩) n n] (W.alloc (.cells cs t)) (fun e w' => ∃ q : Int, e = .returned (.int .i64 q) ∧ Hid (pkX zs p xs = q) ∧ lo ≤ q ∧ q ≤ hi ∧ SpX zs w b (p + 1) w' l) :=
 (spx_pickL h xs cs t n hx h0 hn hs hp).mono (fun _e _w' ⟨he, hS⟩ => ⟨_, he, Lib.hid rfl, (pkX_bd zs p xs lo hi hl hb).1, (pkX_bd zs p xs lo hi hl hb).2, hS⟩)
theorem spE_someN (N : Nat) (h : SpX zs w b p W l) (i : Nat) {g n : Nat} {t : TypeId} {cs : Array Value} (xs : List ByteArray) (hi : l[i]? = some (rBlk g t cs)) (hx : cs.toList = xs.map Value.string) (h0 : 0 < n) (hn : n ≤ maxLen) (hs : cs.size = n) (hb : ∀ x ∈ xs, x.size ≤ N) (hp : p ≤ 1000000) :
 Calls Tryz.prog 10 #[.pointer (some ⟨b, 0, none⟩), .slice (some ⟨g, 0, none⟩) n n] W (fun e w' => ∃ s : ByteArray, e = .returned (.string s) ∧ Hid (smX zs p xs = s) ∧ s.size ≤ N ∧ SpX zs w b (p + 1) w' l) := by
 have hr := blkRd (b := b) 1 n (h.nth i hi) (h.ne i hi) hn (by omega)
 rw [hx] at hr
 have hl : 0 < xs.length := by
  have := congrArg List.length hx
  rw [List.length_map] at this
  have h2 : cs.toList.length = n := by simpa using hs
  omega
 exact (someX_calls b p zs _ n n xs _ h0 hr h.strm hp).mono (fun _e _w' ⟨he, hs, hk⟩ => ⟨_, he, Lib.hid rfl, hb _ (smX_mem zs p xs hl), h.call hs hk⟩)
theorem spE_someLN (N : Nat) (h : SpX zs w b p W l) (xs : List ByteArray) (cs : Array Value) (t : TypeId) (n : Nat) (hx : cs.toList = xs.map Value.string) (h0 : 0 < n) (hn : n ≤ maxLen) (hs : cs.size = n) (hb : ∀ x ∈ xs, x.size ≤ N) (hp : p ≤ 1000000) :
 Calls Tryz.prog 10 #[.pointer (some ⟨b, 0, none⟩), .slice (some ⟨W.heap.size, 0, none⟩) n n] (W.alloc (.cells cs t)) (fun e w' => ∃ s : ByteArray, e = .returned (.string s) ∧ Hid (smX zs p xs = s) ∧ s.size ≤ N ∧ SpX zs w b (p + 1) w' l) :=
 (spE_someN N (h.add cs t) 0 xs rfl hx h0 hn hs hb hp).mono (fun _e _w' ⟨_s, he, hm, h1, hs⟩ => ⟨_, he, hm, h1, hs.tail⟩)
end
end Go.Proofs.YtapgnaimbgjcnaaGreatDoor
