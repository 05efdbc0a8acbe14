/-
  Events without those that are ordered alike as the one before, in plain words.
-/
import Derived.Test.YtapgnaimbgjcnaaGreatDoorZScmp
import Derived.Test.YtapgnaimbgjcnaaGreatDoorZBid3
import Derived.Sort.Grow
import Derived.Test.YtapgnaimbgjcnaaGreatDoorZSlot3
import Derived.Test.YtapgnaimbgjcnaaGreatDoorZSlotPure
import Derived.Deep.MidRow
import Derived.Shelf.SlSortCmp.QuietGrown
import Derived.Shelf.SlSortCmp.KitK
import Derived.Lib.Hide
namespace Go.Proofs.YtapgnaimbgjcnaaGreatDoor
open Go Go.RowKit
def dupE (xs : List Bev) (j : Nat) : Bool := match j with
 | 0 => false
 | j + 1 => match xs[j]?, xs[j + 1]? with
   | some a, some b => decide (ordBev b a = 0)
   | _, _ => false
def cpE (xs : List Bev) : Nat → List Bev
 | 0 => []
 | j + 1 => if dupE xs j = true then cpE xs j else cpE xs j ++ (xs[j]?).toList
theorem dupE_at {xs : List Bev} {j : Nat} (h0 : 0 < j) (hj : j < xs.length) : dupE xs j = decide (ordBev xs[j] xs[j - 1] = 0) := by
 obtain ⟨i, rfl⟩ : ∃ i, j = i + 1 := ⟨j - 1, by omega⟩
 show (match xs[i]?, xs[i + 1]? with | some a, some b => decide (ordBev b a = 0) | _, _ => false) = _
 rw [List.getElem?_eq_getElem (show i < xs.length by omega), List.getElem?_eq_getElem hj]
 rfl
theorem cpE_dup {xs : List Bev} {j : Nat} (h : dupE xs j = true) : cpE xs (j + 1) = cpE xs j := by rw [cpE, if_pos h]
theorem cpE_new {xs : List Bev} {j : Nat} (hj : j < xs.length) (h : dupE xs j = false) : cpE xs (j + 1) = cpE xs j ++ [xs[j]] := by
 rw [cpE, if_neg (by rw [h]; decide), List.getElem?_eq_getElem hj]
 rfl
theorem cpE_all {xs : List Bev} : ∀ k, k ≤ xs.length → (∀ i, i < k → dupE xs i = false) → cpE xs k = xs.take k
 | 0, _, _ => rfl
 | k + 1, hk, h => by
   rw [cpE_new (by omega) (h k (by omega)), cpE_all k (by omega) (fun i hi => h i (by omega)), ← List.take_succ_eq_append_getElem]
theorem cpE_le {xs : List Bev} : ∀ k, k ≤ xs.length → (cpE xs k).length ≤ k
 | 0, _ => Nat.le_refl _
 | k + 1, hk => by
   have ih := cpE_le (xs := xs) k (by omega)
   cases h : dupE xs k with
   | true => rw [cpE_dup h]; omega
   | false => rw [cpE_new (by omega) h, List.length_append]; simp; omega
theorem cpE_mem {xs : List Bev} : ∀ k, k ≤ xs.length → ∀ x ∈ cpE xs k, x ∈ xs
 | 0, _, x, hx => by cases hx
 | k + 1, hk, x, hx => by
   cases h : dupE xs k with
   | true => rw [cpE_dup h] at hx; exact cpE_mem k (by omega) x hx
   | false =>
     rw [cpE_new (by omega) h] at hx
     rcases List.mem_append.1 hx with hx | hx
     · exact cpE_mem k (by omega) x hx
     · simp at hx; subst hx; exact List.getElem_mem _
structure CpR (xs : List Bev) (i j : Nat) (zs : List Bev) : Prop where
 len : zs.length = xs.length
 cnt : (cpE xs j).length = i
 lo : ∀ t, t < i → zs[t]? = (cpE xs j)[t]?
 hi : ∀ t, j ≤ t + 1 → zs[t]? = xs[t]?
theorem CpR.dup {xs zs : List Bev} {i j : Nat} (h : CpR xs i j zs) (hd : dupE xs j = true) : CpR xs i (j + 1) zs := by
 have e := cpE_dup hd
 exact ⟨h.len, by rw [e]; exact h.cnt, by rw [e]; exact h.lo, fun t ht => h.hi t (by omega)⟩
theorem CpR.new {xs zs : List Bev} {i j : Nat} (h : CpR xs i j zs) (hj : j < xs.length) (hd : dupE xs j = false) (hij : i < j) : CpR xs (i + 1) (j + 1) (zs.set i xs[j]) := by
 have e := cpE_new hj hd
 refine ⟨by rw [List.length_set]; exact h.len, by rw [e, List.length_append, h.cnt]; rfl, fun t ht => ?_, fun t ht => ?_⟩
 · rw [e]
   by_cases hti : t = i
   · subst hti
     rw [List.getElem?_set_self (by rw [h.len]; omega), List.getElem?_append_right (by rw [h.cnt]; exact Nat.le_refl _), h.cnt, Nat.sub_self]
     rfl
   · rw [List.getElem?_set_ne (by omega), List.getElem?_append_left (by rw [h.cnt]; omega)]
     exact h.lo t (by omega)
 · rw [List.getElem?_set_ne (by omega)]
   exact h.hi t (by omega)
theorem CpR.start {xs : List Bev} {k : Nat} (hk : k < xs.length) (h0 : ∀ i, i < k → dupE xs i = false) (hd : dupE xs k = true) : CpR xs k (k + 1) xs := by
 have e : cpE xs (k + 1) = xs.take k := by rw [cpE_dup hd, cpE_all k (by omega) h0]
 refine ⟨rfl, by rw [e, List.length_take]; omega, fun t ht => ?_, fun t ht => rfl⟩
 rw [e, List.getElem?_take_of_lt ht]
end Go.Proofs.YtapgnaimbgjcnaaGreatDoor
/-
  The reference's order of events, its worlds told as the sorts of the shelf ask: grown and drawn. (Turned out of XEv4 by gen_ev7.py.)
-/
namespace Go.Proofs.YtapgnaimbgjcnaaGreatDoor
open Go Go.RowKit
def Gw (w w' : World) : Prop := ∃ q os', w' = Go.Sort.grow (w.drewN q) os'
theorem Gw.refl (w : World) : Gw w w := ⟨0, #[], (Go.Sort.grow_empty _).symm⟩
theorem Gw.alloc {w w' : World} (h : Gw w w') (o : Obj) : Gw w (w'.alloc o) := by
 obtain ⟨q, os, rfl⟩ := h
 exact ⟨q, os ++ #[o], by rw [Go.Sort.alloc_eq_grow, Go.Sort.grow_grow]⟩
theorem Gw.trans {a b c : World} (h : Gw a b) (k : Gw b c) : Gw a c := by
 obtain ⟨q, os, rfl⟩ := h
 obtain ⟨q2, os2, rfl⟩ := k
 refine ⟨q + q2, os ++ os2, ?_⟩
 rw [← Go.Sort.grow_grow]
 show Go.Sort.grow (Go.Sort.grow (({ a with drawn := a.drawn + q + q2 } : World)) os) os2 = _
 rw [Nat.add_assoc]
 rfl
set_option maxRecDepth 100000 in
set_option maxHeartbeats 4000000 in
theorem eventOrderG_calls (a1 k1 t1 d1 a2 k2 t2 d2 : Int) (i1 w1 b1 c1 i2 w2 b2 c2 : ByteArray) (w : World) :
 Calls Tryz.prog 53 #[.agg #[.int .i64 a1, .int .i64 k1, .string i1, .string w1, .string b1, .string c1, .int .i64 t1, .int .i64 d1], .agg #[.int .i64 a2, .int .i64 k2, .string i2, .string w2, .string b2, .string c2, .int .i64 t2, .int .i64 d2]] w (fun e w' => e = .returned (.int .i64 (ordBev ⟨a1, k1, i1, w1, b1, c1, t1, d1⟩ ⟨a2, k2, i2, w2, b2, c2, t2, d2⟩)) ∧ Gw w w') := by
 have hS := ((Sq.start w).add #[.int .i64 a1, .int .i64 k1, .string i1, .string w1, .string b1, .string c1, .int .i64 t1, .int .i64 d1] 78).add #[.int .i64 a2, .int .i64 k2, .string i2, .string w2, .string b2, .string c2, .int .i64 t2, .int .i64 d2] 78
 have HE := ordBev_ref ⟨a1, k1, i1, w1, b1, c1, t1, d1⟩ ⟨a2, k2, i2, w2, b2, c2, t2, d2⟩
 simp only at HE
 rw [World.size_alloc] at hS
 obtain ⟨W0, hW0⟩ : ∃ W0, (w.alloc (.cells #[.int .i64 a1, .int .i64 k1, .string i1, .string w1, .string b1, .string c1, .int .i64 t1, .int .i64 d1] 78)).alloc (.cells #[.int .i64 a2, .int .i64 k2, .string i2, .string w2, .string b2, .string c2, .int .i64 t2, .int .i64 d2] 78) = W0 := ⟨_, rfl⟩
 have HW0 := Lib.hid hW0
 rw [hW0] at hS
 have hb1 : Blk W0 w.heap.size _ _ := hS.nth 1 rfl
 have hb2 : Blk W0 (w.heap.size + 1) _ _ := hS.head
 have HB : Hid (Gw w W0) := Lib.hid (by rw [← hW0]; exact ((Gw.refl w).alloc _).alloc _)
 have k0 := hb1.cell 0
 have k1' := hb1.cell 1
 have BA1 : Below W0.heap.size W0 (W0.alloc (.cells #[.int .i64 a1, .int .i64 k1] 3)) := (Below.refl _ _).alloc (Nat.le_refl _) _
 have l0 := (hb2.below BA1).cell 0
 have l1 := (hb2.below BA1).cell 1
 obtain ⟨WA, hWA⟩ : ∃ z, (W0.alloc (.cells #[.int .i64 a1, .int .i64 k1] 3)).alloc (.cells #[.int .i64 a2, .int .i64 k2] 3) = z := ⟨_, rfl⟩
 have hT := ((Sq.start W0).add #[.int .i64 a1, .int .i64 k1] 3).add #[.int .i64 a2, .int .i64 k2] 3
 rw [World.size_alloc] at hT
 rw [hWA] at hT
 have HWA := Lib.hid hWA
 have hr1 := blkRd (b := W0.heap.size + 5) 1 2 (show Blk WA W0.heap.size _ _ from hT.nth 1 rfl) (by omega) (by unfold maxLen; omega) rfl
 have hr2 := blkRd (b := W0.heap.size + 5) 1 2 (show Blk WA (W0.heap.size + 1) _ _ from hT.head) (by omega) (by unfold maxLen; omega) rfl
 have HCI := Lib.hid (compareI_calls (W0.heap.size + 5) _ _ 2 2 2 2 [a1, k1] [a2, k2] WA hr1 hr2)
 have HBA := Lib.hid hT.below
 have HGA : Hid (Gw w WA) := Lib.hid (by rw [← hWA]; exact (HB.out.alloc _).alloc _)
 have HC : Hid (∀ V, Below W0.heap.size W0 V → V.cell? ⟨w.heap.size, 2, none⟩ = some (.string i1) ∧ V.cell? ⟨w.heap.size, 3, none⟩ = some (.string w1) ∧ V.cell? ⟨w.heap.size, 4, none⟩ = some (.string b1) ∧ V.cell? ⟨w.heap.size + 1, 2, none⟩ = some (.string i2) ∧ V.cell? ⟨w.heap.size + 1, 3, none⟩ = some (.string w2) ∧ V.cell? ⟨w.heap.size + 1, 4, none⟩ = some (.string b2)) := Lib.hid (fun V h => by
  have g1 := hb1.below h
  have g2 := hb2.below h
  exact ⟨g1.cell 2, g1.cell 3, g1.cell 4, g2.cell 2, g2.cell 3, g2.cell 4⟩)
 have HCS : Hid (Calls Tryz.prog 109 #[.slice (some ⟨WA.heap.size, 0, none⟩) 3 3, .slice (some ⟨WA.heap.size + 1, 0, none⟩) 3 3] ((WA.alloc (.cells #[.string i1, .string w1, .string b1] 9)).alloc (.cells #[.string i2, .string w2, .string b2] 9)) fun e w' => e = .returned (.int .i64 (cmpLS [i1, w1, b1] [i2, w2, b2])) ∧ Gw WA w') := Lib.hid (by
  have hU := ((Sq.start WA).add #[.string i1, .string w1, .string b1] 9).add #[.string i2, .string w2, .string b2] 9
  rw [World.size_alloc] at hU
  have hr1 := blkRd (b := WA.heap.size + 5) 1 3 (show Blk _ WA.heap.size _ _ from hU.nth 1 rfl) (by omega) (by unfold maxLen; omega) rfl
  have hr2 := blkRd (b := WA.heap.size + 5) 1 3 (show Blk _ (WA.heap.size + 1) _ _ from hU.head) (by omega) (by unfold maxLen; omega) rfl
  refine (compareS_calls (WA.heap.size + 5) _ _ 3 3 3 3 [i1, w1, b1] [i2, w2, b2] _ hr1 hr2).mono ?_
  rintro e w' ⟨he, rfl⟩
  exact ⟨he, ((Gw.refl WA).alloc _).alloc _⟩)
 obtain ⟨O, hO⟩ : ∃ z, ordBev ⟨a1, k1, i1, w1, b1, c1, t1, d1⟩ ⟨a2, k2, i2, w2, b2, c2, t2, d2⟩ = z := ⟨_, rfl⟩
 rw [hO] at HE ⊢
 obtain ⟨L1, hL1⟩ : ∃ z, cmpLI [a1, k1] [a2, k2] = z := ⟨_, rfl⟩
 obtain ⟨L2, hL2⟩ : ∃ z, cmpLS [i1, w1, b1] [i2, w2, b2] = z := ⟨_, rfl⟩
 rw [hL1] at HE HCI
 rw [hL2] at HE HCS
 clear BA1 hO hL1 hL2 hr1 hr2 hT hWA hW0 hb1 hb2 hS
 by_cases h0 : L1 = 0
 · rw [if_pos h0] at HE
   subst h0 HE
   go_enter Tryz.func53, Tryz.ntmps53
   go_upto_region 1 with (fail)
   rw [HW0.out]
   go_wp2_with fail
   rw [HWA.out]
   refine HCI.out.mono ?_
   rintro e w5 ⟨rfl, hw5⟩
   subst hw5
   obtain ⟨m0, m1, m2, _, _, _⟩ := HC.out _ HBA.out
   have BA2 : Below WA.heap.size WA (WA.alloc (.cells #[.string i1, .string w1, .string b1] 9)) := (Below.refl _ _).alloc (Nat.le_refl _) _
   obtain ⟨_, _, _, m3, m4, m5⟩ := HC.out _ (below_call HBA.out BA2 (Nat.le_refl _))
   clear k0 k1' l0 l1
   go_wp2_with fail
   refine HCS.out.mono ?_
   rintro e w6 ⟨rfl, hb6⟩
   go_wp2_with fail
   go_ret
   exact ⟨rfl, HGA.out.trans hb6⟩
 · rw [if_neg h0] at HE
   subst HE
   have hne : (L1 != 0) = true := by rw [bne_iff_ne]; exact h0
   clear h0
   go_enter Tryz.func53, Tryz.ntmps53
   go_upto_region 1 with (fail)
   rw [HW0.out]
   go_wp2_with fail
   rw [HWA.out]
   refine HCI.out.mono ?_
   rintro e w5 ⟨rfl, rfl⟩
   go_wp2_with fail
   go_ret
   exact ⟨rfl, HGA.out⟩
end Go.Proofs.YtapgnaimbgjcnaaGreatDoor
/-
  slices.CompactFunc at events by a contract: what is ordered alike as the one before is left out. (Printed by gen_ev9.py.)
-/
namespace Go.Proofs.YtapgnaimbgjcnaaGreatDoor
open Go Go.RowKit Go.Lib Go.Sort
theorem below_gw {w w' : World} (h : Gw w w') : Below w.heap.size w w' := by
 obtain ⟨q, os, rfl⟩ := h
 refine ⟨rfl, rfl, rfl, ?_, fun i hi => ?_⟩
 · show w.heap.size ≤ (w.heap ++ os).size
   rw [Array.size_append]
   omega
 · show (w.heap ++ os)[i]? = w.heap[i]?
   rw [Array.getElem?_append_left hi]
def setL : List Value → Nat → List Value → List Value
 | xs, _, [] => xs
 | xs, o, v :: r => setL (xs.set o v) (o + 1) r
theorem setL_len : ∀ (vs xs : List Value) (o : Nat), (setL xs o vs).length = xs.length
 | [], _, _ => rfl
 | v :: r, xs, o => by rw [setL, setL_len r, List.length_set]
theorem setL_out : ∀ (vs xs : List Value) (o t : Nat), (t < o ∨ o + vs.length ≤ t) → (setL xs o vs)[t]? = xs[t]?
 | [], _, _, _, _ => rfl
 | v :: r, xs, o, t, h => by
   simp only [List.length_cons] at h
   rw [setL, setL_out r _ _ _ (by omega), List.getElem?_set_ne (by omega)]
theorem setL_in : ∀ (vs xs : List Value) (o t : Nat), t < vs.length → o + vs.length ≤ xs.length → (setL xs o vs)[o + t]? = vs[t]?
 | [], _, _, t, h, _ => by simp at h
 | v :: r, xs, o, t, h, hl => by
   simp only [List.length_cons] at h hl
   rw [setL]
   match t with
   | 0 =>
     show (setL (xs.set o v) (o + 1) r)[o]? = some v
     rw [setL_out r _ _ _ (by omega), List.getElem?_set_self (by omega)]
   | t + 1 =>
     have := setL_in r (xs.set o v) (o + 1) t (by omega) (by rw [List.length_set]; omega)
     rw [show o + (t + 1) = o + 1 + t by omega, this]
     rfl
theorem own_setL {e : TypeId} {base size g n c : Nat} : ∀ (vs xs : List Value) (o : Nat) (W : World), W.ownsRow base e size (.slice (some ⟨g, 0, none⟩) n c) n xs → (W.setCells g o vs).ownsRow base e size (.slice (some ⟨g, 0, none⟩) n c) n (setL xs o vs)
 | [], _, _, _, h => h
 | v :: r, xs, o, _, h => own_setL r (xs.set o v) (o + 1) _ (h.stored o v).1
theorem setL_flat {α : Type} (f : α → List Value) (k : Nat) (hf : ∀ a, (f a).length = k) (hk0 : 0 < k) (zs : List α) (i : Nat) (hi : i < zs.length) (x : α) : setL (zs.flatMap f) (i * k) (f x) = (zs.set i x).flatMap f := by
 have hl : (zs.flatMap f).length = zs.length * k := flat_len f k hf zs
 have hik : i * k + k ≤ zs.length * k := by
  have := Nat.mul_le_mul_right k (show i + 1 ≤ zs.length from hi)
  rwa [Nat.add_mul, Nat.one_mul] at this
 refine List.ext_getElem? (fun t => ?_)
 by_cases ht : t < zs.length * k
 · have hr : t % k < k := Nat.mod_lt _ hk0
   have hq : t / k < zs.length := Nat.div_lt_of_lt_mul (by rw [Nat.mul_comm]; exact ht)
   have hqr : t = t / k * k + t % k := by rw [Nat.mul_comm]; exact (Nat.div_add_mod t k).symm
   obtain ⟨q, hqe⟩ : ∃ q, t / k = q := ⟨_, rfl⟩
   obtain ⟨r, hre⟩ : ∃ r, t % k = r := ⟨_, rfl⟩
   rw [hqe] at hq hqr
   rw [hre] at hr hqr
   subst hqr
   rw [flat_get f k hf (zs.set i x) q r (by rw [List.length_set]; exact hq) hr]
   by_cases e : q = i
   · subst e
     rw [setL_in _ _ _ r (by rw [hf]; exact hr) (by rw [hf, hl]; exact hik)]
     rw [List.getElem_set_self]
   · rw [setL_out _ _ _ _ (by
      rw [hf]
      rcases Nat.lt_or_gt_of_ne e with h | h
      · left
        have := Nat.mul_le_mul_right k (show q + 1 ≤ i from h)
        rw [Nat.add_mul, Nat.one_mul] at this
        omega
      · right
        have := Nat.mul_le_mul_right k (show i + 1 ≤ q from h)
        rw [Nat.add_mul, Nat.one_mul] at this
        omega), flat_get f k hf zs q r hq hr, List.getElem_set_ne (fun h => e h.symm)]
 · have h1 : (setL (zs.flatMap f) (i * k) (f x)).length ≤ t := by rw [setL_len, hl]; omega
   have h2 : ((zs.set i x).flatMap f).length ≤ t := by rw [flat_len f k hf, List.length_set]; omega
   rw [List.getElem?_eq_none h1, List.getElem?_eq_none h2]
theorem setCells_size (g : Nat) : ∀ (vs : List Value) (o : Nat) (W : World), (W.setCells g o vs).heap.size = W.heap.size
 | [], _, _ => rfl
 | v :: r, o, W => by rw [World.setCells, setCells_size g r]; simp [World.setCell]
theorem setCells_other (g : Nat) : ∀ (vs : List Value) (o : Nat) (W : World) (i : Nat), i ≠ g → (W.setCells g o vs).heap[i]? = W.heap[i]?
 | [], _, _, _, _ => rfl
 | v :: r, o, W, i, h => by rw [World.setCells, setCells_other g r _ _ _ h]; exact Below.heap_setCell W ⟨g, o, none⟩ v i h
theorem setCells_grown (g : Nat) (vs : List Value) (o : Nat) (W : World) : W.grownBy (W.setCells g o vs) (some g) := by
 have h1 : ∀ (vs : List Value) (o : Nat) (W : World), (W.setCells g o vs).os = W.os ∧ (W.setCells g o vs).tape = W.tape ∧ (W.setCells g o vs).output = W.output := by
  intro vs
  induction vs with
  | nil => intro o W; exact ⟨rfl, rfl, rfl⟩
  | cons v r ih =>
    intro o W
    obtain ⟨a, b, c⟩ := ih (o + 1) (W.setCell ⟨g, o, none⟩ v)
    exact ⟨a, b, c⟩
 obtain ⟨a, b, c⟩ := h1 vs o W
 exact ⟨a, b, c, by rw [setCells_size]; exact Nat.le_refl _, fun i _ hi => setCells_other g vs o W i (fun e => hi (by rw [e]))⟩
theorem own_cut {W : World} {base k g n c m : Nat} {e : TypeId} {xs : List Value} (h : W.ownsRow base e k (.slice (some ⟨g, 0, none⟩) n c) n xs) (hm : m ≤ n) : W.ownsRow base e k (.slice (some ⟨g, 0, none⟩) m c) m (xs.take (m * k)) := by
 obtain ⟨h1, h2⟩ := h
 have hmk : m * k ≤ n * k := Nat.mul_le_mul_right k hm
 refine ⟨by rw [List.length_take, h1]; omega, .inr ?_⟩
 rcases h2 with ⟨h3, _⟩ | ⟨g2, cap, cur, h3, h4, h5, h6, h7, h8, h9⟩
 · cases h3
 · injection h3 with h3 _ h3c
   injection h3 with h3
   injection h3 with h3
   subst h3 h3c
   refine ⟨g, c, cur, rfl, h4, h5, by omega, h7, h8, ?_⟩
   rw [← h9, List.take_take, Nat.min_eq_left hmk]
theorem flat_takeE {α : Type} (f : α → List Value) (k : Nat) (hf : ∀ a, (f a).length = k) : ∀ (rs : List α) (m : Nat), (rs.take m).flatMap f = (rs.flatMap f).take (m * k)
 | [], m => by simp
 | r :: rs, 0 => by simp
 | r :: rs, m + 1 => by
   have ih := flat_takeE f k hf rs m
   rw [List.take_succ_cons, List.flatMap_cons, List.flatMap_cons, ih, Nat.add_mul, Nat.one_mul, List.take_append, hf]
   rw [List.take_of_length_le (show (f r).length ≤ m * k + k by rw [hf]; omega), Nat.add_sub_cancel]
theorem setL_take (xs : List Value) (o : Nat) (vs : List Value) : (setL xs o vs).take o = xs.take o := by
 refine List.ext_getElem? (fun t => ?_)
 by_cases h : t < o
 · rw [List.getElem?_take_of_lt h, List.getElem?_take_of_lt h, setL_out _ _ _ _ (.inl h)]
 · rw [List.getElem?_eq_none (by rw [List.length_take]; omega), List.getElem?_eq_none (by rw [List.length_take]; omega)]
theorem CpR.done {xs zs : List Bev} {i : Nat} (h : CpR xs i xs.length zs) (hi : i ≤ zs.length) : zs.take i = cpE xs xs.length := by
 refine List.ext_getElem? (fun t => ?_)
 by_cases ht : t < i
 · rw [List.getElem?_take_of_lt ht]; exact h.lo t ht
 · rw [List.getElem?_eq_none (by rw [List.length_take]; omega), List.getElem?_eq_none (by rw [h.cnt]; omega)]
structure RowE (w : World) (base k g n c : Nat) (xs : List Bev) (W : World) : Prop where
 gr : w.grownBy W (some g)
 ow : W.ownsRow base 78 k (.slice (some ⟨g, 0, none⟩) n c) n (xs.flatMap bevC)
theorem grown_trans {a b c : World} {g : Nat} (h : a.grownBy b (some g)) (k : b.grownBy c (some g)) : a.grownBy c (some g) :=
 ⟨k.os.trans h.os, k.tape.trans h.tape, k.output.trans h.output, Nat.le_trans h.size k.size, fun i hi hg => (k.block i (Nat.lt_of_lt_of_le hi h.size) hg).trans (h.block i hi hg)⟩
theorem grown_below {a b : World} (g : Nat) (h : Below a.heap.size a b) : a.grownBy b (some g) := ⟨h.os, h.tape, h.output, h.size, fun i hi _ => h.block i hi⟩
theorem RowE.refl {w : World} {base k g n c : Nat} {xs : List Bev} (h : w.ownsRow base 78 k (.slice (some ⟨g, 0, none⟩) n c) n (xs.flatMap bevC)) : RowE w base k g n c xs w := ⟨grown_below g (Below.refl _ _), h⟩
theorem RowE.gw {w W W' : World} {base k g n c : Nat} {xs : List Bev} (h : RowE w base k g n c xs W) (hg : Gw W W') : RowE w base k g n c xs W' :=
 ⟨grown_trans h.gr (grown_below g (below_gw hg)), rOwn_ok _ _ _ _ _ _ W W' (fun i hi => (below_gw hg).block i (by
  have hi : some g = some i := hi
  injection hi with hi
  subst hi
  exact (h.ow.lt g rfl).2)) h.ow⟩
def CpS (w : World) (base k : Nat) (v : Value) (xs : List Bev) (e : Ending) (w' : World) : Prop :=
 ∃ (A : Option Addr) (c : Nat), e = .returned (.slice A (cpE xs xs.length).length c) ∧ w'.ownsRow base 78 k (.slice A (cpE xs xs.length).length c) (cpE xs xs.length).length ((cpE xs xs.length).flatMap bevC) ∧ w.grownBy w' v.ownBlock ∧ (Value.slice A (cpE xs xs.length).length c).ownBlock = v.ownBlock
theorem cp_few {xs : List Bev} (h : xs.length < 2) : cpE xs xs.length = xs := by
 have : cpE xs xs.length = xs.take xs.length := cpE_all _ (Nat.le_refl _) (fun i hi => by
  obtain rfl : i = 0 := by omega
  rfl)
 rw [this, List.take_length]
set_option maxHeartbeats 8000000 in
set_option maxRecDepth 1000000 in
theorem compactG_calls (k : Nat) (hk : ∀ a, (bevC a).length = k) (hk0 : 0 < k) (aE : ∀ w, (isAgg 78).run Tryz.prog w = .ok true w) (zE : ∀ w, (Go.sizeOf 78).run Tryz.prog w = .ok k w)
 (clr : ∀ (w : World) (b o n c : Nat), 0 < n → (∀ j, j < n * k → (w.cell? ⟨b, o + j, none⟩).isSome = true) → (∀ j, j < n * k → w.frozen? ⟨b, o + j, none⟩ = false) → ∃ vs : List Value, (∀ ty, (Builtin.clear_ #[26] ty #[.slice (some ⟨b, o, none⟩) n c]).run Tryz.prog w = .ok (.tuple #[]) (w.setCells b o vs)) ∧ vs.length = n * k)
 (h1 : ∀ x, ∀ v ∈ bevC x, v.oneCell' = true)
 (g : Nat) (eg : ∀ args w, (callFunc g args).run Tryz.prog w = .ok (.enter g args) w) (hq : ∀ (x y : Bev) (W : World), Calls Tryz.prog g #[.agg (bevC x).toArray, .agg (bevC y).toArray] W (fun e w' => e = .returned (.bool (decide (ordBev x y = 0))) ∧ Gw W w'))
 (base : Nat) (w : World) (A : Option Addr) (n c : Nat) (xs : List Bev) (hn : n ≤ 1000) (hl : xs.length = n) (hown : w.ownsRow base 78 k (.slice A n c) n (xs.flatMap bevC)) :
 Calls Tryz.prog 54 #[.slice A n c, .func (.func g) #[] #[]] w (CpS w base k (.slice A n c) xs) := by
 have mixed : Tryz.prog.follows Departure.mixedOrders = true := by kernel_rfl
 have HL := Lib.hid hl
 by_cases h2 : n < 2
 · have HF : Hid (CpS w base k (.slice A n c) xs (.returned (.slice A n c)) w) := Lib.hid (by
    unfold CpS
    rw [cp_few (by rw [hl]; exact h2), hl]
    exact ⟨A, c, rfl, hown, ⟨rfl, rfl, rfl, Nat.le_refl _, fun _ _ _ => rfl⟩, rfl⟩)
   have h3 : (n : Int) < 2 := by omega
   clear hown hq clr aE zE
   go_enter Tryz.func54, Tryz.ntmps54
   go_wp2_with fail
   go_ret
   exact HF.out
 · have h3 : ¬ (n : Int) < 2 := by omega
   obtain ⟨gb, cap, hv, _⟩ := hown.form (by omega)
   injection hv with hA _ hc
   subst hA hc
   obtain ⟨hnc, hcm⟩ := own_cap hown
   unfold maxLen at hcm
   have HLD : Aside (∀ (zs : List Bev) (W : World) (j : Nat) (hj : j < zs.length), zs.length = n → W.ownsRow base 78 k (.slice (some ⟨gb, 0, none⟩) n c) n (zs.flatMap bevC) → ∀ (q : Nat) (os : Array Obj), Sem.run Tryz.prog (loadCellsFrom ⟨gb, j * k, none⟩ 0 k #[]) (grow (W.drewN q) os) = .ok (bevC zs[j]).toArray (grow (W.drewN q) os)) := by
    intro zs W j hj hzl h q os
    have ho := ((RowE.refl h).gw ⟨q, os, rfl⟩).ow
    refine run_loadCellsFrom_list Tryz.prog _ _ _ k (hk _) (fun t u hu => ?_)
    have ht : t < k := by
     have := (List.getElem?_eq_some_iff.1 hu).1
     rwa [hk] at this
    have hc := own_cell bevC k hk ho j t hj (by omega) ht
    rw [hu] at hc
    have hadd : (⟨gb, j * k, none⟩ : Addr).add t = ⟨gb, j * k + t, none⟩ := by unfold Addr.add; split <;> simp_all
    rw [hadd]
    exact hc
   have HS : Hid (RowE w base k gb n c xs w) := Lib.hid (RowE.refl hown)
   clear hown
   go_enter Tryz.func54, Tryz.ntmps54
   go_wp2_with fail
   go_loopg [5] n (fun kx s5 wr => ∃ i : Nat, s5 = .int .i64 i ∧ 1 ≤ i ∧ i ≤ n ∧ n - i ≤ kx ∧ Hid (∀ t, t < i → dupE xs t = false) ∧ Hid (RowE w base k gb n c xs wr))
   case atStart => exact ⟨1, rfl, Nat.le_refl _, by omega, by omega, Lib.hid (fun t ht => by obtain rfl : t = 0 := (by omega); rfl), HS⟩
   case round =>
    clear HS
    obtain ⟨i, rfl, hi1, hin, hkx, HD, HS⟩ := hrel
    by_cases hlt : i < n
    · obtain ⟨p, hp⟩ : ∃ p, i - 1 = p := ⟨_, rfl⟩
      have hir : i < xs.length := by rw [HL.out]; exact hlt
      have hpr : p < xs.length := by omega
      have hlt' : (i : Int) < (n : Int) := by omega
      have eq4 : (i : Int) - 1 = (p : Int) := by omega
      have eq5 : IntKind.i64.wrap ((i : Int) - 1) = (p : Int) := by rw [IntKind.wrap_i64]; omega
      have pa44 : (0 : Int) ≤ (p : Int) := by omega
      have ba44 : (p : Int) < (n : Int) := by omega
      have ra44 : IntKind.i64.wrap (p : Int) = (p : Int) := by rw [IntKind.wrap_i64]; omega
      have ea44 : ((p : Int)).toNat = p := by omega
      have pc44 : (0 : Int) ≤ (i : Int) := by omega
      have rc44 : IntKind.i64.wrap (i : Int) = (i : Int) := by rw [IntKind.wrap_i64]; omega
      have ec44 : ((i : Int)).toNat = i := by omega
      have l44a := HLD.out xs wr i hir HL.out HS.out.ow
      have l44b := HLD.out xs wr p hpr HL.out HS.out.ow
      have hdup : dupE xs i = decide (ordBev xs[i] xs[p] = 0) := by
       have := dupE_at (xs := xs) (j := i) (by omega) hir
       simp only [hp] at this
       exact this
      obtain ⟨x44, hx44⟩ : ∃ x, xs[i] = x := ⟨_, rfl⟩
      obtain ⟨y44, hy44⟩ : ∃ x, xs[p] = x := ⟨_, rfl⟩
      rw [hx44] at l44a hdup
      rw [hy44] at l44b hdup
      have hc44 : ∀ (q : Nat) (os : Array Obj), Calls Tryz.prog g (#[.agg (bevC x44).toArray, .agg (bevC y44).toArray] ++ #[]) (grow (wr.drewN q) os) (fun e w' => e = .returned (.bool (decide (ordBev x44 y44 = 0))) ∧ ∃ q2 os2, w' = grow ((grow (wr.drewN q) os).drewN q2) os2) := fun q os => hq x44 y44 _
      have HDU := Lib.hid hdup
      cases hB : decide (ordBev x44 y44 = 0)
      · rw [hB] at hc44 HDU
        clear hx44 hy44 hdup hp hir hpr
        go_wp2_with fail
        go_quiet_grown (first | (go_at_fn g; refine Calls.grown_of (hc44 _ _)))
        have HS2 := Lib.hid (HS.out.gw ⟨nq, osq, rfl⟩)
        clear l44a l44b hc44 HS
        generalize grow (wr.drewN nq) osq = wv1 at HS2 ⊢
        clear nq osq
        go_wp2
        go_roundg (n - i - 1)
        case measure => omega
        case rel => exact ⟨i + 1, by go_num, by omega, by omega, by omega, Lib.hid (fun t ht => by
         rcases Nat.lt_or_ge t i with h | h
         · exact HD.out t h
         · obtain rfl : t = i := (by omega)
           exact HDU.out), HS2⟩
      · rw [hB] at hc44 HDU
        have HCP := Lib.hid (CpR.start hir HD.out HDU.out)
        have hci : ¬ c = i := by omega
        have hci2 : ¬ (c : Int) = (i : Int) := by omega
        clear hx44 hy44 hdup hp hir hpr
        go_wp2_with fail
        go_quiet_grown (first | (go_at_fn g; refine Calls.grown_of (hc44 _ _)))
        have HS2 := Lib.hid (HS.out.gw ⟨nq, osq, rfl⟩)
        clear l44a l44b hc44 HS
        generalize grow (wr.drewN nq) osq = wv1 at HS2 ⊢
        clear nq osq eq4 eq5 pa44 ba44 ra44 ea44
        go_wp2_with fail
        go_loopg [5, 7] n (fun kx s5 s7 wr => ∃ (m q : Nat) (zs : List Bev), s5 = .int .i64 m ∧ s7 = .int .i64 q ∧ 1 ≤ q ∧ i + q ≤ n ∧ m < i + q ∧ n - (i + q) ≤ kx ∧ Hid (CpR xs m (i + q) zs) ∧ Hid (RowE w base k gb n c zs wr))
        case atStart => exact ⟨i, 1, xs, rfl, rfl, Nat.le_refl _, by omega, by omega, by omega, HCP, HS2⟩
        case round =>
         clear HS2 HCP HD HDU hkx pc44 rc44 ec44 hB
         obtain ⟨m, q, zs, rfl, rfl, hq1, hqn, hmq, hkx, HC, HS⟩ := hrel
         have hzl : zs.length = n := by rw [HC.out.len]; exact HL.out
         by_cases hlq : i + q < n
         · obtain ⟨p, hp⟩ : ∃ p, q - 1 = p := ⟨_, rfl⟩
           have hir : i + q < xs.length := by rw [HL.out]; exact hlq
           have hpr : i + p < xs.length := by omega
           have hlt2 : (q : Int) < (n : Int) - (i : Int) := by omega
           have eq4 : (q : Int) - 1 = (p : Int) := by omega
           have eq5 : IntKind.i64.wrap ((q : Int) - 1) = (p : Int) := by rw [IntKind.wrap_i64]; omega
           have pa44 : (0 : Int) ≤ (p : Int) := by omega
           have ba44 : (p : Int) < ((n - i : Nat) : Int) := by omega
           have bq44 : (q : Int) < ((n - i : Nat) : Int) := by omega
           have ra44 : IntKind.i64.wrap (p : Int) = (p : Int) := by rw [IntKind.wrap_i64]; omega
           have ea44 : ((p : Int)).toNat = p := by omega
           have pc44 : (0 : Int) ≤ (q : Int) := by omega
           have rc44 : IntKind.i64.wrap (q : Int) = (q : Int) := by rw [IntKind.wrap_i64]; omega
           have ec44 : ((q : Int)).toNat = q := by omega
           have l44a := HLD.out zs wr (i + q) (by omega) hzl HS.out.ow
           have l44b := HLD.out zs wr (i + p) (by omega) hzl HS.out.ow
           have hzx : zs[i + q]'(by omega) = xs[i + q] := by
            have := HC.out.hi (i + q) (by omega)
            rw [List.getElem?_eq_getElem (show i + q < zs.length by omega), List.getElem?_eq_getElem hir] at this
            exact Option.some.inj this
           have hzy : zs[i + p]'(by omega) = xs[i + p] := by
            have := HC.out.hi (i + p) (by omega)
            rw [List.getElem?_eq_getElem (show i + p < zs.length by omega), List.getElem?_eq_getElem hpr] at this
            exact Option.some.inj this
           have hdup : dupE xs (i + q) = decide (ordBev xs[i + q] xs[i + p] = 0) := by
            have := dupE_at (xs := xs) (j := i + q) (by omega) hir
            simp only [show i + q - 1 = i + p by omega] at this
            exact this
           rw [hzx, Nat.add_mul] at l44a
           rw [hzy, Nat.add_mul] at l44b
           obtain ⟨x44, hx44⟩ : ∃ x, xs[i + q] = x := ⟨_, rfl⟩
           obtain ⟨y44, hy44⟩ : ∃ x, xs[i + p] = x := ⟨_, rfl⟩
           rw [hx44] at l44a hdup
           rw [hy44] at l44b hdup
           have hc44 : ∀ (q : Nat) (os : Array Obj), Calls Tryz.prog g (#[.agg (bevC x44).toArray, .agg (bevC y44).toArray] ++ #[]) (grow (wr.drewN q) os) (fun e w' => e = .returned (.bool (decide (ordBev x44 y44 = 0))) ∧ ∃ q2 os2, w' = grow ((grow (wr.drewN q) os).drewN q2) os2) := fun q os => hq x44 y44 _
           have HDU := Lib.hid hdup
           cases hB : decide (ordBev x44 y44 = 0)
           · rw [hB] at hc44 HDU
             have HC2 := Lib.hid (HC.out.new hir HDU.out hmq)
             rw [hx44] at HC2
             clear hx44 hy44 hdup hp hir hpr hzx hzy hB
             go_wp2_with fail
             go_quiet_grown (first | (go_at_fn g; refine Calls.grown_of (hc44 _ _)))
             have HS2 := Lib.hid (HS.out.gw ⟨nq, osq, rfl⟩)
             have HBW : Hid (Below wr.heap.size wr (grow (wr.drewN nq) osq)) := Lib.hid (below_gw ⟨nq, osq, rfl⟩)
             have l55 := l44a nq osq
             clear l44a l44b hc44 HS
             generalize grow (wr.drewN nq) osq = wv1 at HS2 HBW l55 ⊢
             clear nq osq eq4 eq5 pa44 ba44 ra44 ea44
             have ho := HS2.out.ow
             have hmz : m < zs.length := by omega
             have hmk : m * k + k ≤ n * k := by
              have := Nat.mul_le_mul_right k (show m + 1 ≤ n by omega)
              rwa [Nat.add_mul, Nat.one_mul] at this
             have s55 : (storeCells ⟨gb, m * k, none⟩ (bevC x44) 0).run Tryz.prog wv1 = .ok () (wv1.setCells gb (m * k) (bevC x44)) := by
              have := run_storeCells_cells (P := Tryz.prog) gb (m * k) (bevC x44) 0 wv1 (fun j hj => by
               rw [hk] at hj
               rw [Nat.add_zero, own_cell bevC k hk ho m j hmz (by omega) hj]
               rw [List.getElem?_eq_getElem (by rw [hk]; exact hj)]
               rfl) (fun j _ => ho.frozenAt _) (h1 x44)
              rwa [Nat.add_zero] at this
             have HS3 : Hid (RowE w base k gb n c (zs.set m x44) (wv1.setCells gb (m * k) (bevC x44))) := Lib.hid (by
              have h5 := own_setL (bevC x44) _ (m * k) _ ho
              rw [setL_flat bevC k hk hk0 zs m hmz x44] at h5
              exact ⟨grown_trans HS2.out.gr (setCells_grown gb _ _ _), h5⟩)
             have n44 : (bevC x44).length = k := hk _
             have pm44 : (0 : Int) ≤ (m : Int) := by omega
             have bm44 : (m : Int) < (n : Int) := by omega
             have rm44 : IntKind.i64.wrap (m : Int) = (m : Int) := by rw [IntKind.wrap_i64]; omega
             have em44 : ((m : Int)).toNat = m := by omega
             clear ho HS2
             generalize bevC x44 = cx at HS3 s55 l55 n44
             go_wp2_with fail
             go_roundg (n - (i + q) - 1)
             case measure => omega
             case rel => exact ⟨m + 1, q + 1, _, by go_num, by go_num, by omega, by omega, by omega, by omega, HC2, HS3⟩
           · rw [hB] at hc44 HDU
             have HC2 := Lib.hid (HC.out.dup HDU.out)
             clear hx44 hy44 hdup hp hir hpr hzx hzy hB
             go_wp2_with fail
             go_quiet_grown (first | (go_at_fn g; refine Calls.grown_of (hc44 _ _)))
             have HS2 := Lib.hid (HS.out.gw ⟨nq, osq, rfl⟩)
             clear l44a l44b hc44 HS
             generalize grow (wr.drewN nq) osq = wv1 at HS2 ⊢
             clear nq osq eq4 eq5 pa44 ba44 ra44 ea44
             go_wp2
             go_roundg (n - (i + q) - 1)
             case measure => omega
             case rel => exact ⟨m, q + 1, zs, rfl, by go_num, by omega, by omega, by omega, by omega, HC2, HS2⟩
         · have hqn2 : i + q = n := by omega
           have hlt2 : ¬ (q : Int) < (n : Int) - (i : Int) := by omega
           have hmn : m < n := by omega
           have ho := HS.out.ow
           have hfl : (zs.flatMap bevC).length = n * k := by rw [flat_len bevC k hk, hzl]
           have hnm : (n - m) * k + m * k = n * k := by rw [← Nat.add_mul]; congr 1; omega
           obtain ⟨vs, hcl, hvl⟩ := clr wr gb (m * k) (n - m) (c - m) (by omega) (fun t ht => by
            rw [ho.cellAt (m * k + t) (by omega), List.getElem?_eq_getElem (by omega)]
            rfl) (fun t _ => ho.frozenAt _)
           have HF : Hid (CpS w base k (.slice (some ⟨gb, 0, none⟩) n c) xs (.returned (.slice (some ⟨gb, 0, none⟩) m c)) (wr.setCells gb (m * k) vs)) := Lib.hid (by
            have h5 := own_cut (own_setL vs _ (m * k) _ ho) (show m ≤ n by omega)
            have hxn : xs.length = n := HL.out
            have hd : zs.take m = cpE xs xs.length := by
             have := HC.out
             rw [hqn2, ← hxn] at this
             exact this.done (by omega)
            rw [setL_take, ← flat_takeE bevC k hk, hd] at h5
            have hcn : (cpE xs xs.length).length = m := by
             have := HC.out.cnt
             rw [hqn2, ← hxn] at this
             exact this
            unfold CpS
            rw [hcn]
            exact ⟨_, _, rfl, h5, grown_trans HS.out.gr (setCells_grown gb vs (m * k) wr), rfl⟩)
           have hmn2 : (m : Int) ≤ (n : Int) := by omega
           have hmc : (m : Int) ≤ (c : Int) := by omega
           have hm0 : (0 : Int) ≤ (m : Int) := by omega
           have hcm1 : ¬ c = m := by omega
           have hcm2 : ¬ (c : Int) = (m : Int) := by omega
           have e1 : (n : Int) - (m : Int) = ((n - m : Nat) : Int) := by omega
           have e2 : (c : Int) - (m : Int) = ((c - m : Nat) : Int) := by omega
           clear ho hfl HS HC
           go_wp2_with fail
           go_ret
           exact HF.out
    · obtain rfl : i = n := by omega
      have hlt' : ¬ (i : Int) < (i : Int) := by omega
      have HF : Hid (CpS w base k (.slice (some ⟨gb, 0, none⟩) i c) xs (.returned (.slice (some ⟨gb, 0, none⟩) i c)) wr) := Lib.hid (by
       have h : cpE xs xs.length = xs := by
        have := cpE_all (xs := xs) xs.length (Nat.le_refl _) (fun t ht => HD.out t (by rw [← HL.out]; exact ht))
        rwa [List.take_length] at this
       unfold CpS
       rw [h, HL.out]
       exact ⟨_, _, rfl, HS.out.ow, HS.out.gr, rfl⟩)
      clear HS HD hq clr aE zE
      go_wp2_with fail
      go_ret
      exact HF.out
end Go.Proofs.YtapgnaimbgjcnaaGreatDoor
