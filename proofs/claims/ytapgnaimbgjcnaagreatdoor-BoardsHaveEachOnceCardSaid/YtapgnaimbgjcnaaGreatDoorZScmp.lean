/-
  DERIVED: THE SHELF's CONTRACTS AT THIS DUMP, IN PLAIN WORDS (tools/lay-plain.mjs out of 'TryzShelf.lean', which tools/lay-shelf.mjs wrote): THE SAME DECLARATIONS UNDER THE SAME NAMES: 'import', 'namespace', 'open', 'def', 'theorem' AND NOTHING ELSE: no command of the shelf's: FOR A HAND-IN. Each laying: the table of numbers ('.._ren') and one theorem, a field a fact of the dump's own or the kernel's comparison; each contract: ONE APPLICATION.
-/
import Derived.Shelf.Small.Strs
import Derived.Shelf.LaysM
import Derived.Ground.SlsfProg
import Derived.Test.YtapgnaimbgjcnaaGreatDoorProg
import Derived.Test.YtapgnaimbgjcnaaGreatDoorZFlat
import Derived.Test.YtapgnaimbgjcnaaGreatDoorZBase
import Derived.Outline
import Derived.Test.YtapgnaimbgjcnaaGreatDoorZSlotPure
import Derived.Deep.RegionHeld3
namespace Go.Proofs
open Go.Shelf
def Tryz.lays213_ren : Go.Shelf.Ren := ⟨fun | 213 => 141 | 265 => 187 | n => n, fun | 9 => 9 | 3 => 3 | n => n, fun | n => n⟩
theorem Tryz.lays213 : Go.Proofs.Lays.n213 Tryz.prog Tryz.lays213_ren := {
 mixed := by kernel_rfl
 f213 := Tryz.func141.trans (congrArg some (by kernel_rfl))
 f265 := Tryz.func187.trans (congrArg some (by kernel_rfl))
 t3 := Tryz.underlying3
 a3 := Tryz.isAgg3
 z3 := Tryz.sizeOf3
 v3 := Tryz.zeroValue3
 t9 := Tryz.underlying9
 a9 := Tryz.isAgg9
 z9 := Tryz.sizeOf9
 v9 := Tryz.zeroValue9 }
open Go.RowKit in
theorem Tryz.bytealg_CompareString (a b : ByteArray) (w : World) :
 Calls Tryz.prog 141 #[.string a, .string b] w fun e w' => e = .returned (.int .i64 (Lib.compareBytes a.data.toList b.data.toList)) ∧ w' = w := Any.bytealg_CompareString Tryz.lays213 a b w
def Tryz.lays106_ren : Go.Shelf.Ren := ⟨fun | 106 => 92 | 213 => 141 | 265 => 187 | n => n, fun | 9 => 9 | 3 => 3 | n => n, fun | n => n⟩
theorem Tryz.lays106 : Go.Proofs.Lays.n106 Tryz.prog Tryz.lays106_ren := {
 mixed := by kernel_rfl
 f106 := Tryz.func92.trans (congrArg some (by kernel_rfl))
 f213 := Tryz.func141.trans (congrArg some (by kernel_rfl))
 f265 := Tryz.func187.trans (congrArg some (by kernel_rfl))
 t3 := Tryz.underlying3
 a3 := Tryz.isAgg3
 z3 := Tryz.sizeOf3
 v3 := Tryz.zeroValue3
 t9 := Tryz.underlying9
 a9 := Tryz.isAgg9
 z9 := Tryz.sizeOf9
 v9 := Tryz.zeroValue9 }
open Go.RowKit in
theorem Tryz.strings_Compare (a b : ByteArray) (w : World) :
 Calls Tryz.prog 92 #[.string a, .string b] w fun e w' => e = .returned (.int .i64 (Lib.compareBytes a.data.toList b.data.toList)) ∧ w' = w := Any.strings_Compare Tryz.lays106 a b w
end Go.Proofs
/-
  thousandths, expected, First and errs by contracts.
-/
namespace Go.Proofs.YtapgnaimbgjcnaaGreatDoor
open Go Go.RowKit
structure RatOK (n d : Int) : Prop where
 d1 : 1 ≤ d
 d2 : d ≤ 1000
 dv : d * (1000 / d) = 1000
 g : Int.gcd n d = 1
 lo : -10000 * d ≤ n
 hi : n ≤ 10000 * d
def thou (n d : Int) : Int := n * (1000 / d)
theorem thou_bd {n d : Int} (h : RatOK n d) : -10000000 ≤ thou n d ∧ thou n d ≤ 10000000 ∧ 1 ≤ 1000 / d ∧ 1000 / d ≤ 1000 := by
 have hp : 0 < 1000 / d := by
  apply Classical.byContradiction
  intro hc
  have : d * (1000 / d) ≤ 0 := by
   have := Int.mul_le_mul_of_nonneg_left (show 1000 / d ≤ 0 by omega) (show 0 ≤ d by have := h.d1; omega)
   omega
  have := h.dv
  omega
 have h1 := Int.mul_le_mul_of_nonneg_right h.hi (show 0 ≤ 1000 / d by omega)
 have h2 := Int.mul_le_mul_of_nonneg_right h.lo (show 0 ≤ 1000 / d by omega)
 have e1 : 10000 * d * (1000 / d) = 10000 * (d * (1000 / d)) := Int.mul_assoc _ _ _
 have e2 : -10000 * d * (1000 / d) = -10000 * (d * (1000 / d)) := Int.mul_assoc _ _ _
 rw [e1, h.dv] at h1
 rw [e2, h.dv] at h2
 have h3 : 1000 / d ≤ 1000 := Int.ediv_le_self _ (by omega)
 unfold thou
 omega
theorem thousandths_calls (n d : Int) (w : World) (h : RatOK n d) :
 Calls Tryz.prog 150 #[.agg #[.int .i64 n, .int .i64 d]] w (BRet (.int .i64 (thou n d)) w) := by
 obtain ⟨t1, t2, t3, t4⟩ := thou_bd h
 have d1 := h.d1
 have d2 := h.d2
 obtain ⟨q, hq⟩ : ∃ q, 1000 / d = q := ⟨_, rfl⟩
 have ht : thou n d = n * q := by unfold thou; rw [hq]
 rw [hq] at t3 t4
 have HT := Lib.hid ht
 rw [ht] at t1 t2
 have HQ := Lib.hid hq
 clear ht
 go_enter Tryz.func150, Tryz.ntmps150
 go_wp2_with fail
 have hw : IntKind.i64.wrap (n * (1000 / d)) = n * q := by rw [hq]; exact IntWalk.i64_in _ ⟨by omega, by omega⟩
 go_quiet (fail)
 clear hw
 go_wp2
 go_ret
 exact ⟨ret_int HT.out.symm, below_drewN ((Below.refl _ _).alloc (Nat.le_refl _) _) _⟩
theorem expectedR_calls (A B : Int) (w : World) (a0 : -10000000 ≤ A) (a1 : A ≤ 10000000) (b0 : -10000000 ≤ B) (b1 : B ≤ 10000000) :
 Calls Tryz.prog 149 #[.int .i64 A, .int .i64 B] w (QRet (.int .i64 (RatP.expd A B)) w) := by
 have HE := Lib.hid (show RatP.expd A B = min 800000 (max 0 (400000 + A - B)) from rfl)
 go_enter Tryz.func149, Tryz.ntmps149
 go_wp2
 all_goals (go_ret; exact ⟨ret_int (by rw [HE.out]; try omega), 0, rfl⟩)
def firstE : List Int → Int
 | [] => 0
 | e :: l => if e = 0 then firstE l else e
theorem firstE_step (l : List Int) (k : Nat) (hk : k < l.length) : firstE (l.drop k) = if l[k] = 0 then firstE (l.drop (k + 1)) else l[k] := by
 rw [List.drop_eq_getElem_cons hk, firstE]
set_option maxRecDepth 100000 in
theorem first_calls (b : Nat) (A : Option Addr) (n c : Nat) (l : List Int) (w : World) (hr : Rd w b 1 (.slice A n c) n (l.map (Value.int .i64))) :
 Calls Tryz.prog 147 #[.slice A n c] w (QRet (.int .i64 (firstE l)) w) := by
 obtain ⟨A', c', e1, e2, e3, e4, e5, e6⟩ := hr
 injection e1 with ea eb ec
 subst ea ec
 unfold maxLen at e3
 have hl : l.length = n := by simpa using e4
 have HL := Lib.hid hl
 have HC := Lib.hid e6
 clear e4 e5 e6 hl
 go_enter Tryz.func147, Tryz.ntmps147
 go_wp2_with fail
 go_loop [7] (fun i => ∃ k : Nat, k ≤ n ∧ i = .int .i64 k ∧ Hid (firstE l = firstE (l.drop k))) (fun i => n - (intOf i).toNat)
 case atStart => exact ⟨0, Nat.zero_le _, rfl, rfl⟩
 case round =>
  obtain ⟨k, hk, rfl, HF⟩ := hrel
  by_cases hlt : k < n
  · have hkr : k < l.length := by rw [HL.out]; exact hlt
    obtain ⟨g, o, hA, _, hcs⟩ := HC.out (by omega)
    subst hA
    have hst := HF.out.trans (firstE_step l k hkr)
    have c0 := hcs k _ (by rw [List.getElem?_map, List.getElem?_eq_getElem hkr]; rfl)
    clear hcs
    obtain ⟨z, hz⟩ : ∃ z, l[k] = z := ⟨_, rfl⟩
    rw [hz] at c0 hst
    clear hz
    by_cases h0 : z = 0
    · subst h0
      rw [if_pos rfl] at hst
      have HS := Lib.hid hst
      clear hst
      go_wp2_with fail
      go_round
      case rel => exact ⟨k + 1, by omega, by go_num, HS⟩
      case measure => simp [intOf]; omega
    · rw [if_neg h0] at hst
      have HS := Lib.hid hst
      have hne : (z != 0) = true := by rw [bne_iff_ne]; exact h0
      clear hst
      go_wp2_with fail
      go_ret
      exact ⟨ret_int HS.out.symm, 0, rfl⟩
  · obtain rfl : k = n := by omega
    have HS := Lib.hid (HF.out.trans (by rw [List.drop_of_length_le (by rw [HL.out]; exact Nat.le_refl _)]; rfl : _ = (0 : Int)))
    go_wp2_with fail
    go_ret
    exact ⟨ret_int HS.out.symm, 0, rfl⟩
end Go.Proofs.YtapgnaimbgjcnaaGreatDoor
/-
  What a walk holds of a world: old memory is as it was, and some blocks of the call's own are known whole (Bs).
-/
namespace Go.Proofs.YtapgnaimbgjcnaaGreatDoor
open Go Go.RowKit
def Bs (w W : World) (l : List (Nat × TypeId × Array Value)) : Prop := Below w.heap.size w W ∧ ∀ p ∈ l, Blk W p.1 p.2.1 p.2.2
section
variable {w W W' : World} {l : List (Nat × TypeId × Array Value)}
theorem Bs.start (w : World) : Bs w w [] := ⟨Below.refl _ _, fun p hp => by cases hp⟩
theorem Bs.below (h : Bs w W l) (k : Below W.heap.size W W') : Bs w W' l := ⟨below_call h.1 k (Nat.le_refl _), fun p hp => (h.2 p hp).below k⟩
theorem Bs.drew (h : Bs w W l) : Bs w W.drew l := h.below (below_drewN (Below.refl _ _) 1)
theorem Bs.drewN (h : Bs w W l) (k : Nat) : Bs w (W.drewN k) l := h.below (below_drewN (Below.refl _ _) k)
theorem Bs.alloc (h : Bs w W l) (o : Obj) : Bs w (W.alloc o) l := h.below ((Below.refl _ _).alloc (Nat.le_refl _) o)
theorem Bs.add (h : Bs w W l) (cs : Array Value) (t : TypeId) : Bs w (W.alloc (.cells cs t)) ((W.heap.size, t, cs) :: l) := by
 have h' := h.alloc (.cells cs t)
 refine ⟨h'.1, fun p hp => ?_⟩
 rcases List.mem_cons.1 hp with rfl | hp
 · exact Blk.new W t cs
 · exact h'.2 p hp
theorem Bs.push {g : Nat} {t : TypeId} {cs : Array Value} (h : Bs w W l) (hg : Blk W g t cs) : Bs w W ((g, t, cs) :: l) :=
 ⟨h.1, fun p hp => by
  rcases List.mem_cons.1 hp with rfl | hp
  · exact hg
  · exact h.2 p hp⟩
theorem Bs.rebase (h : Bs w W l) : Bs W W l := ⟨Below.refl _ _, h.2⟩
theorem Bs.tail {a : Nat × TypeId × Array Value} (h : Bs w W (a :: l)) : Bs w W l := ⟨h.1, fun p hp => h.2 p (List.mem_cons_of_mem _ hp)⟩
theorem Bs.head {g : Nat} {t : TypeId} {cs : Array Value} (h : Bs w W ((g, t, cs) :: l)) : Blk W g t cs := h.2 (g, t, cs) (List.mem_cons_self ..)
theorem Bs.store (h : Bs w W l) {g : Nat} (hw : w.heap.size ≤ g) (hl : ∀ p ∈ l, p.1 ≠ g) (i : Nat) (u : Value) : Bs w (W.setCell ⟨g, i, none⟩ u) l :=
 ⟨h.1.setCell (p := ⟨g, i, none⟩) hw u, fun p hp => (h.2 p hp).far (p := ⟨g, i, none⟩) (hl p hp) u⟩
theorem Bs.set_ {g : Nat} {t : TypeId} {cs : Array Value} (h : Bs w W ((g, t, cs) :: l)) (hw : w.heap.size ≤ g) (hl : ∀ p ∈ l, p.1 ≠ g) (i : Nat) (u : Value) : Bs w (W.setCell ⟨g, i, none⟩ u) ((g, t, cs.setIfInBounds i u) :: l) :=
 (h.tail.store hw hl i u).push (h.head.set_ i u)
end
theorem heap_new3 (w : World) (A B C : Obj) : (((w.alloc A).alloc B).alloc C).heap[w.heap.size + 1 + 1]? = some C := by
 have := heap_alloc_new ((w.alloc A).alloc B) C
 simpa using this
theorem Bs.grown {w W W' : World} {l : List (Nat × TypeId × Array Value)} {row : Option Nat} (h : Bs w W l) (hg : W.grownBy W' row) (hr : ∀ k, row = some k → w.heap.size ≤ k) (hl : ∀ p ∈ l, row ≠ some p.1) : Bs w W' l :=
 ⟨h.1.grown hg h.1.size hr, fun p hp => (h.2 p hp).grown hg (hl p hp).symm⟩
def Os (e : TypeId) (size : Nat) (w W : World) (v : Value) (n : Nat) (xs : List Value) (l : List (Nat × TypeId × Array Value)) : Prop :=
 W.ownsRow w.heap.size e size v n xs ∧ Bs w W l ∧ ∀ p ∈ l, v.ownBlock ≠ some p.1
section
variable {e : TypeId} {size : Nat} {w W W' : World} {v : Value} {n : Nat} {xs : List Value} {l : List (Nat × TypeId × Array Value)}
theorem Os.start (h : Bs w W l) : Os e size w W (.slice none 0 0) 0 [] l := ⟨World.ownsRow_nil _ _ _ _, h, fun p _ hp => by simp [Value.ownBlock] at hp⟩
theorem Os.below (h : Os e size w W v n xs l) (k : Below W.heap.size W W') : Os e size w W' v n xs l := ⟨own_below h.1 k, h.2.1.below k, h.2.2⟩
theorem Os.drew (h : Os e size w W v n xs l) : Os e size w W.drew v n xs l := h.below (below_drewN (Below.refl _ _) 1)
theorem Os.drewN (h : Os e size w W v n xs l) (k : Nat) : Os e size w (W.drewN k) v n xs l := h.below (below_drewN (Below.refl _ _) k)
theorem Os.alloc (h : Os e size w W v n xs l) (o : Obj) : Os e size w (W.alloc o) v n xs l := h.below ((Below.refl _ _).alloc (Nat.le_refl _) o)
theorem Os.add (h : Os e size w W v n xs l) (cs : Array Value) (t : TypeId) : Os e size w (W.alloc (.cells cs t)) v n xs ((W.heap.size, t, cs) :: l) := by
 have h' := h.alloc (.cells cs t)
 refine ⟨h'.1, h.2.1.add cs t, fun p hp => ?_⟩
 rcases List.mem_cons.1 hp with rfl | hp
 · intro hq
   have := (h.1.lt _ hq).2
   simp only at this
   omega
 · exact h.2.2 p hp
theorem Os.tail {a : Nat × TypeId × Array Value} (h : Os e size w W v n xs (a :: l)) : Os e size w W v n xs l := ⟨h.1, h.2.1.tail, fun p hp => h.2.2 p (List.mem_cons_of_mem _ hp)⟩
theorem Os.head {g : Nat} {t : TypeId} {cs : Array Value} (h : Os e size w W v n xs ((g, t, cs) :: l)) : Blk W g t cs := h.2.1.head
theorem Os.set_ {g : Nat} {t : TypeId} {cs : Array Value} (h : Os e size w W v n xs ((g, t, cs) :: l)) (hw : w.heap.size ≤ g) (hl : ∀ p ∈ l, p.1 ≠ g) (i : Nat) (u : Value) : Os e size w (W.setCell ⟨g, i, none⟩ u) v n xs ((g, t, cs.setIfInBounds i u) :: l) := by
 refine ⟨?_, h.2.1.set_ hw hl i u, fun p hp => ?_⟩
 · refine h.1.kept (row := some g) ⟨rfl, rfl, rfl, by simp [World.setCell], fun k _ hk => Below.heap_setCell W ⟨g, i, none⟩ u k (fun e => hk (by rw [e]))⟩ ?_
   exact .inr (h.2.2 (g, t, cs) (List.mem_cons_self ..))
 · rcases List.mem_cons.1 hp with rfl | hp
   · exact h.2.2 (g, t, cs) (List.mem_cons_self ..)
   · exact h.2.2 p (List.mem_cons_of_mem _ hp)
theorem Os.append {v' : Value} {n' : Nat} {xs' : List Value} (h : Os e size w W v n xs l) (ho : W'.ownsRow w.heap.size e size v' n' xs') (hg : W.grownBy W' v.ownBlock) (hv : v'.ownBlock = v.ownBlock ∨ v'.ownBlock = some W.heap.size) : Os e size w W' v' n' xs' l := by
 refine ⟨ho, h.2.1.grown hg (fun k hk => (h.1.lt k hk).1) (fun p hp => h.2.2 p hp), fun p hp => ?_⟩
 rcases hv with hv | hv
 · rw [hv]; exact h.2.2 p hp
 · rw [hv]
   intro hq
   injection hq with hq
   have := (h.2.1.2 p hp).lt
   omega
end
end Go.Proofs.YtapgnaimbgjcnaaGreatDoor
/-
  What a walk that draws numbers holds of a world (Sp): the stream's block, old memory, and a list of resources that lie apart from one another: blocks known whole, rows of the call's own. No Go text is named here.
-/
namespace Go.Proofs.YtapgnaimbgjcnaaGreatDoor
open Go Go.RowKit
structure Rsc where
 P : World → Prop
 fp : Nat → Prop
def Rsc.Ok (r : Rsc) : Prop := ∀ W W' : World, (∀ g, r.fp g → W'.heap[g]? = W.heap[g]?) → r.P W → r.P W'
def rBlk (g : Nat) (t : TypeId) (cs : Array Value) : Rsc := ⟨fun W => Blk W g t cs, fun k => k = g⟩
def rOwn (base : Nat) (e : TypeId) (size : Nat) (v : Value) (n : Nat) (xs : List Value) : Rsc := ⟨fun W => W.ownsRow base e size v n xs, fun k => v.ownBlock = some k⟩
def rAll {α : Type} (f : α → Rsc) (l : List α) : Rsc := ⟨fun W => ∀ a ∈ l, (f a).P W, fun k => ∃ a ∈ l, (f a).fp k⟩
theorem rBlk_ok (g : Nat) (t : TypeId) (cs : Array Value) : (rBlk g t cs).Ok := fun _W _W' h hp => (h g rfl).trans hp
theorem rOwn_ok (base : Nat) (e : TypeId) (size : Nat) (v : Value) (n : Nat) (xs : List Value) : (rOwn base e size v n xs).Ok := by
 intro W W' h hp
 refine ⟨hp.1, ?_⟩
 rcases hp.2 with hn | ⟨g, cap, cur, rfl, hb, hgg, rest⟩
 · exact .inl hn
 · exact .inr ⟨g, cap, cur, rfl, hb, (h g rfl).trans hgg, rest⟩
theorem rAll_ok {α : Type} {f : α → Rsc} (hf : ∀ a, (f a).Ok) (l : List α) : (rAll f l).Ok :=
 fun W W' h hp a ha => hf a W W' (fun g hg => h g ⟨a, ha, hg⟩) (hp a ha)
def Apart (r s : Rsc) : Prop := ∀ g, r.fp g → s.fp g → False
section
variable {w W W' : World} {b K K' : Nat} {l : List Rsc} {r : Rsc}
theorem apart_comm {r s : Rsc} (h : Apart r s) : Apart s r := fun g h1 h2 => h g h2 h1
theorem front_perm {α : Type} : ∀ (l : List α) (i : Nat) (r : α), l[i]? = some r → l.Perm (r :: l.eraseIdx i)
 | [], i, r, h => by simp at h
 | a :: l, 0, r, h => by
   simp at h
   subst h
   exact List.Perm.refl _
 | a :: l, i + 1, r, h => by
   have h' : l[i]? = some r := by simpa using h
   exact ((front_perm l i r h').cons a).trans (List.Perm.swap r a _)
theorem blkRd (size n : Nat) {g : Nat} {t : TypeId} {cs : Array Value} (h : Blk W g t cs) (hg : g ≠ b) (hn : n ≤ maxLen) (hs : cs.size = n * size) : Rd W b size (.slice (some ⟨g, 0, none⟩) n n) n cs.toList := by
 refine ⟨_, n, rfl, Nat.le_refl _, hn, by simpa using hs, (fun e => by cases e), fun _ => ⟨g, 0, rfl, hg, fun j u hu => ?_⟩⟩
 rw [Nat.zero_add, h.cell]
 simpa using hu
end
theorem own_lies {v : Value} {g n c H : Nat} (h : v.ownBlock = some g ∨ g = H) : (Value.slice (some ⟨g, 0, none⟩) n c).ownBlock = v.ownBlock ∨ (Value.slice (some ⟨g, 0, none⟩) n c).ownBlock = some H := by
 rcases h with h | rfl
 · exact .inl h.symm
 · exact .inr rfl
section
variable {w W : World} {b K : Nat} {l : List Rsc}
end
end Go.Proofs.YtapgnaimbgjcnaaGreatDoor
/-
  What a walk that makes memory holds of a world (Sq): old memory is as it was, and a list of resources that lie apart. No Go text is named here.
-/
namespace Go.Proofs.YtapgnaimbgjcnaaGreatDoor
open Go Go.RowKit
structure Hp (B : Nat) (W : World) (l : List Rsc) : Prop where
 hold : ∀ r ∈ l, r.P W
 ok : ∀ r ∈ l, r.Ok
 new : ∀ r ∈ l, ∀ g, r.fp g → B ≤ g ∧ g < W.heap.size
 apart : l.Pairwise Apart
section
variable {B : Nat} {W W' : World} {l : List Rsc} {r : Rsc}
theorem Hp.start (B : Nat) (W : World) : Hp B W [] := ⟨(by intro r hr; cases hr), (by intro r hr; cases hr), (by intro r hr; cases hr), List.Pairwise.nil⟩
theorem Hp.step (h : Hp B W l) (hs : W.heap.size ≤ W'.heap.size) (hk : ∀ r ∈ l, ∀ g, r.fp g → W'.heap[g]? = W.heap[g]?) : Hp B W' l :=
 ⟨fun r hr => h.ok r hr W W' (hk r hr) (h.hold r hr), h.ok, fun r hr g hg => by have := h.new r hr g hg; omega, h.apart⟩
theorem Hp.below (h : Hp B W l) (k : Below W.heap.size W W') : Hp B W' l := h.step k.size (fun r hr g hg => k.block g (h.new r hr g hg).2)
theorem Hp.cons (h : Hp B W l) (hp : r.P W) (hok : r.Ok) (hn : ∀ g, r.fp g → B ≤ g ∧ g < W.heap.size) (ha : ∀ s ∈ l, Apart r s) : Hp B W (r :: l) :=
 ⟨fun s hs => by rcases List.mem_cons.1 hs with rfl | hs; exact hp; exact h.hold s hs, fun s hs => by rcases List.mem_cons.1 hs with rfl | hs; exact hok; exact h.ok s hs,
  fun s hs => by rcases List.mem_cons.1 hs with rfl | hs; exact hn; exact h.new s hs, List.Pairwise.cons ha h.apart⟩
theorem Hp.tail (h : Hp B W (r :: l)) : Hp B W l :=
 ⟨fun s hs => h.hold s (List.mem_cons_of_mem _ hs), fun s hs => h.ok s (List.mem_cons_of_mem _ hs), fun s hs => h.new s (List.mem_cons_of_mem _ hs), (List.pairwise_cons.1 h.apart).2⟩
theorem Hp.head (h : Hp B W (r :: l)) : r.P W := h.hold r (List.mem_cons_self ..)
theorem Hp.perm {l' : List Rsc} (h : Hp B W l) (hp : l.Perm l') : Hp B W l' :=
 ⟨fun s hs => h.hold s (hp.mem_iff.2 hs), fun s hs => h.ok s (hp.mem_iff.2 hs), fun s hs => h.new s (hp.mem_iff.2 hs), hp.pairwise h.apart (fun h => apart_comm h)⟩
theorem Hp.turn {r' : Rsc} (h : Hp B W (r :: l)) (hs : W.heap.size ≤ W'.heap.size) (hk : ∀ g, g < W.heap.size → ¬ r.fp g → W'.heap[g]? = W.heap[g]?) (hp : r'.P W') (hok : r'.Ok)
 (hf : ∀ g, r'.fp g → (r.fp g ∨ W.heap.size ≤ g) ∧ g < W'.heap.size) (hB : B ≤ W.heap.size) : Hp B W' (r' :: l) := by
 have h0 : Hp B W' l := h.tail.step hs (fun s hs g hg => hk g (h.tail.new s hs g hg).2 (fun hr => (List.pairwise_cons.1 h.apart).1 s hs g hr hg))
 refine h0.cons hp hok (fun g hg => ?_) (fun s hs g hg hg2 => ?_)
 · obtain ⟨h1, h2⟩ := hf g hg
   rcases h1 with h1 | h1
   · exact ⟨(h.new _ (List.mem_cons_self ..) g h1).1, h2⟩
   · exact ⟨by omega, h2⟩
 · rcases (hf g hg).1 with h1 | h1
   · exact (List.pairwise_cons.1 h.apart).1 s hs g h1 hg2
   · have := (h.tail.new s hs g hg2).2; omega
theorem Hp.new_ (h : Hp B W l) (k : Below W.heap.size W W') (hp : r.P W') (hok : r.Ok) (hf : ∀ g, r.fp g → W.heap.size ≤ g ∧ g < W'.heap.size) (hB : B ≤ W.heap.size) : Hp B W' (r :: l) :=
 (h.below k).cons hp hok (fun g hg => by have := hf g hg; omega) (fun s hs g hg hg2 => by have := (hf g hg).1; have := (h.new s hs g hg2).2; omega)
end
structure Sq (w W : World) (l : List Rsc) : Prop where
 below : Below w.heap.size w W
 hp : Hp w.heap.size W l
section
variable {w W W' : World} {l : List Rsc} {r : Rsc}
theorem Sq.start (w : World) : Sq w w [] := ⟨Below.refl _ _, Hp.start _ _⟩
theorem Sq.size (h : Sq w W l) : w.heap.size ≤ W.heap.size := h.below.size
theorem Sq.callB (h : Sq w W l) (k : Below W.heap.size W W') : Sq w W' l := ⟨below_call h.below k (Nat.le_refl _), h.hp.below k⟩
theorem Sq.drew (h : Sq w W l) : Sq w W.drew l := h.callB (below_drewN (Below.refl _ _) 1)
theorem Sq.drewN (h : Sq w W l) (n : Nat) : Sq w (W.drewN n) l := h.callB (below_drewN (Below.refl _ _) n)
theorem Sq.alloc (h : Sq w W l) (o : Obj) : Sq w (W.alloc o) l := h.callB ((Below.refl _ _).alloc (Nat.le_refl _) o)
theorem Sq.new_ (h : Sq w W l) (k : Below W.heap.size W W') (hp : r.P W') (hok : r.Ok) (hf : ∀ g, r.fp g → W.heap.size ≤ g ∧ g < W'.heap.size) : Sq w W' (r :: l) := ⟨below_call h.below k (Nat.le_refl _), h.hp.new_ k hp hok hf h.size⟩
theorem Sq.add (h : Sq w W l) (cs : Array Value) (t : TypeId) : Sq w (W.alloc (.cells cs t)) (rBlk W.heap.size t cs :: l) :=
 h.new_ ((Below.refl _ _).alloc (Nat.le_refl _) _) (Blk.new W t cs) (rBlk_ok _ _ _) (fun g hg => by
  have hg : g = W.heap.size := hg
  subst hg
  exact ⟨Nat.le_refl _, by simp⟩)
theorem Sq.tail (h : Sq w W (r :: l)) : Sq w W l := ⟨h.below, h.hp.tail⟩
theorem Sq.bare (h : Sq w W l) : Sq w W [] := ⟨h.below, Hp.start _ _⟩
theorem Sq.head (h : Sq w W (r :: l)) : r.P W := h.hp.head
theorem Sq.nth (h : Sq w W l) (i : Nat) (hi : l[i]? = some r) : r.P W := h.hp.hold r (List.mem_of_getElem? hi)
theorem Sq.front (h : Sq w W l) (i : Nat) (hi : l[i]? = some r) {l' : List Rsc} (hl : l.eraseIdx i = l') : Sq w W (r :: l') := by
 subst hl
 exact ⟨h.below, h.hp.perm (front_perm l i r hi)⟩
theorem Sq.drop (h : Sq w W l) (i : Nat) (hi : l[i]? = some r) {l' : List Rsc} (hl : l.eraseIdx i = l') : Sq w W l' := (h.front i hi hl).tail
theorem Sq.nil (h : Sq w W l) (base : Nat) (e : TypeId) (size : Nat) : Sq w W (rOwn base e size (.slice none 0 0) 0 [] :: l) :=
 ⟨h.below, h.hp.cons (World.ownsRow_nil _ _ _ _) (rOwn_ok _ _ _ _ _ _) (fun g hg => by simp [rOwn, Value.ownBlock] at hg) (fun s _ g hg => by simp [rOwn, Value.ownBlock] at hg)⟩
theorem Sq.turn {r' : Rsc} (h : Sq w W (r :: l)) {row : Option Nat} (hg : W.grownBy W' row) (hr : ∀ k, row = some k → r.fp k) (hp : r'.P W') (hok : r'.Ok)
 (hf : ∀ g, r'.fp g → (r.fp g ∨ W.heap.size ≤ g) ∧ g < W'.heap.size) : Sq w W' (r' :: l) :=
 ⟨h.below.grown hg h.size (fun k hk => (h.hp.new _ (List.mem_cons_self ..) k (hr k hk)).1), h.hp.turn hg.size (fun g hl hn => hg.block g hl (fun e => hn (hr g e.symm))) hp hok hf h.size⟩
theorem Sq.append {base : Nat} {e : TypeId} {size n n' : Nat} {v v' : Value} {xs xs' : List Value} (h : Sq w W (rOwn base e size v n xs :: l)) (ho : W'.ownsRow base e size v' n' xs') (hg : W.grownBy W' v.ownBlock) (hv : v'.ownBlock = v.ownBlock ∨ v'.ownBlock = some W.heap.size) :
 Sq w W' (rOwn base e size v' n' xs' :: l) :=
 h.turn hg (fun k hk => hk) ho (rOwn_ok _ _ _ _ _ _) (fun g hgg => by
  have hgg : v'.ownBlock = some g := hgg
  refine ⟨?_, (ho.lt g hgg).2⟩
  rcases hv with hv | hv
  · rw [hv] at hgg; exact .inl hgg
  · rw [hv] at hgg; injection hgg with hgg; exact .inr (by omega))
theorem Sq.store_ (h : Sq w W (r :: l)) {g : Nat} (hg : r.fp g) (i : Nat) (u : Value) {r' : Rsc} (hp : r'.P (W.setCell ⟨g, i, none⟩ u)) (hok : r'.Ok) (hf : ∀ k, r'.fp k → r.fp k) : Sq w (W.setCell ⟨g, i, none⟩ u) (r' :: l) :=
 h.turn (row := some g) ⟨rfl, rfl, rfl, by simp [World.setCell], fun k _ hk => Below.heap_setCell W ⟨g, i, none⟩ u k (fun e => hk (by rw [e]))⟩ (fun k hk => by injection hk with hk; subst hk; exact hg) hp hok
  (fun k hk => ⟨.inl (hf k hk), by have := (h.hp.new _ (List.mem_cons_self ..) k (hf k hk)).2; simpa [World.setCell] using this⟩)
theorem Sq.set_ {g : Nat} {t : TypeId} {cs : Array Value} (h : Sq w W (rBlk g t cs :: l)) (i : Nat) (u : Value) : Sq w (W.setCell ⟨g, i, none⟩ u) (rBlk g t (cs.setIfInBounds i u) :: l) :=
 h.store_ (g := g) rfl i u (r' := rBlk g t (cs.setIfInBounds i u)) (Blk.set_ h.head i u) (rBlk_ok _ _ _) (fun _k hk => hk)
theorem Sq.merge {l2 : List Rsc} (h : Sq w W l) (h2 : Sq W W' l2) : Sq w W' (l2 ++ l) := by
 have h0 := h.callB h2.below
 refine ⟨h0.below, ⟨fun s hs => ?_, fun s hs => ?_, fun s hs g hg => ?_, ?_⟩⟩
 · rcases List.mem_append.1 hs with hs | hs
   · exact h2.hp.hold s hs
   · exact h0.hp.hold s hs
 · rcases List.mem_append.1 hs with hs | hs
   · exact h2.hp.ok s hs
   · exact h0.hp.ok s hs
 · rcases List.mem_append.1 hs with hs | hs
   · have := h2.hp.new s hs g hg; have := h.size; omega
   · exact h0.hp.new s hs g hg
 · refine List.pairwise_append.2 ⟨h2.hp.apart, h0.hp.apart, fun r hr s hs g hg hg2 => ?_⟩
   have := (h2.hp.new r hr g hg).1
   have := (h.hp.new s hs g hg2).2
   omega
theorem Sq.rd (h : Sq w W l) {b size n : Nat} {v : Value} {xs : List Value} (hr : Rd w b size v n xs) : Rd W b size v n xs := hr.below h.below
theorem Sq.ge (h : Sq w W l) {g : Nat} {t : TypeId} {cs : Array Value} (i : Nat) (hi : l[i]? = some (rBlk g t cs)) : w.heap.size ≤ g := (h.hp.new _ (List.mem_of_getElem? hi) g rfl).1
end
end Go.Proofs.YtapgnaimbgjcnaaGreatDoor
/-
  The order of gifts: cmp.Compare, cmp.Or, byGift and giftOrder by contracts.
-/
namespace Go.Proofs.YtapgnaimbgjcnaaGreatDoor
open Go Go.RowKit
def cmpI (x y : Int) : Int := if x < y then -1 else if y < x then 1 else 0
def cmpS (a b : ByteArray) : Int := Lib.compareBytes a.data.toList b.data.toList
theorem cmpL_le : ∀ a b : List UInt8, decide (Lib.compareBytes a b ≤ 0) = (Op.bytesLess a b || a == b)
 | [], [] => rfl
 | [], _ :: _ => rfl
 | _ :: _, [] => rfl
 | a :: p, b :: q => by
   have ih := cmpL_le p q
   unfold Lib.compareBytes Op.bytesLess
   by_cases h1 : a < b
   · simp [h1]
   · by_cases h2 : b < a
     · have hne : ¬ a = b := fun e => by subst e; exact h1 h2
       simp [h1, h2, hne]
     · have he : a = b := UInt8.le_antisymm (UInt8.not_lt.1 h2) (UInt8.not_lt.1 h1)
       subst he
       rw [if_neg h1, if_neg h1, ih]
       simp [h1]
theorem cmpL_ge : ∀ a b : List UInt8, decide (0 ≤ Lib.compareBytes b a) = (Op.bytesLess a b || a == b)
 | [], [] => rfl
 | [], _ :: _ => rfl
 | _ :: _, [] => rfl
 | a :: p, b :: q => by
   have ih := cmpL_ge p q
   unfold Lib.compareBytes Op.bytesLess
   by_cases h1 : a < b
   · have h2 : ¬ b < a := fun h2 => UInt8.lt_irrefl _ (UInt8.lt_trans h1 h2)
     simp [h1, h2]
   · by_cases h2 : b < a
     · have hne : ¬ a = b := fun e => by subst e; exact h1 h2
       simp [h1, h2, hne]
     · have he : a = b := UInt8.le_antisymm (UInt8.not_lt.1 h2) (UInt8.not_lt.1 h1)
       subst he
       rw [if_neg h1, if_neg h1, ih]
       simp [h1]
theorem cmpS_le (a b : ByteArray) : decide (cmpS a b ≤ 0) = leS a b := by
 unfold cmpS leS
 rw [cmpL_le, Lib.toList_data, Lib.toList_data]
theorem cmpS_ge (a b : ByteArray) : decide (0 ≤ cmpS b a) = leS a b := by
 unfold cmpS leS
 rw [cmpL_ge, Lib.toList_data, Lib.toList_data]
set_option maxRecDepth 100000 in
theorem isNaNI_calls (x : Int) (w : World) : Calls Tryz.prog 121 #[.int .i64 x] w fun e w' => e = .returned (.bool false) ∧ w = w' := by
 go_enter Tryz.func121, Tryz.ntmps121
 go_wp2_with fail
 go_ret
 exact ⟨ret_bool (by simp), rfl⟩
set_option maxRecDepth 100000 in
theorem cmpInt_calls (x y : Int) (w : World) : Calls Tryz.prog 62 #[.int .i64 x, .int .i64 y] w fun e w' => e = .returned (.int .i64 (cmpI x y)) ∧ w = w' := by
 by_cases h1 : x < y
 · have HS : Hid (cmpI x y = -1) := by unfold cmpI; rw [if_pos h1]; exact Lib.hid rfl
   go_enter Tryz.func62, Tryz.ntmps62
   go_wp2_with fail
   refine (isNaNI_calls _ _).mono ?_
   rintro e w1 ⟨rfl, rfl⟩
   go_wp2_with fail
   refine (isNaNI_calls _ _).mono ?_
   rintro e w1 ⟨rfl, rfl⟩
   go_wp2_with fail
   go_ret
   exact ⟨ret_int HS.out.symm, rfl⟩
 · by_cases h2 : y < x
   · have HS : Hid (cmpI x y = 1) := by unfold cmpI; rw [if_neg h1, if_pos h2]; exact Lib.hid rfl
     go_enter Tryz.func62, Tryz.ntmps62
     go_wp2_with fail
     refine (isNaNI_calls _ _).mono ?_
     rintro e w1 ⟨rfl, rfl⟩
     go_wp2_with fail
     refine (isNaNI_calls _ _).mono ?_
     rintro e w1 ⟨rfl, rfl⟩
     go_wp2_with fail
     go_ret
     exact ⟨ret_int HS.out.symm, rfl⟩
   · have HS : Hid (cmpI x y = 0) := by unfold cmpI; rw [if_neg h1, if_neg h2]; exact Lib.hid rfl
     go_enter Tryz.func62, Tryz.ntmps62
     go_wp2_with fail
     refine (isNaNI_calls _ _).mono ?_
     rintro e w1 ⟨rfl, rfl⟩
     go_wp2_with fail
     refine (isNaNI_calls _ _).mono ?_
     rintro e w1 ⟨rfl, rfl⟩
     go_wp2_with fail
     go_ret
     exact ⟨ret_int HS.out.symm, rfl⟩
end Go.Proofs.YtapgnaimbgjcnaaGreatDoor
/-
  Events of a board in plain words: what is wrong with one, their order, what is wrong with a list. No Go text is walked here.
-/
namespace Go.Proofs.YtapgnaimbgjcnaaGreatDoor
open Go Go.RowKit
structure Bev where
 at_ : Int
 kind : Int
 id : ByteArray
 who : ByteArray
 by_ : ByteArray
 cat : ByteArray
 time : Int
 date : Int
def bevC (x : Bev) : List Value := [.int .i64 x.at_, .int .i64 x.kind, .string x.id, .string x.who, .string x.by_, .string x.cat, .int .i64 x.time, .int .i64 x.date]
theorem bevC_len (x : Bev) : (bevC x).length = 8 := rfl
def noBev : ByteArray := ⟨#[]⟩
structure BevW (x : Bev) : Prop where
 hi : x.id.size ≤ 1000000
 hw : x.who.size ≤ 1000000
 hb : x.by_.size ≤ 1000000
 hc : x.cat.size ≤ 1000000
def usI (k : Int) : Bool := decide (k = 1 ∨ k = 2 ∨ k = 3 ∨ k = 4)
def usW (k : Int) : Bool := decide (k = 1 ∨ k = 4 ∨ k = 5 ∨ k = 6)
def usB (k : Int) : Bool := decide (k = 2 ∨ k = 3 ∨ k = 5 ∨ k = 6)
def usS (k : Int) : Bool := decide (k = 1)
def sameBev (x y : Bev) : Bool := decide (x.at_ = y.at_) && decide (x.kind = y.kind) && eqS x.id y.id && eqS x.who y.who && eqS x.by_ y.by_ && eqS x.cat y.cat && decide (x.time = y.time) && decide (x.date = y.date)
def bevU (x : Bev) : Bev := ⟨x.at_, x.kind, if usI x.kind = true then x.id else noBev, if usW x.kind = true then x.who else noBev, if usB x.kind = true then x.by_ else noBev, if usS x.kind = true then x.cat else noBev, if usS x.kind = true then x.time else 0, if usS x.kind = true then x.date else 0⟩
def keyBv (s : ByteArray) : Bool := keyB s.data.toList
def bevK (x : Bev) : Bool := (usI x.kind && !keyBv x.id) || (usW x.kind && !keyBv x.who) || (usB x.kind && !keyBv x.by_) || (usS x.kind && !keyBv x.cat)
def bevF (x : Bev) : Int := if momB x.at_ = true then if outB x.kind 1 6 = true then 4 else if bevK x = true then 5 else if (usS x.kind && (outB x.time 1 864000000 || outB x.date 0 x.at_)) = true then 1 else if sameBev x (bevU x) = true then 0 else 3 else 1
def ordBev (x y : Bev) : Int := firstE [cmpI x.at_ y.at_, cmpI x.kind y.kind, cmpS x.id y.id, cmpS x.who y.who, cmpS x.by_ y.by_]
def befBev : Option Bev → Bev → Bool
 | none, _ => false
 | some o, x => decide (ordBev x o ≤ 0)
def bevsG : Option Bev → List Bev → Int
 | _, [] => 0
 | last, x :: xs => if bevF x = 0 then if befBev last x = true then 7 else bevsG (some x) xs else bevF x
def bevsF (xs : List Bev) : Int := if 2000 < xs.length then 2 else bevsG none xs
def lastBev (xs : List Bev) (k : Nat) : Option Bev := match k with | 0 => none | k + 1 => xs[k]?
theorem bevsG_step (xs : List Bev) (k : Nat) (hk : k < xs.length) : bevsG (lastBev xs k) (xs.drop k) =
 if bevF xs[k] = 0 then if befBev (lastBev xs k) xs[k] = true then 7 else bevsG (lastBev xs (k + 1)) (xs.drop (k + 1)) else bevF xs[k] := by
 rw [List.drop_eq_getElem_cons hk, bevsG]
 have : lastBev xs (k + 1) = some xs[k] := by simp [lastBev, hk]
 rw [this]
structure Bevs (w : World) (b : Nat) (A : Option Addr) (n c : Nat) (xs : List Bev) : Prop where
 rd : Rd w b 8 (.slice A n c) n (xs.flatMap bevC)
 ok : ∀ x ∈ xs, BevW x
theorem Bevs.below {w w' : World} {b n c : Nat} {A : Option Addr} {xs : List Bev} (h : Bevs w b A n c xs) (k : Below w.heap.size w w') : Bevs w' b A n c xs := ⟨h.rd.below k, h.ok⟩
theorem Bevs.bx {w w' : World} {b n c : Nat} {A : Option Addr} {xs : List Bev} (h : Bevs w b A n c xs) (k : Bx w.heap.size b w w') : Bevs w' b A n c xs := ⟨h.rd.bx k, h.ok⟩
end Go.Proofs.YtapgnaimbgjcnaaGreatDoor
