/-
  What a walk holds of a world (Px) where one old block b may turn: the rest of old memory is as it was; resources of the call's own that lie apart. No Go text is named here.
-/
import Derived.Test.YthbcogekfdllmaaGreatDoorZSepX
import Derived.Test.YthbcogekfdllmaaGreatDoorZSlotPure
import Derived.Test.YthbcogekfdllmaaGreatDoorZRatPure
import Derived.Deep.DeepCutAuto
import Derived.Deep.RegionLaw
import Derived.Deep.CutBlock
namespace Go.Proofs.YthbcogekfdllmaaGreatDoor
open Go Go.RowKit

/-- the cells of an own row, and one more that is laid as a literal -/
theorem own_new (w : World) (base : Nat) (e : TypeId) (size : Nat) (cs : Array Value) (n : Nat) (hb : base ≤ w.heap.size) (hs : cs.size = n * size) (hn : n ≤ maxLen) :
    (w.alloc (.cells cs e)).ownsRow base e size (.slice (some ⟨w.heap.size, 0, none⟩) n n) n cs.toList := by
  refine ⟨by simpa using hs, .inr ⟨w.heap.size, n, cs, rfl, hb, heap_alloc_new w _, Nat.le_refl _, hn, hs, ?_⟩⟩
  rw [← hs]
  exact List.take_of_length_le (by simp)

structure Px (w : World) (b : Nat) (W : World) (l : List Rsc) : Prop where
  bx : Bx w.heap.size b w W
  hb : b < w.heap.size
  hp : Hp w.heap.size W l
section
variable {w W W' : World} {b : Nat} {l : List Rsc} {r : Rsc}
theorem Px.start (w : World) (hb : b < w.heap.size) : Px w b w [] := ⟨Bx.refl _ _ _, hb, Hp.start _ _⟩
theorem Px.size (h : Px w b W l) : w.heap.size ≤ W.heap.size := h.bx.size
theorem Px.lt (h : Px w b W l) : b < W.heap.size := Nat.lt_of_lt_of_le h.hb h.size
theorem Hp.bx_ {B : Nat} (h : Hp B W l) (k : Bx W.heap.size b W W') (hB : b < B) : Hp B W' l :=
  h.step k.size (fun r hr g hg => k.block g (h.new r hr g hg).2 (by have := (h.new r hr g hg).1; omega))
theorem Px.call (h : Px w b W l) (k : Bx W.heap.size b W W') : Px w b W' l := ⟨h.bx.call k (Nat.le_refl _), h.hb, h.hp.bx_ k h.hb⟩
theorem Px.callB (h : Px w b W l) (k : Below W.heap.size W W') : Px w b W' l := h.call (Bx.of_below k b)
theorem Px.drew (h : Px w b W l) : Px w b W.drew l := h.callB (below_drewN (Below.refl _ _) 1)
theorem Px.drewN (h : Px w b W l) (n : Nat) : Px w b (W.drewN n) l := h.callB (below_drewN (Below.refl _ _) n)
theorem Px.alloc (h : Px w b W l) (o : Obj) : Px w b (W.alloc o) l := h.callB ((Below.refl _ _).alloc (Nat.le_refl _) o)
theorem Px.new_ (h : Px w b W l) (k : Bx W.heap.size b W W') (hp : r.P W') (hok : r.Ok) (hf : ∀ g, r.fp g → W.heap.size ≤ g ∧ g < W'.heap.size) : Px w b W' (r :: l) :=
  ⟨h.bx.call k (Nat.le_refl _), h.hb, (h.hp.bx_ k h.hb).cons hp hok (fun g hg => by have := hf g hg; have := h.size; omega) (fun s hs g hg hg2 => by have := (hf g hg).1; have := (h.hp.new s hs g hg2).2; omega)⟩
theorem Px.add (h : Px w b W l) (cs : Array Value) (t : TypeId) : Px w b (W.alloc (.cells cs t)) (rBlk W.heap.size t cs :: l) :=
  h.new_ (Bx.of_below ((Below.refl _ _).alloc (Nat.le_refl _) _) b) (Blk.new W t cs) (rBlk_ok _ _ _) (fun g hg => by
    have hg : g = W.heap.size := hg
    subst hg
    exact ⟨Nat.le_refl _, by simp⟩)
theorem Px.addRow (h : Px w b W l) (cs : Array Value) (t : TypeId) (size n : Nat) (hs : cs.size = n * size) (hn : n ≤ maxLen) :
    Px w b (W.alloc (.cells cs t)) (rOwn w.heap.size t size (.slice (some ⟨W.heap.size, 0, none⟩) n n) n cs.toList :: l) :=
  h.new_ (Bx.of_below ((Below.refl _ _).alloc (Nat.le_refl _) _) b) (own_new W w.heap.size t size cs n h.size hs hn) (rOwn_ok _ _ _ _ _ _) (fun g hg => by
    have hg : some W.heap.size = some g := hg
    injection hg with hg
    subst hg
    exact ⟨Nat.le_refl _, by simp⟩)
theorem Px.tail (h : Px w b W (r :: l)) : Px w b W l := ⟨h.bx, h.hb, h.hp.tail⟩
theorem Px.head (h : Px w b W (r :: l)) : r.P W := h.hp.head
theorem Px.nth (h : Px w b W l) (i : Nat) (hi : l[i]? = some r) : r.P W := h.hp.hold r (List.mem_of_getElem? hi)
theorem Px.front (h : Px w b W l) (i : Nat) (hi : l[i]? = some r) {l' : List Rsc} (hl : l.eraseIdx i = l') : Px w b W (r :: l') := by
  subst hl
  exact ⟨h.bx, h.hb, h.hp.perm (front_perm l i r hi)⟩
theorem Px.drop (h : Px w b W l) (i : Nat) (hi : l[i]? = some r) {l' : List Rsc} (hl : l.eraseIdx i = l') : Px w b W l' := (h.front i hi hl).tail
theorem Px.nil (h : Px w b W l) (base : Nat) (e : TypeId) (size : Nat) : Px w b W (rOwn base e size (.slice none 0 0) 0 [] :: l) :=
  ⟨h.bx, h.hb, h.hp.cons (World.ownsRow_nil _ _ _ _) (rOwn_ok _ _ _ _ _ _) (fun g hg => by simp [rOwn, Value.ownBlock] at hg) (fun s _ g hg => by simp [rOwn, Value.ownBlock] at hg)⟩
/-- the first one is turned within its own blocks and new ones -/
theorem Px.turn {r' : Rsc} (h : Px w b W (r :: l)) {row : Option Nat} (hg : W.grownBy W' row) (hr : ∀ k, row = some k → r.fp k) (hp : r'.P W') (hok : r'.Ok)
    (hf : ∀ g, r'.fp g → (r.fp g ∨ W.heap.size ≤ g) ∧ g < W'.heap.size) : Px w b W' (r' :: l) :=
  ⟨h.bx.grown hg (Nat.le_refl _) (fun k hk => .inr (h.hp.new _ (List.mem_cons_self ..) k (hr k hk)).1), h.hb, h.hp.turn hg.size (fun g hl hn => hg.block g hl (fun e => hn (hr g e.symm))) hp hok hf h.size⟩
theorem Px.append {base : Nat} {e : TypeId} {size n n' : Nat} {v v' : Value} {xs xs' : List Value} (h : Px w b W (rOwn base e size v n xs :: l)) (ho : W'.ownsRow base e size v' n' xs') (hg : W.grownBy W' v.ownBlock) (hv : v'.ownBlock = v.ownBlock ∨ v'.ownBlock = some W.heap.size) :
    Px w b W' (rOwn base e size v' n' xs' :: l) :=
  h.turn hg (fun k hk => hk) ho (rOwn_ok _ _ _ _ _ _) (fun g hgg => by
    have hgg : v'.ownBlock = some g := hgg
    refine ⟨?_, (ho.lt g hgg).2⟩
    rcases hv with hv | hv
    · rw [hv] at hgg; exact .inl hgg
    · rw [hv] at hgg; injection hgg with hgg; exact .inr (by omega))
theorem Px.store_ (h : Px w b W (r :: l)) {g : Nat} (hg : r.fp g) (i : Nat) (u : Value) {r' : Rsc} (hp : r'.P (W.setCell ⟨g, i, none⟩ u)) (hok : r'.Ok) (hf : ∀ k, r'.fp k → r.fp k) : Px w b (W.setCell ⟨g, i, none⟩ u) (r' :: l) :=
  h.turn (row := some g) ⟨rfl, rfl, rfl, by simp [World.setCell], fun k _ hk => Below.heap_setCell W ⟨g, i, none⟩ u k (fun e => hk (by rw [e]))⟩ (fun k hk => by injection hk with hk; subst hk; exact hg) hp hok
    (fun k hk => ⟨.inl (hf k hk), by have := (h.hp.new _ (List.mem_cons_self ..) k (hf k hk)).2; simpa [World.setCell] using this⟩)
theorem Px.set_ {g : Nat} {t : TypeId} {cs : Array Value} (h : Px w b W (rBlk g t cs :: l)) (i : Nat) (u : Value) : Px w b (W.setCell ⟨g, i, none⟩ u) (rBlk g t (cs.setIfInBounds i u) :: l) :=
  h.store_ (g := g) rfl i u (r' := rBlk g t (cs.setIfInBounds i u)) (Blk.set_ h.head i u) (rBlk_ok _ _ _) (fun _k hk => hk)
theorem Px.snoc {α : Type} {f : α → Rsc} {xs : List α} {a : α} (h : Px w b W (f a :: rAll f xs :: l)) (hf : ∀ a, (f a).Ok) : Px w b W (rAll f (xs ++ [a]) :: l) := by
  have h1 := h.hp.apart
  rw [List.pairwise_cons] at h1
  have h2 := List.pairwise_cons.1 h1.2
  refine ⟨h.bx, h.hb, ?_⟩
  refine Hp.cons h.hp.tail.tail ?_ (rAll_ok hf _) (fun g hg => ?_) (fun s hs g hg hg2 => ?_)
  · intro x hx
    rcases List.mem_append.1 hx with hx | hx
    · exact (h.nth 1 rfl : ∀ a ∈ xs, (f a).P W) x hx
    · simp at hx; subst hx; exact h.head
  · obtain ⟨x, hx, hg⟩ := hg
    rcases List.mem_append.1 hx with hx | hx
    · exact h.hp.new _ (List.mem_cons_of_mem _ (List.mem_cons_self ..)) g ⟨x, hx, hg⟩
    · simp at hx; subst hx; exact h.hp.new _ (List.mem_cons_self ..) g hg
  · obtain ⟨x, hx, hg⟩ := hg
    rcases List.mem_append.1 hx with hx | hx
    · exact h2.1 s hs g ⟨x, hx, hg⟩ hg2
    · simp at hx; subst hx; exact h1.1 s (List.mem_cons_of_mem _ hs) g hg hg2
theorem Px.allNil {α : Type} (h : Px w b W l) (f : α → Rsc) (hf : ∀ a, (f a).Ok) : Px w b W (rAll f [] :: l) :=
  ⟨h.bx, h.hb, h.hp.cons (by intro a ha; cases ha) (rAll_ok hf _) (fun g hg => by obtain ⟨a, ha, _⟩ := hg; cases ha) (fun s _ g hg => by obtain ⟨a, ha, _⟩ := hg; cases ha)⟩
theorem Px.rd (h : Px w b W l) {size n : Nat} {v : Value} {xs : List Value} (hr : Rd w b size v n xs) : Rd W b size v n xs := hr.bx h.bx
theorem Px.ge (h : Px w b W l) (i : Nat) (hi : l[i]? = some r) {g : Nat} (hg : r.fp g) : w.heap.size ≤ g ∧ g < W.heap.size := h.hp.new _ (List.mem_of_getElem? hi) g hg
end
end Go.Proofs.YthbcogekfdllmaaGreatDoor
/-
  The tree of a rule in memory: NodeAt; its resource rNode; the parser's block.
-/
namespace Go.Proofs.YthbcogekfdllmaaGreatDoor
open Go Go.RowKit

abbrev ptrV (g : Nat) : Value := .pointer (some ⟨g, 0, none⟩)
def nodeC (kind : Int) (v : Value) (a : Atm) : Array Value := #[.int .i64 kind, v, .string a.word, .string a.name, .string a.value, .int .i64 a.n]
/-- node g of w is the tree; all its blocks lie from lo on, and before hi -/
inductive NodeAt (w : World) (lo hi : Nat) : Nat → Nd → Prop
  | mk (g : Nat) (kind : Int) (a : Atm) (v : Value) (gs : List Nat) (ks : List Nd) (h1 : lo ≤ g ∧ g < hi) (h2 : Blk w g 240 (nodeC kind v a))
      (h3 : w.ownsRow lo 179 1 v ks.length (gs.map ptrV)) (h4 : ∀ k, v.ownBlock = some k → k < hi) (h5 : gs.length = ks.length)
      (h6 : ∀ i (hi_ : i < gs.length) (hk : i < ks.length), NodeAt w lo hi gs[i] ks[i]) : NodeAt w lo hi g (.node kind ks a)
theorem own_heap {w w' : World} {base : Nat} {e : TypeId} {size n : Nat} {v : Value} {xs : List Value} (h : w.ownsRow base e size v n xs) (hk : ∀ g, v.ownBlock = some g → w'.heap[g]? = w.heap[g]?) : w'.ownsRow base e size v n xs := by
  refine ⟨h.1, ?_⟩
  rcases h.2 with hn | ⟨g, cap, cur, rfl, hb, hgg, rest⟩
  · exact .inl hn
  · exact .inr ⟨g, cap, cur, rfl, hb, (hk g rfl).trans hgg, rest⟩
theorem NodeAt.keep {w w' : World} {lo hi g : Nat} {t : Nd} (h : NodeAt w lo hi g t) (hk : ∀ k, lo ≤ k → k < hi → w'.heap[k]? = w.heap[k]?) : NodeAt w' lo hi g t := by
  induction h with
  | mk g kind a v gs ks h1 h2 h3 h4 h5 h6 ih =>
    exact .mk g kind a v gs ks h1 ((hk g h1.1 h1.2).trans h2) (own_heap h3 (fun k e => hk k (h3.lt k e).1 (h4 k e))) h4 h5 ih
theorem NodeAt.wide {w : World} {lo hi lo' hi' g : Nat} {t : Nd} (h : NodeAt w lo hi g t) (hl : lo' ≤ lo) (hh : hi ≤ hi') : NodeAt w lo' hi' g t := by
  induction h with
  | mk g kind a v gs ks h1 h2 h3 h4 h5 h6 ih =>
    exact .mk g kind a v gs ks ⟨Nat.le_trans hl h1.1, Nat.lt_of_lt_of_le h1.2 hh⟩ h2 (own_base h3 hl) (fun k e => Nat.lt_of_lt_of_le (h4 k e) hh) h5 ih
theorem NodeAt.lt {w : World} {lo hi g : Nat} {t : Nd} (h : NodeAt w lo hi g t) : lo ≤ g ∧ g < hi := by
  cases h with
  | mk g kind a v gs ks h1 => exact h1
/-- where a tree lies -/
structure Nl where
  lo : Nat
  hi : Nat
  g : Nat
  t : Nd
def rNode (x : Nl) : Rsc := ⟨fun W => NodeAt W x.lo x.hi x.g x.t, fun k => x.lo ≤ k ∧ k < x.hi⟩
theorem rNode_ok (x : Nl) : (rNode x).Ok := fun _ _ h hp => hp.keep (fun k h1 h2 => h k ⟨h1, h2⟩)

/-- block b holds the parser of s -/
def PAt (W : World) (b : Nat) (s : ByteArray) (t : PSt) : Prop := Blk W b 234 #[.string s, .int .i64 t.at_, .string t.tok, .int .i64 t.deep, .bool t.bad]
/-- what a part of a rule answers -/
def NodS (b : Nat) (s : ByteArray) (r : Nd × PSt) (lo : Nat) (w : World) (e : Ending) (w' : World) : Prop :=
  ∃ g, e = .returned (ptrV g) ∧ NodeAt w' w.heap.size w'.heap.size g r.1 ∧ PAt w' b s r.2 ∧ Bx w.heap.size b w w' ∧ POk s r.2 ∧ lo ≤ r.2.at_
theorem Px.node {w W W' : World} {b : Nat} {l : List Rsc} (h : Px w b W l) (k : Bx W.heap.size b W W') {g : Nat} {t : Nd} (hn : NodeAt W' W.heap.size W'.heap.size g t) : Px w b W' (rNode ⟨W.heap.size, W'.heap.size, g, t⟩ :: l) :=
  h.new_ k hn (rNode_ok _) (fun _ hg => hg)
end Go.Proofs.YthbcogekfdllmaaGreatDoor
/-
  The parser of rules: isWordByte, next, take, nest by contracts. (Printed by gen_rule1.py.)
-/
namespace Go.Proofs.YthbcogekfdllmaaGreatDoor
open Go Go.RowKit

theorem isWordByte_calls (c : UInt8) (w : World) : Calls Tryz.prog 195 #[.int .u8 c.toNat] w fun e w' => e = .returned (.bool (wordB c)) ∧ w = w' := by
  by_cases k0 : c.toNat = 45
  · have hb : wordB c = true := by unfold wordB; simp; omega
    have t0 : ¬ (97 : Int) ≤ (c.toNat : Int) := by omega
    have t1 : ¬ (48 : Int) ≤ (c.toNat : Int) := by omega
    have t2 : ((c.toNat : Int) == 45) = true := by simp; omega
    rw [hb]
    clear hb k0
    go_enter Tryz.func195, Tryz.ntmps195
    go_wp2_with fail
    go_ret
    exact ⟨rfl, rfl⟩
  by_cases k1 : c.toNat = 46
  · have hb : wordB c = true := by unfold wordB; simp; omega
    have t0 : ¬ (97 : Int) ≤ (c.toNat : Int) := by omega
    have t1 : ¬ (48 : Int) ≤ (c.toNat : Int) := by omega
    have t2 : ((c.toNat : Int) == 45) = false := by simp; omega
    have t3 : ((c.toNat : Int) == 95) = false := by simp; omega
    have t4 : ((c.toNat : Int) == 46) = true := by simp; omega
    rw [hb]
    clear hb k0 k1
    go_enter Tryz.func195, Tryz.ntmps195
    go_wp2_with fail
    go_ret
    exact ⟨rfl, rfl⟩
  by_cases k2 : c.toNat < 48
  · have hb : wordB c = false := by unfold wordB; simp; omega
    have t0 : ¬ (97 : Int) ≤ (c.toNat : Int) := by omega
    have t1 : ¬ (48 : Int) ≤ (c.toNat : Int) := by omega
    have t2 : ((c.toNat : Int) == 45) = false := by simp; omega
    have t3 : ((c.toNat : Int) == 95) = false := by simp; omega
    have t4 : ((c.toNat : Int) == 46) = false := by simp; omega
    rw [hb]
    clear hb k0 k1 k2
    go_enter Tryz.func195, Tryz.ntmps195
    go_wp2_with fail
    go_ret
    exact ⟨rfl, rfl⟩
  by_cases k3 : c.toNat ≤ 57
  · have hb : wordB c = true := by unfold wordB; simp; omega
    have t0 : ¬ (97 : Int) ≤ (c.toNat : Int) := by omega
    have t1 : (48 : Int) ≤ (c.toNat : Int) := by omega
    have t2 : (c.toNat : Int) ≤ 57 := by omega
    rw [hb]
    clear hb k0 k1 k2 k3
    go_enter Tryz.func195, Tryz.ntmps195
    go_wp2_with fail
    go_ret
    exact ⟨rfl, rfl⟩
  by_cases k4 : c.toNat = 95
  · have hb : wordB c = true := by unfold wordB; simp; omega
    have t0 : ¬ (97 : Int) ≤ (c.toNat : Int) := by omega
    have t1 : (48 : Int) ≤ (c.toNat : Int) := by omega
    have t2 : ¬ (c.toNat : Int) ≤ 57 := by omega
    have t3 : ((c.toNat : Int) == 45) = false := by simp; omega
    have t4 : ((c.toNat : Int) == 95) = true := by simp; omega
    rw [hb]
    clear hb k0 k1 k2 k3 k4
    go_enter Tryz.func195, Tryz.ntmps195
    go_wp2_with fail
    go_ret
    exact ⟨rfl, rfl⟩
  by_cases k5 : c.toNat < 97
  · have hb : wordB c = false := by unfold wordB; simp; omega
    have t0 : ¬ (97 : Int) ≤ (c.toNat : Int) := by omega
    have t1 : (48 : Int) ≤ (c.toNat : Int) := by omega
    have t2 : ¬ (c.toNat : Int) ≤ 57 := by omega
    have t3 : ((c.toNat : Int) == 45) = false := by simp; omega
    have t4 : ((c.toNat : Int) == 95) = false := by simp; omega
    have t5 : ((c.toNat : Int) == 46) = false := by simp; omega
    rw [hb]
    clear hb k0 k1 k2 k3 k4 k5
    go_enter Tryz.func195, Tryz.ntmps195
    go_wp2_with fail
    go_ret
    exact ⟨rfl, rfl⟩
  by_cases k6 : c.toNat ≤ 122
  · have hb : wordB c = true := by unfold wordB; simp; omega
    have t0 : (97 : Int) ≤ (c.toNat : Int) := by omega
    have t1 : (c.toNat : Int) ≤ 122 := by omega
    rw [hb]
    clear hb k0 k1 k2 k3 k4 k5 k6
    go_enter Tryz.func195, Tryz.ntmps195
    go_wp2_with fail
    go_ret
    exact ⟨rfl, rfl⟩
  have hb : wordB c = false := by unfold wordB; simp; omega
  have t0 : (97 : Int) ≤ (c.toNat : Int) := by omega
  have t1 : ¬ (c.toNat : Int) ≤ 122 := by omega
  have t2 : (48 : Int) ≤ (c.toNat : Int) := by omega
  have t3 : ¬ (c.toNat : Int) ≤ 57 := by omega
  have t4 : ((c.toNat : Int) == 45) = false := by simp; omega
  have t5 : ((c.toNat : Int) == 95) = false := by simp; omega
  have t6 : ((c.toNat : Int) == 46) = false := by simp; omega
  rw [hb]
  clear hb k0 k1 k2 k3 k4 k5 k6
  go_enter Tryz.func195, Tryz.ntmps195
  go_wp2_with fail
  go_ret
  exact ⟨rfl, rfl⟩

theorem marks_eq (c : UInt8) : ([40, 41, 61, 60, 62] : List UInt8).contains c = markB c := by
  have := bytes_all (fun c => ([40, 41, 61, 60, 62] : List UInt8).contains c == markB c) (by decide +kernel) c
  simpa using this

theorem PAt.cells {W : World} {b : Nat} {s : ByteArray} {t : PSt} (h : PAt W b s t) :
    W.cell? ⟨b, 0, none⟩ = some (.string s) ∧ W.cell? ⟨b, 1, none⟩ = some (.int .i64 t.at_) ∧ W.cell? ⟨b, 2, none⟩ = some (.string t.tok) ∧ W.cell? ⟨b, 3, none⟩ = some (.int .i64 t.deep) ∧ W.cell? ⟨b, 4, none⟩ = some (.bool t.bad) ∧
    W.frozen? ⟨b, 1, none⟩ = false ∧ W.frozen? ⟨b, 2, none⟩ = false ∧ W.frozen? ⟨b, 3, none⟩ = false ∧ W.frozen? ⟨b, 4, none⟩ = false :=
  ⟨Blk.cell h 0, Blk.cell h 1, Blk.cell h 2, Blk.cell h 3, Blk.cell h 4, Blk.frozen h 1, Blk.frozen h 2, Blk.frozen h 3, Blk.frozen h 4⟩
theorem PAt.drewN {W : World} {b : Nat} {s : ByteArray} {t : PSt} (h : PAt W b s t) (n : Nat) : PAt (W.drewN n) b s t := h
theorem PAt.setAt {W : World} {b : Nat} {s : ByteArray} {t : PSt} (h : PAt W b s t) (k : Nat) : PAt (W.setCell ⟨b, 1, none⟩ (.int .i64 k)) b s { t with at_ := k } := Blk.set_ h 1 _
theorem PAt.setTok {W : World} {b : Nat} {s : ByteArray} {t : PSt} (h : PAt W b s t) (x : ByteArray) : PAt (W.setCell ⟨b, 2, none⟩ (.string x)) b s { t with tok := x } := Blk.set_ h 2 _
theorem PAt.setDeep {W : World} {b : Nat} {s : ByteArray} {t : PSt} (h : PAt W b s t) (k : Int) : PAt (W.setCell ⟨b, 3, none⟩ (.int .i64 k)) b s { t with deep := k } := Blk.set_ h 3 _
theorem PAt.setBad {W : World} {b : Nat} {s : ByteArray} {t : PSt} (h : PAt W b s t) (k : Bool) : PAt (W.setCell ⟨b, 4, none⟩ (.bool k)) b s { t with bad := k } := Blk.set_ h 4 _
/-- the parser stands at t' ; only its block has turned -/
def ParS (b : Nat) (s : ByteArray) (t' : PSt) (v : Value) (w : World) (e : Ending) (w' : World) : Prop := e = .returned v ∧ PAt w' b s t' ∧ Bx w.heap.size b w w'
def atCell (W : World) (b : Nat) : Nat := (intOf ((W.cell? ⟨b, 1, none⟩).getD undef)).toNat
theorem PAt.at_cell {W : World} {b : Nat} {s : ByteArray} {t : PSt} (h : PAt W b s t) : atCell W b = t.at_ := by
  unfold atCell
  rw [h.cells.2.1]
  simp [intOf]

set_option maxRecDepth 100000 in
set_option maxHeartbeats 1000000 in
theorem next_calls_ (b : Nat) (s : ByteArray) (t : PSt) (w : World) (h : PAt w b s t) (hok : POk s t) (hs : s.size ≤ 100000) :
    Calls Tryz.prog 151 #[.pointer (some ⟨b, 0, none⟩)] w (ParS b s (nextF s t) (.tuple #[]) w) := by
  obtain ⟨c0, c1, c2, c3, c4, f1, f2, f3, f4⟩ := h.cells
  have ha := hok.at_
  obtain ⟨E, hE⟩ : ∃ E, spanF blankB s (t.at_ + t.tok.size) = E := ⟨_, rfl⟩
  have hEs : E ≤ s.size := by rw [← hE]; exact span_le _ _ _ ha
  have HE := Lib.hid hE
  have P1 : PAt (w.setCell ⟨b, 1, none⟩ (.int .i64 ((t.at_ : Int) + t.tok.size))).drew b s { t with at_ := t.at_ + t.tok.size } := by
    have := h.setAt (t.at_ + t.tok.size)
    rw [Int.natCast_add] at this
    exact this
  have B1 : Bx w.heap.size b w (w.setCell ⟨b, 1, none⟩ (.int .i64 ((t.at_ : Int) + t.tok.size))).drew := ((Bx.refl _ _ _).setCell (p := ⟨b, 1, none⟩) (.inl rfl) _).drew
  have HR : Hid (nextF s t = { t with at_ := E, tok := s.extract E (tokE s E) }) := by unfold nextF; rw [hE]; exact Lib.hid rfl
  clear hE
  go_enter Tryz.func151, Tryz.ntmps151
  go_wp2_with fail
  go_region
  go_upto_block 0 with (fail)
  clear c0 c1 c2 c3 c4 f1 f2 f3 f4 h
  go_cut [] (fun W => PAt W b s { t with at_ := E } ∧ Bx w.heap.size b w W)
  case first =>
    go_wp2_with fail
    go_loopw [] (fun wr => ∃ k : Nat, k ≤ s.size ∧ Hid (spanF blankB s k = E) ∧ PAt wr b s { t with at_ := k } ∧ Bx w.heap.size b w wr) (fun wr => s.size - atCell wr b)
    case atStart => exact ⟨_, ha, HE, P1, B1⟩
    case round =>
      clear P1 B1
      obtain ⟨k, hk, HK, P, B⟩ := hrel
      obtain ⟨c0, c1, c2, c3, c4, f1, f2, f3, f4⟩ := P.cells
      simp only at c0 c1 c2 c3 c4
      have m0 : atCell wr b = k := P.at_cell
      have HM := Lib.hid m0
      clear m0
      by_cases hlt : k < s.size
      · by_cases hbl : s[k].toNat = 32
        · have HK2 : Hid (spanF blankB s (k + 1) = E) := by rw [← span_yes blankB s k hlt (by unfold blankB; simp [hbl])]; exact HK
          have t0 : ((s[k].toNat : Int) == 32) = true := by simp; omega
          clear hbl
          have P2 : PAt (wr.setCell ⟨b, 1, none⟩ (.int .i64 ((k : Int) + 1))) b s { t with at_ := k + 1 } := P.setAt (k + 1)
          go_wp2_with fail
          go_quiet (fail)
          go_wp2_with fail
          go_roundw
          case rel => exact ⟨k + 1, hlt, HK2, P2, (B.drewN _).setCell (p := ⟨b, 1, none⟩) (.inl rfl) _⟩
          case measure =>
            have m1 : atCell (wr.setCell ⟨b, 1, none⟩ (.int .i64 ((k : Int) + 1))) b = k + 1 := P2.at_cell
            show s.size - atCell (wr.setCell ⟨b, 1, none⟩ (.int .i64 ((k : Int) + 1))) b < s.size - atCell wr b
            rw [m1, HM.out]
            omega
        · have hkE : k = E := by rw [← HK.out, span_no blankB s k hlt (by unfold blankB; simp; exact hbl)]
          subst hkE
          have t0 : ((s[k].toNat : Int) == 32) = false := by simp; omega
          clear hbl
          go_wp2_with fail
          go_quiet (fail)
          go_wp2_with fail
          go_meet
          exact ⟨P, B.drewN _⟩
      · have hkE : k = E := by rw [← HK.out, span_end blankB s k (by omega)]
        subst hkE
        go_wp2_with fail
        go_quiet (fail)
        go_wp2_with fail
        go_meet
        exact ⟨P, B.drewN _⟩
  case rest =>
    obtain ⟨P, B⟩ := hcut
    clear P1 B1
    obtain ⟨c0, c1, c2, c3, c4, f1, f2, f3, f4⟩ := P.cells
    simp only at c0 c1 c2 c3 c4
    obtain ⟨D, hD⟩ : ∃ D, spanF wordB s E = D := ⟨_, rfl⟩
    have hDs : D ≤ s.size := by rw [← hD]; exact span_le _ _ _ hEs
    have hED : E ≤ D := by rw [← hD]; exact span_ge _ _ _
    have HD := Lib.hid hD
    have HF : Hid (tokE s E = if D = E then (if markAt s E = true then E + 1 else E) else D) := by unfold tokE; rw [hD]; exact Lib.hid rfl
    clear hD
    go_upto_block 2 with (fail)
    go_cut [2] (fun s2 W => s2 = .int .i64 D ∧ W = wc)
    case first =>
      go_wp2_with fail
      go_loop [2] (fun s2 => ∃ k : Nat, k ≤ s.size ∧ s2 = .int .i64 k ∧ Hid (spanF wordB s k = D)) (fun s2 => s.size - (intOf s2).toNat)
      case atStart => exact ⟨E, hEs, rfl, HD⟩
      case round =>
        obtain ⟨k, hk, rfl, HK⟩ := hrel
        by_cases hlt : k < s.size
        · have HW := Lib.hid (isWordByte_calls s[k] wc)
          cases hw : wordB s[k]
          · have hkD : k = D := by rw [← HK.out, span_no wordB s k hlt hw]
            subst hkD
            rw [hw] at HW
            clear hw
            go_wp2_with (go_at_call 195; refine HW.out.mono ?_; rintro e w2 ⟨rfl, rfl⟩)
            go_meet
            exact ⟨rfl, rfl⟩
          · have HK2 : Hid (spanF wordB s (k + 1) = D) := by rw [← span_yes wordB s k hlt hw]; exact HK
            rw [hw] at HW
            clear hw
            go_wp2_with (go_at_call 195; refine HW.out.mono ?_; rintro e w2 ⟨rfl, rfl⟩)
            go_round
            case rel => exact ⟨k + 1, hlt, by go_num, HK2⟩
            case measure => simp [intOf]; omega
        · have hkD : k = D := by rw [← HK.out, span_end wordB s k (by omega)]
          subst hkD
          go_wp2_with fail
          go_meet
          exact ⟨rfl, rfl⟩
    case rest =>
      obtain ⟨rfl, rfl⟩ := hcut
      obtain ⟨F, hF⟩ : ∃ F, tokE s E = F := ⟨_, rfl⟩
      have hEF : E ≤ F := by rw [← hF]; exact tokE_ge _ _
      have hFs : F ≤ s.size := by rw [← hF]; exact tokE_le _ _ hEs
      have HFF := Lib.hid hF
      obtain ⟨B0, hB0⟩ : ∃ B0, (decide (D = E) && markAt s E) = B0 := ⟨_, rfl⟩
      have HB := Lib.hid hB0
      have HG : Hid (F = if B0 = true then E + 1 else D) := by
        rw [← hF, HF.out, ← hB0]
        by_cases h1 : D = E
        · subst h1
          cases markAt s D <;> exact Lib.hid (by simp)
        · exact Lib.hid (by simp [h1])
      clear hF hB0
      have HDE : Hid (B0 = true → D = E) := fun h => by rw [← HB.out] at h; simp at h; exact h.1
      go_upto_region 6 with (fail)
      go_cut [90] (fun s90 W => s90 = .bool B0 ∧ W = wc)
      case first =>
        clear hEF hFs
        by_cases hDE : D = E
        · subst hDE
          clear hED
          by_cases hlt : D < s.size
          · have hc := Lib.contains_iff_indexByte [40, 41, 61, 60, 62] s[D]
            rw [marks_eq, ← markAt_in s D hlt] at hc
            have hc' := fun W => indexByte_calls ⟨#[40, 41, 61, 60, 62]⟩ (s[D].toNat : Int) W
            rw [byte_back] at hc'
            obtain ⟨z, hz⟩ : ∃ z, Lib.indexByte [40, 41, 61, 60, 62] s[D] = z := ⟨_, rfl⟩
            have hc2 : ∀ W, Calls Tryz.prog 196 #[.string ⟨#[40, 41, 61, 60, 62]⟩, .int .u8 s[D].toNat] W fun e w' => e = .returned (.int .i64 z) ∧ W = w' := fun W => by rw [← hz]; exact hc' W
            have HC := Lib.hid hc2
            rw [hz] at hc
            cases hm : markAt s D
            · rw [hm] at hc
              have hz0 : z < 0 := by have := of_decide_eq_false hc.symm; omega
              have HB2 : Hid (B0 = false) := by rw [← HB.out, hm]; exact Lib.hid (by simp)
              clear hc hm hc' hc2 hz
              go_wp2_with (go_at_call 196; refine (HC.out _).mono ?_; rintro e w2 ⟨rfl, rfl⟩)
              go_meet
              exact ⟨by (rw [HB2.out]) <;> (simp <;> omega), rfl⟩
            · rw [hm] at hc
              have hz0 : 0 ≤ z := of_decide_eq_true hc.symm
              have HB2 : Hid (B0 = true) := by rw [← HB.out, hm]; exact Lib.hid (by simp)
              clear hc hm hc' hc2 hz
              go_wp2_with (go_at_call 196; refine (HC.out _).mono ?_; rintro e w2 ⟨rfl, rfl⟩)
              go_meet
              exact ⟨by (rw [HB2.out]) <;> (simp <;> omega), rfl⟩
          · have HB2 : Hid (B0 = false) := by rw [← HB.out, markAt_out s D (by omega)]; exact Lib.hid (by simp)
            go_wp2_with fail
            go_meet
            exact ⟨by rw [HB2.out], rfl⟩
        · have HB2 : Hid (B0 = false) := by rw [← HB.out]; exact Lib.hid (by simp [hDE])
          have t0 : ((D : Int) == (E : Int)) = false := by simp; omega
          go_wp2_with fail
          go_meet
          exact ⟨by rw [HB2.out], rfl⟩
      case rest =>
        obtain ⟨rfl, rfl⟩ := hcut
        clear HB
        cases B0
        · obtain rfl : F = D := HG.out
          go_wp2_with fail
          go_region
          go_wp2_with fail
          go_end0
          refine ⟨rfl, ?_, ?_⟩
          · rw [HR.out, HFF.out]
            exact P.setTok _
          · exact (B.setCell (p := ⟨b, 2, none⟩) (.inl rfl) _).drew
        · obtain rfl : F = E + 1 := HG.out
          obtain rfl : D = E := HDE.out rfl
          go_wp2_with fail
          go_region
          go_wp2_with fail
          go_end0
          refine ⟨rfl, ?_, ?_⟩
          · rw [HR.out, HFF.out]
            exact P.setTok _
          · exact (B.setCell (p := ⟨b, 2, none⟩) (.inl rfl) _).drew
end Go.Proofs.YthbcogekfdllmaaGreatDoor
