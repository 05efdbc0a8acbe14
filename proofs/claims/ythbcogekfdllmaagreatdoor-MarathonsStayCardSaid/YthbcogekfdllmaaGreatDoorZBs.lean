/-
  What a walk holds of a world: old memory is as it was, and some blocks of the call's own are known whole (Bs).
-/
import Derived.Test.YthbcogekfdllmaaGreatDoorZBase
import Derived.Outline
import Derived.Test.YthbcogekfdllmaaGreatDoorZFlat
import Derived.Test.YthbcogekfdllmaaGreatDoorZSlot3
import Derived.Test.YthbcogekfdllmaaGreatDoorZSlotPure
namespace Go.Proofs.YthbcogekfdllmaaGreatDoor
open Go Go.RowKit

/-- old memory is as it was; the listed blocks (number, element type, cells) are known whole -/
def Bs (w W : World) (l : List (Nat × TypeId × Array Value)) : Prop := Below w.heap.size w W ∧ ∀ p ∈ l, Blk W p.1 p.2.1 p.2.2
section
variable {w W W' : World} {l : List (Nat × TypeId × Array Value)}
theorem Bs.start (w : World) : Bs w w [] := ⟨Below.refl _ _, fun p hp => by cases hp⟩
theorem Bs.below (h : Bs w W l) (k : Below W.heap.size W W') : Bs w W' l := ⟨below_call h.1 k (Nat.le_refl _), fun p hp => (h.2 p hp).below k⟩
theorem Bs.drew (h : Bs w W l) : Bs w W.drew l := h.below (below_drewN (Below.refl _ _) 1)
theorem Bs.drewN (h : Bs w W l) (k : Nat) : Bs w (W.drewN k) l := h.below (below_drewN (Below.refl _ _) k)
theorem Bs.alloc (h : Bs w W l) (o : Obj) : Bs w (W.alloc o) l := h.below ((Below.refl _ _).alloc (Nat.le_refl _) o)
theorem Bs.add (h : Bs w W l) (cs : Array Value) (t : TypeId) : Bs w (W.alloc (.cells cs t)) ((W.heap.size, t, cs) :: l) := by
  have h' := h.alloc (.cells cs t)
  refine ⟨h'.1, fun p hp => ?_⟩
  rcases List.mem_cons.1 hp with rfl | hp
  · exact Blk.new W t cs
  · exact h'.2 p hp
theorem Bs.push {g : Nat} {t : TypeId} {cs : Array Value} (h : Bs w W l) (hg : Blk W g t cs) : Bs w W ((g, t, cs) :: l) :=
  ⟨h.1, fun p hp => by
    rcases List.mem_cons.1 hp with rfl | hp
    · exact hg
    · exact h.2 p hp⟩
theorem Bs.tail {a : Nat × TypeId × Array Value} (h : Bs w W (a :: l)) : Bs w W l := ⟨h.1, fun p hp => h.2 p (List.mem_cons_of_mem _ hp)⟩
theorem Bs.head {g : Nat} {t : TypeId} {cs : Array Value} (h : Bs w W ((g, t, cs) :: l)) : Blk W g t cs := h.2 (g, t, cs) (List.mem_cons_self ..)
/-- a store into a new block that the list does not name -/
theorem Bs.store (h : Bs w W l) {g : Nat} (hw : w.heap.size ≤ g) (hl : ∀ p ∈ l, p.1 ≠ g) (i : Nat) (u : Value) : Bs w (W.setCell ⟨g, i, none⟩ u) l :=
  ⟨h.1.setCell (p := ⟨g, i, none⟩) hw u, fun p hp => (h.2 p hp).far (p := ⟨g, i, none⟩) (hl p hp) u⟩
/-- a store into the block that the list names first -/
theorem Bs.set_ {g : Nat} {t : TypeId} {cs : Array Value} (h : Bs w W ((g, t, cs) :: l)) (hw : w.heap.size ≤ g) (hl : ∀ p ∈ l, p.1 ≠ g) (i : Nat) (u : Value) : Bs w (W.setCell ⟨g, i, none⟩ u) ((g, t, cs.setIfInBounds i u) :: l) :=
  (h.tail.store hw hl i u).push (h.head.set_ i u)
end

theorem heap_new2 (w : World) (A B : Obj) : ((w.alloc A).alloc B).heap[w.heap.size + 1]? = some B := by
  have := heap_alloc_new (w.alloc A) B
  simpa using this
theorem heap_new3 (w : World) (A B C : Obj) : (((w.alloc A).alloc B).alloc C).heap[w.heap.size + 1 + 1]? = some C := by
  have := heap_alloc_new ((w.alloc A).alloc B) C
  simpa using this
theorem Bs.grown {w W W' : World} {l : List (Nat × TypeId × Array Value)} {row : Option Nat} (h : Bs w W l) (hg : W.grownBy W' row) (hr : ∀ k, row = some k → w.heap.size ≤ k) (hl : ∀ p ∈ l, row ≠ some p.1) : Bs w W' l :=
  ⟨h.1.grown hg h.1.size hr, fun p hp => (h.2 p hp).grown hg (hl p hp).symm⟩

/-- old memory is as it was; a list of the call's own; some other blocks of the call's own known whole -/
def Os (e : TypeId) (size : Nat) (w W : World) (v : Value) (n : Nat) (xs : List Value) (l : List (Nat × TypeId × Array Value)) : Prop :=
  W.ownsRow w.heap.size e size v n xs ∧ Bs w W l ∧ ∀ p ∈ l, v.ownBlock ≠ some p.1
section
variable {e : TypeId} {size : Nat} {w W W' : World} {v : Value} {n : Nat} {xs : List Value} {l : List (Nat × TypeId × Array Value)}
theorem Os.start (h : Bs w W l) : Os e size w W (.slice none 0 0) 0 [] l := ⟨World.ownsRow_nil _ _ _ _, h, fun p _ hp => by simp [Value.ownBlock] at hp⟩
theorem Os.below (h : Os e size w W v n xs l) (k : Below W.heap.size W W') : Os e size w W' v n xs l := ⟨own_below h.1 k, h.2.1.below k, h.2.2⟩
theorem Os.drew (h : Os e size w W v n xs l) : Os e size w W.drew v n xs l := h.below (below_drewN (Below.refl _ _) 1)
theorem Os.drewN (h : Os e size w W v n xs l) (k : Nat) : Os e size w (W.drewN k) v n xs l := h.below (below_drewN (Below.refl _ _) k)
theorem Os.alloc (h : Os e size w W v n xs l) (o : Obj) : Os e size w (W.alloc o) v n xs l := h.below ((Below.refl _ _).alloc (Nat.le_refl _) o)
theorem Os.add (h : Os e size w W v n xs l) (cs : Array Value) (t : TypeId) : Os e size w (W.alloc (.cells cs t)) v n xs ((W.heap.size, t, cs) :: l) := by
  have h' := h.alloc (.cells cs t)
  refine ⟨h'.1, h.2.1.add cs t, fun p hp => ?_⟩
  rcases List.mem_cons.1 hp with rfl | hp
  · intro hq
    have := (h.1.lt _ hq).2
    simp only at this
    omega
  · exact h.2.2 p hp
theorem Os.tail {a : Nat × TypeId × Array Value} (h : Os e size w W v n xs (a :: l)) : Os e size w W v n xs l := ⟨h.1, h.2.1.tail, fun p hp => h.2.2 p (List.mem_cons_of_mem _ hp)⟩
theorem Os.head {g : Nat} {t : TypeId} {cs : Array Value} (h : Os e size w W v n xs ((g, t, cs) :: l)) : Blk W g t cs := h.2.1.head
/-- a store into the block that the list names first -/
theorem Os.set_ {g : Nat} {t : TypeId} {cs : Array Value} (h : Os e size w W v n xs ((g, t, cs) :: l)) (hw : w.heap.size ≤ g) (hl : ∀ p ∈ l, p.1 ≠ g) (i : Nat) (u : Value) : Os e size w (W.setCell ⟨g, i, none⟩ u) v n xs ((g, t, cs.setIfInBounds i u) :: l) := by
  refine ⟨?_, h.2.1.set_ hw hl i u, fun p hp => ?_⟩
  · refine h.1.kept (row := some g) ⟨rfl, rfl, rfl, by simp [World.setCell], fun k _ hk => Below.heap_setCell W ⟨g, i, none⟩ u k (fun e => hk (by rw [e]))⟩ ?_
    exact .inr (h.2.2 (g, t, cs) (List.mem_cons_self ..))
  · rcases List.mem_cons.1 hp with rfl | hp
    · exact h.2.2 (g, t, cs) (List.mem_cons_self ..)
    · exact h.2.2 p (List.mem_cons_of_mem _ hp)
/-- behind an append -/
theorem Os.append {v' : Value} {n' : Nat} {xs' : List Value} (h : Os e size w W v n xs l) (ho : W'.ownsRow w.heap.size e size v' n' xs') (hg : W.grownBy W' v.ownBlock) (hv : v'.ownBlock = v.ownBlock ∨ v'.ownBlock = some W.heap.size) : Os e size w W' v' n' xs' l := by
  refine ⟨ho, h.2.1.grown hg (fun k hk => (h.1.lt k hk).1) (fun p hp => h.2.2 p hp), fun p hp => ?_⟩
  rcases hv with hv | hv
  · rw [hv]; exact h.2.2 p hp
  · rw [hv]
    intro hq
    injection hq with hq
    have := (h.2.1.2 p hp).lt
    omega
end
end Go.Proofs.YthbcogekfdllmaaGreatDoor
/-
  What a walk that draws numbers holds of a world (Sp): the stream's block, old memory, and a list of resources that lie apart from one another: blocks known whole, rows of the call's own. No Go text is named here.
-/
namespace Go.Proofs.YthbcogekfdllmaaGreatDoor
open Go Go.RowKit

/-- a fact on memory, with the blocks that it speaks of -/
structure Rsc where
  P : World → Prop
  fp : Nat → Prop
def Rsc.Ok (r : Rsc) : Prop := ∀ W W' : World, (∀ g, r.fp g → W'.heap[g]? = W.heap[g]?) → r.P W → r.P W'
/-- a block that is known whole -/
def rBlk (g : Nat) (t : TypeId) (cs : Array Value) : Rsc := ⟨fun W => Blk W g t cs, fun k => k = g⟩
/-- a row of the call's own -/
def rOwn (base : Nat) (e : TypeId) (size : Nat) (v : Value) (n : Nat) (xs : List Value) : Rsc := ⟨fun W => W.ownsRow base e size v n xs, fun k => v.ownBlock = some k⟩
/-- a fact for each of a list -/
def rAll {α : Type} (f : α → Rsc) (l : List α) : Rsc := ⟨fun W => ∀ a ∈ l, (f a).P W, fun k => ∃ a ∈ l, (f a).fp k⟩
theorem rBlk_ok (g : Nat) (t : TypeId) (cs : Array Value) : (rBlk g t cs).Ok := fun _W _W' h hp => (h g rfl).trans hp
theorem rOwn_ok (base : Nat) (e : TypeId) (size : Nat) (v : Value) (n : Nat) (xs : List Value) : (rOwn base e size v n xs).Ok := by
  intro W W' h hp
  refine ⟨hp.1, ?_⟩
  rcases hp.2 with hn | ⟨g, cap, cur, rfl, hb, hgg, rest⟩
  · exact .inl hn
  · exact .inr ⟨g, cap, cur, rfl, hb, (h g rfl).trans hgg, rest⟩
theorem rAll_ok {α : Type} {f : α → Rsc} (hf : ∀ a, (f a).Ok) (l : List α) : (rAll f l).Ok :=
  fun W W' h hp a ha => hf a W W' (fun g hg => h g ⟨a, ha, hg⟩) (hp a ha)
def Apart (r s : Rsc) : Prop := ∀ g, r.fp g → s.fp g → False

section
variable {w W W' : World} {b K K' : Nat} {l : List Rsc} {r : Rsc}
theorem apart_comm {r s : Rsc} (h : Apart r s) : Apart s r := fun g h1 h2 => h g h2 h1
theorem front_perm {α : Type} : ∀ (l : List α) (i : Nat) (r : α), l[i]? = some r → l.Perm (r :: l.eraseIdx i)
  | [], i, r, h => by simp at h
  | a :: l, 0, r, h => by
    simp at h
    subst h
    exact List.Perm.refl _
  | a :: l, i + 1, r, h => by
    have h' : l[i]? = some r := by simpa using h
    exact ((front_perm l i r h').cons a).trans (List.Perm.swap r a _)
theorem blkRd (size n : Nat) {g : Nat} {t : TypeId} {cs : Array Value} (h : Blk W g t cs) (hg : g ≠ b) (hn : n ≤ maxLen) (hs : cs.size = n * size) : Rd W b size (.slice (some ⟨g, 0, none⟩) n n) n cs.toList := by
  refine ⟨_, n, rfl, Nat.le_refl _, hn, by simpa using hs, (fun e => by cases e), fun _ => ⟨g, 0, rfl, hg, fun j u hu => ?_⟩⟩
  rw [Nat.zero_add, h.cell]
  simpa using hu
end

theorem own_lies {v : Value} {g n c H : Nat} (h : v.ownBlock = some g ∨ g = H) : (Value.slice (some ⟨g, 0, none⟩) n c).ownBlock = v.ownBlock ∨ (Value.slice (some ⟨g, 0, none⟩) n c).ownBlock = some H := by
  rcases h with h | rfl
  · exact .inl h.symm
  · exact .inr rfl
def strLit (cs : Array Value) : Bool := cs.toList.all (fun v => match v with | .string z => decide (z.size ≤ 1000) | _ => false)
theorem strLit_ok {cs : Array Value} (h : strLit cs = true) : ∀ x ∈ cs.toList, ∃ z, x = .string z ∧ z.size ≤ 1000 := by
  intro x hx
  have := List.all_eq_true.1 h x hx
  cases x <;> simp at this
  exact ⟨_, rfl, this⟩
theorem strLit_at {cs : Array Value} (h : strLit cs = true) (k : Nat) (hk : k < cs.size) : ∃ z, cs[k]? = some (.string z) ∧ z.size ≤ 1000 := by
  obtain ⟨z, hz, h1⟩ := strLit_ok h cs[k] (by simp)
  exact ⟨z, by rw [Array.getElem?_eq_getElem hk, hz], h1⟩
section
variable {w W : World} {b K : Nat} {l : List Rsc}
end
end Go.Proofs.YthbcogekfdllmaaGreatDoor
/-
  RightSlots of the stream by a contract. (Printed by gen_slot12.py.)
-/
namespace Go.Proofs.YthbcogekfdllmaaGreatDoor
open Go Go.RowKit
attribute [local go_sem ↓] Go.wp_at_zero Go.wp_at_succ

theorem info_slt : (Tryz.prog.info? 64).map (fun i => (i.zero, i.size, i.bytes)) = some (some (.agg #[.string ⟨#[]⟩, .string ⟨#[]⟩, .slice none 0 0, .int .i64 0, .int .i64 0]), 5, 72) := by kernel_rfl
/-- the hosts of a slot, in memory of the call's own -/
def hostR (base : Nat) (x : Slt) : Rsc := rOwn base 9 1 (.slice x.ha x.hosts.length x.hc) x.hosts.length (strsV x.hosts)
theorem hostR_ok (base : Nat) (x : Slt) : (hostR base x).Ok := rOwn_ok _ _ _ _ _ _
/-- a slot within its bounds -/
structure SltZ (h : Nat) (x : Slt) : Prop where
  hk : x.key.size ≤ 1000
  hw : x.who.size ≤ 1000
  hh : ∀ s ∈ x.hosts, s.size ≤ 1000
  hn : x.hosts.length ≤ h
  hs : -2199023255552 ≤ x.setup ∧ x.setup ≤ 2199023255552
  hl : -2199023255552 ≤ x.long ∧ x.long ≤ 2199023255552
def SltZs (h : Nat) (xs : List Slt) : Prop := ∀ x ∈ xs, SltZ h x
theorem SltZs.snoc {m : Nat} {xs : List Slt} {x : Slt} (h : SltZs m xs) (hx : SltZ m x) : SltZs m (xs ++ [x]) := by
  intro y hy
  rcases List.mem_append.1 hy with hy | hy
  · exact h y hy
  · simp at hy; subst hy; exact hx
theorem SltZs.set {m : Nat} {xs : List Slt} {x : Slt} (h : SltZs m xs) (i : Nat) (hx : SltZ m x) : SltZs m (xs.set i x) := by
  intro y hy
  rcases List.mem_or_eq_of_mem_set hy with hy | hy
  · exact h y hy
  · subst hy; exact hx
theorem one5 {a b c d e : Value} (ha : a.oneCell' = true) (hb : b.oneCell' = true) (hc : c.oneCell' = true) (hd : d.oneCell' = true) (he : e.oneCell' = true) : ∀ v ∈ [a, b, c, d, e], v.oneCell' = true := by
  intro v hv
  simp at hv
  rcases hv with rfl | rfl | rfl | rfl | rfl <;> assumption

end Go.Proofs.YthbcogekfdllmaaGreatDoor
/-
  What a walk that makes memory holds of a world (Sq): old memory is as it was, and a list of resources that lie apart. No Go text is named here.
-/
namespace Go.Proofs.YthbcogekfdllmaaGreatDoor
open Go Go.RowKit

/-- resources that lie apart, from block B on -/
structure Hp (B : Nat) (W : World) (l : List Rsc) : Prop where
  hold : ∀ r ∈ l, r.P W
  ok : ∀ r ∈ l, r.Ok
  new : ∀ r ∈ l, ∀ g, r.fp g → B ≤ g ∧ g < W.heap.size
  apart : l.Pairwise Apart
section
variable {B : Nat} {W W' : World} {l : List Rsc} {r : Rsc}
theorem Hp.start (B : Nat) (W : World) : Hp B W [] := ⟨(by intro r hr; cases hr), (by intro r hr; cases hr), (by intro r hr; cases hr), List.Pairwise.nil⟩
theorem Hp.step (h : Hp B W l) (hs : W.heap.size ≤ W'.heap.size) (hk : ∀ r ∈ l, ∀ g, r.fp g → W'.heap[g]? = W.heap[g]?) : Hp B W' l :=
  ⟨fun r hr => h.ok r hr W W' (hk r hr) (h.hold r hr), h.ok, fun r hr g hg => by have := h.new r hr g hg; omega, h.apart⟩
theorem Hp.below (h : Hp B W l) (k : Below W.heap.size W W') : Hp B W' l := h.step k.size (fun r hr g hg => k.block g (h.new r hr g hg).2)
theorem Hp.cons (h : Hp B W l) (hp : r.P W) (hok : r.Ok) (hn : ∀ g, r.fp g → B ≤ g ∧ g < W.heap.size) (ha : ∀ s ∈ l, Apart r s) : Hp B W (r :: l) :=
  ⟨fun s hs => by rcases List.mem_cons.1 hs with rfl | hs; exact hp; exact h.hold s hs, fun s hs => by rcases List.mem_cons.1 hs with rfl | hs; exact hok; exact h.ok s hs,
    fun s hs => by rcases List.mem_cons.1 hs with rfl | hs; exact hn; exact h.new s hs, List.Pairwise.cons ha h.apart⟩
theorem Hp.tail (h : Hp B W (r :: l)) : Hp B W l :=
  ⟨fun s hs => h.hold s (List.mem_cons_of_mem _ hs), fun s hs => h.ok s (List.mem_cons_of_mem _ hs), fun s hs => h.new s (List.mem_cons_of_mem _ hs), (List.pairwise_cons.1 h.apart).2⟩
theorem Hp.head (h : Hp B W (r :: l)) : r.P W := h.hold r (List.mem_cons_self ..)
theorem Hp.perm {l' : List Rsc} (h : Hp B W l) (hp : l.Perm l') : Hp B W l' :=
  ⟨fun s hs => h.hold s (hp.mem_iff.2 hs), fun s hs => h.ok s (hp.mem_iff.2 hs), fun s hs => h.new s (hp.mem_iff.2 hs), hp.pairwise h.apart (fun h => apart_comm h)⟩
/-- the first one is turned within its own blocks and new ones -/
theorem Hp.turn {r' : Rsc} (h : Hp B W (r :: l)) (hs : W.heap.size ≤ W'.heap.size) (hk : ∀ g, g < W.heap.size → ¬ r.fp g → W'.heap[g]? = W.heap[g]?) (hp : r'.P W') (hok : r'.Ok)
    (hf : ∀ g, r'.fp g → (r.fp g ∨ W.heap.size ≤ g) ∧ g < W'.heap.size) (hB : B ≤ W.heap.size) : Hp B W' (r' :: l) := by
  have h0 : Hp B W' l := h.tail.step hs (fun s hs g hg => hk g (h.tail.new s hs g hg).2 (fun hr => (List.pairwise_cons.1 h.apart).1 s hs g hr hg))
  refine h0.cons hp hok (fun g hg => ?_) (fun s hs g hg hg2 => ?_)
  · obtain ⟨h1, h2⟩ := hf g hg
    rcases h1 with h1 | h1
    · exact ⟨(h.new _ (List.mem_cons_self ..) g h1).1, h2⟩
    · exact ⟨by omega, h2⟩
  · rcases (hf g hg).1 with h1 | h1
    · exact (List.pairwise_cons.1 h.apart).1 s hs g h1 hg2
    · have := (h.tail.new s hs g hg2).2; omega
theorem Hp.new_ (h : Hp B W l) (k : Below W.heap.size W W') (hp : r.P W') (hok : r.Ok) (hf : ∀ g, r.fp g → W.heap.size ≤ g ∧ g < W'.heap.size) (hB : B ≤ W.heap.size) : Hp B W' (r :: l) :=
  (h.below k).cons hp hok (fun g hg => by have := hf g hg; omega) (fun s hs g hg hg2 => by have := (hf g hg).1; have := (h.new s hs g hg2).2; omega)
end

/-- old memory is as it was; resources of the call's own -/
structure Sq (w W : World) (l : List Rsc) : Prop where
  below : Below w.heap.size w W
  hp : Hp w.heap.size W l
section
variable {w W W' : World} {l : List Rsc} {r : Rsc}
theorem Sq.start (w : World) : Sq w w [] := ⟨Below.refl _ _, Hp.start _ _⟩
theorem Sq.size (h : Sq w W l) : w.heap.size ≤ W.heap.size := h.below.size
theorem Sq.callB (h : Sq w W l) (k : Below W.heap.size W W') : Sq w W' l := ⟨below_call h.below k (Nat.le_refl _), h.hp.below k⟩
theorem Sq.drew (h : Sq w W l) : Sq w W.drew l := h.callB (below_drewN (Below.refl _ _) 1)
theorem Sq.drewN (h : Sq w W l) (n : Nat) : Sq w (W.drewN n) l := h.callB (below_drewN (Below.refl _ _) n)
theorem Sq.alloc (h : Sq w W l) (o : Obj) : Sq w (W.alloc o) l := h.callB ((Below.refl _ _).alloc (Nat.le_refl _) o)
theorem Sq.new_ (h : Sq w W l) (k : Below W.heap.size W W') (hp : r.P W') (hok : r.Ok) (hf : ∀ g, r.fp g → W.heap.size ≤ g ∧ g < W'.heap.size) : Sq w W' (r :: l) := ⟨below_call h.below k (Nat.le_refl _), h.hp.new_ k hp hok hf h.size⟩
theorem Sq.add (h : Sq w W l) (cs : Array Value) (t : TypeId) : Sq w (W.alloc (.cells cs t)) (rBlk W.heap.size t cs :: l) :=
  h.new_ ((Below.refl _ _).alloc (Nat.le_refl _) _) (Blk.new W t cs) (rBlk_ok _ _ _) (fun g hg => by
    have hg : g = W.heap.size := hg
    subst hg
    exact ⟨Nat.le_refl _, by simp⟩)
theorem Sq.tail (h : Sq w W (r :: l)) : Sq w W l := ⟨h.below, h.hp.tail⟩
theorem Sq.head (h : Sq w W (r :: l)) : r.P W := h.hp.head
theorem Sq.nth (h : Sq w W l) (i : Nat) (hi : l[i]? = some r) : r.P W := h.hp.hold r (List.mem_of_getElem? hi)
theorem Sq.front (h : Sq w W l) (i : Nat) (hi : l[i]? = some r) {l' : List Rsc} (hl : l.eraseIdx i = l') : Sq w W (r :: l') := by
  subst hl
  exact ⟨h.below, h.hp.perm (front_perm l i r hi)⟩
theorem Sq.drop (h : Sq w W l) (i : Nat) (hi : l[i]? = some r) {l' : List Rsc} (hl : l.eraseIdx i = l') : Sq w W l' := (h.front i hi hl).tail
theorem Sq.nil (h : Sq w W l) (base : Nat) (e : TypeId) (size : Nat) : Sq w W (rOwn base e size (.slice none 0 0) 0 [] :: l) :=
  ⟨h.below, h.hp.cons (World.ownsRow_nil _ _ _ _) (rOwn_ok _ _ _ _ _ _) (fun g hg => by simp [rOwn, Value.ownBlock] at hg) (fun s _ g hg => by simp [rOwn, Value.ownBlock] at hg)⟩
theorem Sq.ownB {e : TypeId} {size n : Nat} {v : Value} {xs : List Value} (h : Sq w W l) (k : Below W.heap.size W W') (ho : W'.ownsRow W.heap.size e size v n xs) : Sq w W' (rOwn w.heap.size e size v n xs :: l) :=
  h.new_ k (own_base ho h.size) (rOwn_ok _ _ _ _ _ _) (fun g hg => ho.lt g hg)
/-- the first one is turned within its own blocks and new ones -/
theorem Sq.turn {r' : Rsc} (h : Sq w W (r :: l)) {row : Option Nat} (hg : W.grownBy W' row) (hr : ∀ k, row = some k → r.fp k) (hp : r'.P W') (hok : r'.Ok)
    (hf : ∀ g, r'.fp g → (r.fp g ∨ W.heap.size ≤ g) ∧ g < W'.heap.size) : Sq w W' (r' :: l) :=
  ⟨h.below.grown hg h.size (fun k hk => (h.hp.new _ (List.mem_cons_self ..) k (hr k hk)).1), h.hp.turn hg.size (fun g hl hn => hg.block g hl (fun e => hn (hr g e.symm))) hp hok hf h.size⟩
theorem Sq.append {base : Nat} {e : TypeId} {size n n' : Nat} {v v' : Value} {xs xs' : List Value} (h : Sq w W (rOwn base e size v n xs :: l)) (ho : W'.ownsRow base e size v' n' xs') (hg : W.grownBy W' v.ownBlock) (hv : v'.ownBlock = v.ownBlock ∨ v'.ownBlock = some W.heap.size) :
    Sq w W' (rOwn base e size v' n' xs' :: l) :=
  h.turn hg (fun k hk => hk) ho (rOwn_ok _ _ _ _ _ _) (fun g hgg => by
    have hgg : v'.ownBlock = some g := hgg
    refine ⟨?_, (ho.lt g hgg).2⟩
    rcases hv with hv | hv
    · rw [hv] at hgg; exact .inl hgg
    · rw [hv] at hgg; injection hgg with hgg; exact .inr (by omega))
theorem Sq.store_ (h : Sq w W (r :: l)) {g : Nat} (hg : r.fp g) (i : Nat) (u : Value) {r' : Rsc} (hp : r'.P (W.setCell ⟨g, i, none⟩ u)) (hok : r'.Ok) (hf : ∀ k, r'.fp k → r.fp k) : Sq w (W.setCell ⟨g, i, none⟩ u) (r' :: l) :=
  h.turn (row := some g) ⟨rfl, rfl, rfl, by simp [World.setCell], fun k _ hk => Below.heap_setCell W ⟨g, i, none⟩ u k (fun e => hk (by rw [e]))⟩ (fun k hk => by injection hk with hk; subst hk; exact hg) hp hok
    (fun k hk => ⟨.inl (hf k hk), by have := (h.hp.new _ (List.mem_cons_self ..) k (hf k hk)).2; simpa [World.setCell] using this⟩)
theorem Sq.set_ {g : Nat} {t : TypeId} {cs : Array Value} (h : Sq w W (rBlk g t cs :: l)) (i : Nat) (u : Value) : Sq w (W.setCell ⟨g, i, none⟩ u) (rBlk g t (cs.setIfInBounds i u) :: l) :=
  h.store_ (g := g) rfl i u (r' := rBlk g t (cs.setIfInBounds i u)) (Blk.set_ h.head i u) (rBlk_ok _ _ _) (fun _k hk => hk)
theorem Sq.field {α : Type} {base : Nat} {e : TypeId} {g cap : Nat} (f : α → List Value) (k : Nat) (hf : ∀ a, (f a).length = k) {rs : List α}
    (h : Sq w W (rOwn base e k (.slice (some ⟨g, 0, none⟩) rs.length cap) rs.length (rs.flatMap f) :: l)) (i j : Nat) (hi : i < rs.length) (hj : j < k) (u : Value) (r' : α) (hr : f r' = (f rs[i]).set j u) :
    Sq w (W.setCell ⟨g, i * k + j, none⟩ u) (rOwn base e k (.slice (some ⟨g, 0, none⟩) (rs.set i r').length cap) (rs.set i r').length ((rs.set i r').flatMap f) :: l) := by
  have ho : W.ownsRow base e k (.slice (some ⟨g, 0, none⟩) rs.length cap) rs.length (rs.flatMap f) := h.head
  exact h.store_ (g := g) rfl (i * k + j) u (own_store f k hf ho i j hi hj u r' hr) (rOwn_ok _ _ _ _ _ _) (fun k hk => hk)
theorem Sq.rd (h : Sq w W l) {b size n : Nat} {v : Value} {xs : List Value} (hr : Rd w b size v n xs) : Rd W b size v n xs := hr.below h.below
theorem Sq.ge (h : Sq w W l) {g : Nat} {t : TypeId} {cs : Array Value} (i : Nat) (hi : l[i]? = some (rBlk g t cs)) : w.heap.size ≤ g := (h.hp.new _ (List.mem_of_getElem? hi) g rfl).1
end
end Go.Proofs.YthbcogekfdllmaaGreatDoor
/-
  What a slot says, wherever its hosts lie; faults go by that alone. (Split out of XMov1 and XOclPure.)
-/
namespace Go.Proofs.YthbcogekfdllmaaGreatDoor
open Go Go.RowKit

/-- what a slot says, wherever its hosts lie -/
def cntS (x : Slt) : ByteArray × ByteArray × List ByteArray × Int × Int := (x.key, x.who, x.hosts, x.setup, x.long)
theorem Sq.snocR {w W : World} {l : List Rsc} {α : Type} {f : α → Rsc} {xs : List α} {a : α} (h : Sq w W (f a :: rAll f xs :: l)) (hf : ∀ a, (f a).Ok) : Sq w W (rAll f (xs ++ [a]) :: l) := by
  have h1 := h.hp.apart
  rw [List.pairwise_cons] at h1
  have h2 := List.pairwise_cons.1 h1.2
  refine ⟨h.below, ?_⟩
  refine Hp.cons h.hp.tail.tail ?_ (rAll_ok hf _) (fun g hg => ?_) (fun s hs g hg hg2 => ?_)
  · intro x hx
    rcases List.mem_append.1 hx with hx | hx
    · exact (h.nth 1 rfl : ∀ a ∈ xs, (f a).P W) x hx
    · simp at hx; subst hx; exact h.head
  · obtain ⟨x, hx, hg⟩ := hg
    rcases List.mem_append.1 hx with hx | hx
    · exact h.hp.new _ (List.mem_cons_of_mem _ (List.mem_cons_self ..)) g ⟨x, hx, hg⟩
    · simp at hx; subst hx; exact h.hp.new _ (List.mem_cons_self ..) g hg
  · obtain ⟨x, hx, hg⟩ := hg
    rcases List.mem_append.1 hx with hx | hx
    · exact h2.1 s hs g ⟨x, hx, hg⟩ hg2
    · simp at hx; subst hx; exact h1.1 s (List.mem_cons_of_mem _ hs) g hg hg2
theorem Sq.allNil {w W : World} {l : List Rsc} {α : Type} (h : Sq w W l) (f : α → Rsc) (hf : ∀ a, (f a).Ok) : Sq w W (rAll f [] :: l) :=
  ⟨h.below, h.hp.cons (by intro a ha; cases ha) (rAll_ok hf _) (fun g hg => by obtain ⟨a, ha, _⟩ := hg; cases ha) (fun s _ g hg => by obtain ⟨a, ha, _⟩ := hg; cases ha)⟩
end Go.Proofs.YthbcogekfdllmaaGreatDoor
