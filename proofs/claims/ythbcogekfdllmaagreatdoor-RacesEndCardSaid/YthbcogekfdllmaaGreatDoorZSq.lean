/-
  What a walk that makes memory holds of a world (Sq): old memory is as it was, and a list of resources that lie apart. No Go text is named here.
-/
import Derived.Test.YthbcogekfdllmaaGreatDoorZSep
namespace Go.Proofs.YthbcogekfdllmaaGreatDoor
open Go Go.RowKit

/-- resources that lie apart, from block B on -/
structure Hp (B : Nat) (W : World) (l : List Rsc) : Prop where
  hold : ∀ r ∈ l, r.P W
  ok : ∀ r ∈ l, r.Ok
  new : ∀ r ∈ l, ∀ g, r.fp g → B ≤ g ∧ g < W.heap.size
  apart : l.Pairwise Apart
section
variable {B : Nat} {W W' : World} {l : List Rsc} {r : Rsc}
theorem Hp.start (B : Nat) (W : World) : Hp B W [] := ⟨(by intro r hr; cases hr), (by intro r hr; cases hr), (by intro r hr; cases hr), List.Pairwise.nil⟩
theorem Hp.step (h : Hp B W l) (hs : W.heap.size ≤ W'.heap.size) (hk : ∀ r ∈ l, ∀ g, r.fp g → W'.heap[g]? = W.heap[g]?) : Hp B W' l :=
  ⟨fun r hr => h.ok r hr W W' (hk r hr) (h.hold r hr), h.ok, fun r hr g hg => by have := h.new r hr g hg; omega, h.apart⟩
theorem Hp.below (h : Hp B W l) (k : Below W.heap.size W W') : Hp B W' l := h.step k.size (fun r hr g hg => k.block g (h.new r hr g hg).2)
theorem Hp.cons (h : Hp B W l) (hp : r.P W) (hok : r.Ok) (hn : ∀ g, r.fp g → B ≤ g ∧ g < W.heap.size) (ha : ∀ s ∈ l, Apart r s) : Hp B W (r :: l) :=
  ⟨fun s hs => by rcases List.mem_cons.1 hs with rfl | hs; exact hp; exact h.hold s hs, fun s hs => by rcases List.mem_cons.1 hs with rfl | hs; exact hok; exact h.ok s hs,
    fun s hs => by rcases List.mem_cons.1 hs with rfl | hs; exact hn; exact h.new s hs, List.Pairwise.cons ha h.apart⟩
theorem Hp.tail (h : Hp B W (r :: l)) : Hp B W l :=
  ⟨fun s hs => h.hold s (List.mem_cons_of_mem _ hs), fun s hs => h.ok s (List.mem_cons_of_mem _ hs), fun s hs => h.new s (List.mem_cons_of_mem _ hs), (List.pairwise_cons.1 h.apart).2⟩
theorem Hp.head (h : Hp B W (r :: l)) : r.P W := h.hold r (List.mem_cons_self ..)
theorem Hp.perm {l' : List Rsc} (h : Hp B W l) (hp : l.Perm l') : Hp B W l' :=
  ⟨fun s hs => h.hold s (hp.mem_iff.2 hs), fun s hs => h.ok s (hp.mem_iff.2 hs), fun s hs => h.new s (hp.mem_iff.2 hs), hp.pairwise h.apart (fun h => apart_comm h)⟩
/-- the first one is turned within its own blocks and new ones -/
theorem Hp.turn {r' : Rsc} (h : Hp B W (r :: l)) (hs : W.heap.size ≤ W'.heap.size) (hk : ∀ g, g < W.heap.size → ¬ r.fp g → W'.heap[g]? = W.heap[g]?) (hp : r'.P W') (hok : r'.Ok)
    (hf : ∀ g, r'.fp g → (r.fp g ∨ W.heap.size ≤ g) ∧ g < W'.heap.size) (hB : B ≤ W.heap.size) : Hp B W' (r' :: l) := by
  have h0 : Hp B W' l := h.tail.step hs (fun s hs g hg => hk g (h.tail.new s hs g hg).2 (fun hr => (List.pairwise_cons.1 h.apart).1 s hs g hr hg))
  refine h0.cons hp hok (fun g hg => ?_) (fun s hs g hg hg2 => ?_)
  · obtain ⟨h1, h2⟩ := hf g hg
    rcases h1 with h1 | h1
    · exact ⟨(h.new _ (List.mem_cons_self ..) g h1).1, h2⟩
    · exact ⟨by omega, h2⟩
  · rcases (hf g hg).1 with h1 | h1
    · exact (List.pairwise_cons.1 h.apart).1 s hs g h1 hg2
    · have := (h.tail.new s hs g hg2).2; omega
theorem Hp.new_ (h : Hp B W l) (k : Below W.heap.size W W') (hp : r.P W') (hok : r.Ok) (hf : ∀ g, r.fp g → W.heap.size ≤ g ∧ g < W'.heap.size) (hB : B ≤ W.heap.size) : Hp B W' (r :: l) :=
  (h.below k).cons hp hok (fun g hg => by have := hf g hg; omega) (fun s hs g hg hg2 => by have := (hf g hg).1; have := (h.new s hs g hg2).2; omega)
end

/-- old memory is as it was; resources of the call's own -/
structure Sq (w W : World) (l : List Rsc) : Prop where
  below : Below w.heap.size w W
  hp : Hp w.heap.size W l
section
variable {w W W' : World} {l : List Rsc} {r : Rsc}
theorem Sq.start (w : World) : Sq w w [] := ⟨Below.refl _ _, Hp.start _ _⟩
theorem Sq.size (h : Sq w W l) : w.heap.size ≤ W.heap.size := h.below.size
theorem Sq.callB (h : Sq w W l) (k : Below W.heap.size W W') : Sq w W' l := ⟨below_call h.below k (Nat.le_refl _), h.hp.below k⟩
theorem Sq.drew (h : Sq w W l) : Sq w W.drew l := h.callB (below_drewN (Below.refl _ _) 1)
theorem Sq.drewN (h : Sq w W l) (n : Nat) : Sq w (W.drewN n) l := h.callB (below_drewN (Below.refl _ _) n)
theorem Sq.alloc (h : Sq w W l) (o : Obj) : Sq w (W.alloc o) l := h.callB ((Below.refl _ _).alloc (Nat.le_refl _) o)
theorem Sq.new_ (h : Sq w W l) (k : Below W.heap.size W W') (hp : r.P W') (hok : r.Ok) (hf : ∀ g, r.fp g → W.heap.size ≤ g ∧ g < W'.heap.size) : Sq w W' (r :: l) := ⟨below_call h.below k (Nat.le_refl _), h.hp.new_ k hp hok hf h.size⟩
theorem Sq.add (h : Sq w W l) (cs : Array Value) (t : TypeId) : Sq w (W.alloc (.cells cs t)) (rBlk W.heap.size t cs :: l) :=
  h.new_ ((Below.refl _ _).alloc (Nat.le_refl _) _) (Blk.new W t cs) (rBlk_ok _ _ _) (fun g hg => by
    have hg : g = W.heap.size := hg
    subst hg
    exact ⟨Nat.le_refl _, by simp⟩)
theorem Sq.tail (h : Sq w W (r :: l)) : Sq w W l := ⟨h.below, h.hp.tail⟩
theorem Sq.head (h : Sq w W (r :: l)) : r.P W := h.hp.head
theorem Sq.nth (h : Sq w W l) (i : Nat) (hi : l[i]? = some r) : r.P W := h.hp.hold r (List.mem_of_getElem? hi)
theorem Sq.front (h : Sq w W l) (i : Nat) (hi : l[i]? = some r) {l' : List Rsc} (hl : l.eraseIdx i = l') : Sq w W (r :: l') := by
  subst hl
  exact ⟨h.below, h.hp.perm (front_perm l i r hi)⟩
theorem Sq.drop (h : Sq w W l) (i : Nat) (hi : l[i]? = some r) {l' : List Rsc} (hl : l.eraseIdx i = l') : Sq w W l' := (h.front i hi hl).tail
theorem Sq.nil (h : Sq w W l) (base : Nat) (e : TypeId) (size : Nat) : Sq w W (rOwn base e size (.slice none 0 0) 0 [] :: l) :=
  ⟨h.below, h.hp.cons (World.ownsRow_nil _ _ _ _) (rOwn_ok _ _ _ _ _ _) (fun g hg => by simp [rOwn, Value.ownBlock] at hg) (fun s _ g hg => by simp [rOwn, Value.ownBlock] at hg)⟩
theorem Sq.ownB {e : TypeId} {size n : Nat} {v : Value} {xs : List Value} (h : Sq w W l) (k : Below W.heap.size W W') (ho : W'.ownsRow W.heap.size e size v n xs) : Sq w W' (rOwn w.heap.size e size v n xs :: l) :=
  h.new_ k (own_base ho h.size) (rOwn_ok _ _ _ _ _ _) (fun g hg => ho.lt g hg)
/-- the first one is turned within its own blocks and new ones -/
theorem Sq.turn {r' : Rsc} (h : Sq w W (r :: l)) {row : Option Nat} (hg : W.grownBy W' row) (hr : ∀ k, row = some k → r.fp k) (hp : r'.P W') (hok : r'.Ok)
    (hf : ∀ g, r'.fp g → (r.fp g ∨ W.heap.size ≤ g) ∧ g < W'.heap.size) : Sq w W' (r' :: l) :=
  ⟨h.below.grown hg h.size (fun k hk => (h.hp.new _ (List.mem_cons_self ..) k (hr k hk)).1), h.hp.turn hg.size (fun g hl hn => hg.block g hl (fun e => hn (hr g e.symm))) hp hok hf h.size⟩
theorem Sq.append {base : Nat} {e : TypeId} {size n n' : Nat} {v v' : Value} {xs xs' : List Value} (h : Sq w W (rOwn base e size v n xs :: l)) (ho : W'.ownsRow base e size v' n' xs') (hg : W.grownBy W' v.ownBlock) (hv : v'.ownBlock = v.ownBlock ∨ v'.ownBlock = some W.heap.size) :
    Sq w W' (rOwn base e size v' n' xs' :: l) :=
  h.turn hg (fun k hk => hk) ho (rOwn_ok _ _ _ _ _ _) (fun g hgg => by
    have hgg : v'.ownBlock = some g := hgg
    refine ⟨?_, (ho.lt g hgg).2⟩
    rcases hv with hv | hv
    · rw [hv] at hgg; exact .inl hgg
    · rw [hv] at hgg; injection hgg with hgg; exact .inr (by omega))
theorem Sq.store_ (h : Sq w W (r :: l)) {g : Nat} (hg : r.fp g) (i : Nat) (u : Value) {r' : Rsc} (hp : r'.P (W.setCell ⟨g, i, none⟩ u)) (hok : r'.Ok) (hf : ∀ k, r'.fp k → r.fp k) : Sq w (W.setCell ⟨g, i, none⟩ u) (r' :: l) :=
  h.turn (row := some g) ⟨rfl, rfl, rfl, by simp [World.setCell], fun k _ hk => Below.heap_setCell W ⟨g, i, none⟩ u k (fun e => hk (by rw [e]))⟩ (fun k hk => by injection hk with hk; subst hk; exact hg) hp hok
    (fun k hk => ⟨.inl (hf k hk), by have := (h.hp.new _ (List.mem_cons_self ..) k (hf k hk)).2; simpa [World.setCell] using this⟩)
theorem Sq.set_ {g : Nat} {t : TypeId} {cs : Array Value} (h : Sq w W (rBlk g t cs :: l)) (i : Nat) (u : Value) : Sq w (W.setCell ⟨g, i, none⟩ u) (rBlk g t (cs.setIfInBounds i u) :: l) :=
  h.store_ (g := g) rfl i u (r' := rBlk g t (cs.setIfInBounds i u)) (Blk.set_ h.head i u) (rBlk_ok _ _ _) (fun _k hk => hk)
theorem Sq.field {α : Type} {base : Nat} {e : TypeId} {g cap : Nat} (f : α → List Value) (k : Nat) (hf : ∀ a, (f a).length = k) {rs : List α}
    (h : Sq w W (rOwn base e k (.slice (some ⟨g, 0, none⟩) rs.length cap) rs.length (rs.flatMap f) :: l)) (i j : Nat) (hi : i < rs.length) (hj : j < k) (u : Value) (r' : α) (hr : f r' = (f rs[i]).set j u) :
    Sq w (W.setCell ⟨g, i * k + j, none⟩ u) (rOwn base e k (.slice (some ⟨g, 0, none⟩) (rs.set i r').length cap) (rs.set i r').length ((rs.set i r').flatMap f) :: l) := by
  have ho : W.ownsRow base e k (.slice (some ⟨g, 0, none⟩) rs.length cap) rs.length (rs.flatMap f) := h.head
  exact h.store_ (g := g) rfl (i * k + j) u (own_store f k hf ho i j hi hj u r' hr) (rOwn_ok _ _ _ _ _ _) (fun k hk => hk)
theorem Sq.rd (h : Sq w W l) {b size n : Nat} {v : Value} {xs : List Value} (hr : Rd w b size v n xs) : Rd W b size v n xs := hr.below h.below
theorem Sq.ge (h : Sq w W l) {g : Nat} {t : TypeId} {cs : Array Value} (i : Nat) (hi : l[i]? = some (rBlk g t cs)) : w.heap.size ≤ g := (h.hp.new _ (List.mem_of_getElem? hi) g rfl).1
end
end Go.Proofs.YthbcogekfdllmaaGreatDoor
