/-
  What a walk holds of a world: old memory is as it was, and some blocks of the call's own are known whole (Bs).
-/
import Derived.Test.YthbcogekfdllmaaGreatDoorZBase
import Derived.Outline
namespace Go.Proofs.YthbcogekfdllmaaGreatDoor
open Go Go.RowKit

/-- old memory is as it was; the listed blocks (number, element type, cells) are known whole -/
def Bs (w W : World) (l : List (Nat × TypeId × Array Value)) : Prop := Below w.heap.size w W ∧ ∀ p ∈ l, Blk W p.1 p.2.1 p.2.2
section
variable {w W W' : World} {l : List (Nat × TypeId × Array Value)}
theorem Bs.start (w : World) : Bs w w [] := ⟨Below.refl _ _, fun p hp => by cases hp⟩
theorem Bs.below (h : Bs w W l) (k : Below W.heap.size W W') : Bs w W' l := ⟨below_call h.1 k (Nat.le_refl _), fun p hp => (h.2 p hp).below k⟩
theorem Bs.drew (h : Bs w W l) : Bs w W.drew l := h.below (below_drewN (Below.refl _ _) 1)
theorem Bs.drewN (h : Bs w W l) (k : Nat) : Bs w (W.drewN k) l := h.below (below_drewN (Below.refl _ _) k)
theorem Bs.alloc (h : Bs w W l) (o : Obj) : Bs w (W.alloc o) l := h.below ((Below.refl _ _).alloc (Nat.le_refl _) o)
theorem Bs.add (h : Bs w W l) (cs : Array Value) (t : TypeId) : Bs w (W.alloc (.cells cs t)) ((W.heap.size, t, cs) :: l) := by
  have h' := h.alloc (.cells cs t)
  refine ⟨h'.1, fun p hp => ?_⟩
  rcases List.mem_cons.1 hp with rfl | hp
  · exact Blk.new W t cs
  · exact h'.2 p hp
theorem Bs.push {g : Nat} {t : TypeId} {cs : Array Value} (h : Bs w W l) (hg : Blk W g t cs) : Bs w W ((g, t, cs) :: l) :=
  ⟨h.1, fun p hp => by
    rcases List.mem_cons.1 hp with rfl | hp
    · exact hg
    · exact h.2 p hp⟩
theorem Bs.tail {a : Nat × TypeId × Array Value} (h : Bs w W (a :: l)) : Bs w W l := ⟨h.1, fun p hp => h.2 p (List.mem_cons_of_mem _ hp)⟩
theorem Bs.head {g : Nat} {t : TypeId} {cs : Array Value} (h : Bs w W ((g, t, cs) :: l)) : Blk W g t cs := h.2 (g, t, cs) (List.mem_cons_self ..)
/-- a store into a new block that the list does not name -/
theorem Bs.store (h : Bs w W l) {g : Nat} (hw : w.heap.size ≤ g) (hl : ∀ p ∈ l, p.1 ≠ g) (i : Nat) (u : Value) : Bs w (W.setCell ⟨g, i, none⟩ u) l :=
  ⟨h.1.setCell (p := ⟨g, i, none⟩) hw u, fun p hp => (h.2 p hp).far (p := ⟨g, i, none⟩) (hl p hp) u⟩
/-- a store into the block that the list names first -/
theorem Bs.set_ {g : Nat} {t : TypeId} {cs : Array Value} (h : Bs w W ((g, t, cs) :: l)) (hw : w.heap.size ≤ g) (hl : ∀ p ∈ l, p.1 ≠ g) (i : Nat) (u : Value) : Bs w (W.setCell ⟨g, i, none⟩ u) ((g, t, cs.setIfInBounds i u) :: l) :=
  (h.tail.store hw hl i u).push (h.head.set_ i u)
end

theorem heap_new3 (w : World) (A B C : Obj) : (((w.alloc A).alloc B).alloc C).heap[w.heap.size + 1 + 1]? = some C := by
  have := heap_alloc_new ((w.alloc A).alloc B) C
  simpa using this
theorem Bs.grown {w W W' : World} {l : List (Nat × TypeId × Array Value)} {row : Option Nat} (h : Bs w W l) (hg : W.grownBy W' row) (hr : ∀ k, row = some k → w.heap.size ≤ k) (hl : ∀ p ∈ l, row ≠ some p.1) : Bs w W' l :=
  ⟨h.1.grown hg h.1.size hr, fun p hp => (h.2 p hp).grown hg (hl p hp).symm⟩

/-- old memory is as it was; a list of the call's own; some other blocks of the call's own known whole -/
def Os (e : TypeId) (size : Nat) (w W : World) (v : Value) (n : Nat) (xs : List Value) (l : List (Nat × TypeId × Array Value)) : Prop :=
  W.ownsRow w.heap.size e size v n xs ∧ Bs w W l ∧ ∀ p ∈ l, v.ownBlock ≠ some p.1
section
variable {e : TypeId} {size : Nat} {w W W' : World} {v : Value} {n : Nat} {xs : List Value} {l : List (Nat × TypeId × Array Value)}
theorem Os.start (h : Bs w W l) : Os e size w W (.slice none 0 0) 0 [] l := ⟨World.ownsRow_nil _ _ _ _, h, fun p _ hp => by simp [Value.ownBlock] at hp⟩
theorem Os.below (h : Os e size w W v n xs l) (k : Below W.heap.size W W') : Os e size w W' v n xs l := ⟨own_below h.1 k, h.2.1.below k, h.2.2⟩
theorem Os.drew (h : Os e size w W v n xs l) : Os e size w W.drew v n xs l := h.below (below_drewN (Below.refl _ _) 1)
theorem Os.drewN (h : Os e size w W v n xs l) (k : Nat) : Os e size w (W.drewN k) v n xs l := h.below (below_drewN (Below.refl _ _) k)
theorem Os.alloc (h : Os e size w W v n xs l) (o : Obj) : Os e size w (W.alloc o) v n xs l := h.below ((Below.refl _ _).alloc (Nat.le_refl _) o)
theorem Os.add (h : Os e size w W v n xs l) (cs : Array Value) (t : TypeId) : Os e size w (W.alloc (.cells cs t)) v n xs ((W.heap.size, t, cs) :: l) := by
  have h' := h.alloc (.cells cs t)
  refine ⟨h'.1, h.2.1.add cs t, fun p hp => ?_⟩
  rcases List.mem_cons.1 hp with rfl | hp
  · intro hq
    have := (h.1.lt _ hq).2
    simp only at this
    omega
  · exact h.2.2 p hp
theorem Os.tail {a : Nat × TypeId × Array Value} (h : Os e size w W v n xs (a :: l)) : Os e size w W v n xs l := ⟨h.1, h.2.1.tail, fun p hp => h.2.2 p (List.mem_cons_of_mem _ hp)⟩
theorem Os.head {g : Nat} {t : TypeId} {cs : Array Value} (h : Os e size w W v n xs ((g, t, cs) :: l)) : Blk W g t cs := h.2.1.head
/-- a store into the block that the list names first -/
theorem Os.set_ {g : Nat} {t : TypeId} {cs : Array Value} (h : Os e size w W v n xs ((g, t, cs) :: l)) (hw : w.heap.size ≤ g) (hl : ∀ p ∈ l, p.1 ≠ g) (i : Nat) (u : Value) : Os e size w (W.setCell ⟨g, i, none⟩ u) v n xs ((g, t, cs.setIfInBounds i u) :: l) := by
  refine ⟨?_, h.2.1.set_ hw hl i u, fun p hp => ?_⟩
  · refine h.1.kept (row := some g) ⟨rfl, rfl, rfl, by simp [World.setCell], fun k _ hk => Below.heap_setCell W ⟨g, i, none⟩ u k (fun e => hk (by rw [e]))⟩ ?_
    exact .inr (h.2.2 (g, t, cs) (List.mem_cons_self ..))
  · rcases List.mem_cons.1 hp with rfl | hp
    · exact h.2.2 (g, t, cs) (List.mem_cons_self ..)
    · exact h.2.2 p (List.mem_cons_of_mem _ hp)
/-- behind an append -/
theorem Os.append {v' : Value} {n' : Nat} {xs' : List Value} (h : Os e size w W v n xs l) (ho : W'.ownsRow w.heap.size e size v' n' xs') (hg : W.grownBy W' v.ownBlock) (hv : v'.ownBlock = v.ownBlock ∨ v'.ownBlock = some W.heap.size) : Os e size w W' v' n' xs' l := by
  refine ⟨ho, h.2.1.grown hg (fun k hk => (h.1.lt k hk).1) (fun p hp => h.2.2 p hp), fun p hp => ?_⟩
  rcases hv with hv | hv
  · rw [hv]; exact h.2.2 p hp
  · rw [hv]
    intro hq
    injection hq with hq
    have := (h.2.1.2 p hp).lt
    omega
end
end Go.Proofs.YthbcogekfdllmaaGreatDoor
/-
  Slices of structs: their cells, a field that is stored; what quiet and memory-making calls answer. No Go text is named here.
-/
namespace Go.Proofs.YthbcogekfdllmaaGreatDoor
open Go Go.RowKit

theorem flat_get {α : Type} (f : α → List Value) (k : Nat) (hf : ∀ a, (f a).length = k) : ∀ (rs : List α) (i j : Nat) (hi : i < rs.length), j < k → (rs.flatMap f)[i * k + j]? = (f rs[i])[j]?
  | [], i, j, hi, _ => by simp at hi
  | r :: rs, 0, j, _, hj => by
    simp only [List.flatMap_cons, Nat.zero_mul, Nat.zero_add, List.getElem_cons_zero]
    rw [List.getElem?_append_left (by rw [hf]; exact hj)]
  | r :: rs, i + 1, j, hi, hj => by
    simp only [List.flatMap_cons, List.getElem_cons_succ]
    rw [List.getElem?_append_right (by rw [hf, Nat.add_mul]; omega), hf, show (i + 1) * k + j - k = i * k + j by rw [Nat.add_mul]; omega]
    exact flat_get f k hf rs i j (by simpa using hi) hj
theorem flat_len {α : Type} (f : α → List Value) (k : Nat) (hf : ∀ a, (f a).length = k) (rs : List α) : (rs.flatMap f).length = rs.length * k := by
  induction rs with
  | nil => simp
  | cons r rs ih => simp only [List.flatMap_cons, List.length_append, hf, ih, List.length_cons, Nat.add_mul]; omega
theorem flat_set {α : Type} (f : α → List Value) (k : Nat) (hf : ∀ a, (f a).length = k) (u : Value) : ∀ (rs : List α) (i j : Nat) (hi : i < rs.length) (r' : α), j < k → f r' = (f rs[i]).set j u → (rs.flatMap f).set (i * k + j) u = (rs.set i r').flatMap f
  | [], i, j, hi, _, _, _ => by simp at hi
  | r :: rs, 0, j, _, r', hj, h => by
    simp only [List.flatMap_cons, Nat.zero_mul, Nat.zero_add, List.set_cons_zero, List.getElem_cons_zero] at h ⊢
    rw [h, List.set_append_left _ _ (by rw [hf]; exact hj)]
  | r :: rs, i + 1, j, hi, r', hj, h => by
    simp only [List.flatMap_cons, List.set_cons_succ, List.getElem_cons_succ] at h ⊢
    rw [List.set_append_right _ _ (by rw [hf, Nat.add_mul]; omega), hf, show (i + 1) * k + j - k = i * k + j by rw [Nat.add_mul]; omega, flat_set f k hf u rs i j (by simpa using hi) r' hj h]
/-- a field of an owned struct is stored -/
theorem own_store {α : Type} {w : World} {base : Nat} {e : TypeId} {g cap : Nat} (f : α → List Value) (k : Nat) (hf : ∀ a, (f a).length = k) {rs : List α}
    (h : w.ownsRow base e k (.slice (some ⟨g, 0, none⟩) rs.length cap) rs.length (rs.flatMap f)) (i j : Nat) (hi : i < rs.length) (hj : j < k) (u : Value) (r' : α) (hr : f r' = (f rs[i]).set j u) :
    (w.setCell ⟨g, i * k + j, none⟩ u).ownsRow base e k (.slice (some ⟨g, 0, none⟩) (rs.set i r').length cap) (rs.set i r').length ((rs.set i r').flatMap f) := by
  have := (h.stored (i * k + j) u).1
  rw [flat_set f k hf u rs i j hi r' hj hr] at this
  rw [List.length_set]
  exact this
theorem own_cell {α : Type} {w : World} {base : Nat} {e : TypeId} {g cap n : Nat} (f : α → List Value) (k : Nat) (hf : ∀ a, (f a).length = k) {rs : List α}
    (h : w.ownsRow base e k (.slice (some ⟨g, 0, none⟩) n cap) n (rs.flatMap f)) (i j : Nat) (hi : i < rs.length) (hn : i < n) (hj : j < k) : w.cell? ⟨g, i * k + j, none⟩ = (f rs[i])[j]? := by
  rw [h.cellAt (i * k + j) (by
    calc i * k + j < i * k + k := by omega
      _ = (i + 1) * k := by rw [Nat.add_mul, Nat.one_mul]
      _ ≤ n * k := Nat.mul_le_mul_right _ hn), flat_get f k hf rs i j hi hj]
/-- the cells of a slice of structs -/
theorem Rd.cells {α : Type} {w : World} {b k n c : Nat} {A : Option Addr} {f : α → List Value} {rs : List α} (h : Rd w b k (.slice A n c) n (rs.flatMap f)) (hf : ∀ a, (f a).length = k) (hk : 0 < k) :
    rs.length = n ∧ n ≤ c ∧ c ≤ maxLen ∧ (0 < n → ∃ g o, A = some ⟨g, o, none⟩ ∧ g ≠ b ∧ ∀ i (hi : i < rs.length) j, j < k → w.cell? ⟨g, o + i * k + j, none⟩ = (f rs[i])[j]?) := by
  obtain ⟨A', c', e1, e2, e3, e4, e5, e6⟩ := h
  injection e1 with ea eb ec
  subst ea ec
  have hl : rs.length = n := by
    have := e4
    rw [flat_len f k hf] at this
    exact Nat.eq_of_mul_eq_mul_right hk this
  refine ⟨hl, e2, e3, fun hn => ?_⟩
  obtain ⟨g, o, f1, f2, f3⟩ := e6 hn
  refine ⟨g, o, f1, f2, fun i hi j hj => ?_⟩
  have hg := flat_get f k hf rs i j hi hj
  have hlt : j < (f rs[i]).length := by rw [hf]; exact hj
  rw [List.getElem?_eq_getElem hlt] at hg ⊢
  rw [Nat.add_assoc]
  exact f3 _ _ hg
theorem own_base {w : World} {base base' : Nat} {e : TypeId} {size n : Nat} {v : Value} {xs : List Value} (h : w.ownsRow base e size v n xs) (hb : base' ≤ base) : w.ownsRow base' e size v n xs := by
  refine ⟨h.1, ?_⟩
  rcases h.2 with h' | ⟨g, cap, cur, h1, h2, h3⟩
  · exact .inl h'
  · exact .inr ⟨g, cap, cur, h1, by omega, h3⟩
/-- the call returns v and at most draws -/
def QRet (v : Value) (w : World) (e : Ending) (w' : World) : Prop := e = .returned v ∧ ∃ n, w' = w.drewN n
/-- the call returns v and has made at most new memory -/
def BRet (v : Value) (w : World) (e : Ending) (w' : World) : Prop := e = .returned v ∧ Below w.heap.size w w'
theorem ret_int {k : IntKind} {a b : Int} (h : a = b) : Ending.returned (.int k a) = .returned (.int k b) := by rw [h]
end Go.Proofs.YthbcogekfdllmaaGreatDoor
/-
  What a walk that draws numbers holds of a world (Sp): the stream's block, old memory, and a list of resources that lie apart from one another: blocks known whole, rows of the call's own. No Go text is named here.
-/
namespace Go.Proofs.YthbcogekfdllmaaGreatDoor
open Go Go.RowKit

/-- a fact on memory, with the blocks that it speaks of -/
structure Rsc where
  P : World → Prop
  fp : Nat → Prop
def Rsc.Ok (r : Rsc) : Prop := ∀ W W' : World, (∀ g, r.fp g → W'.heap[g]? = W.heap[g]?) → r.P W → r.P W'
/-- a block that is known whole -/
def rBlk (g : Nat) (t : TypeId) (cs : Array Value) : Rsc := ⟨fun W => Blk W g t cs, fun k => k = g⟩
/-- a row of the call's own -/
def rOwn (base : Nat) (e : TypeId) (size : Nat) (v : Value) (n : Nat) (xs : List Value) : Rsc := ⟨fun W => W.ownsRow base e size v n xs, fun k => v.ownBlock = some k⟩
/-- a fact for each of a list -/
def rAll {α : Type} (f : α → Rsc) (l : List α) : Rsc := ⟨fun W => ∀ a ∈ l, (f a).P W, fun k => ∃ a ∈ l, (f a).fp k⟩
theorem rBlk_ok (g : Nat) (t : TypeId) (cs : Array Value) : (rBlk g t cs).Ok := fun _W _W' h hp => (h g rfl).trans hp
theorem rOwn_ok (base : Nat) (e : TypeId) (size : Nat) (v : Value) (n : Nat) (xs : List Value) : (rOwn base e size v n xs).Ok := by
  intro W W' h hp
  refine ⟨hp.1, ?_⟩
  rcases hp.2 with hn | ⟨g, cap, cur, rfl, hb, hgg, rest⟩
  · exact .inl hn
  · exact .inr ⟨g, cap, cur, rfl, hb, (h g rfl).trans hgg, rest⟩
theorem rAll_ok {α : Type} {f : α → Rsc} (hf : ∀ a, (f a).Ok) (l : List α) : (rAll f l).Ok :=
  fun W W' h hp a ha => hf a W W' (fun g hg => h g ⟨a, ha, hg⟩) (hp a ha)
def Apart (r s : Rsc) : Prop := ∀ g, r.fp g → s.fp g → False

section
variable {w W W' : World} {b K K' : Nat} {l : List Rsc} {r : Rsc}
theorem apart_comm {r s : Rsc} (h : Apart r s) : Apart s r := fun g h1 h2 => h g h2 h1
theorem front_perm {α : Type} : ∀ (l : List α) (i : Nat) (r : α), l[i]? = some r → l.Perm (r :: l.eraseIdx i)
  | [], i, r, h => by simp at h
  | a :: l, 0, r, h => by
    simp at h
    subst h
    exact List.Perm.refl _
  | a :: l, i + 1, r, h => by
    have h' : l[i]? = some r := by simpa using h
    exact ((front_perm l i r h').cons a).trans (List.Perm.swap r a _)
theorem blkRd (size n : Nat) {g : Nat} {t : TypeId} {cs : Array Value} (h : Blk W g t cs) (hg : g ≠ b) (hn : n ≤ maxLen) (hs : cs.size = n * size) : Rd W b size (.slice (some ⟨g, 0, none⟩) n n) n cs.toList := by
  refine ⟨_, n, rfl, Nat.le_refl _, hn, by simpa using hs, (fun e => by cases e), fun _ => ⟨g, 0, rfl, hg, fun j u hu => ?_⟩⟩
  rw [Nat.zero_add, h.cell]
  simpa using hu
end

theorem own_lies {v : Value} {g n c H : Nat} (h : v.ownBlock = some g ∨ g = H) : (Value.slice (some ⟨g, 0, none⟩) n c).ownBlock = v.ownBlock ∨ (Value.slice (some ⟨g, 0, none⟩) n c).ownBlock = some H := by
  rcases h with h | rfl
  · exact .inl h.symm
  · exact .inr rfl
section
variable {w W : World} {b K : Nat} {l : List Rsc}
end
end Go.Proofs.YthbcogekfdllmaaGreatDoor
