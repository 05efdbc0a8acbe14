/-
  What a walk that draws numbers holds of a world (Sp): the stream's block, old memory, and a list of resources that lie apart from one another: blocks known whole, rows of the call's own. No Go text is named here.
-/
import Derived.Test.YthbcogekfdllmaaGreatDoorZStream
import Derived.Test.YthbcogekfdllmaaGreatDoorZBs
import Derived.Test.YthbcogekfdllmaaGreatDoorZFlat
namespace Go.Proofs.YthbcogekfdllmaaGreatDoor
open Go Go.RowKit

/-- a fact on memory, with the blocks that it speaks of -/
structure Rsc where
  P : World → Prop
  fp : Nat → Prop
def Rsc.Ok (r : Rsc) : Prop := ∀ W W' : World, (∀ g, r.fp g → W'.heap[g]? = W.heap[g]?) → r.P W → r.P W'
/-- a block that is known whole -/
def rBlk (g : Nat) (t : TypeId) (cs : Array Value) : Rsc := ⟨fun W => Blk W g t cs, fun k => k = g⟩
/-- a row of the call's own -/
def rOwn (base : Nat) (e : TypeId) (size : Nat) (v : Value) (n : Nat) (xs : List Value) : Rsc := ⟨fun W => W.ownsRow base e size v n xs, fun k => v.ownBlock = some k⟩
/-- a fact for each of a list -/
def rAll {α : Type} (f : α → Rsc) (l : List α) : Rsc := ⟨fun W => ∀ a ∈ l, (f a).P W, fun k => ∃ a ∈ l, (f a).fp k⟩
theorem rBlk_ok (g : Nat) (t : TypeId) (cs : Array Value) : (rBlk g t cs).Ok := fun _W _W' h hp => (h g rfl).trans hp
theorem rOwn_ok (base : Nat) (e : TypeId) (size : Nat) (v : Value) (n : Nat) (xs : List Value) : (rOwn base e size v n xs).Ok := by
  intro W W' h hp
  refine ⟨hp.1, ?_⟩
  rcases hp.2 with hn | ⟨g, cap, cur, rfl, hb, hgg, rest⟩
  · exact .inl hn
  · exact .inr ⟨g, cap, cur, rfl, hb, (h g rfl).trans hgg, rest⟩
theorem rAll_ok {α : Type} {f : α → Rsc} (hf : ∀ a, (f a).Ok) (l : List α) : (rAll f l).Ok :=
  fun W W' h hp a ha => hf a W W' (fun g hg => h g ⟨a, ha, hg⟩) (hp a ha)
def Apart (r s : Rsc) : Prop := ∀ g, r.fp g → s.fp g → False

structure Sp (w : World) (b K : Nat) (W : World) (l : List Rsc) : Prop where
  strm : Strm W b K
  bx : Bx w.heap.size b w W
  hb : b < w.heap.size
  hold : ∀ r ∈ l, r.P W
  ok : ∀ r ∈ l, r.Ok
  new : ∀ r ∈ l, ∀ g, r.fp g → w.heap.size ≤ g ∧ g < W.heap.size
  apart : l.Pairwise Apart
section
variable {w W W' : World} {b K K' : Nat} {l : List Rsc} {r : Rsc}
theorem Sp.start (h : Strm w b K) : Sp w b K w [] := ⟨h, Bx.refl _ _ _, h.lt, (by intro r hr; cases hr), (by intro r hr; cases hr), (by intro r hr; cases hr), List.Pairwise.nil⟩
theorem Sp.size (h : Sp w b K W l) : w.heap.size ≤ W.heap.size := h.bx.size
theorem Sp.lt (h : Sp w b K W l) : b < W.heap.size := h.strm.lt
theorem Sp.more (h : Sp w b K W l) (hK : K ≤ K') : Sp w b K' W l := ⟨h.strm.more hK, h.bx, h.hb, h.hold, h.ok, h.new, h.apart⟩
/-- behind a call that turned the stream alone -/
theorem Sp.call (h : Sp w b K W l) (hs : Strm W' b K') (k : Bx W.heap.size b W W') : Sp w b K' W' l :=
  ⟨hs, h.bx.call k (Nat.le_refl _), h.hb, fun r hr => h.ok r hr W W' (fun g hg => by
      have := h.new r hr g hg
      have := h.hb
      exact k.block g (by omega) (by omega)) (h.hold r hr), h.ok, fun r hr g hg => by have := h.new r hr g hg; have := k.size; omega, h.apart⟩
theorem Sp.callB (h : Sp w b K W l) (k : Below W.heap.size W W') : Sp w b K W' l := h.call (h.strm.below k) (Bx.of_below k b)
theorem Sp.drew (h : Sp w b K W l) : Sp w b K W.drew l := h.callB (below_drewN (Below.refl _ _) 1)
theorem Sp.drewN (h : Sp w b K W l) (n : Nat) : Sp w b K (W.drewN n) l := h.callB (below_drewN (Below.refl _ _) n)
theorem Sp.alloc (h : Sp w b K W l) (o : Obj) : Sp w b K (W.alloc o) l := h.callB ((Below.refl _ _).alloc (Nat.le_refl _) o)
theorem Sp.cons (h : Sp w b K W l) (hp : r.P W) (hok : r.Ok) (hn : ∀ g, r.fp g → w.heap.size ≤ g ∧ g < W.heap.size) (ha : ∀ s ∈ l, Apart r s) : Sp w b K W (r :: l) :=
  ⟨h.strm, h.bx, h.hb, fun s hs => by rcases List.mem_cons.1 hs with rfl | hs; exact hp; exact h.hold s hs, fun s hs => by rcases List.mem_cons.1 hs with rfl | hs; exact hok; exact h.ok s hs,
    fun s hs => by rcases List.mem_cons.1 hs with rfl | hs; exact hn; exact h.new s hs, List.Pairwise.cons ha h.apart⟩
theorem Sp.add (h : Sp w b K W l) (cs : Array Value) (t : TypeId) : Sp w b K (W.alloc (.cells cs t)) (rBlk W.heap.size t cs :: l) :=
  (h.alloc _).cons (Blk.new W t cs) (rBlk_ok _ _ _) (fun g hg => by
    have hg : g = W.heap.size := hg
    subst hg
    exact ⟨h.size, by simp⟩) (fun s hs g hg hg2 => by
    have hg : g = W.heap.size := hg
    have := (h.new s hs g hg2).2
    omega)
theorem Sp.tail (h : Sp w b K W (r :: l)) : Sp w b K W l :=
  ⟨h.strm, h.bx, h.hb, fun s hs => h.hold s (List.mem_cons_of_mem _ hs), fun s hs => h.ok s (List.mem_cons_of_mem _ hs), fun s hs => h.new s (List.mem_cons_of_mem _ hs), (List.pairwise_cons.1 h.apart).2⟩
theorem Sp.head (h : Sp w b K W (r :: l)) : r.P W := h.hold r (List.mem_cons_self ..)
theorem Sp.nth (h : Sp w b K W l) (i : Nat) (hi : l[i]? = some r) : r.P W := h.hold r (List.mem_of_getElem? hi)
theorem apart_comm {r s : Rsc} (h : Apart r s) : Apart s r := fun g h1 h2 => h g h2 h1
theorem Sp.perm {l' : List Rsc} (h : Sp w b K W l) (hp : l.Perm l') : Sp w b K W l' :=
  ⟨h.strm, h.bx, h.hb, fun s hs => h.hold s (hp.mem_iff.2 hs), fun s hs => h.ok s (hp.mem_iff.2 hs), fun s hs => h.new s (hp.mem_iff.2 hs), hp.pairwise h.apart (fun h => apart_comm h)⟩
theorem front_perm {α : Type} : ∀ (l : List α) (i : Nat) (r : α), l[i]? = some r → l.Perm (r :: l.eraseIdx i)
  | [], i, r, h => by simp at h
  | a :: l, 0, r, h => by
    simp at h
    subst h
    exact List.Perm.refl _
  | a :: l, i + 1, r, h => by
    have h' : l[i]? = some r := by simpa using h
    exact ((front_perm l i r h').cons a).trans (List.Perm.swap r a _)
/-- the i-th resource first -/
theorem Sp.front (h : Sp w b K W l) (i : Nat) (hi : l[i]? = some r) {l' : List Rsc} (hl : l.eraseIdx i = l') : Sp w b K W (r :: l') := by
  subst hl
  exact h.perm (front_perm l i r hi)
theorem Sp.drop (h : Sp w b K W l) (i : Nat) (hi : l[i]? = some r) {l' : List Rsc} (hl : l.eraseIdx i = l') : Sp w b K W l' := (h.front i hi hl).tail
/-- a list of the call's own that is nil -/
theorem Sp.nil (h : Sp w b K W l) (base : Nat) (e : TypeId) (size : Nat) : Sp w b K W (rOwn base e size (.slice none 0 0) 0 [] :: l) :=
  h.cons (World.ownsRow_nil _ _ _ _) (rOwn_ok _ _ _ _ _ _) (fun g hg => by simp [rOwn, Value.ownBlock] at hg) (fun s _ g hg => by simp [rOwn, Value.ownBlock] at hg)
/-- behind a call that answers with a row in new memory -/
theorem Sp.own {e : TypeId} {size n : Nat} {v : Value} {xs : List Value} (h : Sp w b K W l) (hs : Strm W' b K') (k : Bx W.heap.size b W W') (ho : W'.ownsRow W.heap.size e size v n xs) : Sp w b K' W' (rOwn w.heap.size e size v n xs :: l) :=
  (h.call hs k).cons (own_base ho h.size) (rOwn_ok _ _ _ _ _ _) (fun g hg => by
    have := ho.lt g hg
    have := h.size
    omega) (fun s hs g hg hg2 => by
    have := (ho.lt g hg).1
    have := (h.new s hs g hg2).2
    omega)
theorem Sp.ownB {e : TypeId} {size n : Nat} {v : Value} {xs : List Value} (h : Sp w b K W l) (k : Below W.heap.size W W') (ho : W'.ownsRow W.heap.size e size v n xs) : Sp w b K W' (rOwn w.heap.size e size v n xs :: l) :=
  h.own (h.strm.below k) (Bx.of_below k b) ho
/-- an append to the first row -/
theorem Sp.append {base : Nat} {e : TypeId} {size n n' : Nat} {v v' : Value} {xs xs' : List Value} (h : Sp w b K W (rOwn base e size v n xs :: l)) (ho : W'.ownsRow base e size v' n' xs') (hg : W.grownBy W' v.ownBlock) (hv : v'.ownBlock = v.ownBlock ∨ v'.ownBlock = some W.heap.size) :
    Sp w b K W' (rOwn base e size v' n' xs' :: l) := by
  have hbw := h.hb
  have hrow : ∀ q, v.ownBlock = some q → w.heap.size ≤ q ∧ q < W.heap.size := fun q hq => h.new _ (List.mem_cons_self ..) q hq
  have h0 : Sp w b K W' l := ⟨h.strm.grown hg (fun k hk => by have := hrow k hk; omega), h.bx.grown hg (Nat.le_refl _) (fun k hk => .inr (hrow k hk).1), h.hb,
    fun r hr => h.ok r (List.mem_cons_of_mem _ hr) W W' (fun g hgg => hg.block g (h.new r (List.mem_cons_of_mem _ hr) g hgg).2 (fun e => (List.pairwise_cons.1 h.apart).1 r hr g e.symm hgg)) (h.hold r (List.mem_cons_of_mem _ hr)),
    h.tail.ok, fun r hr g hgg => by have := h.tail.new r hr g hgg; have := hg.size; omega, h.tail.apart⟩
  refine h0.cons ho (rOwn_ok _ _ _ _ _ _) (fun g hgg => ?_) (fun s hs g hgg hg2 => ?_)
  · have hgg : v'.ownBlock = some g := hgg
    have hl := (ho.lt g hgg).2
    rcases hv with hv | hv
    · rw [hv] at hgg; exact ⟨(hrow g hgg).1, hl⟩
    · rw [hv] at hgg; injection hgg with hgg; subst hgg; exact ⟨h.size, hl⟩
  · have hgg : v'.ownBlock = some g := hgg
    rcases hv with hv | hv
    · rw [hv] at hgg; exact (List.pairwise_cons.1 h.apart).1 s hs g hgg hg2
    · rw [hv] at hgg; injection hgg with hgg; subst hgg
      have := (h.tail.new s hs _ hg2).2
      omega
/-- a store into the block that is first -/
theorem Sp.store_ (h : Sp w b K W (r :: l)) {g : Nat} (hg : r.fp g) (i : Nat) (u : Value) {r' : Rsc} (hp : r'.P (W.setCell ⟨g, i, none⟩ u)) (hok : r'.Ok) (hf : ∀ k, r'.fp k → r.fp k) : Sp w b K (W.setCell ⟨g, i, none⟩ u) (r' :: l) := by
  have hgn := h.new _ (List.mem_cons_self ..) g hg
  have hbw := h.hb
  have hz : (W.setCell ⟨g, i, none⟩ u).heap.size = W.heap.size := by simp [World.setCell]
  have h0 : Sp w b K (W.setCell ⟨g, i, none⟩ u) l := ⟨h.strm.setCell (p := ⟨g, i, none⟩) (by show b < g; omega) u, h.bx.setCell (p := ⟨g, i, none⟩) (.inr hgn.1) u, h.hb,
    fun s hs => h.ok s (List.mem_cons_of_mem _ hs) W _ (fun k hk => Below.heap_setCell W ⟨g, i, none⟩ u k (fun e => (List.pairwise_cons.1 h.apart).1 s hs g hg (by have e : k = g := e; rw [← e]; exact hk))) (h.hold s (List.mem_cons_of_mem _ hs)),
    h.tail.ok, fun s hs k hk => by rw [hz]; exact h.tail.new s hs k hk, h.tail.apart⟩
  exact h0.cons hp hok (fun k hk => by rw [hz]; exact h.new _ (List.mem_cons_self ..) k (hf k hk)) (fun s hs k hk hk2 => (List.pairwise_cons.1 h.apart).1 s hs k (hf k hk) hk2)
theorem Sp.set_ {g : Nat} {t : TypeId} {cs : Array Value} (h : Sp w b K W (rBlk g t cs :: l)) (i : Nat) (u : Value) : Sp w b K (W.setCell ⟨g, i, none⟩ u) (rBlk g t (cs.setIfInBounds i u) :: l) :=
  h.store_ (g := g) rfl i u (r' := rBlk g t (cs.setIfInBounds i u)) (Blk.set_ h.head i u) (rBlk_ok _ _ _) (fun _k hk => hk)
/-- a field of a struct of the first row is stored -/
theorem Sp.field {α : Type} {base : Nat} {e : TypeId} {g cap : Nat} (f : α → List Value) (k : Nat) (hf : ∀ a, (f a).length = k) {rs : List α}
    (h : Sp w b K W (rOwn base e k (.slice (some ⟨g, 0, none⟩) rs.length cap) rs.length (rs.flatMap f) :: l)) (i j : Nat) (hi : i < rs.length) (hj : j < k) (u : Value) (r' : α) (hr : f r' = (f rs[i]).set j u) :
    Sp w b K (W.setCell ⟨g, i * k + j, none⟩ u) (rOwn base e k (.slice (some ⟨g, 0, none⟩) (rs.set i r').length cap) (rs.set i r').length ((rs.set i r').flatMap f) :: l) := by
  have ho : W.ownsRow base e k (.slice (some ⟨g, 0, none⟩) rs.length cap) rs.length (rs.flatMap f) := h.head
  exact h.store_ (g := g) rfl (i * k + j) u (own_store f k hf ho i j hi hj u r' hr) (rOwn_ok _ _ _ _ _ _) (fun k hk => hk)
/-- the first two as one fact -/
theorem Sp.snoc {α : Type} {f : α → Rsc} {xs : List α} {a : α} (h : Sp w b K W (f a :: rAll f xs :: l)) (hf : ∀ a, (f a).Ok) : Sp w b K W (rAll f (xs ++ [a]) :: l) := by
  have h1 : (f a).P W := h.head
  have h2 : ∀ x ∈ xs, (f x).P W := h.tail.head
  refine h.tail.tail.cons (fun x hx => ?_) (rAll_ok hf _) (fun g hg => ?_) (fun s hs g hg hg2 => ?_)
  · rcases List.mem_append.1 hx with hx | hx
    · exact h2 x hx
    · simp at hx; subst hx; exact h1
  · obtain ⟨x, hx, hxg⟩ := hg
    rcases List.mem_append.1 hx with hx | hx
    · exact h.tail.new _ (List.mem_cons_self ..) g ⟨x, hx, hxg⟩
    · simp at hx; subst hx; exact h.new _ (List.mem_cons_self ..) g hxg
  · obtain ⟨x, hx, hxg⟩ := hg
    rcases List.mem_append.1 hx with hx | hx
    · exact (List.pairwise_cons.1 h.tail.apart).1 s hs g ⟨x, hx, hxg⟩ hg2
    · simp at hx; subst hx; exact (List.pairwise_cons.1 h.apart).1 s (List.mem_cons_of_mem _ hs) g hxg hg2
theorem Sp.allNil {α : Type} (h : Sp w b K W l) (f : α → Rsc) (hf : ∀ a, (f a).Ok) : Sp w b K W (rAll f [] :: l) :=
  h.cons (by intro a ha; cases ha) (rAll_ok hf _) (fun g hg => by obtain ⟨a, ha, _⟩ := hg; cases ha) (fun s _ g hg => by obtain ⟨a, ha, _⟩ := hg; cases ha)
/-- a fact that speaks of no block -/
theorem Sp.rd (h : Sp w b K W l) {size n : Nat} {v : Value} {xs : List Value} (hr : Rd w b size v n xs) : Rd W b size v n xs := hr.bx h.bx
theorem blkRd (size n : Nat) {g : Nat} {t : TypeId} {cs : Array Value} (h : Blk W g t cs) (hg : g ≠ b) (hn : n ≤ maxLen) (hs : cs.size = n * size) : Rd W b size (.slice (some ⟨g, 0, none⟩) n n) n cs.toList := by
  refine ⟨_, n, rfl, Nat.le_refl _, hn, by simpa using hs, (fun e => by cases e), fun _ => ⟨g, 0, rfl, hg, fun j u hu => ?_⟩⟩
  rw [Nat.zero_add, h.cell]
  simpa using hu
theorem Sp.ne {g : Nat} {t : TypeId} {cs : Array Value} (h : Sp w b K W l) (i : Nat) (hi : l[i]? = some (rBlk g t cs)) : g ≠ b := by
  have := (h.new _ (List.mem_of_getElem? hi) g rfl).1
  have := h.hb
  omega
end

theorem own_lies {v : Value} {g n c H : Nat} (h : v.ownBlock = some g ∨ g = H) : (Value.slice (some ⟨g, 0, none⟩) n c).ownBlock = v.ownBlock ∨ (Value.slice (some ⟨g, 0, none⟩) n c).ownBlock = some H := by
  rcases h with h | rfl
  · exact .inl h.symm
  · exact .inr rfl
def intLit (lo hi : Int) (cs : Array Value) : Bool := cs.toList.all (fun v => match v with | .int .i64 z => decide (lo ≤ z ∧ z ≤ hi) | _ => false)
theorem intLit_ok {lo hi : Int} {cs : Array Value} (h : intLit lo hi cs = true) : ∀ x ∈ cs.toList, ∃ z : Int, x = .int .i64 z ∧ lo ≤ z ∧ z ≤ hi := by
  intro x hx
  have := List.all_eq_true.1 h x hx
  cases x <;> simp at this
  rename_i k z
  cases k <;> simp at this
  exact ⟨z, rfl, this.1, this.2⟩
theorem intLit_at {lo hi : Int} {cs : Array Value} (h : intLit lo hi cs = true) (k : Nat) (hk : k < cs.size) : ∃ z : Int, cs[k]? = some (.int .i64 z) ∧ lo ≤ z ∧ z ≤ hi := by
  obtain ⟨z, hz, h1⟩ := intLit_ok h cs[k] (by simp)
  exact ⟨z, by rw [Array.getElem?_eq_getElem hk, hz], h1⟩
/-- the draws, with the resources carried along -/
def SpS (P : Value → Prop) (w : World) (b K : Nat) (l : List Rsc) (e : Ending) (w' : World) : Prop := ∃ v, e = .returned v ∧ P v ∧ Sp w b K w' l
def IsInt (lo hi : Int) (v : Value) : Prop := ∃ z : Int, v = .int .i64 z ∧ lo ≤ z ∧ z ≤ hi
def IsOf (xs : List Value) (v : Value) : Prop := v ∈ xs
section
variable {w W : World} {b K : Nat} {l : List Rsc}
theorem sp_next (h : Sp w b K W l) (n : Int) (hn : 1 ≤ n) (hn' : n ≤ 9223372036854775807) (hK : K ≤ 10000000) :
    Calls Tryz.prog 47 #[.pointer (some ⟨b, 0, none⟩), .int .i64 n] W (SpS (IsInt 0 (n - 1)) w b (K + 1) l) :=
  (next_calls b K n W hn hn' h.strm hK).mono (fun _e _w' ⟨v, he, h1, h2, hs, hb⟩ => ⟨_, he, ⟨v, rfl, h1, h2⟩, h.call hs hb⟩)
/-- one of the numbers of a literal that is the i-th resource -/
theorem sp_pick (h : Sp w b K W l) (i : Nat) {g n : Nat} {t : TypeId} {cs : Array Value} (hi : l[i]? = some (rBlk g t cs)) (h0 : 0 < n) (hn : n ≤ maxLen) (hs : cs.size = n) (hx : ∀ x ∈ cs.toList, ∃ z, x = .int .i64 z) (hK : K ≤ 10000000) :
    Calls Tryz.prog 46 #[.pointer (some ⟨b, 0, none⟩), .slice (some ⟨g, 0, none⟩) n n] W (SpS (IsOf cs.toList) w b (K + 1) l) :=
  (pick_calls b K _ n n cs.toList W h0 (blkRd 1 n (h.nth i hi) (h.ne i hi) hn (by omega)) hx h.strm hK).mono (fun e w' ⟨v, he, h1, hs, hb⟩ => ⟨_, he, h1, h.call hs hb⟩)
theorem sp_pickB (h : Sp w b K W l) (i : Nat) {g n : Nat} {t : TypeId} {cs : Array Value} (lo hh : Int) (hi : l[i]? = some (rBlk g t cs)) (h0 : 0 < n) (hn : n ≤ maxLen) (hs : cs.size = n) (hx : intLit lo hh cs = true) (hK : K ≤ 10000000) :
    Calls Tryz.prog 46 #[.pointer (some ⟨b, 0, none⟩), .slice (some ⟨g, 0, none⟩) n n] W (SpS (IsInt lo hh) w b (K + 1) l) :=
  (sp_pick h i hi h0 hn hs (fun x hx' => by obtain ⟨z, hz, _⟩ := intLit_ok hx x hx'; exact ⟨z, hz⟩) hK).mono (fun e w' ⟨v, he, h1, hs⟩ => ⟨_, he, intLit_ok hx v h1, hs⟩)
theorem sp_pickL (h : Sp w b K W l) (cs : Array Value) (t : TypeId) (n : Nat) (lo hh : Int) (h0 : 0 < n) (hn : n ≤ maxLen) (hs : cs.size = n) (hx : intLit lo hh cs = true) (hK : K ≤ 10000000) :
    Calls Tryz.prog 46 #[.pointer (some ⟨b, 0, none⟩), .slice (some ⟨W.heap.size, 0, none⟩) n n] (W.alloc (.cells cs t)) (SpS (IsInt lo hh) w b (K + 1) l) :=
  (sp_pickB (h.add cs t) 0 lo hh rfl h0 hn hs hx hK).mono (fun _e _w' ⟨_v, he, h1, hs⟩ => ⟨_, he, h1, hs.tail⟩)
end
end Go.Proofs.YthbcogekfdllmaaGreatDoor
