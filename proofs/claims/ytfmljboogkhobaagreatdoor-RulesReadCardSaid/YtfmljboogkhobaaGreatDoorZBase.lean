/-
  Words for memory that all proofs of this seat use: what a call may have turned ('Bx'), a slice that reads as a list of cells ('Rd'), and small lemmas on worlds. No Go text is named here.
-/
import Derived.WalkKit
import Derived.Below
import Derived.Laws.OwnMore
import Derived.Deep.AppendLies
import Derived.Deep.Draws
import Derived.Deep.QuietTactic
import Derived.BigQuiet
import Derived.Maps.AppendAt
import Derived.Lib.Hide
import Derived.WalkLawsBesides
import Derived.WalkSpells
import Derived.OwnWalk
namespace Go.Proofs.YtfmljboogkhobaaGreatDoor
open Go Go.RowKit

/-- Below block B, but for block b, w' is as w was. Where b is not below B: 'Below B'. -/
structure Bx (B b : Nat) (w w' : World) : Prop where
  os : w'.os = w.os
  tape : w'.tape = w.tape
  output : w'.output = w.output
  size : w.heap.size ≤ w'.heap.size
  block : ∀ k, k < B → k ≠ b → w'.heap[k]? = w.heap[k]?

section
variable {B B' b : Nat} {w w' w'' : World}
theorem Bx.refl (B b : Nat) (w : World) : Bx B b w w := ⟨rfl, rfl, rfl, Nat.le_refl _, fun _ _ _ => rfl⟩
theorem Bx.trans (h : Bx B b w w') (k : Bx B b w' w'') : Bx B b w w'' :=
  ⟨k.os.trans h.os, k.tape.trans h.tape, k.output.trans h.output, Nat.le_trans h.size k.size, fun i hi hn => (k.block i hi hn).trans (h.block i hi hn)⟩
theorem Bx.mono (h : Bx B b w w') (hB : B' ≤ B) : Bx B' b w w' := ⟨h.os, h.tape, h.output, h.size, fun k hk hn => h.block k (Nat.lt_of_lt_of_le hk hB) hn⟩
/-- behind a call that turned what it may -/
theorem Bx.call (h : Bx B b w w') (k : Bx w'.heap.size b w' w'') (hB : B ≤ w.heap.size) : Bx B b w w'' :=
  h.trans (k.mono (Nat.le_trans hB h.size))
theorem Bx.of_below (h : Below B w w') (b : Nat) : Bx B b w w' := ⟨h.os, h.tape, h.output, h.size, fun k hk _ => h.block k hk⟩
theorem Bx.callB (h : Bx B b w w') (k : Below w'.heap.size w' w'') (hB : B ≤ w.heap.size) : Bx B b w w'' := h.call (Bx.of_below k b) hB
theorem Bx.below (h : Bx B b w w') (hb : B ≤ b) : Below B w w' := ⟨h.os, h.tape, h.output, h.size, fun k hk => h.block k hk (by omega)⟩
theorem Bx.drew (h : Bx B b w w') : Bx B b w w'.drew := ⟨h.os, h.tape, h.output, h.size, h.block⟩
theorem Bx.drewN (h : Bx B b w w') (n : Nat) : Bx B b w (w'.drewN n) := ⟨h.os, h.tape, h.output, h.size, h.block⟩
theorem Bx.alloc (h : Bx B b w w') (hB : B ≤ w.heap.size) (o : Obj) : Bx B b w (w'.alloc o) :=
  h.trans ⟨rfl, rfl, rfl, by simp, fun k hk _ => Below.heap_alloc _ _ _ (by have := h.size; omega)⟩
theorem Bx.setCell (h : Bx B b w w') {p : Addr} (hp : p.block = b ∨ B ≤ p.block) (u : Value) : Bx B b w (w'.setCell p u) :=
  h.trans ⟨rfl, rfl, rfl, by simp [World.setCell], fun k hk hn => Below.heap_setCell _ _ _ _ (by rcases hp with hp | hp <;> omega)⟩
theorem Bx.grown {row : Option Nat} (h : Bx B b w w') (hg : w'.grownBy w'' row) (hB : B ≤ w.heap.size) (hr : ∀ k, row = some k → k = b ∨ B ≤ k) : Bx B b w w'' :=
  h.trans ⟨hg.os, hg.tape, hg.output, hg.size, fun k hk hn => hg.block k (by have := h.size; omega) (fun e => by rcases hr k e.symm with h | h <;> omega)⟩
theorem Bx.cell_ (h : Bx B b w w') {p : Addr} (hp : p.block < B) (hn : p.block ≠ b) : w'.cell? p = w.cell? p := World.cell?_of_block (w := w) (h.block p.block hp hn)
theorem Bx.frozen_ (h : Bx B b w w') {p : Addr} (hp : p.block < B) (hn : p.block ≠ b) : w'.frozen? p = w.frozen? p := World.frozen?_of_block (w := w) (h.block p.block hp hn)
theorem Bx.cell (h : Bx w.heap.size b w w') {p : Addr} {u : Value} (hc : w.cell? p = some u) (hn : p.block ≠ b) : w'.cell? p = some u :=
  (h.cell_ (World.block_lt_of_cell? w p hc) hn).trans hc
theorem Bx.heap (h : Bx w.heap.size b w w') {k : Nat} {o : Obj} (hc : w.heap[k]? = some o) (hn : k ≠ b) : w'.heap[k]? = some o :=
  (h.block k (Array.getElem?_eq_some_iff.1 hc).1 hn).trans hc
theorem Bx.grownBy (h : Bx w.heap.size b w w') : w.grownBy w' (some b) := ⟨h.os, h.tape, h.output, h.size, fun k hk hn => h.block k hk (fun e => hn (by rw [e]))⟩
theorem Bx.of_grownBy {row : Option Nat} (h : w.grownBy w' row) (hr : ∀ k, row = some k → k = b) : Bx w.heap.size b w w' :=
  ⟨h.os, h.tape, h.output, h.size, fun k hk hn => h.block k hk (fun e => hn (hr k e.symm))⟩
theorem own_bx {base : Nat} {e : TypeId} {size n : Nat} {v : Value} {xs : List Value} (h : w.ownsRow base e size v n xs) (k : Bx w.heap.size b w w') (hb : b < base) : w'.ownsRow base e size v n xs :=
  h.kept k.grownBy (by
    cases hv : v.ownBlock with
    | none => exact .inl rfl
    | some g => exact .inr (fun e => by injection e with e; have := (h.lt g hv).1; omega))
theorem own_below {base : Nat} {e : TypeId} {size n : Nat} {v : Value} {xs : List Value} (h : w.ownsRow base e size v n xs) (k : Below w.heap.size w w') : w'.ownsRow base e size v n xs := by
  refine ⟨h.1, ?_⟩
  rcases h.2 with hn | ⟨g, cap, cur, rfl, hb, hgg, rest⟩
  · exact .inl hn
  · exact .inr ⟨g, cap, cur, rfl, hb, (k.block g (Array.getElem?_eq_some_iff.1 hgg).1).trans hgg, rest⟩
theorem own_drew {base : Nat} {e : TypeId} {size n : Nat} {v : Value} {xs : List Value} (h : w.ownsRow base e size v n xs) : w.drew.ownsRow base e size v n xs := h
theorem own_drewN {base : Nat} {e : TypeId} {size n : Nat} {v : Value} {xs : List Value} (h : w.ownsRow base e size v n xs) (m : Nat) : (w.drewN m).ownsRow base e size v n xs := h
theorem below_drewN (h : Below B w w') (n : Nat) : Below B w (w'.drewN n) := ⟨h.os, h.tape, h.output, h.size, h.block⟩
theorem below_call (h : Below B w w') (k : Below w'.heap.size w' w'') (hB : B ≤ w.heap.size) : Below B w w'' := h.trans (k.mono (Nat.le_trans hB h.size))
theorem below_cell (h : Below w.heap.size w w') {p : Addr} {u : Value} (hc : w.cell? p = some u) : w'.cell? p = some u := (h.cell (World.block_lt_of_cell? w p hc)).trans hc
end

theorem block_add (a : Addr) (n : Nat) : (a.add n).block = a.block := by unfold Addr.add; split <;> rfl
theorem add_add_ (a : Addr) (i j : Nat) : (a.add i).add j = a.add (i + j) := by
  unfold Addr.add
  by_cases hi : i = 0 <;> by_cases hj : j = 0 <;> simp [hi, hj, Nat.add_assoc]

/-- The slice value v, of n elements of 'size' cells each, reads as the cells xs; it lies in a block other than b. -/
def Rd (w : World) (b size : Nat) (v : Value) (n : Nat) (xs : List Value) : Prop :=
  ∃ (A : Option Addr) (c : Nat), v = .slice A n c ∧ n ≤ c ∧ c ≤ maxLen ∧ xs.length = n * size ∧ (A = none → n = 0 ∧ c = 0) ∧
    (0 < n → ∃ g o, A = some ⟨g, o, none⟩ ∧ g ≠ b ∧ ∀ j u, xs[j]? = some u → w.cell? ⟨g, o + j, none⟩ = some u)

section
variable {w w' : World} {b size n : Nat} {v : Value} {xs : List Value}
theorem Rd.bx (h : Rd w b size v n xs) (k : Bx w.heap.size b w w') : Rd w' b size v n xs := by
  obtain ⟨A, c, e1, e2, e3, e4, e5, e6⟩ := h
  refine ⟨A, c, e1, e2, e3, e4, e5, fun hn => ?_⟩
  obtain ⟨g, o, f1, f2, f3⟩ := e6 hn
  exact ⟨g, o, f1, f2, fun j u hu => k.cell (f3 j u hu) f2⟩
theorem Rd.below (h : Rd w b size v n xs) (k : Below w.heap.size w w') : Rd w' b size v n xs := h.bx (Bx.of_below k b)
theorem Rd.nil (w : World) (b size : Nat) : Rd w b size (.slice none 0 0) 0 [] := ⟨none, 0, rfl, Nat.le_refl _, Nat.zero_le _, by simp, fun _ => ⟨rfl, rfl⟩, fun h => absurd h (by omega)⟩
theorem Rd.len (h : Rd w b size v n xs) : xs.length = n * size := by obtain ⟨_, _, _, _, _, h, _⟩ := h; exact h
theorem Rd.of_own {base : Nat} {e : TypeId} (h : w.ownsRow base e size v n xs) (hb : ∀ k, v.ownBlock = some k → k ≠ b) : Rd w b size v n xs := by
  rcases h.2 with ⟨rfl, rfl⟩ | ⟨g, cap, cur, rfl, hB, hg, h1, h2, h3, h4⟩
  · have := h.1
    simp at this
    subst this
    exact Rd.nil w b size
  · refine ⟨_, cap, rfl, h1, h2, h.1, (fun e => by cases e), fun _ => ⟨g, 0, rfl, hb g rfl, fun j u hu => ?_⟩⟩
    have := h.cells (g := g) rfl j u hu
    rw [Nat.zero_add]
    have hadd : (⟨g, 0, none⟩ : Addr).add j = ⟨g, j, none⟩ := by unfold Addr.add; split <;> simp_all
    rw [hadd] at this
    exact this
theorem Rd.own {base : Nat} {e : TypeId} (h : w.ownsRow base e size v n xs) (hb : b < base) : Rd w b size v n xs :=
  Rd.of_own h fun k hk => by have := (h.lt k hk).1; omega
/-- a slice literal -/
theorem Rd.lit (w : World) (b size n : Nat) (cs : Array Value) (t : TypeId) (hb : b ≠ w.heap.size) (hn : n ≤ maxLen) (hs : cs.size = n * size) :
    Rd (w.alloc (.cells cs t)) b size (.slice (some ⟨w.heap.size, 0, none⟩) n n) n cs.toList := by
  refine ⟨_, n, rfl, Nat.le_refl _, hn, by simpa using hs, (fun e => by cases e), fun _ => ⟨w.heap.size, 0, rfl, fun e => hb e.symm, fun j u hu => ?_⟩⟩
  rw [Nat.zero_add, cell_of_row _ w.heap.size j cs t (0, 0) (heap_alloc_new w _)]
  simpa using hu
theorem Rd.lit0 {w : World} {cs : Array Value} {t : TypeId} {size : Nat} {n : Nat} {b : Nat} (hb : b < w.heap.size) (hn : n ≤ maxLen) (hs : cs.size = n * size) :
    Rd (w.alloc (.cells cs t)) b size (.slice (some ⟨w.heap.size, 0, none⟩) n n) n cs.toList := Rd.lit w b size n cs t (by omega) hn hs
/-- a slice of a heap that has no block b yet, or does not reach it -/
theorem Rd.to (h : Rd w b size v n xs) (hs : 0 < size) {b' : Nat} (hb : w.heap.size ≤ b') : Rd w b' size v n xs := by
  obtain ⟨A, c, e1, e2, e3, e4, e5, e6⟩ := h
  refine ⟨A, c, e1, e2, e3, e4, e5, fun hn => ?_⟩
  obtain ⟨g, o, f1, f2, f3⟩ := e6 hn
  have hlt : 0 < xs.length := by rw [e4]; exact Nat.mul_pos hn hs
  have := World.block_lt_of_cell? w _ (f3 0 _ (List.getElem?_eq_getElem hlt))
  exact ⟨g, o, f1, by simp at this; omega, f3⟩
end

/-- block g is just the cells cs of element type t, none frozen -/
def Blk (w : World) (g : Nat) (t : TypeId) (cs : Array Value) : Prop := w.heap[g]? = some (.cells cs t (0, 0))
section
variable {w w' : World} {g : Nat} {t : TypeId} {cs : Array Value}
theorem Blk.lt (h : Blk w g t cs) : g < w.heap.size := by
  rcases Nat.lt_or_ge g w.heap.size with hlt | hge
  · exact hlt
  · unfold Blk at h; rw [Array.getElem?_eq_none hge] at h; cases h
theorem Blk.cell (h : Blk w g t cs) (i : Nat) : w.cell? ⟨g, i, none⟩ = cs[i]? := cell_of_row w g i cs t (0, 0) h
theorem Blk.frozen (h : Blk w g t cs) (i : Nat) : w.frozen? ⟨g, i, none⟩ = false := by
  unfold Blk at h
  simp [World.frozen?, h]
theorem Blk.new (w : World) (t : TypeId) (cs : Array Value) : Blk (w.alloc (.cells cs t)) w.heap.size t cs := heap_alloc_new w _
theorem Blk.drew (h : Blk w g t cs) : Blk w.drew g t cs := h
theorem Blk.drewN (h : Blk w g t cs) (n : Nat) : Blk (w.drewN n) g t cs := h
theorem Blk.alloc (h : Blk w g t cs) (o : Obj) : Blk (w.alloc o) g t cs := (Below.heap_alloc w o g h.lt).trans h
theorem Blk.set_ (h : Blk w g t cs) (i : Nat) (u : Value) : Blk (w.setCell ⟨g, i, none⟩ u) g t (cs.setIfInBounds i u) := by
  unfold Blk at h ⊢
  simp [World.setCell, Array.getElem?_modify, h]
theorem Blk.far (h : Blk w g t cs) {p : Addr} (hp : g ≠ p.block) (u : Value) : Blk (w.setCell p u) g t cs := (Below.heap_setCell w p u g hp).trans h
theorem Blk.below (h : Blk w g t cs) (hb : Below w.heap.size w w') : Blk w' g t cs := (hb.block g h.lt).trans h
theorem Blk.bx {b : Nat} (h : Blk w g t cs) (hb : Bx w.heap.size b w w') (hg : g ≠ b) : Blk w' g t cs := (hb.block g h.lt hg).trans h
theorem Blk.grown {row : Option Nat} (h : Blk w g t cs) (hb : w.grownBy w' row) (hg : some g ≠ row) : Blk w' g t cs := (hb.block g h.lt hg).trans h
theorem Blk.ne_ {g' : Nat} {t' : TypeId} {cs' : Array Value} (h : Blk w g t cs) (h' : Blk w g' t' cs') (hne : t ≠ t') : g ≠ g' := by
  rintro rfl
  unfold Blk at h h'
  rw [h] at h'
  injection h' with h'
  injection h' with _ ht
  exact hne ht
theorem own_blk_ne {base : Nat} {e : TypeId} {size n : Nat} {v : Value} {xs : List Value} (h : w.ownsRow base e size v n xs) (hg : Blk w g t cs) (hne : e ≠ t) : v.ownBlock ≠ some g := by
  rcases h.2 with ⟨rfl, _⟩ | ⟨g', cap, cur, rfl, _, hh, _⟩
  · simp [Value.ownBlock]
  · intro he
    have : g' = g := by simpa [Value.ownBlock] using he
    subst this
    exact Blk.ne_ (t := e) hh hg hne rfl
theorem own_cap {base : Nat} {e : TypeId} {size n c : Nat} {A : Option Addr} {xs : List Value} (h : w.ownsRow base e size (.slice A n c) n xs) : n ≤ c ∧ c ≤ maxLen := by
  rcases h.2 with ⟨he, _⟩ | ⟨g, cap, cur, he, _, _, h1, h2, _⟩
  · injection he with _ h1 h2; subst h1 h2; exact ⟨Nat.le_refl _, Nat.zero_le _⟩
  · injection he with _ _ h3; subst h3; exact ⟨h1, h2⟩
theorem own_form {base : Nat} {e : TypeId} {size n : Nat} {v : Value} {xs : List Value} (h : w.ownsRow base e size v n xs) : ∃ A c, v = .slice A n c := by
  rcases h.2 with ⟨rfl, rfl⟩ | ⟨g, cap, cur, rfl, _⟩
  · exact ⟨none, 0, rfl⟩
  · exact ⟨_, _, rfl⟩
theorem own_two {base base' : Nat} {e e' : TypeId} {size size' n n' : Nat} {v v' : Value} {xs xs' : List Value} (h : w.ownsRow base e size v n xs) (h' : w.ownsRow base' e' size' v' n' xs') (hne : e ≠ e')
    (hg : w.grownBy w' v.ownBlock) : w'.ownsRow base' e' size' v' n' xs' := by
  refine h'.kept hg ?_
  rcases h'.2 with ⟨rfl, _⟩ | ⟨g, cap, cur, rfl, _, hh, _⟩
  · exact .inl rfl
  · exact .inr (fun he => own_blk_ne h (g := g) hh hne he.symm)
theorem Blk.one {x : Value} (h : Blk w g t #[x]) : w.cell? ⟨g, 0, none⟩ = some x ∧ w.frozen? ⟨g, 0, none⟩ = false := ⟨h.cell 0, h.frozen 0⟩
theorem Blk.two {x y : Value} (h : Blk w g t #[x, y]) : w.cell? ⟨g, 0, none⟩ = some x ∧ w.cell? ⟨g, 1, none⟩ = some y ∧ w.frozen? ⟨g, 0, none⟩ = false ∧ w.frozen? ⟨g, 1, none⟩ = false :=
  ⟨h.cell 0, h.cell 1, h.frozen 0, h.frozen 1⟩
theorem Blk.three {x y z : Value} (h : Blk w g t #[x, y, z]) : w.cell? ⟨g, 0, none⟩ = some x ∧ w.cell? ⟨g, 1, none⟩ = some y ∧ w.cell? ⟨g, 2, none⟩ = some z ∧ w.frozen? ⟨g, 0, none⟩ = false ∧ w.frozen? ⟨g, 1, none⟩ = false ∧ w.frozen? ⟨g, 2, none⟩ = false :=
  ⟨h.cell 0, h.cell 1, h.cell 2, h.frozen 0, h.frozen 1, h.frozen 2⟩
end

theorem flat_snoc {α : Type} (f : α → List Value) (rs : List α) (r : α) : (rs ++ [r]).flatMap f = rs.flatMap f ++ f r := by simp
/-- a number of an int -/
def I64 (n : Int) : Prop := -9223372036854775808 ≤ n ∧ n ≤ 9223372036854775807
end Go.Proofs.YtfmljboogkhobaaGreatDoor
/-
  Slices of structs: their cells, a field that is stored; what quiet and memory-making calls answer. No Go text is named here.
-/
namespace Go.Proofs.YtfmljboogkhobaaGreatDoor
open Go Go.RowKit

theorem flat_get {α : Type} (f : α → List Value) (k : Nat) (hf : ∀ a, (f a).length = k) : ∀ (rs : List α) (i j : Nat) (hi : i < rs.length), j < k → (rs.flatMap f)[i * k + j]? = (f rs[i])[j]?
  | [], i, j, hi, _ => by simp at hi
  | r :: rs, 0, j, _, hj => by
    simp only [List.flatMap_cons, Nat.zero_mul, Nat.zero_add, List.getElem_cons_zero]
    rw [List.getElem?_append_left (by rw [hf]; exact hj)]
  | r :: rs, i + 1, j, hi, hj => by
    simp only [List.flatMap_cons, List.getElem_cons_succ]
    rw [List.getElem?_append_right (by rw [hf, Nat.add_mul]; omega), hf, show (i + 1) * k + j - k = i * k + j by rw [Nat.add_mul]; omega]
    exact flat_get f k hf rs i j (by simpa using hi) hj
theorem flat_len {α : Type} (f : α → List Value) (k : Nat) (hf : ∀ a, (f a).length = k) (rs : List α) : (rs.flatMap f).length = rs.length * k := by
  induction rs with
  | nil => simp
  | cons r rs ih => simp only [List.flatMap_cons, List.length_append, hf, ih, List.length_cons, Nat.add_mul]; omega
theorem flat_set {α : Type} (f : α → List Value) (k : Nat) (hf : ∀ a, (f a).length = k) (u : Value) : ∀ (rs : List α) (i j : Nat) (hi : i < rs.length) (r' : α), j < k → f r' = (f rs[i]).set j u → (rs.flatMap f).set (i * k + j) u = (rs.set i r').flatMap f
  | [], i, j, hi, _, _, _ => by simp at hi
  | r :: rs, 0, j, _, r', hj, h => by
    simp only [List.flatMap_cons, Nat.zero_mul, Nat.zero_add, List.set_cons_zero, List.getElem_cons_zero] at h ⊢
    rw [h, List.set_append_left _ _ (by rw [hf]; exact hj)]
  | r :: rs, i + 1, j, hi, r', hj, h => by
    simp only [List.flatMap_cons, List.set_cons_succ, List.getElem_cons_succ] at h ⊢
    rw [List.set_append_right _ _ (by rw [hf, Nat.add_mul]; omega), hf, show (i + 1) * k + j - k = i * k + j by rw [Nat.add_mul]; omega, flat_set f k hf u rs i j (by simpa using hi) r' hj h]
/-- a field of an owned struct is stored -/
theorem own_store {α : Type} {w : World} {base : Nat} {e : TypeId} {g cap : Nat} (f : α → List Value) (k : Nat) (hf : ∀ a, (f a).length = k) {rs : List α}
    (h : w.ownsRow base e k (.slice (some ⟨g, 0, none⟩) rs.length cap) rs.length (rs.flatMap f)) (i j : Nat) (hi : i < rs.length) (hj : j < k) (u : Value) (r' : α) (hr : f r' = (f rs[i]).set j u) :
    (w.setCell ⟨g, i * k + j, none⟩ u).ownsRow base e k (.slice (some ⟨g, 0, none⟩) (rs.set i r').length cap) (rs.set i r').length ((rs.set i r').flatMap f) := by
  have := (h.stored (i * k + j) u).1
  rw [flat_set f k hf u rs i j hi r' hj hr] at this
  rw [List.length_set]
  exact this
theorem own_cell {α : Type} {w : World} {base : Nat} {e : TypeId} {g cap n : Nat} (f : α → List Value) (k : Nat) (hf : ∀ a, (f a).length = k) {rs : List α}
    (h : w.ownsRow base e k (.slice (some ⟨g, 0, none⟩) n cap) n (rs.flatMap f)) (i j : Nat) (hi : i < rs.length) (hn : i < n) (hj : j < k) : w.cell? ⟨g, i * k + j, none⟩ = (f rs[i])[j]? := by
  rw [h.cellAt (i * k + j) (by
    calc i * k + j < i * k + k := by omega
      _ = (i + 1) * k := by rw [Nat.add_mul, Nat.one_mul]
      _ ≤ n * k := Nat.mul_le_mul_right _ hn), flat_get f k hf rs i j hi hj]
/-- the cells of a slice of structs -/
theorem Rd.cells {α : Type} {w : World} {b k n c : Nat} {A : Option Addr} {f : α → List Value} {rs : List α} (h : Rd w b k (.slice A n c) n (rs.flatMap f)) (hf : ∀ a, (f a).length = k) (hk : 0 < k) :
    rs.length = n ∧ n ≤ c ∧ c ≤ maxLen ∧ (0 < n → ∃ g o, A = some ⟨g, o, none⟩ ∧ g ≠ b ∧ ∀ i (hi : i < rs.length) j, j < k → w.cell? ⟨g, o + i * k + j, none⟩ = (f rs[i])[j]?) := by
  obtain ⟨A', c', e1, e2, e3, e4, e5, e6⟩ := h
  injection e1 with ea eb ec
  subst ea ec
  have hl : rs.length = n := by
    have := e4
    rw [flat_len f k hf] at this
    exact Nat.eq_of_mul_eq_mul_right hk this
  refine ⟨hl, e2, e3, fun hn => ?_⟩
  obtain ⟨g, o, f1, f2, f3⟩ := e6 hn
  refine ⟨g, o, f1, f2, fun i hi j hj => ?_⟩
  have hg := flat_get f k hf rs i j hi hj
  have hlt : j < (f rs[i]).length := by rw [hf]; exact hj
  rw [List.getElem?_eq_getElem hlt] at hg ⊢
  rw [Nat.add_assoc]
  exact f3 _ _ hg
theorem own_base {w : World} {base base' : Nat} {e : TypeId} {size n : Nat} {v : Value} {xs : List Value} (h : w.ownsRow base e size v n xs) (hb : base' ≤ base) : w.ownsRow base' e size v n xs := by
  refine ⟨h.1, ?_⟩
  rcases h.2 with h' | ⟨g, cap, cur, h1, h2, h3⟩
  · exact .inl h'
  · exact .inr ⟨g, cap, cur, h1, by omega, h3⟩
theorem mul_bd {x y X Y : Int} (h0 : -X ≤ x) (h1 : x ≤ X) (k0 : 0 ≤ y) (k1 : y ≤ Y) (hX : 0 ≤ X) : -(X * Y) ≤ x * y ∧ x * y ≤ X * Y := by
  have a1 := Int.mul_le_mul_of_nonneg_right h1 k0
  have a2 := Int.mul_le_mul_of_nonneg_left k1 hX
  have a3 := Int.mul_le_mul_of_nonneg_right h0 k0
  rw [Int.neg_mul] at a3
  omega
/-- the call returns v and at most draws -/
def QRet (v : Value) (w : World) (e : Ending) (w' : World) : Prop := e = .returned v ∧ ∃ n, w' = w.drewN n
/-- the call returns v and has made at most new memory -/
def BRet (v : Value) (w : World) (e : Ending) (w' : World) : Prop := e = .returned v ∧ Below w.heap.size w w'
theorem ret_int {k : IntKind} {a b : Int} (h : a = b) : Ending.returned (.int k a) = .returned (.int k b) := by rw [h]
end Go.Proofs.YtfmljboogkhobaaGreatDoor
/-
  What a walk holds of a world: old memory is as it was, and some blocks of the call's own are known whole (Bs).
-/
namespace Go.Proofs.YtfmljboogkhobaaGreatDoor
open Go Go.RowKit

/-- old memory is as it was; the listed blocks (number, element type, cells) are known whole -/
def Bs (w W : World) (l : List (Nat × TypeId × Array Value)) : Prop := Below w.heap.size w W ∧ ∀ p ∈ l, Blk W p.1 p.2.1 p.2.2
section
variable {w W W' : World} {l : List (Nat × TypeId × Array Value)}
theorem Bs.start (w : World) : Bs w w [] := ⟨Below.refl _ _, fun p hp => by cases hp⟩
theorem Bs.below (h : Bs w W l) (k : Below W.heap.size W W') : Bs w W' l := ⟨below_call h.1 k (Nat.le_refl _), fun p hp => (h.2 p hp).below k⟩
theorem Bs.drew (h : Bs w W l) : Bs w W.drew l := h.below (below_drewN (Below.refl _ _) 1)
theorem Bs.drewN (h : Bs w W l) (k : Nat) : Bs w (W.drewN k) l := h.below (below_drewN (Below.refl _ _) k)
theorem Bs.alloc (h : Bs w W l) (o : Obj) : Bs w (W.alloc o) l := h.below ((Below.refl _ _).alloc (Nat.le_refl _) o)
theorem Bs.add (h : Bs w W l) (cs : Array Value) (t : TypeId) : Bs w (W.alloc (.cells cs t)) ((W.heap.size, t, cs) :: l) := by
  have h' := h.alloc (.cells cs t)
  refine ⟨h'.1, fun p hp => ?_⟩
  rcases List.mem_cons.1 hp with rfl | hp
  · exact Blk.new W t cs
  · exact h'.2 p hp
theorem Bs.push {g : Nat} {t : TypeId} {cs : Array Value} (h : Bs w W l) (hg : Blk W g t cs) : Bs w W ((g, t, cs) :: l) :=
  ⟨h.1, fun p hp => by
    rcases List.mem_cons.1 hp with rfl | hp
    · exact hg
    · exact h.2 p hp⟩
theorem Bs.rebase (h : Bs w W l) : Bs W W l := ⟨Below.refl _ _, h.2⟩
theorem Bs.tail {a : Nat × TypeId × Array Value} (h : Bs w W (a :: l)) : Bs w W l := ⟨h.1, fun p hp => h.2 p (List.mem_cons_of_mem _ hp)⟩
theorem Bs.head {g : Nat} {t : TypeId} {cs : Array Value} (h : Bs w W ((g, t, cs) :: l)) : Blk W g t cs := h.2 (g, t, cs) (List.mem_cons_self ..)
theorem Bs.at1 {a : Nat × TypeId × Array Value} {g : Nat} {t : TypeId} {cs : Array Value} (h : Bs w W (a :: (g, t, cs) :: l)) : Blk W g t cs := h.tail.head
theorem Bs.at2 {a b : Nat × TypeId × Array Value} {g : Nat} {t : TypeId} {cs : Array Value} (h : Bs w W (a :: b :: (g, t, cs) :: l)) : Blk W g t cs := h.tail.tail.head
theorem Bs.at3 {a b c : Nat × TypeId × Array Value} {g : Nat} {t : TypeId} {cs : Array Value} (h : Bs w W (a :: b :: c :: (g, t, cs) :: l)) : Blk W g t cs := h.tail.tail.tail.head
theorem Bs.cut1 {a : Nat × TypeId × Array Value} (h : Bs w W (a :: l)) : Bs w W [a] :=
  ⟨h.1, fun p hp => by
    have : p = a := by simpa using hp
    subst this
    exact h.2 _ (List.mem_cons_self ..)⟩
theorem Bs.swap2 {a b : Nat × TypeId × Array Value} (h : Bs w W (a :: b :: l)) : Bs w W (b :: a :: l) :=
  ⟨h.1, fun p hp => h.2 p (by
    rcases List.mem_cons.1 hp with rfl | hp
    · exact List.mem_cons_of_mem _ (List.mem_cons_self ..)
    · rcases List.mem_cons.1 hp with rfl | hp
      · exact List.mem_cons_self ..
      · exact List.mem_cons_of_mem _ (List.mem_cons_of_mem _ hp))⟩
/-- a store into a new block that the list does not name -/
theorem Bs.store (h : Bs w W l) {g : Nat} (hw : w.heap.size ≤ g) (hl : ∀ p ∈ l, p.1 ≠ g) (i : Nat) (u : Value) : Bs w (W.setCell ⟨g, i, none⟩ u) l :=
  ⟨h.1.setCell (p := ⟨g, i, none⟩) hw u, fun p hp => (h.2 p hp).far (p := ⟨g, i, none⟩) (hl p hp) u⟩
/-- a store into the block that the list names first -/
theorem Bs.set_ {g : Nat} {t : TypeId} {cs : Array Value} (h : Bs w W ((g, t, cs) :: l)) (hw : w.heap.size ≤ g) (hl : ∀ p ∈ l, p.1 ≠ g) (i : Nat) (u : Value) : Bs w (W.setCell ⟨g, i, none⟩ u) ((g, t, cs.setIfInBounds i u) :: l) :=
  (h.tail.store hw hl i u).push (h.head.set_ i u)
end

/-- a store into another block -/
theorem own_set {w : World} {base : Nat} {e : TypeId} {size n : Nat} {v : Value} {xs : List Value} (h : w.ownsRow base e size v n xs) {g : Nat} (hne : v.ownBlock ≠ some g) (i : Nat) (u : Value) : (w.setCell ⟨g, i, none⟩ u).ownsRow base e size v n xs :=
  h.kept (row := some g) ⟨rfl, rfl, rfl, by simp [World.setCell], fun k _ hk => Below.heap_setCell w ⟨g, i, none⟩ u k (fun e => hk (by rw [e]))⟩ (.inr hne)
theorem heap_new_s2 (w : World) (p q : Addr) (u v : Value) (o : Obj) : (((w.setCell p u).setCell q v).alloc o).heap[w.heap.size]? = some o := by
  have := heap_alloc_new ((w.setCell p u).setCell q v) o
  simpa [World.setCell] using this
theorem heap_new2 (w : World) (A B : Obj) : ((w.alloc A).alloc B).heap[w.heap.size + 1]? = some B := by
  have := heap_alloc_new (w.alloc A) B
  simpa using this
theorem heap_new3 (w : World) (A B C : Obj) : (((w.alloc A).alloc B).alloc C).heap[w.heap.size + 1 + 1]? = some C := by
  have := heap_alloc_new ((w.alloc A).alloc B) C
  simpa using this
theorem Bs.grown {w W W' : World} {l : List (Nat × TypeId × Array Value)} {row : Option Nat} (h : Bs w W l) (hg : W.grownBy W' row) (hr : ∀ k, row = some k → w.heap.size ≤ k) (hl : ∀ p ∈ l, row ≠ some p.1) : Bs w W' l :=
  ⟨h.1.grown hg h.1.size hr, fun p hp => (h.2 p hp).grown hg (hl p hp).symm⟩

/-- old memory is as it was; a list of the call's own; some other blocks of the call's own known whole -/
def Os (e : TypeId) (size : Nat) (w W : World) (v : Value) (n : Nat) (xs : List Value) (l : List (Nat × TypeId × Array Value)) : Prop :=
  W.ownsRow w.heap.size e size v n xs ∧ Bs w W l ∧ ∀ p ∈ l, v.ownBlock ≠ some p.1
section
variable {e : TypeId} {size : Nat} {w W W' : World} {v : Value} {n : Nat} {xs : List Value} {l : List (Nat × TypeId × Array Value)}
theorem Os.start (h : Bs w W l) : Os e size w W (.slice none 0 0) 0 [] l := ⟨World.ownsRow_nil _ _ _ _, h, fun p _ hp => by simp [Value.ownBlock] at hp⟩
theorem Os.below (h : Os e size w W v n xs l) (k : Below W.heap.size W W') : Os e size w W' v n xs l := ⟨own_below h.1 k, h.2.1.below k, h.2.2⟩
theorem Os.drew (h : Os e size w W v n xs l) : Os e size w W.drew v n xs l := h.below (below_drewN (Below.refl _ _) 1)
theorem Os.drewN (h : Os e size w W v n xs l) (k : Nat) : Os e size w (W.drewN k) v n xs l := h.below (below_drewN (Below.refl _ _) k)
theorem Os.alloc (h : Os e size w W v n xs l) (o : Obj) : Os e size w (W.alloc o) v n xs l := h.below ((Below.refl _ _).alloc (Nat.le_refl _) o)
theorem Os.add (h : Os e size w W v n xs l) (cs : Array Value) (t : TypeId) : Os e size w (W.alloc (.cells cs t)) v n xs ((W.heap.size, t, cs) :: l) := by
  have h' := h.alloc (.cells cs t)
  refine ⟨h'.1, h.2.1.add cs t, fun p hp => ?_⟩
  rcases List.mem_cons.1 hp with rfl | hp
  · intro hq
    have := (h.1.lt _ hq).2
    simp only at this
    omega
  · exact h.2.2 p hp
theorem Os.tail {a : Nat × TypeId × Array Value} (h : Os e size w W v n xs (a :: l)) : Os e size w W v n xs l := ⟨h.1, h.2.1.tail, fun p hp => h.2.2 p (List.mem_cons_of_mem _ hp)⟩
theorem Os.swap2 {a b : Nat × TypeId × Array Value} (h : Os e size w W v n xs (a :: b :: l)) : Os e size w W v n xs (b :: a :: l) :=
  ⟨h.1, h.2.1.swap2, fun p hp => h.2.2 p (by
    rcases List.mem_cons.1 hp with rfl | hp
    · exact List.mem_cons_of_mem _ (List.mem_cons_self ..)
    · rcases List.mem_cons.1 hp with rfl | hp
      · exact List.mem_cons_self ..
      · exact List.mem_cons_of_mem _ (List.mem_cons_of_mem _ hp))⟩
theorem Os.cut1 {a : Nat × TypeId × Array Value} (h : Os e size w W v n xs (a :: l)) : Os e size w W v n xs [a] :=
  ⟨h.1, h.2.1.cut1, fun p hp => h.2.2 p (by
    have : p = a := by simpa using hp
    rw [this]
    exact List.mem_cons_self ..)⟩
theorem Os.head {g : Nat} {t : TypeId} {cs : Array Value} (h : Os e size w W v n xs ((g, t, cs) :: l)) : Blk W g t cs := h.2.1.head
theorem Os.at1 {a : Nat × TypeId × Array Value} {g : Nat} {t : TypeId} {cs : Array Value} (h : Os e size w W v n xs (a :: (g, t, cs) :: l)) : Blk W g t cs := h.2.1.at1
/-- a store into the block that the list names first -/
theorem Os.set_ {g : Nat} {t : TypeId} {cs : Array Value} (h : Os e size w W v n xs ((g, t, cs) :: l)) (hw : w.heap.size ≤ g) (hl : ∀ p ∈ l, p.1 ≠ g) (i : Nat) (u : Value) : Os e size w (W.setCell ⟨g, i, none⟩ u) v n xs ((g, t, cs.setIfInBounds i u) :: l) := by
  refine ⟨?_, h.2.1.set_ hw hl i u, fun p hp => ?_⟩
  · refine h.1.kept (row := some g) ⟨rfl, rfl, rfl, by simp [World.setCell], fun k _ hk => Below.heap_setCell W ⟨g, i, none⟩ u k (fun e => hk (by rw [e]))⟩ ?_
    exact .inr (h.2.2 (g, t, cs) (List.mem_cons_self ..))
  · rcases List.mem_cons.1 hp with rfl | hp
    · exact h.2.2 (g, t, cs) (List.mem_cons_self ..)
    · exact h.2.2 p (List.mem_cons_of_mem _ hp)
/-- behind an append -/
theorem Os.append {v' : Value} {n' : Nat} {xs' : List Value} (h : Os e size w W v n xs l) (ho : W'.ownsRow w.heap.size e size v' n' xs') (hg : W.grownBy W' v.ownBlock) (hv : v'.ownBlock = v.ownBlock ∨ v'.ownBlock = some W.heap.size) : Os e size w W' v' n' xs' l := by
  refine ⟨ho, h.2.1.grown hg (fun k hk => (h.1.lt k hk).1) (fun p hp => h.2.2 p hp), fun p hp => ?_⟩
  rcases hv with hv | hv
  · rw [hv]; exact h.2.2 p hp
  · rw [hv]
    intro hq
    injection hq with hq
    have := (h.2.1.2 p hp).lt
    omega
end
end Go.Proofs.YtfmljboogkhobaaGreatDoor
