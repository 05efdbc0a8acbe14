/-
  Words for memory that all proofs of this seat use: what a call may have turned ('Bx'), a slice that reads as a list of cells ('Rd'), and small lemmas on worlds. No Go text is named here.
-/
import Derived.WalkKit
import Derived.Below
import Derived.Laws.OwnMore
import Derived.Deep.AppendLies
import Derived.Deep.Draws
import Derived.Deep.QuietTactic
import Derived.BigQuiet
import Derived.Maps.AppendAt
import Derived.Lib.Hide
import Derived.WalkLawsBesides
import Derived.WalkSpells
import Derived.OwnWalk
import Derived.Test.YtapgnaimbgjcnaaGreatDoorProg
namespace Go.Proofs.YtapgnaimbgjcnaaGreatDoor
open Go Go.RowKit
structure Bx (B b : Nat) (w w' : World) : Prop where
 os : w'.os = w.os
 tape : w'.tape = w.tape
 output : w'.output = w.output
 size : w.heap.size ≤ w'.heap.size
 block : ∀ k, k < B → k ≠ b → w'.heap[k]? = w.heap[k]?
section
variable {B B' b : Nat} {w w' w'' : World}
theorem Bx.refl (B b : Nat) (w : World) : Bx B b w w := ⟨rfl, rfl, rfl, Nat.le_refl _, fun _ _ _ => rfl⟩
theorem Bx.trans (h : Bx B b w w') (k : Bx B b w' w'') : Bx B b w w'' :=
 ⟨k.os.trans h.os, k.tape.trans h.tape, k.output.trans h.output, Nat.le_trans h.size k.size, fun i hi hn => (k.block i hi hn).trans (h.block i hi hn)⟩
theorem Bx.mono (h : Bx B b w w') (hB : B' ≤ B) : Bx B' b w w' := ⟨h.os, h.tape, h.output, h.size, fun k hk hn => h.block k (Nat.lt_of_lt_of_le hk hB) hn⟩
theorem Bx.call (h : Bx B b w w') (k : Bx w'.heap.size b w' w'') (hB : B ≤ w.heap.size) : Bx B b w w'' :=
 h.trans (k.mono (Nat.le_trans hB h.size))
theorem Bx.of_below (h : Below B w w') (b : Nat) : Bx B b w w' := ⟨h.os, h.tape, h.output, h.size, fun k hk _ => h.block k hk⟩
theorem Bx.callB (h : Bx B b w w') (k : Below w'.heap.size w' w'') (hB : B ≤ w.heap.size) : Bx B b w w'' := h.call (Bx.of_below k b) hB
theorem Bx.below (h : Bx B b w w') (hb : B ≤ b) : Below B w w' := ⟨h.os, h.tape, h.output, h.size, fun k hk => h.block k hk (by omega)⟩
theorem Bx.drew (h : Bx B b w w') : Bx B b w w'.drew := ⟨h.os, h.tape, h.output, h.size, h.block⟩
theorem Bx.drewN (h : Bx B b w w') (n : Nat) : Bx B b w (w'.drewN n) := ⟨h.os, h.tape, h.output, h.size, h.block⟩
theorem Bx.alloc (h : Bx B b w w') (hB : B ≤ w.heap.size) (o : Obj) : Bx B b w (w'.alloc o) :=
 h.trans ⟨rfl, rfl, rfl, by simp, fun k hk _ => Below.heap_alloc _ _ _ (by have := h.size; omega)⟩
theorem Bx.setCell (h : Bx B b w w') {p : Addr} (hp : p.block = b ∨ B ≤ p.block) (u : Value) : Bx B b w (w'.setCell p u) :=
 h.trans ⟨rfl, rfl, rfl, by simp [World.setCell], fun k hk hn => Below.heap_setCell _ _ _ _ (by rcases hp with hp | hp <;> omega)⟩
theorem Bx.grown {row : Option Nat} (h : Bx B b w w') (hg : w'.grownBy w'' row) (hB : B ≤ w.heap.size) (hr : ∀ k, row = some k → k = b ∨ B ≤ k) : Bx B b w w'' :=
 h.trans ⟨hg.os, hg.tape, hg.output, hg.size, fun k hk hn => hg.block k (by have := h.size; omega) (fun e => by rcases hr k e.symm with h | h <;> omega)⟩
theorem Bx.cell_ (h : Bx B b w w') {p : Addr} (hp : p.block < B) (hn : p.block ≠ b) : w'.cell? p = w.cell? p := World.cell?_of_block (w := w) (h.block p.block hp hn)
theorem Bx.cell (h : Bx w.heap.size b w w') {p : Addr} {u : Value} (hc : w.cell? p = some u) (hn : p.block ≠ b) : w'.cell? p = some u :=
 (h.cell_ (World.block_lt_of_cell? w p hc) hn).trans hc
theorem Bx.heap (h : Bx w.heap.size b w w') {k : Nat} {o : Obj} (hc : w.heap[k]? = some o) (hn : k ≠ b) : w'.heap[k]? = some o :=
 (h.block k (Array.getElem?_eq_some_iff.1 hc).1 hn).trans hc
theorem Bx.grownBy (h : Bx w.heap.size b w w') : w.grownBy w' (some b) := ⟨h.os, h.tape, h.output, h.size, fun k hk hn => h.block k hk (fun e => hn (by rw [e]))⟩
theorem own_below {base : Nat} {e : TypeId} {size n : Nat} {v : Value} {xs : List Value} (h : w.ownsRow base e size v n xs) (k : Below w.heap.size w w') : w'.ownsRow base e size v n xs := by
 refine ⟨h.1, ?_⟩
 rcases h.2 with hn | ⟨g, cap, cur, rfl, hb, hgg, rest⟩
 · exact .inl hn
 · exact .inr ⟨g, cap, cur, rfl, hb, (k.block g (Array.getElem?_eq_some_iff.1 hgg).1).trans hgg, rest⟩
theorem below_drewN (h : Below B w w') (n : Nat) : Below B w (w'.drewN n) := ⟨h.os, h.tape, h.output, h.size, h.block⟩
theorem below_call (h : Below B w w') (k : Below w'.heap.size w' w'') (hB : B ≤ w.heap.size) : Below B w w'' := h.trans (k.mono (Nat.le_trans hB h.size))
theorem below_cell (h : Below w.heap.size w w') {p : Addr} {u : Value} (hc : w.cell? p = some u) : w'.cell? p = some u := (h.cell (World.block_lt_of_cell? w p hc)).trans hc
end
def Rd (w : World) (b size : Nat) (v : Value) (n : Nat) (xs : List Value) : Prop :=
 ∃ (A : Option Addr) (c : Nat), v = .slice A n c ∧ n ≤ c ∧ c ≤ maxLen ∧ xs.length = n * size ∧ (A = none → n = 0 ∧ c = 0) ∧
  (0 < n → ∃ g o, A = some ⟨g, o, none⟩ ∧ g ≠ b ∧ ∀ j u, xs[j]? = some u → w.cell? ⟨g, o + j, none⟩ = some u)
section
variable {w w' : World} {b size n : Nat} {v : Value} {xs : List Value}
theorem Rd.bx (h : Rd w b size v n xs) (k : Bx w.heap.size b w w') : Rd w' b size v n xs := by
 obtain ⟨A, c, e1, e2, e3, e4, e5, e6⟩ := h
 refine ⟨A, c, e1, e2, e3, e4, e5, fun hn => ?_⟩
 obtain ⟨g, o, f1, f2, f3⟩ := e6 hn
 exact ⟨g, o, f1, f2, fun j u hu => k.cell (f3 j u hu) f2⟩
theorem Rd.below (h : Rd w b size v n xs) (k : Below w.heap.size w w') : Rd w' b size v n xs := h.bx (Bx.of_below k b)
theorem Rd.nil (w : World) (b size : Nat) : Rd w b size (.slice none 0 0) 0 [] := ⟨none, 0, rfl, Nat.le_refl _, Nat.zero_le _, by simp, fun _ => ⟨rfl, rfl⟩, fun h => absurd h (by omega)⟩
theorem Rd.len (h : Rd w b size v n xs) : xs.length = n * size := by obtain ⟨_, _, _, _, _, h, _⟩ := h; exact h
theorem Rd.of_own {base : Nat} {e : TypeId} (h : w.ownsRow base e size v n xs) (hb : ∀ k, v.ownBlock = some k → k ≠ b) : Rd w b size v n xs := by
 rcases h.2 with ⟨rfl, rfl⟩ | ⟨g, cap, cur, rfl, hB, hg, h1, h2, h3, h4⟩
 · have := h.1
   simp at this
   subst this
   exact Rd.nil w b size
 · refine ⟨_, cap, rfl, h1, h2, h.1, (fun e => by cases e), fun _ => ⟨g, 0, rfl, hb g rfl, fun j u hu => ?_⟩⟩
   have := h.cells (g := g) rfl j u hu
   rw [Nat.zero_add]
   have hadd : (⟨g, 0, none⟩ : Addr).add j = ⟨g, j, none⟩ := by unfold Addr.add; split <;> simp_all
   rw [hadd] at this
   exact this
theorem Rd.own {base : Nat} {e : TypeId} (h : w.ownsRow base e size v n xs) (hb : b < base) : Rd w b size v n xs :=
 Rd.of_own h fun k hk => by have := (h.lt k hk).1; omega
theorem Rd.lit (w : World) (b size n : Nat) (cs : Array Value) (t : TypeId) (hb : b ≠ w.heap.size) (hn : n ≤ maxLen) (hs : cs.size = n * size) :
 Rd (w.alloc (.cells cs t)) b size (.slice (some ⟨w.heap.size, 0, none⟩) n n) n cs.toList := by
 refine ⟨_, n, rfl, Nat.le_refl _, hn, by simpa using hs, (fun e => by cases e), fun _ => ⟨w.heap.size, 0, rfl, fun e => hb e.symm, fun j u hu => ?_⟩⟩
 rw [Nat.zero_add, cell_of_row _ w.heap.size j cs t (0, 0) (heap_alloc_new w _)]
 simpa using hu
theorem Rd.lit0 {w : World} {cs : Array Value} {t : TypeId} {size : Nat} {n : Nat} {b : Nat} (hb : b < w.heap.size) (hn : n ≤ maxLen) (hs : cs.size = n * size) :
 Rd (w.alloc (.cells cs t)) b size (.slice (some ⟨w.heap.size, 0, none⟩) n n) n cs.toList := Rd.lit w b size n cs t (by omega) hn hs
end
def Blk (w : World) (g : Nat) (t : TypeId) (cs : Array Value) : Prop := w.heap[g]? = some (.cells cs t (0, 0))
section
variable {w w' : World} {g : Nat} {t : TypeId} {cs : Array Value}
theorem Blk.lt (h : Blk w g t cs) : g < w.heap.size := by
 rcases Nat.lt_or_ge g w.heap.size with hlt | hge
 · exact hlt
 · unfold Blk at h; rw [Array.getElem?_eq_none hge] at h; cases h
theorem Blk.cell (h : Blk w g t cs) (i : Nat) : w.cell? ⟨g, i, none⟩ = cs[i]? := cell_of_row w g i cs t (0, 0) h
theorem Blk.frozen (h : Blk w g t cs) (i : Nat) : w.frozen? ⟨g, i, none⟩ = false := by
 unfold Blk at h
 simp [World.frozen?, h]
theorem Blk.new (w : World) (t : TypeId) (cs : Array Value) : Blk (w.alloc (.cells cs t)) w.heap.size t cs := heap_alloc_new w _
theorem Blk.drew (h : Blk w g t cs) : Blk w.drew g t cs := h
theorem Blk.drewN (h : Blk w g t cs) (n : Nat) : Blk (w.drewN n) g t cs := h
theorem Blk.alloc (h : Blk w g t cs) (o : Obj) : Blk (w.alloc o) g t cs := (Below.heap_alloc w o g h.lt).trans h
theorem Blk.set_ (h : Blk w g t cs) (i : Nat) (u : Value) : Blk (w.setCell ⟨g, i, none⟩ u) g t (cs.setIfInBounds i u) := by
 unfold Blk at h ⊢
 simp [World.setCell, Array.getElem?_modify, h]
theorem Blk.far (h : Blk w g t cs) {p : Addr} (hp : g ≠ p.block) (u : Value) : Blk (w.setCell p u) g t cs := (Below.heap_setCell w p u g hp).trans h
theorem Blk.below (h : Blk w g t cs) (hb : Below w.heap.size w w') : Blk w' g t cs := (hb.block g h.lt).trans h
theorem Blk.bx {b : Nat} (h : Blk w g t cs) (hb : Bx w.heap.size b w w') (hg : g ≠ b) : Blk w' g t cs := (hb.block g h.lt hg).trans h
theorem Blk.grown {row : Option Nat} (h : Blk w g t cs) (hb : w.grownBy w' row) (hg : some g ≠ row) : Blk w' g t cs := (hb.block g h.lt hg).trans h
theorem own_cap {base : Nat} {e : TypeId} {size n c : Nat} {A : Option Addr} {xs : List Value} (h : w.ownsRow base e size (.slice A n c) n xs) : n ≤ c ∧ c ≤ maxLen := by
 rcases h.2 with ⟨he, _⟩ | ⟨g, cap, cur, he, _, _, h1, h2, _⟩
 · injection he with _ h1 h2; subst h1 h2; exact ⟨Nat.le_refl _, Nat.zero_le _⟩
 · injection he with _ _ h3; subst h3; exact ⟨h1, h2⟩
theorem own_form {base : Nat} {e : TypeId} {size n : Nat} {v : Value} {xs : List Value} (h : w.ownsRow base e size v n xs) : ∃ A c, v = .slice A n c := by
 rcases h.2 with ⟨rfl, rfl⟩ | ⟨g, cap, cur, rfl, _⟩
 · exact ⟨none, 0, rfl⟩
 · exact ⟨_, _, rfl⟩
theorem Blk.one {x : Value} (h : Blk w g t #[x]) : w.cell? ⟨g, 0, none⟩ = some x ∧ w.frozen? ⟨g, 0, none⟩ = false := ⟨h.cell 0, h.frozen 0⟩
theorem Blk.two {x y : Value} (h : Blk w g t #[x, y]) : w.cell? ⟨g, 0, none⟩ = some x ∧ w.cell? ⟨g, 1, none⟩ = some y ∧ w.frozen? ⟨g, 0, none⟩ = false ∧ w.frozen? ⟨g, 1, none⟩ = false :=
 ⟨h.cell 0, h.cell 1, h.frozen 0, h.frozen 1⟩
end
theorem flat_snoc {α : Type} (f : α → List Value) (rs : List α) (r : α) : (rs ++ [r]).flatMap f = rs.flatMap f ++ f r := by simp
def I64 (n : Int) : Prop := -9223372036854775808 ≤ n ∧ n ≤ 9223372036854775807
end Go.Proofs.YtapgnaimbgjcnaaGreatDoor
/-
  The stream of raw numbers (splitmake): Below, Next, Range, Flip, each by a contract: a number within its range, and only the stream's own block is turned.
-/
namespace Go.Proofs.YtapgnaimbgjcnaaGreatDoor
open Go Go.RowKit
def LRow (w : World) (b : Nat) (A : Option Addr) (len : Nat) : Prop :=
 0 < len → ∃ g o, A = some ⟨g, o, none⟩ ∧ g < b ∧ ∀ j, j < len → ∃ z, w.cell? ⟨g, o + j, none⟩ = some (.int .i64 z)
def Strm (w : World) (b K : Nat) : Prop :=
 ∃ (A : Option Addr) (len cap : Nat) (k : Int), w.cell? ⟨b, 0, none⟩ = some (.slice A len cap) ∧ w.cell? ⟨b, 1, none⟩ = some (.int .i64 k) ∧ w.frozen? ⟨b, 1, none⟩ = false ∧
  0 ≤ k ∧ k ≤ K ∧ len ≤ 9223372036854775807 ∧ LRow w b A len
theorem Strm.step {w : World} {b K : Nat} {A : Option Addr} {len cap : Nat} {k : Int} (h0 : w.cell? ⟨b, 0, none⟩ = some (.slice A len cap)) (h1 : w.cell? ⟨b, 1, none⟩ = some (.int .i64 k)) (hf : w.frozen? ⟨b, 1, none⟩ = false)
 (hk : 0 ≤ k) (hK : k ≤ K) (hl : len ≤ 9223372036854775807) (hA : LRow w b A len) (n : Nat) : Strm ((w.setCell ⟨b, 1, none⟩ (.int .i64 (k + 1))).drewN n) b (K + 1) := by
 refine ⟨A, len, cap, k + 1, ?_, World.cell?_setCell_same _ _ _ h1, ?_, by omega, by omega, hl, fun hlen => ?_⟩
 · exact (World.cell?_setCell_other _ _ _ _ (by simp)).trans h0
 · exact (World.frozen?_setCell _ _ _ _).trans hf
 · obtain ⟨g, o, rfl, hg, hz⟩ := hA hlen
   refine ⟨g, o, rfl, hg, fun j hj => ?_⟩
   obtain ⟨z, hz⟩ := hz j hj
   refine ⟨z, (World.cell?_setCell_other _ _ _ _ (fun e => ?_)).trans hz⟩
   injection e with e
   omega
theorem Strm.keep {w w' : World} {b K : Nat} (h : Strm w b K) (hb : ∀ k, k ≤ b → w'.heap[k]? = w.heap[k]?) : Strm w' b K := by
 obtain ⟨A, len, cap, n, h0, h1, h2, h3, h4, h5, h6⟩ := h
 have hc : ∀ i, w'.cell? ⟨b, i, none⟩ = w.cell? ⟨b, i, none⟩ := fun i => World.cell?_of_block (hb b (Nat.le_refl _))
 have hf : ∀ i, w'.frozen? ⟨b, i, none⟩ = w.frozen? ⟨b, i, none⟩ := fun i => World.frozen?_of_block (hb b (Nat.le_refl _))
 refine ⟨A, len, cap, n, (hc 0).trans h0, (hc 1).trans h1, (hf 1).trans h2, h3, h4, h5, fun hlen => ?_⟩
 obtain ⟨g, o, rfl, hg, hz⟩ := h6 hlen
 refine ⟨g, o, rfl, hg, fun j hj => ?_⟩
 obtain ⟨z, hz⟩ := hz j hj
 exact ⟨z, (World.cell?_of_block (hb g (Nat.le_of_lt hg))).trans hz⟩
theorem Strm.lt {w : World} {b K : Nat} (h : Strm w b K) : b < w.heap.size := by
 obtain ⟨A, len, cap, n, h0, _⟩ := h
 exact World.block_lt_of_cell? w _ h0
theorem Strm.below {w w' : World} {b K : Nat} (h : Strm w b K) (k : Below w.heap.size w w') : Strm w' b K :=
 h.keep (fun i hi => k.block i (by have := h.lt; omega))
theorem Strm.drewN {w : World} {b K : Nat} (h : Strm w b K) (n : Nat) : Strm (w.drewN n) b K := h
theorem Strm.drew {w : World} {b K : Nat} (h : Strm w b K) : Strm w.drew b K := h
theorem Strm.alloc {w : World} {b K : Nat} (h : Strm w b K) (o : Obj) : Strm (w.alloc o) b K := h.below ((Below.refl _ _).alloc (Nat.le_refl _) o)
theorem Strm.grown {w w' : World} {b K : Nat} (h : Strm w b K) {row : Option Nat} (hg : w.grownBy w' row) (hr : ∀ k, row = some k → b < k) : Strm w' b K :=
 h.keep (fun i hi => hg.block i (by have := h.lt; omega) (fun e => by have := hr i e.symm; omega))
theorem Strm.setCell {w : World} {b K : Nat} (h : Strm w b K) {p : Addr} (hp : b < p.block) (u : Value) : Strm (w.setCell p u) b K :=
 h.keep (fun i hi => Below.heap_setCell _ _ _ _ (by omega))
end Go.Proofs.YtapgnaimbgjcnaaGreatDoor
