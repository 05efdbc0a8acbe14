/-
  The tree of a rule in memory: NodeAt; its resource rNode; the parser's block.
-/
import Derived.Test.YtmbeclcdpagjiaaGreatDoorZPx
import Derived.Test.YtmbeclcdpagjiaaGreatDoorZRulPure
namespace Go.Proofs.YtmbeclcdpagjiaaGreatDoor
open Go Go.RowKit

abbrev ptrV (g : Nat) : Value := .pointer (some ⟨g, 0, none⟩)
def nodeC (kind : Int) (v : Value) (a : Atm) : Array Value := #[.int .i64 kind, v, .string a.word, .string a.name, .string a.value, .int .i64 a.n]
/-- node g of w is the tree; all its blocks lie from lo on, and before hi -/
inductive NodeAt (w : World) (lo hi : Nat) : Nat → Nd → Prop
  | mk (g : Nat) (kind : Int) (a : Atm) (v : Value) (gs : List Nat) (ks : List Nd) (h1 : lo ≤ g ∧ g < hi) (h2 : Blk w g 121 (nodeC kind v a))
      (h3 : w.ownsRow lo 70 1 v ks.length (gs.map ptrV)) (h4 : ∀ k, v.ownBlock = some k → k < hi) (h5 : gs.length = ks.length)
      (h6 : ∀ i (hi_ : i < gs.length) (hk : i < ks.length), NodeAt w lo hi gs[i] ks[i]) : NodeAt w lo hi g (.node kind ks a)
theorem own_heap {w w' : World} {base : Nat} {e : TypeId} {size n : Nat} {v : Value} {xs : List Value} (h : w.ownsRow base e size v n xs) (hk : ∀ g, v.ownBlock = some g → w'.heap[g]? = w.heap[g]?) : w'.ownsRow base e size v n xs := by
  refine ⟨h.1, ?_⟩
  rcases h.2 with hn | ⟨g, cap, cur, rfl, hb, hgg, rest⟩
  · exact .inl hn
  · exact .inr ⟨g, cap, cur, rfl, hb, (hk g rfl).trans hgg, rest⟩
theorem NodeAt.keep {w w' : World} {lo hi g : Nat} {t : Nd} (h : NodeAt w lo hi g t) (hk : ∀ k, lo ≤ k → k < hi → w'.heap[k]? = w.heap[k]?) : NodeAt w' lo hi g t := by
  induction h with
  | mk g kind a v gs ks h1 h2 h3 h4 h5 h6 ih =>
    exact .mk g kind a v gs ks h1 ((hk g h1.1 h1.2).trans h2) (own_heap h3 (fun k e => hk k (h3.lt k e).1 (h4 k e))) h4 h5 ih
theorem NodeAt.wide {w : World} {lo hi lo' hi' g : Nat} {t : Nd} (h : NodeAt w lo hi g t) (hl : lo' ≤ lo) (hh : hi ≤ hi') : NodeAt w lo' hi' g t := by
  induction h with
  | mk g kind a v gs ks h1 h2 h3 h4 h5 h6 ih =>
    exact .mk g kind a v gs ks ⟨Nat.le_trans hl h1.1, Nat.lt_of_lt_of_le h1.2 hh⟩ h2 (own_base h3 hl) (fun k e => Nat.lt_of_lt_of_le (h4 k e) hh) h5 ih
theorem NodeAt.lt {w : World} {lo hi g : Nat} {t : Nd} (h : NodeAt w lo hi g t) : lo ≤ g ∧ g < hi := by
  cases h with
  | mk g kind a v gs ks h1 => exact h1
/-- where a tree lies -/
structure Nl where
  lo : Nat
  hi : Nat
  g : Nat
  t : Nd
def rNode (x : Nl) : Rsc := ⟨fun W => NodeAt W x.lo x.hi x.g x.t, fun k => x.lo ≤ k ∧ k < x.hi⟩
theorem rNode_ok (x : Nl) : (rNode x).Ok := fun _ _ h hp => hp.keep (fun k h1 h2 => h k ⟨h1, h2⟩)

/-- block b holds the parser of s -/
def PAt (W : World) (b : Nat) (s : ByteArray) (t : PSt) : Prop := Blk W b 115 #[.string s, .int .i64 t.at_, .string t.tok, .int .i64 t.deep, .bool t.bad]
/-- what a part of a rule answers -/
def NodS (b : Nat) (s : ByteArray) (r : Nd × PSt) (lo : Nat) (w : World) (e : Ending) (w' : World) : Prop :=
  ∃ g, e = .returned (ptrV g) ∧ NodeAt w' w.heap.size w'.heap.size g r.1 ∧ PAt w' b s r.2 ∧ Bx w.heap.size b w w' ∧ POk s r.2 ∧ lo ≤ r.2.at_
theorem Px.node {w W W' : World} {b : Nat} {l : List Rsc} (h : Px w b W l) (k : Bx W.heap.size b W W') {g : Nat} {t : Nd} (hn : NodeAt W' W.heap.size W'.heap.size g t) : Px w b W' (rNode ⟨W.heap.size, W'.heap.size, g, t⟩ :: l) :=
  h.new_ k hn (rNode_ok _) (fun _ hg => hg)
end Go.Proofs.YtmbeclcdpagjiaaGreatDoor
