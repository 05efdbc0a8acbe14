/-
  MarathonsStay: what the two streams make, as arguments; two streams side by side. No walk.
-/
import Derived.Test.YthbcogekfdllmaaGreatDoorZSmX
import Derived.Test.YthbcogekfdllmaaGreatDoorZBidX
import Derived.Test.YthbcogekfdllmaaGreatDoorZLivX
import Derived.Test.YthbcogekfdllmaaGreatDoorZBid17
namespace Go.Proofs.YthbcogekfdllmaaGreatDoor
open Go Go.RowKit

theorem keys_cnt {xs us : List Slt} (h : xs.map cntS = us.map cntS) : xs.map (·.key) = us.map (·.key) := by
  have := congrArg (List.map (·.1)) h
  simpa [List.map_map, Function.comp_def, cntS] using this
/-- two slot lists that came of one stream -/
theorem slX_two {zs : ZsT} {p m r r' : Nat} {xs us : List Slt} (h1 : slX zs p m = (r, xs.map cntS)) (h2 : slX zs p m = (r', us.map cntS)) : r = r' ∧ xs.map cntS = us.map cntS := by
  have h := h1.symm.trans h2
  injection h with a b
  exact ⟨a, b⟩
/-- the state of the stream that does not stand in the list's way -/
theorem strmX_at0 {w w' : World} {a : Option Addr} {len cap b : Nat} {zs : List Int} {t : TypeId} (h : InRow w a len cap zs) (hk : Below w.heap.size w w') (B : Blk w' b t #[.slice a len cap, .int .i64 0]) (hb : w.heap.size ≤ b) :
    StrmX w' b ⟨zs.take len, w.heap.size⟩ 0 := by
  have hlz : (zs.take len).length = len := by
    rcases h with ⟨_, h1, _, h2⟩ | ⟨x, _, h1, h2, h3, h4⟩
    · rw [h1, h2]
      rfl
    · rw [List.length_take]
      omega
  refine ⟨a, cap, by simp only [hlz]; exact B.two.1, B.two.2.1, B.two.2.2.2, ?_, ?_⟩
  · simp only [hlz]
    rcases h with ⟨_, rfl, _, _⟩ | ⟨x, _, h1, h2, _⟩
    · omega
    · unfold maxLen at h2; omega
  · intro hlen
    simp only [hlz] at hlen
    rcases h with ⟨_, rfl, _, _⟩ | ⟨x, rfl, h1, h2, h3, h4, _⟩
    · omega
    · have c0 := h4 0 (by omega)
      obtain ⟨g, o, spot⟩ := x
      have hspot : spot = none := by simpa [Addr.add] using World.cell?_spot c0
      subst hspot
      have hadd : ∀ j, (⟨g, o, none⟩ : Addr).add j = ⟨g, o + j, none⟩ := fun j => by unfold Addr.add; split <;> simp_all
      have hg : g < w.heap.size := by have := World.block_lt_of_cell? w _ c0; rw [hadd] at this; exact this
      refine ⟨g, o, rfl, ⟨hg, hb⟩, fun j hj => ?_⟩
      simp only [hlz] at hj
      have := h4 j (by omega)
      rw [hadd] at this
      have hjz : j < zs.length := by omega
      simp only [List.getElem_take]
      simp [List.getElem?_eq_getElem hjz] at this
      exact (World.cell?_of_block (hk.block g hg)).trans this
/-- two streams side by side over one list, in the two blocks behind w0's memory; rows from there on -/
structure Two (zs : ZsT) (w0 : World) (p q : Nat) (W : World) (l : List Rsc) : Prop where
  lo : zs.lo = w0.heap.size
  sa : StrmX W w0.heap.size zs p
  sb : StrmX W (w0.heap.size + 1) zs q
  bel : Below w0.heap.size w0 W
  hp : Hp (w0.heap.size + 2) W l
  sz : w0.heap.size + 2 ≤ W.heap.size
section
variable {zs : ZsT} {w0 W W' : World} {p q p' : Nat} {l l2 : List Rsc}
theorem Two.below (h : Two zs w0 p q W l) (k : Below W.heap.size W W') : Two zs w0 p q W' l :=
  ⟨h.lo, h.sa.below k, h.sb.below k, below_call h.bel k (by have := h.sz; omega), h.hp.below k, Nat.le_trans h.sz k.size⟩
theorem Two.push (h : Two zs w0 p q W l) {s K : Nat} (k : SpX zs W s K W' l2) (hs : s < w0.heap.size + 2) : Hp (w0.heap.size + 2) W' (l2 ++ l) := by
  have h0 : Hp (w0.heap.size + 2) W' l := h.hp.step k.bx.size (fun r hr g hg => k.bx.block g (h.hp.new r hr g hg).2 (by have := (h.hp.new r hr g hg).1; omega))
  refine ⟨fun r hr => ?_, fun r hr => ?_, fun r hr g hg => ?_, List.pairwise_append.2 ⟨k.apart, h0.apart, fun r hr t ht g hg hg2 => ?_⟩⟩
  · rcases List.mem_append.1 hr with hr | hr
    · exact k.hold r hr
    · exact h0.hold r hr
  · rcases List.mem_append.1 hr with hr | hr
    · exact k.ok r hr
    · exact h0.ok r hr
  · rcases List.mem_append.1 hr with hr | hr
    · have := k.new r hr g hg; have := h.sz; omega
    · exact h0.new r hr g hg
  · have := (k.new r hr g hg).1
    have := (h.hp.new t ht g hg2).2
    omega
theorem bel_bx {s : Nat} (h : Below w0.heap.size w0 W) (k : Bx W.heap.size s W W') (hs : w0.heap.size ≤ s) : Below w0.heap.size w0 W' :=
  ⟨k.os.trans h.os, k.tape.trans h.tape, k.output.trans h.output, Nat.le_trans h.size k.size, fun i hi => (k.block i (by have := h.size; omega) (by omega)).trans (h.block i hi)⟩
theorem Two.callA (h : Two zs w0 p q W l) (k : SpX zs W w0.heap.size p' W' l2) : Two zs w0 p' q W' (l2 ++ l) :=
  ⟨h.lo, k.strm, h.sb.other k.bx (by rw [h.lo]; exact Nat.le_refl _) (by omega) (by rw [h.lo]; omega), bel_bx h.bel k.bx (Nat.le_refl _), h.push k (by omega), Nat.le_trans h.sz k.bx.size⟩
theorem Two.callB (h : Two zs w0 p q W l) (k : SpX zs W (w0.heap.size + 1) p' W' l2) : Two zs w0 p p' W' (l2 ++ l) :=
  ⟨h.lo, h.sa.other k.bx (by rw [h.lo]; omega) (by omega) (by rw [h.lo]; exact Nat.le_refl _), k.strm, bel_bx h.bel k.bx (by omega), h.push k (by omega), Nat.le_trans h.sz k.bx.size⟩
theorem Two.nth (h : Two zs w0 p q W l) (i : Nat) {r : Rsc} (hi : l[i]? = some r) : r.P W := h.hp.hold r (List.mem_of_getElem? hi)
theorem Two.slts (h : Two zs w0 p q W l) (i : Nat) {base n c m : Nat} {A : Option Addr} {xs : List Slt} (h1 : l[i]? = some (rOwn base 64 5 (.slice A n c) n (xs.flatMap sltC))) (h2 : l[i + 1]? = some (rAll (hostR base) xs)) (hz : SltZs m xs) (hm : m ≤ 1000) {b : Nat} (hb : b < base) : Slts W b A n c xs := by
  have o1 : W.ownsRow base 64 5 (.slice A n c) n (xs.flatMap sltC) := h.nth i h1
  have o2 : ∀ x ∈ xs, (hostR base x).P W := h.nth (i + 1) h2
  exact ⟨Rd.own o1 hb, fun x hx => ⟨Rd.own (o2 x hx) hb, (hz x hx).hk, (hz x hx).hw, (hz x hx).hh, Nat.le_trans (hz x hx).hn hm, (hz x hx).hs, (hz x hx).hl⟩⟩
theorem Two.bds (h : Two zs w0 p q W l) (i : Nat) {base n c : Nat} {A : Option Addr} {xs : List Bd} (h1 : l[i]? = some (rOwn base 77 4 (.slice A n c) n (xs.flatMap bdC))) (h2 : l[i + 1]? = some (rAll (bidR base) xs)) (hz : BdZs xs) {b : Nat} (hb : b < base) : Bds W b A n c xs := by
  have o1 : W.ownsRow base 77 4 (.slice A n c) n (xs.flatMap bdC) := h.nth i h1
  have o2 : ∀ x ∈ xs, (bidR base x).P W := h.nth (i + 1) h2
  exact ⟨Rd.own o1 hb, fun x hx => ⟨Rd.own (o2 x hx) hb, (hz x hx).hk, (hz x hx).hb, (hz x hx).hh, Nat.le_trans (hz x hx).hn (by omega), (hz x hx).hg⟩⟩
end
end Go.Proofs.YthbcogekfdllmaaGreatDoor
