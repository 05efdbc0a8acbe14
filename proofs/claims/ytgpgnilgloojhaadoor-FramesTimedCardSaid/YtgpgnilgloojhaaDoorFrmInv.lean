/-
  What holds in the middle of FramesTimed's first region, whatever order was drawn (FI): each operation turns it as one lemma says.
-/
import Derived.Test.YtgpgnilgloojhaaDoorReg
import Derived.Test.YtgpgnilgloojhaaDoorFrmMake
namespace Go.Proofs.YtgpgnilgloojhaaDoor
open Go Go.RowKit

def lits10 : List Value := [.int .i64 0, .int .i64 1, .int .i64 2, .int .i64 59, .int .i64 60, .int .i64 100, .int .i64 12345, .int .i64 10000000, .int .i64 (-1), .int .i64 10000001]
def BigI (p : Int) : Prop := -1099511627776 ≤ p ∧ p ≤ 1099511627776

structure FI (w0 : World) (blk B : Nat) (b1 b3 b4 b6 b8 b9 b10 b13 b14 b15 b16 b17 b18 b19 b20 b21 : Bool) (s4 s5 s6 s7 s8 u27 u29 u30 u32 u34 u35 u36 u39 u40 : Value) (W : World) : Prop where
  bx : Bx w0.heap.size blk w0 W
  lt : blk < w0.heap.size
  og : (b3 = false → b4 = false) ∧ (b1 = false → b4 = false) ∧ (b4 = false → b6 = false) ∧ (b6 = false → b8 = false) ∧ (b8 = false → b9 = false) ∧ (b9 = false → b10 = false) ∧ (b8 = false → b13 = false) ∧ (b13 = false → b14 = false) ∧ (b15 = false → b17 = false) ∧ (b1 = false → b17 = false) ∧ (b14 = false → b17 = false) ∧ (b16 = false → b17 = false) ∧ (b4 = false → b18 = false) ∧ (b17 = false → b18 = false) ∧ (b6 = false → b19 = false) ∧ (b18 = false → b19 = false) ∧ (b16 = false → b20 = false) ∧ (b10 = false → b20 = false) ∧ (b19 = false → b20 = false) ∧ (b14 = false → b21 = false) ∧ (b20 = false → b21 = false)
  st : ∃ k, k ≤ B ∧ Strm W blk k
  c1 : b1 = true → ∃ N D, u27 = .agg #[.int .i64 N, .int .i64 D] ∧ I64 N ∧ I64 D
  c3 : b3 = true → b4 = false → ∃ g, u29 = .slice (some ⟨g, 0, none⟩) 10 10 ∧ Rd W blk 1 u29 10 lits10
  c4 : b4 = true → ∃ z, u30 = .int .i64 z
  c6 : b6 = true → ∃ z, u32 = .int .i64 z
  c8 : b8 = true → b10 = false → ∃ l : List FrmP.Part, l.length = 1 ∧ W.ownsRow w0.heap.size 45 2 u34 1 (l.flatMap partC) ∧ PartI l
  c9 : b9 = true → b10 = false → ∃ g cap, u34 = .slice (some ⟨g, 0, none⟩) 1 cap ∧ u35 = .pointer (some ⟨g, 0, none⟩)
  c10 : b10 = true → ∃ p q, u36 = .agg #[.int .i64 p, .int .i64 q] ∧ BigI p ∧ BigI q
  c13 : b13 = true → ∃ q : Nat, u39 = .int .i64 q ∧ q ≤ 4
  c14 : b14 = true → ∃ l : List FrmP.Part, W.ownsRow w0.heap.size 45 2 u40 l.length (l.flatMap partC) ∧ l.length ≤ 4 ∧ PartI l
  c15 : b15 = true → ∃ g, s4 = .pointer (some ⟨g, 0, none⟩) ∧ w0.heap.size ≤ g ∧ (b17 = false → Blk W g 40 #[.int .i64 0, .int .i64 0]) ∧ (b17 = true → ∃ N D, u27 = .agg #[.int .i64 N, .int .i64 D] ∧ Blk W g 40 #[.int .i64 N, .int .i64 D])
  c16 : b16 = true → ∃ g, s7 = .pointer (some ⟨g, 0, none⟩) ∧ w0.heap.size ≤ g ∧ (b20 = false → Blk W g 45 #[.int .i64 0, .int .i64 0]) ∧ (b20 = true → ∃ p q, u36 = .agg #[.int .i64 p, .int .i64 q] ∧ Blk W g 45 #[.int .i64 p, .int .i64 q])
  cd : b16 = true → b14 = true → ∀ g, s7 = .pointer (some ⟨g, 0, none⟩) → u40.ownBlock ≠ some g
  c18 : b18 = true → s5 = u30
  c19 : b19 = true → s6 = u32
  c21 : b21 = true → s8 = u40

section
variable {w0 W W' : World} {blk B B' : Nat} {b1 b3 b4 b6 b8 b9 b10 b13 b14 b15 b16 b17 b18 b19 b20 b21 : Bool} {s4 s5 s6 s7 s8 u27 u29 u30 u32 u34 u35 u36 u39 u40 : Value}
theorem FI.world (h : FI w0 blk B b1 b3 b4 b6 b8 b9 b10 b13 b14 b15 b16 b17 b18 b19 b20 b21 s4 s5 s6 s7 s8 u27 u29 u30 u32 u34 u35 u36 u39 u40 W) (k : Bx W.heap.size blk W W') (hs : ∃ k, k ≤ B' ∧ Strm W' blk k) : FI w0 blk B' b1 b3 b4 b6 b8 b9 b10 b13 b14 b15 b16 b17 b18 b19 b20 b21 s4 s5 s6 s7 s8 u27 u29 u30 u32 u34 u35 u36 u39 u40 W' :=
  { h with
    bx := h.bx.call k (Nat.le_refl _)
    st := hs
    c3 := fun x y => by
      obtain ⟨g, e1, e2⟩ := h.c3 x y
      exact ⟨g, e1, e2.bx k⟩
    c8 := fun x y => by
      obtain ⟨l, e1, e2, e3⟩ := h.c8 x y
      exact ⟨l, e1, own_bx e2 k h.lt, e3⟩
    c14 := fun x => by
      obtain ⟨l, e1, e2⟩ := h.c14 x
      exact ⟨l, own_bx e1 k h.lt, e2⟩
    c15 := fun x => by
      obtain ⟨g, e1, e2, e3, e4⟩ := h.c15 x
      have hg : g ≠ blk := by have := h.lt; omega
      exact ⟨g, e1, e2, fun y => (e3 y).bx k hg, fun y => by
        obtain ⟨N, D, f1, f2⟩ := e4 y
        exact ⟨N, D, f1, f2.bx k hg⟩⟩
    c16 := fun x => by
      obtain ⟨g, e1, e2, e3, e4⟩ := h.c16 x
      have hg : g ≠ blk := by have := h.lt; omega
      exact ⟨g, e1, e2, fun y => (e3 y).bx k hg, fun y => by
        obtain ⟨N, D, f1, f2⟩ := e4 y
        exact ⟨N, D, f1, f2.bx k hg⟩⟩ }
theorem FI.op1 {x : Value} (h : FI w0 blk B false b3 b4 b6 b8 b9 b10 b13 b14 b15 b16 b17 b18 b19 b20 b21 s4 s5 s6 s7 s8 u27 u29 u30 u32 u34 u35 u36 u39 u40 W) (hx : ∃ N D, x = .agg #[.int .i64 N, .int .i64 D] ∧ I64 N ∧ I64 D) : FI w0 blk B true b3 b4 b6 b8 b9 b10 b13 b14 b15 b16 b17 b18 b19 b20 b21 s4 s5 s6 s7 s8 x u29 u30 u32 u34 u35 u36 u39 u40 W :=
  { h with
    og := by have := h.og; simp_all
    c1 := fun _ => hx
    c15 := fun y => by
      obtain ⟨g, e1, e2, e3, e4⟩ := h.c15 y
      have hb : b17 = false := (by have := h.og; simp_all)
      exact ⟨g, e1, e2, e3, fun z => by rw [hb] at z; cases z⟩ }
theorem FI.op3 {x : Value} (h : FI w0 blk B b1 false b4 b6 b8 b9 b10 b13 b14 b15 b16 b17 b18 b19 b20 b21 s4 s5 s6 s7 s8 u27 u29 u30 u32 u34 u35 u36 u39 u40 W) (hx : ∃ g, x = .slice (some ⟨g, 0, none⟩) 10 10 ∧ Rd W blk 1 x 10 lits10) : FI w0 blk B b1 true b4 b6 b8 b9 b10 b13 b14 b15 b16 b17 b18 b19 b20 b21 s4 s5 s6 s7 s8 u27 x u30 u32 u34 u35 u36 u39 u40 W :=
  { h with
    og := by have := h.og; simp_all
    c3 := fun _ _ => hx }
theorem FI.op4 {x : Value} (h : FI w0 blk B b1 b3 false b6 b8 b9 b10 b13 b14 b15 b16 b17 b18 b19 b20 b21 s4 s5 s6 s7 s8 u27 u29 u30 u32 u34 u35 u36 u39 u40 W) (d3 : b3 = true) (d1 : b1 = true) (hx : ∃ z, x = .int .i64 z) : FI w0 blk B b1 b3 true b6 b8 b9 b10 b13 b14 b15 b16 b17 b18 b19 b20 b21 s4 s5 s6 s7 s8 u27 u29 x u32 u34 u35 u36 u39 u40 W :=
  { h with
    og := by have := h.og; simp_all
    c3 := fun _ y => by cases y
    c4 := fun _ => hx
    c18 := fun y => by have hb : b18 = false := (by have := h.og; simp_all); rw [hb] at y; cases y }
theorem FI.op6 {x : Value} (h : FI w0 blk B b1 b3 b4 false b8 b9 b10 b13 b14 b15 b16 b17 b18 b19 b20 b21 s4 s5 s6 s7 s8 u27 u29 u30 u32 u34 u35 u36 u39 u40 W) (d4 : b4 = true) (hx : ∃ z, x = .int .i64 z) : FI w0 blk B b1 b3 b4 true b8 b9 b10 b13 b14 b15 b16 b17 b18 b19 b20 b21 s4 s5 s6 s7 s8 u27 u29 u30 x u34 u35 u36 u39 u40 W :=
  { h with
    og := by have := h.og; simp_all
    c6 := fun _ => hx
    c19 := fun y => by have hb : b19 = false := (by have := h.og; simp_all); rw [hb] at y; cases y }
theorem FI.op8 {x : Value} (h : FI w0 blk B b1 b3 b4 b6 false b9 b10 b13 b14 b15 b16 b17 b18 b19 b20 b21 s4 s5 s6 s7 s8 u27 u29 u30 u32 u34 u35 u36 u39 u40 W) (d6 : b6 = true) (hx : ∃ l : List FrmP.Part, l.length = 1 ∧ W.ownsRow w0.heap.size 45 2 x 1 (l.flatMap partC) ∧ PartI l) : FI w0 blk B b1 b3 b4 b6 true b9 b10 b13 b14 b15 b16 b17 b18 b19 b20 b21 s4 s5 s6 s7 s8 u27 u29 u30 u32 x u35 u36 u39 u40 W :=
  { h with
    og := by have := h.og; simp_all
    c8 := fun _ _ => hx
    c9 := fun y => by have hb : b9 = false := (by have := h.og; simp_all); rw [hb] at y; cases y }
theorem FI.op9 {x : Value} (h : FI w0 blk B b1 b3 b4 b6 b8 false b10 b13 b14 b15 b16 b17 b18 b19 b20 b21 s4 s5 s6 s7 s8 u27 u29 u30 u32 u34 u35 u36 u39 u40 W) (d8 : b8 = true) (hx : ∃ g cap, u34 = .slice (some ⟨g, 0, none⟩) 1 cap ∧ x = .pointer (some ⟨g, 0, none⟩)) : FI w0 blk B b1 b3 b4 b6 b8 true b10 b13 b14 b15 b16 b17 b18 b19 b20 b21 s4 s5 s6 s7 s8 u27 u29 u30 u32 u34 x u36 u39 u40 W :=
  { h with
    og := by have := h.og; simp_all
    c9 := fun _ _ => hx }
theorem FI.op10 {x : Value} (h : FI w0 blk B b1 b3 b4 b6 b8 b9 false b13 b14 b15 b16 b17 b18 b19 b20 b21 s4 s5 s6 s7 s8 u27 u29 u30 u32 u34 u35 u36 u39 u40 W) (d9 : b9 = true) (hx : ∃ p q, x = .agg #[.int .i64 p, .int .i64 q] ∧ BigI p ∧ BigI q) : FI w0 blk B b1 b3 b4 b6 b8 b9 true b13 b14 b15 b16 b17 b18 b19 b20 b21 s4 s5 s6 s7 s8 u27 u29 u30 u32 u34 u35 x u39 u40 W :=
  { h with
    og := by have := h.og; simp_all
    c8 := fun _ y => by cases y
    c9 := fun _ y => by cases y
    c10 := fun _ => hx
    c16 := fun y => by
      obtain ⟨g, e1, e2, e3, e4⟩ := h.c16 y
      have hb : b20 = false := (by have := h.og; simp_all)
      exact ⟨g, e1, e2, e3, fun z => by rw [hb] at z; cases z⟩ }
theorem FI.op13 {x : Value} (h : FI w0 blk B b1 b3 b4 b6 b8 b9 b10 false b14 b15 b16 b17 b18 b19 b20 b21 s4 s5 s6 s7 s8 u27 u29 u30 u32 u34 u35 u36 u39 u40 W) (d8 : b8 = true) (hx : ∃ q : Nat, x = .int .i64 q ∧ q ≤ 4) : FI w0 blk B b1 b3 b4 b6 b8 b9 b10 true b14 b15 b16 b17 b18 b19 b20 b21 s4 s5 s6 s7 s8 u27 u29 u30 u32 u34 u35 u36 x u40 W :=
  { h with
    og := by have := h.og; simp_all
    c13 := fun _ => hx }
theorem FI.op14 {x : Value} (h : FI w0 blk B b1 b3 b4 b6 b8 b9 b10 b13 false b15 b16 b17 b18 b19 b20 b21 s4 s5 s6 s7 s8 u27 u29 u30 u32 u34 u35 u36 u39 u40 W) (d13 : b13 = true) (hx : ∃ l : List FrmP.Part, W.ownsRow w0.heap.size 45 2 x l.length (l.flatMap partC) ∧ l.length ≤ 4 ∧ PartI l) (hd : b16 = true → ∀ g, s7 = .pointer (some ⟨g, 0, none⟩) → x.ownBlock ≠ some g) : FI w0 blk B b1 b3 b4 b6 b8 b9 b10 b13 true b15 b16 b17 b18 b19 b20 b21 s4 s5 s6 s7 s8 u27 u29 u30 u32 u34 u35 u36 u39 x W :=
  { h with
    og := by have := h.og; simp_all
    c14 := fun _ => hx
    cd := fun y _ => hd y
    c21 := fun y => by have hb : b21 = false := (by have := h.og; simp_all); rw [hb] at y; cases y }
theorem FI.op15 {x : Value} (h : FI w0 blk B b1 b3 b4 b6 b8 b9 b10 b13 b14 false b16 b17 b18 b19 b20 b21 s4 s5 s6 s7 s8 u27 u29 u30 u32 u34 u35 u36 u39 u40 W) (hx : ∃ g, x = .pointer (some ⟨g, 0, none⟩) ∧ w0.heap.size ≤ g ∧ Blk W g 40 #[.int .i64 0, .int .i64 0]) : FI w0 blk B b1 b3 b4 b6 b8 b9 b10 b13 b14 true b16 b17 b18 b19 b20 b21 x s5 s6 s7 s8 u27 u29 u30 u32 u34 u35 u36 u39 u40 W :=
  { h with
    og := by have := h.og; simp_all
    c15 := fun _ => by
      obtain ⟨g, e1, e2, e3⟩ := hx
      exact ⟨g, e1, e2, fun _ => e3, fun z => by have := h.og; simp_all⟩ }
theorem FI.op16 {x : Value} (h : FI w0 blk B b1 b3 b4 b6 b8 b9 b10 b13 b14 b15 false b17 b18 b19 b20 b21 s4 s5 s6 s7 s8 u27 u29 u30 u32 u34 u35 u36 u39 u40 W) (hx : ∃ g, x = .pointer (some ⟨g, 0, none⟩) ∧ w0.heap.size ≤ g ∧ Blk W g 45 #[.int .i64 0, .int .i64 0] ∧ (b14 = true → u40.ownBlock ≠ some g)) : FI w0 blk B b1 b3 b4 b6 b8 b9 b10 b13 b14 b15 true b17 b18 b19 b20 b21 s4 s5 s6 x s8 u27 u29 u30 u32 u34 u35 u36 u39 u40 W :=
  { h with
    og := by have := h.og; simp_all
    c16 := fun _ => by
      obtain ⟨g, e1, e2, e3, _⟩ := hx
      exact ⟨g, e1, e2, fun _ => e3, fun z => by have := h.og; simp_all⟩
    cd := fun _ y g hg => by
      obtain ⟨g', e1, _, _, e4⟩ := hx
      rw [e1] at hg
      injection hg with hg
      injection hg with hg
      injection hg with hg
      rw [← hg]
      exact e4 y }
theorem FI.op17 {g : Nat} {N D : Int} (h : FI w0 blk B b1 b3 b4 b6 b8 b9 b10 b13 b14 b15 b16 false b18 b19 b20 b21 s4 s5 s6 s7 s8 u27 u29 u30 u32 u34 u35 u36 u39 u40 W) (d1 : b1 = true) (d14 : b14 = true) (d16 : b16 = true) (h4 : b4 = true) (hs : s4 = .pointer (some ⟨g, 0, none⟩)) (d15 : b15 = true) (hu : u27 = .agg #[.int .i64 N, .int .i64 D]) : FI w0 blk B b1 b3 b4 b6 b8 b9 b10 b13 b14 b15 b16 true b18 b19 b20 b21 s4 s5 s6 s7 s8 u27 u29 u30 u32 u34 u35 u36 u39 u40 ((W.setCell ⟨g, 0, none⟩ (.int .i64 N)).setCell ⟨g, 1, none⟩ (.int .i64 D)) := by
  obtain ⟨g', e1, e2, e3, _⟩ := h.c15 d15
  have hgg : g' = g := by rw [hs] at e1; injection e1 with e1; injection e1 with e1; injection e1 with e1; exact e1.symm
  subst hgg
  have hB := e3 rfl
  have hgb : g' ≠ blk := by have := h.lt; omega
  have hB2 : Blk ((W.setCell ⟨g', 0, none⟩ (.int .i64 N)).setCell ⟨g', 1, none⟩ (.int .i64 D)) g' 40 #[.int .i64 N, .int .i64 D] := by
    have := (hB.set_ 0 (.int .i64 N)).set_ 1 (.int .i64 D)
    simpa using this
  exact
  { h with
    bx := (h.bx.setCell (p := ⟨g', 0, none⟩) (.inr e2) _).setCell (p := ⟨g', 1, none⟩) (.inr e2) _
    og := by have := h.og; simp_all
    st := by
      obtain ⟨k, k1, k2⟩ := h.st
      exact ⟨k, k1, (k2.setCell (p := ⟨g', 0, none⟩) (by have := h.lt; simp only; omega) _).setCell (p := ⟨g', 1, none⟩) (by have := h.lt; simp only; omega) _⟩
    c3 := fun _ y => by rw [h4] at y; cases y
    c8 := fun x y => by
      obtain ⟨l, f1, f2, f3⟩ := h.c8 x y
      have hne := own_blk_ne f2 hB (by decide)
      exact ⟨l, f1, own_set (own_set f2 hne _ _) hne _ _, f3⟩
    c14 := fun x => by
      obtain ⟨l, f1, f2⟩ := h.c14 x
      have hne := own_blk_ne f1 hB (by decide)
      exact ⟨l, own_set (own_set f1 hne _ _) hne _ _, f2⟩
    c15 := fun _ => ⟨g', hs, e2, (fun y => by cases y), fun _ => ⟨N, D, hu, hB2⟩⟩
    c16 := fun x => by
      obtain ⟨g2, f1, f2, f3, f4⟩ := h.c16 x
      refine ⟨g2, f1, f2, fun y => ?_, fun y => ?_⟩
      · have hne := Blk.ne_ (f3 y) hB (by decide)
        exact ((f3 y).far (p := ⟨g', 0, none⟩) hne _).far (p := ⟨g', 1, none⟩) hne _
      · obtain ⟨p, q, x1, x2⟩ := f4 y
        have hne := Blk.ne_ x2 hB (by decide)
        exact ⟨p, q, x1, (x2.far (p := ⟨g', 0, none⟩) hne _).far (p := ⟨g', 1, none⟩) hne _⟩ }
theorem FI.op20 {g : Nat} {p q : Int} (h : FI w0 blk B b1 b3 b4 b6 b8 b9 b10 b13 b14 b15 b16 b17 b18 b19 false b21 s4 s5 s6 s7 s8 u27 u29 u30 u32 u34 u35 u36 u39 u40 W) (h4 : b4 = true) (d10 : b10 = true) (d19 : b19 = true) (hs : s7 = .pointer (some ⟨g, 0, none⟩)) (d16 : b16 = true) (h14 : b14 = true) (hu : u36 = .agg #[.int .i64 p, .int .i64 q]) : FI w0 blk B b1 b3 b4 b6 b8 b9 b10 b13 b14 b15 b16 b17 b18 b19 true b21 s4 s5 s6 s7 s8 u27 u29 u30 u32 u34 u35 u36 u39 u40 ((W.setCell ⟨g, 0, none⟩ (.int .i64 p)).setCell ⟨g, 1, none⟩ (.int .i64 q)) := by
  obtain ⟨g', e1, e2, e3, _⟩ := h.c16 d16
  have hgg : g' = g := by rw [hs] at e1; injection e1 with e1; injection e1 with e1; injection e1 with e1; exact e1.symm
  subst hgg
  have hB := e3 rfl
  have hB2 : Blk ((W.setCell ⟨g', 0, none⟩ (.int .i64 p)).setCell ⟨g', 1, none⟩ (.int .i64 q)) g' 45 #[.int .i64 p, .int .i64 q] := by
    have := (hB.set_ 0 (.int .i64 p)).set_ 1 (.int .i64 q)
    simpa using this
  exact
  { h with
    bx := (h.bx.setCell (p := ⟨g', 0, none⟩) (.inr e2) _).setCell (p := ⟨g', 1, none⟩) (.inr e2) _
    og := by have := h.og; simp_all
    st := by
      obtain ⟨k, k1, k2⟩ := h.st
      exact ⟨k, k1, (k2.setCell (p := ⟨g', 0, none⟩) (by have := h.lt; simp only; omega) _).setCell (p := ⟨g', 1, none⟩) (by have := h.lt; simp only; omega) _⟩
    c3 := fun _ y => by rw [h4] at y; cases y
    c8 := fun _ y => by rw [d10] at y; cases y
    c14 := fun x => by
      obtain ⟨l, f1, f2⟩ := h.c14 x
      have hne := h.cd d16 h14 g' hs
      exact ⟨l, own_set (own_set f1 hne _ _) hne _ _, f2⟩
    c15 := fun x => by
      obtain ⟨g2, f1, f2, f3, f4⟩ := h.c15 x
      refine ⟨g2, f1, f2, fun y => ?_, fun y => ?_⟩
      · have hne := Blk.ne_ (f3 y) hB (by decide)
        exact ((f3 y).far (p := ⟨g', 0, none⟩) hne _).far (p := ⟨g', 1, none⟩) hne _
      · obtain ⟨a, c, x1, x2⟩ := f4 y
        have hne := Blk.ne_ x2 hB (by decide)
        exact ⟨a, c, x1, (x2.far (p := ⟨g', 0, none⟩) hne _).far (p := ⟨g', 1, none⟩) hne _⟩
    c16 := fun _ => ⟨g', hs, e2, (fun y => by cases y), fun _ => ⟨p, q, hu, hB2⟩⟩ }
theorem FI.op18 (h : FI w0 blk B b1 b3 b4 b6 b8 b9 b10 b13 b14 b15 b16 b17 false b19 b20 b21 s4 s5 s6 s7 s8 u27 u29 u30 u32 u34 u35 u36 u39 u40 W) (d4 : b4 = true) (d17 : b17 = true) : FI w0 blk B b1 b3 b4 b6 b8 b9 b10 b13 b14 b15 b16 b17 true b19 b20 b21 s4 u30 s6 s7 s8 u27 u29 u30 u32 u34 u35 u36 u39 u40 W :=
  { h with
    og := by have := h.og; simp_all
    c18 := fun _ => rfl }
theorem FI.op19 (h : FI w0 blk B b1 b3 b4 b6 b8 b9 b10 b13 b14 b15 b16 b17 b18 false b20 b21 s4 s5 s6 s7 s8 u27 u29 u30 u32 u34 u35 u36 u39 u40 W) (d6 : b6 = true) (d18 : b18 = true) : FI w0 blk B b1 b3 b4 b6 b8 b9 b10 b13 b14 b15 b16 b17 b18 true b20 b21 s4 s5 u32 s7 s8 u27 u29 u30 u32 u34 u35 u36 u39 u40 W :=
  { h with
    og := by have := h.og; simp_all
    c19 := fun _ => rfl }
theorem FI.op21 (h : FI w0 blk B b1 b3 b4 b6 b8 b9 b10 b13 b14 b15 b16 b17 b18 b19 b20 false s4 s5 s6 s7 s8 u27 u29 u30 u32 u34 u35 u36 u39 u40 W) (d14 : b14 = true) (d20 : b20 = true) : FI w0 blk B b1 b3 b4 b6 b8 b9 b10 b13 b14 b15 b16 b17 b18 b19 b20 true s4 s5 s6 s7 u40 u27 u29 u30 u32 u34 u35 u36 u39 u40 W :=
  { h with
    og := by have := h.og; simp_all
    c21 := fun _ => rfl }
theorem FI.n10 (h : FI w0 blk B b1 b3 b4 b6 b8 b9 b10 b13 b14 b15 b16 b17 b18 b19 b20 b21 s4 s5 s6 s7 s8 u27 u29 u30 u32 u34 u35 u36 u39 u40 W) (d : b9 = false) : b10 = false := by have := h.og; simp_all
theorem FI.y8 (h : FI w0 blk B b1 b3 b4 b6 b8 b9 b10 b13 b14 b15 b16 b17 b18 b19 b20 b21 s4 s5 s6 s7 s8 u27 u29 u30 u32 u34 u35 u36 u39 u40 W) (d : b9 = true) : b8 = true := by have := h.og; cases b8 <;> simp_all
theorem FI.y4 (h : FI w0 blk B b1 b3 b4 b6 b8 b9 b10 b13 b14 b15 b16 b17 b18 b19 b20 b21 s4 s5 s6 s7 s8 u27 u29 u30 u32 u34 u35 u36 u39 u40 W) (d : b14 = true) : b4 = true := by have := h.og; cases b4 <;> cases b6 <;> cases b8 <;> cases b13 <;> simp_all
theorem FI.y14 (h : FI w0 blk B b1 b3 b4 b6 b8 b9 b10 b13 b14 b15 b16 b17 b18 b19 b20 b21 s4 s5 s6 s7 s8 u27 u29 u30 u32 u34 u35 u36 u39 u40 W) (d : b19 = true) : b14 = true := by have := h.og; cases b14 <;> cases b17 <;> cases b18 <;> simp_all
end
end Go.Proofs.YtgpgnilgloojhaaDoor
