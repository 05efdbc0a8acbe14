/-
  The reference's parser of rules: its tree in memory; next, take, not by contracts. (Printed by gen_rst.py.)
-/
import Derived.Test.YtfhdknppldobiaaGreatDoorZRatMake4
import Derived.Test.YtfhdknppldobiaaGreatDoorZSq
import Derived.Test.YtfhdknppldobiaaGreatDoorZRule3
namespace Go.Proofs.YtfhdknppldobiaaGreatDoor
open Go Go.RowKit
attribute [local go_sem ↓] Go.wp_at_zero Go.wp_at_succ

def Nq.atom : Nq → ByteArray | .node _ a _ => a
abbrev Qn := (Option Addr × Nat) × Nq
def qnC (p : Qn) : List Value := [.string p.2.op, .string p.2.atom, .slice p.1.1 p.2.kids.length p.1.2]
theorem qnC_len (p : Qn) : (qnC p).length = 3 := rfl
/-- the reference's node, its kids in blocks of which P speaks -/
inductive NqV (w : World) (P : Nat → Prop) : Option Addr × Nat → Nq → Prop
  | mk (A : Option Addr) (c : Nat) (op atom : ByteArray) (ps : List Qn) (h1 : w.ownsRow 0 139 3 (.slice A ps.length c) ps.length (ps.flatMap qnC)) (h2 : ∀ k, (Value.slice A ps.length c).ownBlock = some k → P k)
      (h3 : ∀ p ∈ ps, NqV w P p.1 p.2) : NqV w P (A, c) (.node op atom (ps.map (·.2)))
theorem own_heapQ {w w' : World} {base : Nat} {e : TypeId} {size n : Nat} {v : Value} {xs : List Value} (h : w.ownsRow base e size v n xs) (hk : ∀ g, v.ownBlock = some g → w'.heap[g]? = w.heap[g]?) : w'.ownsRow base e size v n xs := by
  refine ⟨h.1, ?_⟩
  rcases h.2 with hn | ⟨g, cap, cur, rfl, hb, hgg, rest⟩
  · exact .inl hn
  · exact .inr ⟨g, cap, cur, rfl, hb, (hk g rfl).trans hgg, rest⟩
theorem NqV.keep {w w' : World} {P : Nat → Prop} {a : Option Addr × Nat} {t : Nq} (h : NqV w P a t) (hk : ∀ k, P k → w'.heap[k]? = w.heap[k]?) : NqV w' P a t := by
  induction h with
  | mk A c op atom ps h1 h2 h3 ih => exact .mk A c op atom ps (own_heapQ h1 (fun g e => hk g (h2 g e))) h2 ih
theorem NqV.wide {w : World} {P P' : Nat → Prop} {a : Option Addr × Nat} {t : Nq} (h : NqV w P a t) (hk : ∀ k, P k → P' k) : NqV w P' a t := by
  induction h with
  | mk A c op atom ps h1 h2 h3 ih => exact .mk A c op atom ps h1 (fun k e => hk k (h2 k e)) ih
def rQ (P : Nat → Prop) (ps : List Qn) : Rsc := ⟨fun W => ∀ p ∈ ps, NqV W P p.1 p.2, P⟩
theorem rQ_ok (P : Nat → Prop) (ps : List Qn) : (rQ P ps).Ok := fun _ _ h hp p hm => (hp p hm).keep h
section
variable {w W W' : World} {b : Nat} {l : List Rsc} {r r' : Rsc}
theorem Px.weak (h : Px w b W (r :: l)) (hp : r.P W → r'.P W) (hok : r'.Ok) (hf : ∀ k, r'.fp k → r.fp k) : Px w b W (r' :: l) :=
  ⟨h.bx, h.hb, h.hp.tail.cons (hp h.head) hok (fun k hk => h.hp.new _ (List.mem_cons_self ..) k (hf k hk)) (fun s hs k hk hk2 => (List.pairwise_cons.1 h.hp.apart).1 s hs k (hf k hk) hk2)⟩
theorem Px.mergeQ {P1 P2 : Nat → Prop} {ps1 ps2 : List Qn} (h : Px w b W (rQ P1 ps1 :: rQ P2 ps2 :: l)) : Px w b W (rQ (fun k => P1 k ∨ P2 k) (ps2 ++ ps1) :: l) := by
  have h1 := h.hp.apart
  rw [List.pairwise_cons] at h1
  have h2 := List.pairwise_cons.1 h1.2
  refine ⟨h.bx, h.hb, Hp.cons h.hp.tail.tail ?_ (rQ_ok _ _) (fun g hg => ?_) (fun s hs g hg hg2 => ?_)⟩
  · intro p hp
    rcases List.mem_append.1 hp with hp | hp
    · exact (NqV.wide ((h.nth 1 rfl : ∀ p ∈ ps2, NqV W P2 p.1 p.2) p hp) (fun k hk => .inr hk))
    · exact (NqV.wide ((h.head : ∀ p ∈ ps1, NqV W P1 p.1 p.2) p hp) (fun k hk => .inl hk))
  · rcases hg with hg | hg
    · exact h.hp.new _ (List.mem_cons_self ..) g hg
    · exact h.hp.new _ (List.mem_cons_of_mem _ (List.mem_cons_self ..)) g hg
  · rcases hg with hg | hg
    · exact h1.1 s (List.mem_cons_of_mem _ hs) g hg hg2
    · exact h2.1 s hs g hg hg2
theorem Px.nilQ (h : Px w b W l) : Px w b W (rQ (fun _ => False) [] :: l) :=
  ⟨h.bx, h.hb, h.hp.cons (by intro p hp; cases hp) (rQ_ok _ _) (fun _ hg => hg.elim) (fun _ _ _ hg _ => hg.elim)⟩
end
/-- block b holds the tokens l that are left; they lie in the memory of w0 -/
structure RAt (w0 W : World) (b : Nat) (l : List Tk) : Prop where
  lt : b < w0.heap.size
  bx : Bx w0.heap.size b w0 W
  ex : ∃ A c, Blk W b 193 #[.slice A l.length c] ∧ Rd w0 b 2 (.slice A l.length c) l.length (l.flatMap tkC)
  z : ∀ t ∈ l, t.1.size ≤ 100000
  len : l.length ≤ 100000
theorem RAt.below {w0 W W' : World} {b : Nat} {l : List Tk} (h : RAt w0 W b l) (k : Below W.heap.size W W') : RAt w0 W' b l := by
  obtain ⟨A, c, h1, h2⟩ := h.ex
  exact ⟨h.lt, h.bx.call (Bx.of_below k b) (Nat.le_refl _), ⟨A, c, h1.below k, h2⟩, h.z, h.len⟩
theorem RAt.far {w0 W : World} {b : Nat} {l : List Tk} (h : RAt w0 W b l) {g : Nat} (hg : w0.heap.size ≤ g) (i : Nat) (u : Value) : RAt w0 (W.setCell ⟨g, i, none⟩ u) b l := by
  obtain ⟨A, c, h1, h2⟩ := h.ex
  exact ⟨h.lt, h.bx.setCell (p := ⟨g, i, none⟩) (.inr hg) u, ⟨A, c, h1.far (p := ⟨g, i, none⟩) (by have := h.lt; show b ≠ g; omega) u, h2⟩, h.z, h.len⟩
theorem RAt.size {w0 W : World} {b : Nat} {l : List Tk} (h : RAt w0 W b l) : w0.heap.size ≤ W.heap.size := h.bx.size
/-- a node that was parsed, and what is left -/
def NqS (w0 : World) (b : Nat) (r : Nq × List Tk) (w : World) (e : Ending) (w' : World) : Prop :=
  ∃ (A : Option Addr) (c : Nat) (P : Nat → Prop), e = .returned (.agg #[.string r.1.op, .string r.1.atom, .slice A r.1.kids.length c]) ∧ NqV w' P (A, c) r.1 ∧ (∀ k, P k → w.heap.size ≤ k ∧ k < w'.heap.size) ∧ RAt w0 w' b r.2 ∧ Bx w.heap.size b w w'
theorem Px.nq {w W W' : World} {b : Nat} {l : List Rsc} (h : Px w b W l) (k : Bx W.heap.size b W W') {A : Option Addr} {c : Nat} {P : Nat → Prop} {t : Nq} (hn : NqV W' P (A, c) t) (hP : ∀ k, P k → W.heap.size ≤ k ∧ k < W'.heap.size) : Px w b W' (rQ P [((A, c), t)] :: l) :=
  h.new_ k (by intro p hp; simp at hp; subst hp; exact hn) (rQ_ok _ _) hP

set_option maxRecDepth 100000 in
theorem restNext_calls (w0 : World) (b : Nat) (t : Tk) (l : List Tk) (w : World) (h : RAt w0 w b (t :: l)) : Calls Tryz.prog 201 #[.pointer (some ⟨b, 0, none⟩)] w fun e w' => e = .returned (.string t.1) ∧ w' = w := by
  obtain ⟨A, c, h1, h2⟩ := h.ex
  obtain ⟨hl, hnc, hcm, hcells⟩ := (h2.bx h.bx).cells tkC_len (by decide)
  obtain ⟨g, o, hA, _, hcs⟩ := hcells (by simp)
  subst hA
  have k0 : w.cell? ⟨b, 0, none⟩ = some (.slice (some ⟨g, o, none⟩) (t :: l).length c) := h1.cell 0
  have d0 := hcs 0 (by simp) 0 (by decide)
  simp [tkC] at d0
  obtain ⟨n, hn⟩ : ∃ n, (t :: l).length = n := ⟨_, rfl⟩
  have hn1 : 0 < n := by rw [← hn]; simp
  rw [hn] at k0
  have hn2 : (0 : Int) < (n : Int) := by omega
  clear h1 h2 hcs hcells hl hnc hcm h
  go_enter Tryz.func201, Tryz.ntmps201
  go_wp2_with fail
  go_ret
  exact ⟨rfl, rfl⟩
set_option maxRecDepth 100000 in
theorem restTake_calls (w0 : World) (b : Nat) (t : Tk) (l : List Tk) (w : World) (h : RAt w0 w b (t :: l)) : Calls Tryz.prog 202 #[.pointer (some ⟨b, 0, none⟩)] w fun e w' => e = .returned (.string t.1) ∧ RAt w0 w' b l ∧ Bx w.heap.size b w w' := by
  obtain ⟨A, c, h1, h2⟩ := h.ex
  obtain ⟨hl, hnc, hcm, hcells⟩ := (h2.bx h.bx).cells tkC_len (by decide)
  obtain ⟨g, o, hA, _, hcs⟩ := hcells (by simp)
  subst hA
  have k0 : w.cell? ⟨b, 0, none⟩ = some (.slice (some ⟨g, o, none⟩) (t :: l).length c) := h1.cell 0
  have f0 := h1.frozen 0
  have d0 := hcs 0 (by simp) 0 (by decide)
  simp [tkC] at d0
  obtain ⟨n, hn⟩ : ∃ n, l.length = n := ⟨_, rfl⟩
  have hn1 : (t :: l).length = n + 1 := by rw [List.length_cons, hn]
  rw [hn1] at k0 hnc h2
  have hn2 : (0 : Int) < ((n + 1 : Nat) : Int) := by omega
  have hn3 : (1 : Int) ≤ ((n + 1 : Nat) : Int) := by omega
  have hn4 : ((n + 1 : Nat) : Int) ≤ (c : Int) := by omega
  have hn5 : 1 ≤ c := by omega
  have hlen : ((t :: l).flatMap tkC).length = (n + 1) * 2 := h2.len
  have hrd2 : ∀ A', (A' = some ⟨g, o, none⟩ ∧ n = 0) ∨ A' = some ⟨g, o + 2, none⟩ → Rd w0 b 2 (.slice A' n (c - 1)) n (l.flatMap tkC) := by
    intro A' hA'
    obtain ⟨A3, c3, e1, e2, e3, e4, e5, e6⟩ := h2
    injection e1 with ea _ ec
    subst ea ec
    refine ⟨A', c - 1, rfl, by omega, by omega, ?_, fun h => ?_, fun hp => ?_⟩
    · rw [List.flatMap_cons, List.length_append] at hlen
      have : (tkC t).length = 2 := rfl
      omega
    · rcases hA' with ⟨h1, _⟩ | h1 <;> (rw [h1] at h; cases h)
    · rcases hA' with ⟨_, h1⟩ | h1
      · omega
      · obtain ⟨g3, o3, f1, f2, f3⟩ := e6 (by omega)
        injection f1 with f1
        injection f1 with f1 f4
        subst f1 f4
        refine ⟨g, o + 2, h1, f2, fun j u hu => ?_⟩
        have := f3 (2 + j) u (by
          rw [List.flatMap_cons, List.getElem?_append_right (by show 2 ≤ 2 + j; omega)]
          have e : 2 + j - (tkC t).length = j := by show 2 + j - 2 = j; omega
          rw [e]; exact hu)
        rw [Nat.add_assoc]
        exact this
  have HRD := Lib.hid hrd2
  have HZ := Lib.hid (fun x (hx : x ∈ l) => h.z x (List.mem_cons_of_mem _ hx))
  have HLT := Lib.hid h.lt
  have HLL : Hid (l.length ≤ 100000) := Lib.hid (by have := h.len; rw [List.length_cons] at this; omega)
  have HBX := Lib.hid h.bx
  have HN := Lib.hid hn
  have HK : Hid (∀ A', Blk (w.setCell ⟨b, 0, none⟩ (.slice A' n (c - 1))) b 193 #[.slice A' n (c - 1)]) := Lib.hid (fun A' => Blk.set_ h1 0 (.slice A' n (c - 1)))
  clear h1 h2 hcs hcells hl hrd2 hlen hn hn1 h hnc
  by_cases hc : c = 1
  · subst hc
    obtain rfl : n = 0 := by omega
    have hr0 : Rd w0 b 2 (.slice (some ⟨g, o, none⟩) 0 0) 0 (l.flatMap tkC) := HRD.out _ (.inl ⟨rfl, rfl⟩)
    have hk0 : Blk (w.setCell ⟨b, 0, none⟩ (.slice (some ⟨g, o, none⟩) 0 0)) b 193 #[.slice (some ⟨g, o, none⟩) 0 0] := HK.out _
    have HR0 := Lib.hid hr0
    have HK0 := Lib.hid hk0
    clear hr0 hk0 HRD HK
    go_enter Tryz.func202, Tryz.ntmps202
    go_wp2_with fail
    go_ret
    exact ⟨rfl, ⟨HLT.out, HBX.out.setCell (p := ⟨b, 0, none⟩) (.inl rfl) _, ⟨some ⟨g, o, none⟩, 0, by rw [HN.out]; exact HK0.out, by rw [HN.out]; exact HR0.out⟩, HZ.out, HLL.out⟩, (Bx.refl _ _ _).setCell (p := ⟨b, 0, none⟩) (.inl rfl) _⟩
  · have HR0 := Lib.hid (HRD.out (some ⟨g, o + 2, none⟩) (.inr rfl))
    have HK0 := Lib.hid (HK.out (some ⟨g, o + 2, none⟩))
    clear HRD HK
    go_enter Tryz.func202, Tryz.ntmps202
    go_wp2_with fail
    go_ret
    exact ⟨rfl, ⟨HLT.out, HBX.out.setCell (p := ⟨b, 0, none⟩) (.inl rfl) _, ⟨some ⟨g, o + 2, none⟩, c - 1, by rw [HN.out]; exact HK0.out, by rw [HN.out]; exact HR0.out⟩, HZ.out, HLL.out⟩, (Bx.refl _ _ _).setCell (p := ⟨b, 0, none⟩) (.inl rfl) _⟩
end Go.Proofs.YtfhdknppldobiaaGreatDoor
