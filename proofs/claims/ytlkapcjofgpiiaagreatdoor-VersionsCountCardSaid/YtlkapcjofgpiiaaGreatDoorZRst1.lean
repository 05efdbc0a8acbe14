/-
  The reference's parser of rules: its tree in memory; next, take, not by contracts. (Printed by gen_rst.py.)
-/
import Derived.Test.YtlkapcjofgpiiaaGreatDoorZTok
import Derived.Test.YtlkapcjofgpiiaaGreatDoorZPx
import Derived.Test.YtlkapcjofgpiiaaGreatDoorZRule3
namespace Go.Proofs.YtlkapcjofgpiiaaGreatDoor
open Go Go.RowKit
attribute [local go_sem ↓] Go.wp_at_zero Go.wp_at_succ

def Nq.atom : Nq → ByteArray | .node _ a _ => a
abbrev Qn := (Option Addr × Nat) × Nq
def qnC (p : Qn) : List Value := [.string p.2.op, .string p.2.atom, .slice p.1.1 p.2.kids.length p.1.2]
theorem qnC_len (p : Qn) : (qnC p).length = 3 := rfl
/-- the reference's node, its kids in blocks of which P speaks -/
inductive NqV (w : World) (P : Nat → Prop) : Option Addr × Nat → Nq → Prop
  | mk (A : Option Addr) (c : Nat) (op atom : ByteArray) (ps : List Qn) (h1 : w.ownsRow 0 135 3 (.slice A ps.length c) ps.length (ps.flatMap qnC)) (h2 : ∀ k, (Value.slice A ps.length c).ownBlock = some k → P k)
      (h3 : ∀ p ∈ ps, NqV w P p.1 p.2) : NqV w P (A, c) (.node op atom (ps.map (·.2)))
theorem own_heapQ {w w' : World} {base : Nat} {e : TypeId} {size n : Nat} {v : Value} {xs : List Value} (h : w.ownsRow base e size v n xs) (hk : ∀ g, v.ownBlock = some g → w'.heap[g]? = w.heap[g]?) : w'.ownsRow base e size v n xs := by
  refine ⟨h.1, ?_⟩
  rcases h.2 with hn | ⟨g, cap, cur, rfl, hb, hgg, rest⟩
  · exact .inl hn
  · exact .inr ⟨g, cap, cur, rfl, hb, (hk g rfl).trans hgg, rest⟩
theorem NqV.keep {w w' : World} {P : Nat → Prop} {a : Option Addr × Nat} {t : Nq} (h : NqV w P a t) (hk : ∀ k, P k → w'.heap[k]? = w.heap[k]?) : NqV w' P a t := by
  induction h with
  | mk A c op atom ps h1 h2 h3 ih => exact .mk A c op atom ps (own_heapQ h1 (fun g e => hk g (h2 g e))) h2 ih
theorem NqV.wide {w : World} {P P' : Nat → Prop} {a : Option Addr × Nat} {t : Nq} (h : NqV w P a t) (hk : ∀ k, P k → P' k) : NqV w P' a t := by
  induction h with
  | mk A c op atom ps h1 h2 h3 ih => exact .mk A c op atom ps h1 (fun k e => hk k (h2 k e)) ih
def rQ (P : Nat → Prop) (ps : List Qn) : Rsc := ⟨fun W => ∀ p ∈ ps, NqV W P p.1 p.2, P⟩
theorem rQ_ok (P : Nat → Prop) (ps : List Qn) : (rQ P ps).Ok := fun _ _ h hp p hm => (hp p hm).keep h
section
variable {w W W' : World} {b : Nat} {l : List Rsc} {r r' : Rsc}
theorem Px.weak (h : Px w b W (r :: l)) (hp : r.P W → r'.P W) (hok : r'.Ok) (hf : ∀ k, r'.fp k → r.fp k) : Px w b W (r' :: l) :=
  ⟨h.bx, h.hb, h.hp.tail.cons (hp h.head) hok (fun k hk => h.hp.new _ (List.mem_cons_self ..) k (hf k hk)) (fun s hs k hk hk2 => (List.pairwise_cons.1 h.hp.apart).1 s hs k (hf k hk) hk2)⟩
theorem Px.mergeQ {P1 P2 : Nat → Prop} {ps1 ps2 : List Qn} (h : Px w b W (rQ P1 ps1 :: rQ P2 ps2 :: l)) : Px w b W (rQ (fun k => P1 k ∨ P2 k) (ps2 ++ ps1) :: l) := by
  have h1 := h.hp.apart
  rw [List.pairwise_cons] at h1
  have h2 := List.pairwise_cons.1 h1.2
  refine ⟨h.bx, h.hb, Hp.cons h.hp.tail.tail ?_ (rQ_ok _ _) (fun g hg => ?_) (fun s hs g hg hg2 => ?_)⟩
  · intro p hp
    rcases List.mem_append.1 hp with hp | hp
    · exact (NqV.wide ((h.nth 1 rfl : ∀ p ∈ ps2, NqV W P2 p.1 p.2) p hp) (fun k hk => .inr hk))
    · exact (NqV.wide ((h.head : ∀ p ∈ ps1, NqV W P1 p.1 p.2) p hp) (fun k hk => .inl hk))
  · rcases hg with hg | hg
    · exact h.hp.new _ (List.mem_cons_self ..) g hg
    · exact h.hp.new _ (List.mem_cons_of_mem _ (List.mem_cons_self ..)) g hg
  · rcases hg with hg | hg
    · exact h1.1 s (List.mem_cons_of_mem _ hs) g hg hg2
    · exact h2.1 s hs g hg hg2
theorem Px.nilQ (h : Px w b W l) : Px w b W (rQ (fun _ => False) [] :: l) :=
  ⟨h.bx, h.hb, h.hp.cons (by intro p hp; cases hp) (rQ_ok _ _) (fun _ hg => hg.elim) (fun _ _ _ hg _ => hg.elim)⟩
end
/-- block b holds the tokens l that are left; they lie in the memory of w0 -/
structure RAt (w0 W : World) (b : Nat) (l : List Tk) : Prop where
  lt : b < w0.heap.size
  bx : Bx w0.heap.size b w0 W
  ex : ∃ A c, Blk W b 153 #[.slice A l.length c] ∧ Rd w0 b 2 (.slice A l.length c) l.length (l.flatMap tkC)
  z : ∀ t ∈ l, t.1.size ≤ 100000
  len : l.length ≤ 100000
theorem RAt.below {w0 W W' : World} {b : Nat} {l : List Tk} (h : RAt w0 W b l) (k : Below W.heap.size W W') : RAt w0 W' b l := by
  obtain ⟨A, c, h1, h2⟩ := h.ex
  exact ⟨h.lt, h.bx.call (Bx.of_below k b) (Nat.le_refl _), ⟨A, c, h1.below k, h2⟩, h.z, h.len⟩
theorem RAt.far {w0 W : World} {b : Nat} {l : List Tk} (h : RAt w0 W b l) {g : Nat} (hg : w0.heap.size ≤ g) (i : Nat) (u : Value) : RAt w0 (W.setCell ⟨g, i, none⟩ u) b l := by
  obtain ⟨A, c, h1, h2⟩ := h.ex
  exact ⟨h.lt, h.bx.setCell (p := ⟨g, i, none⟩) (.inr hg) u, ⟨A, c, h1.far (p := ⟨g, i, none⟩) (by have := h.lt; show b ≠ g; omega) u, h2⟩, h.z, h.len⟩
theorem RAt.size {w0 W : World} {b : Nat} {l : List Tk} (h : RAt w0 W b l) : w0.heap.size ≤ W.heap.size := h.bx.size
/-- a node that was parsed, and what is left -/
def NqS (w0 : World) (b : Nat) (r : Nq × List Tk) (w : World) (e : Ending) (w' : World) : Prop :=
  ∃ (A : Option Addr) (c : Nat) (P : Nat → Prop), e = .returned (.agg #[.string r.1.op, .string r.1.atom, .slice A r.1.kids.length c]) ∧ NqV w' P (A, c) r.1 ∧ (∀ k, P k → w.heap.size ≤ k ∧ k < w'.heap.size) ∧ RAt w0 w' b r.2 ∧ Bx w.heap.size b w w'
theorem Px.nq {w W W' : World} {b : Nat} {l : List Rsc} (h : Px w b W l) (k : Bx W.heap.size b W W') {A : Option Addr} {c : Nat} {P : Nat → Prop} {t : Nq} (hn : NqV W' P (A, c) t) (hP : ∀ k, P k → W.heap.size ≤ k ∧ k < W'.heap.size) : Px w b W' (rQ P [((A, c), t)] :: l) :=
  h.new_ k (by intro p hp; simp at hp; subst hp; exact hn) (rQ_ok _ _) hP

set_option maxRecDepth 100000 in
theorem restNext_calls (w0 : World) (b : Nat) (t : Tk) (l : List Tk) (w : World) (h : RAt w0 w b (t :: l)) : Calls Tryz.prog 130 #[.pointer (some ⟨b, 0, none⟩)] w fun e w' => e = .returned (.string t.1) ∧ w' = w := by
  obtain ⟨A, c, h1, h2⟩ := h.ex
  obtain ⟨hl, hnc, hcm, hcells⟩ := (h2.bx h.bx).cells tkC_len (by decide)
  obtain ⟨g, o, hA, _, hcs⟩ := hcells (by simp)
  subst hA
  have k0 : w.cell? ⟨b, 0, none⟩ = some (.slice (some ⟨g, o, none⟩) (t :: l).length c) := h1.cell 0
  have d0 := hcs 0 (by simp) 0 (by decide)
  simp [tkC] at d0
  obtain ⟨n, hn⟩ : ∃ n, (t :: l).length = n := ⟨_, rfl⟩
  have hn1 : 0 < n := by rw [← hn]; simp
  rw [hn] at k0
  have hn2 : (0 : Int) < (n : Int) := by omega
  clear h1 h2 hcs hcells hl hnc hcm h
  go_enter Tryz.func130, Tryz.ntmps130
  go_wp2_with fail
  go_ret
  exact ⟨rfl, rfl⟩
set_option maxRecDepth 100000 in
theorem restTake_calls (w0 : World) (b : Nat) (t : Tk) (l : List Tk) (w : World) (h : RAt w0 w b (t :: l)) : Calls Tryz.prog 131 #[.pointer (some ⟨b, 0, none⟩)] w fun e w' => e = .returned (.string t.1) ∧ RAt w0 w' b l ∧ Bx w.heap.size b w w' := by
  obtain ⟨A, c, h1, h2⟩ := h.ex
  obtain ⟨hl, hnc, hcm, hcells⟩ := (h2.bx h.bx).cells tkC_len (by decide)
  obtain ⟨g, o, hA, _, hcs⟩ := hcells (by simp)
  subst hA
  have k0 : w.cell? ⟨b, 0, none⟩ = some (.slice (some ⟨g, o, none⟩) (t :: l).length c) := h1.cell 0
  have f0 := h1.frozen 0
  have d0 := hcs 0 (by simp) 0 (by decide)
  simp [tkC] at d0
  obtain ⟨n, hn⟩ : ∃ n, l.length = n := ⟨_, rfl⟩
  have hn1 : (t :: l).length = n + 1 := by rw [List.length_cons, hn]
  rw [hn1] at k0 hnc h2
  have hn2 : (0 : Int) < ((n + 1 : Nat) : Int) := by omega
  have hn3 : (1 : Int) ≤ ((n + 1 : Nat) : Int) := by omega
  have hn4 : ((n + 1 : Nat) : Int) ≤ (c : Int) := by omega
  have hn5 : 1 ≤ c := by omega
  have hlen : ((t :: l).flatMap tkC).length = (n + 1) * 2 := h2.len
  have hrd2 : ∀ A', (A' = some ⟨g, o, none⟩ ∧ n = 0) ∨ A' = some ⟨g, o + 2, none⟩ → Rd w0 b 2 (.slice A' n (c - 1)) n (l.flatMap tkC) := by
    intro A' hA'
    obtain ⟨A3, c3, e1, e2, e3, e4, e5, e6⟩ := h2
    injection e1 with ea _ ec
    subst ea ec
    refine ⟨A', c - 1, rfl, by omega, by omega, ?_, fun h => ?_, fun hp => ?_⟩
    · rw [List.flatMap_cons, List.length_append] at hlen
      have : (tkC t).length = 2 := rfl
      omega
    · rcases hA' with ⟨h1, _⟩ | h1 <;> (rw [h1] at h; cases h)
    · rcases hA' with ⟨_, h1⟩ | h1
      · omega
      · obtain ⟨g3, o3, f1, f2, f3⟩ := e6 (by omega)
        injection f1 with f1
        injection f1 with f1 f4
        subst f1 f4
        refine ⟨g, o + 2, h1, f2, fun j u hu => ?_⟩
        have := f3 (2 + j) u (by
          rw [List.flatMap_cons, List.getElem?_append_right (by show 2 ≤ 2 + j; omega)]
          have e : 2 + j - (tkC t).length = j := by show 2 + j - 2 = j; omega
          rw [e]; exact hu)
        rw [Nat.add_assoc]
        exact this
  have HRD := Lib.hid hrd2
  have HZ := Lib.hid (fun x (hx : x ∈ l) => h.z x (List.mem_cons_of_mem _ hx))
  have HLT := Lib.hid h.lt
  have HLL : Hid (l.length ≤ 100000) := Lib.hid (by have := h.len; rw [List.length_cons] at this; omega)
  have HBX := Lib.hid h.bx
  have HN := Lib.hid hn
  have HK : Hid (∀ A', Blk (w.setCell ⟨b, 0, none⟩ (.slice A' n (c - 1))) b 153 #[.slice A' n (c - 1)]) := Lib.hid (fun A' => Blk.set_ h1 0 (.slice A' n (c - 1)))
  clear h1 h2 hcs hcells hl hrd2 hlen hn hn1 h hnc
  by_cases hc : c = 1
  · subst hc
    obtain rfl : n = 0 := by omega
    have hr0 : Rd w0 b 2 (.slice (some ⟨g, o, none⟩) 0 0) 0 (l.flatMap tkC) := HRD.out _ (.inl ⟨rfl, rfl⟩)
    have hk0 : Blk (w.setCell ⟨b, 0, none⟩ (.slice (some ⟨g, o, none⟩) 0 0)) b 153 #[.slice (some ⟨g, o, none⟩) 0 0] := HK.out _
    have HR0 := Lib.hid hr0
    have HK0 := Lib.hid hk0
    clear hr0 hk0 HRD HK
    go_enter Tryz.func131, Tryz.ntmps131
    go_wp2_with fail
    go_ret
    exact ⟨rfl, ⟨HLT.out, HBX.out.setCell (p := ⟨b, 0, none⟩) (.inl rfl) _, ⟨some ⟨g, o, none⟩, 0, by rw [HN.out]; exact HK0.out, by rw [HN.out]; exact HR0.out⟩, HZ.out, HLL.out⟩, (Bx.refl _ _ _).setCell (p := ⟨b, 0, none⟩) (.inl rfl) _⟩
  · have HR0 := Lib.hid (HRD.out (some ⟨g, o + 2, none⟩) (.inr rfl))
    have HK0 := Lib.hid (HK.out (some ⟨g, o + 2, none⟩))
    clear HRD HK
    go_enter Tryz.func131, Tryz.ntmps131
    go_wp2_with fail
    go_ret
    exact ⟨rfl, ⟨HLT.out, HBX.out.setCell (p := ⟨b, 0, none⟩) (.inl rfl) _, ⟨some ⟨g, o + 2, none⟩, c - 1, by rw [HN.out]; exact HK0.out, by rw [HN.out]; exact HR0.out⟩, HZ.out, HLL.out⟩, (Bx.refl _ _ _).setCell (p := ⟨b, 0, none⟩) (.inl rfl) _⟩
end Go.Proofs.YtlkapcjofgpiiaaGreatDoor
/-
  The reference's parser of rules, on: not by a contract. (Printed by gen_rst.py.)
-/
namespace Go.Proofs.YtlkapcjofgpiiaaGreatDoor
open Go Go.RowKit
attribute [local go_sem ↓] Go.wp_at_zero Go.wp_at_succ

def NotH (f : Nat) : Prop := ∀ w0 b l r w, RAt w0 w b l → notR f l = some r → Calls Tryz.prog 129 #[.pointer (some ⟨b, 0, none⟩)] w (NqS w0 b r w)
def LstH (op : ByteArray) (part : List Tk → Option (Nq × List Tk)) : Prop := ∀ w0 b l r w, RAt w0 w b l → listR op part l = some r → Calls Tryz.prog 111 #[.pointer (some ⟨b, 0, none⟩), .string op] w (NqS w0 b r w)
theorem Px.three {w W : World} {b : Nat} {l : List Rsc} {g : Nat} {t : TypeId} {x y z : Value} (h : Px w b W (rBlk g t #[x, y, z] :: l)) (x' y' z' : Value) :
    Px w b (((W.setCell ⟨g, 0, none⟩ x').setCell ⟨g, 1, none⟩ y').setCell ⟨g, 2, none⟩ z') (rBlk g t #[x', y', z'] :: l) := ((h.set_ 0 x').set_ 1 y').set_ 2 z'
theorem RAt.three {w0 W : World} {b : Nat} {l : List Tk} (h : RAt w0 W b l) {g : Nat} (hg : w0.heap.size ≤ g) (x' y' z' : Value) :
    RAt w0 (((W.setCell ⟨g, 0, none⟩ x').setCell ⟨g, 1, none⟩ y').setCell ⟨g, 2, none⟩ z') b l := ((h.far hg 0 x').far hg 1 y').far hg 2 z'
theorem Blk.threeQ {w : World} {g : Nat} {t : TypeId} {x y z : Value} (h : Blk w g t #[x, y, z]) :
    w.cell? ⟨g, 0, none⟩ = some x ∧ w.cell? ⟨g, 1, none⟩ = some y ∧ w.cell? ⟨g, 2, none⟩ = some z ∧ w.frozen? ⟨g, 0, none⟩ = false ∧ w.frozen? ⟨g, 1, none⟩ = false ∧ w.frozen? ⟨g, 2, none⟩ = false :=
  ⟨h.cell 0, h.cell 1, h.cell 2, h.frozen 0, h.frozen 1, h.frozen 2⟩
theorem nqv_leaf (w : World) (op atom : ByteArray) : NqV w (fun _ => False) (none, 0) (.node op atom []) :=
  .mk none 0 op atom [] (World.ownsRow_nil _ _ _ _) (fun k h => by cases h) (fun p hp => by cases hp)
theorem nqv_one {w : World} {P : Nat → Prop} {base g : Nat} {A : Option Addr} {c : Nat} {t : Nq} (op atom : ByteArray) (hr : w.ownsRow base 135 3 (.slice (some ⟨g, 0, none⟩) 1 1) 1 [.string t.op, .string t.atom, .slice A t.kids.length c]) (hn : NqV w P (A, c) t) :
    NqV w (fun k => P k ∨ k = g) (some ⟨g, 0, none⟩, 1) (.node op atom [t]) :=
  .mk (some ⟨g, 0, none⟩) 1 op atom [((A, c), t)] (own_base hr (Nat.zero_le _)) (fun k h => .inr (by injection h with h; exact h.symm)) (fun p hp => by simp at hp; subst hp; exact hn.wide (fun k hk => .inl hk))

set_option maxRecDepth 100000 in
set_option maxHeartbeats 2000000 in
theorem restNot_calls (f : Nat) (IH : NotH f) (IL : LstH sOr (listR sAnd (notR f))) : NotH (f + 1) := by
  intro w0 b l r w h hr
  cases l with
  | nil => cases hr
  | cons t l =>
  have hb : b < w.heap.size := Nat.lt_of_lt_of_le h.lt h.size
  have hg0 : w0.heap.size ≤ w.heap.size := h.size
  have htz := h.z t (List.mem_cons_self ..)
  have hS0 := (Px.start w hb).add #[.string ⟨#[]⟩, .string ⟨#[]⟩, .slice none 0 0] 135
  have hR0 := h.below ((Below.refl _ _).alloc (Nat.le_refl _) (.cells #[.string ⟨#[]⟩, .string ⟨#[]⟩, .slice none 0 0] 135))
  have HTK := Lib.hid (restTake_calls w0 b t l _ hR0)
  have eN := tokB t.1 [110, 111, 116] sNot rfl
  have eO := tokB t.1 [40] sOpen rfl
  have eT := tokB t.1 [116, 114, 117, 101] sTrue rfl
  have eH := tokB t.1 [104, 97, 115] sHas rfl
  rw [notR] at hr
  obtain ⟨tx, ta⟩ := t
  simp only at hr htz HTK eN eO eT eH
  clear h hR0
  by_cases q1 : tx = sNot
  · rw [if_pos q1] at hr
    obtain ⟨r0, hr0, rfl⟩ : ∃ r0, notR f l = some r0 ∧ r = (.node sNot noB [r0.1], r0.2) := by
      cases hx : notR f l with
      | none => rw [hx] at hr; cases hr
      | some r0 => rw [hx] at hr; injection hr with hr; exact ⟨r0, rfl, hr.symm⟩
    rw [decide_eq_true q1] at eN
    have HIH := Lib.hid (fun W (hW : RAt w0 W b l) => IH w0 b l r0 W hW hr0)
    clear hr eO eT eH IH IL hr0
    subst q1
    go_enter Tryz.func129, Tryz.ntmps129
    go_wp2_with fail
    refine HTK.out.mono ?_
    rintro e w2 ⟨rfl, hR2, B2⟩
    have hS2 := hS0.call B2
    clear hS0 HTK B2
    go_wp2_with fail
    refine (HIH.out _ hR2).mono ?_
    rintro e w3 ⟨A3, c3, P3, rfl, hN3, hP3, hR3, B3⟩
    have hS3 := (hS2.nq B3 hN3 hP3).front 1 rfl rfl
    have hlt3 : w.heap.size < w3.heap.size := (hS3.ge 0 rfl (g := w.heap.size) rfl).2
    have hne3 : ¬ w.heap.size = w3.heap.size := by omega
    obtain ⟨k0, k1, k2, f0, f1, f2⟩ := Blk.threeQ hS3.head
    have hS4 := (hS3.three (.string ⟨#[110, 111, 116]⟩) (.string ⟨#[]⟩) (.slice (some ⟨w3.heap.size, 0, none⟩) 1 1)).addRow #[.string r0.1.op, .string r0.1.atom, .slice A3 r0.1.kids.length c3] 135 3 1 rfl (by decide)
    have hR4 := (hR3.three hg0 (.string ⟨#[110, 111, 116]⟩) (.string ⟨#[]⟩) (.slice (some ⟨w3.heap.size, 0, none⟩) 1 1)).below ((Below.refl _ _).alloc (Nat.le_refl _) (.cells #[.string r0.1.op, .string r0.1.atom, .slice A3 r0.1.kids.length c3] 135))
    have hz3 : (((w3.setCell ⟨w.heap.size, 0, none⟩ (.string ⟨#[110, 111, 116]⟩)).setCell ⟨w.heap.size, 1, none⟩ (.string ⟨#[]⟩)).setCell ⟨w.heap.size, 2, none⟩ (.slice (some ⟨w3.heap.size, 0, none⟩) 1 1)).heap.size = w3.heap.size := by simp [World.setCell]
    rw [hz3] at hS4
    obtain ⟨r0', r1', r2', _⟩ := Blk.threeQ (hS4.nth 1 rfl)
    have hN4 := (hS4.nth 2 rfl : ∀ p ∈ [((A3, c3), r0.1)], NqV _ P3 p.1 p.2) _ (List.mem_singleton.2 rfl)
    have hfin := nqv_one sNot noB (show World.ownsRow _ w.heap.size 135 3 (.slice (some ⟨w3.heap.size, 0, none⟩) 1 1) 1 _ from hS4.head) hN4
    have hfp : ∀ k, P3 k ∨ k = w3.heap.size → w.heap.size ≤ k ∧ k < _ := fun k hk => by
      rcases hk with hk | hk
      · exact hS4.ge 2 rfl hk
      · exact hS4.ge 0 rfl (by rw [hk]; rfl)
    have hbx := hS4.bx
    clear hS4 hS3 hS2 hR2 hR3 hN3 hP3 hN4 hz3
    go_wp2_with fail
    exact bodyPost_ret (v := .agg #[.string ⟨#[110, 111, 116]⟩, .string ⟨#[]⟩, .slice (some ⟨w3.heap.size, 0, none⟩) 1 1]) (by simp [results, Tryz.results129, go_sem, r0', r1', r2']) rfl ⟨_, _, _, rfl, hfin, hfp, hR4, hbx⟩
  rw [if_neg q1] at hr
  rw [decide_eq_false q1] at eN
  by_cases q2 : tx = sOpen
  · rw [if_pos q2] at hr
    obtain ⟨n, t2, l2, hl2, rfl⟩ : ∃ n t2 l2, listR sOr (listR sAnd (notR f)) l = some (n, t2 :: l2) ∧ r = (n, l2) := by
      cases hx : listR sOr (listR sAnd (notR f)) l with
      | none => rw [hx] at hr; cases hr
      | some r0 =>
        rw [hx] at hr
        obtain ⟨n, l2⟩ := r0
        cases l2 with
        | nil => cases hr
        | cons t2 l2 => injection hr with hr; exact ⟨n, t2, l2, rfl, hr.symm⟩
    rw [decide_eq_true q2] at eO
    have HIL := Lib.hid (fun W (hW : RAt w0 W b l) => IL w0 b l _ W hW hl2)
    have HT2 := Lib.hid (fun W (hW : RAt w0 W b (t2 :: l2)) => restTake_calls w0 b t2 l2 W hW)
    clear hr eT eH IH IL hl2 q1
    subst q2
    have eOr : (⟨#[111, 114]⟩ : ByteArray) = sOr := rfl
    go_enter Tryz.func129, Tryz.ntmps129
    go_wp2_with fail
    refine HTK.out.mono ?_
    rintro e w2 ⟨rfl, hR2, B2⟩
    have hS2 := hS0.call B2
    clear hS0 HTK B2
    go_wp2_with fail
    refine (HIL.out _ hR2).mono ?_
    rintro e w3 ⟨A3, c3, P3, rfl, hN3, hP3, hR3, B3⟩
    have hS3 := ((hS2.nq B3 hN3 hP3)).add #[.string n.op, .string n.atom, .slice A3 n.kids.length c3] 135
    have hR3' := hR3.below ((Below.refl _ _).alloc (Nat.le_refl _) (.cells #[.string n.op, .string n.atom, .slice A3 n.kids.length c3] 135))
    clear hS2 hR2 hR3 hN3 hP3 B3
    go_wp2_with fail
    refine (HT2.out _ hR3').mono ?_
    rintro e w4 ⟨rfl, hR4, B4⟩
    have hS4 := hS3.call B4
    obtain ⟨k0, k1, k2, f0, f1, f2⟩ := Blk.threeQ (hS4.nth 0 rfl)
    obtain ⟨d0, d1, d2, g0, g1, g2⟩ := Blk.threeQ (hS4.nth 2 rfl)
    have hS5 := (hS4.front 2 rfl rfl).three (.string n.op) (.string n.atom) (.slice A3 n.kids.length c3)
    have hR5 := hR4.three hg0 (.string n.op) (.string n.atom) (.slice A3 n.kids.length c3)
    obtain ⟨r0', r1', r2', _⟩ := Blk.threeQ (hS5.nth 0 rfl)
    have hN5 := (hS5.nth 2 rfl : ∀ p ∈ [((A3, c3), n)], NqV _ P3 p.1 p.2) _ (List.mem_singleton.2 rfl)
    have hfp : ∀ k, P3 k → w.heap.size ≤ k ∧ k < _ := fun k hk => hS5.ge 2 rfl hk
    have hbx := hS5.bx
    clear hS5 hS4 hS3 hR3' hR4 B4
    go_wp2_with fail
    exact bodyPost_ret (v := .agg #[.string n.op, .string n.atom, .slice A3 n.kids.length c3]) (by simp [results, Tryz.results129, go_sem, r0', r1', r2']) rfl ⟨_, _, _, rfl, hN5, hfp, hR5, hbx⟩
  rw [if_neg q2] at hr
  rw [decide_eq_false q2] at eO
  by_cases q3 : tx = sTrue
  · rw [if_pos q3] at hr
    injection hr with hr
    subst hr
    rw [decide_eq_true q3] at eT
    clear eH IH IL q1 q2
    subst q3
    go_enter Tryz.func129, Tryz.ntmps129
    go_wp2_with fail
    refine HTK.out.mono ?_
    rintro e w2 ⟨rfl, hR2, B2⟩
    have hS2 := hS0.call B2
    obtain ⟨k0, k1, k2, f0, f1, f2⟩ := Blk.threeQ (hS2.nth 0 rfl)
    have hS5 := hS2.three (.string ⟨#[]⟩) (.string sTrue) (.slice none 0 0)
    have hR5 := hR2.three hg0 (.string ⟨#[]⟩) (.string sTrue) (.slice none 0 0)
    obtain ⟨r0', r1', r2', _⟩ := Blk.threeQ (hS5.nth 0 rfl)
    have hbx := hS5.bx
    clear hS0 HTK B2 hS2 hR2 hS5
    go_wp2_with fail
    exact bodyPost_ret (v := .agg #[.string ⟨#[]⟩, .string sTrue, .slice none 0 0]) (by simp [results, Tryz.results129, go_sem, r0', r1', r2']) rfl ⟨none, 0, _, rfl, nqv_leaf _ noB sTrue, fun k hk => hk.elim, hR5, hbx⟩
  rw [if_neg q3] at hr
  rw [decide_eq_false q3] at eT
  by_cases q4 : tx = sHas
  · rw [if_pos q4] at hr
    obtain ⟨x, l2, rfl, rfl⟩ : ∃ x l2, l = x :: l2 ∧ r = (.node noB (hasQ x.1) [], l2) := by
      cases l with
      | nil => cases hr
      | cons x l2 => injection hr with hr; exact ⟨x, l2, rfl, hr.symm⟩
    rw [decide_eq_true q4] at eH
    have HT2 := Lib.hid (fun W (hW : RAt w0 W b (x :: l2)) => restTake_calls w0 b x l2 W hW)
    obtain ⟨X, hX⟩ : ∃ X : ByteArray, (⟨#[104, 97, 115, 32]⟩ ++ x.1) = X := ⟨_, rfl⟩
    have HXX : Hid (hasQ x.1 = X) := Lib.hid hX
    have HXS := Lib.hid hX
    clear IH IL q1 q2 q3 hr hX
    subst q4
    go_enter Tryz.func129, Tryz.ntmps129
    go_wp2_with fail
    refine HTK.out.mono ?_
    rintro e w2 ⟨rfl, hR2, B2⟩
    have hxz := hR2.z x (List.mem_cons_self ..)
    have hS2 := hS0.call B2
    clear hS0 HTK B2
    go_wp2_with fail
    refine (HT2.out _ hR2).mono ?_
    rintro e w3 ⟨rfl, hR3, B3⟩
    have hS3 := hS2.call B3
    obtain ⟨k0, k1, k2, f0, f1, f2⟩ := Blk.threeQ (hS3.nth 0 rfl)
    have hS5 := hS3.three (.string ⟨#[]⟩) (.string (⟨#[104, 97, 115, 32]⟩ ++ x.1)) (.slice none 0 0)
    have hR5 := hR3.three hg0 (.string ⟨#[]⟩) (.string (⟨#[104, 97, 115, 32]⟩ ++ x.1)) (.slice none 0 0)
    obtain ⟨r0', r1', r2', _⟩ := Blk.threeQ (hS5.nth 0 rfl)
    have hbx := hS5.bx
    clear hS2 hR2 hS5 hS3 hR3 B3
    go_wp2_with fail
    exact bodyPost_ret (v := .agg #[.string ⟨#[]⟩, .string (⟨#[104, 97, 115, 32]⟩ ++ x.1), .slice none 0 0]) (by simp [results, Tryz.results129, go_sem, r0', r1', r2']) rfl ⟨none, 0, _, rfl, nqv_leaf _ noB (hasQ x.1), fun k hk => hk.elim, hR5, hbx⟩
  rw [if_neg q4] at hr
  rw [decide_eq_false q4] at eH
  obtain ⟨x, y, l2, rfl, rfl⟩ : ∃ x y l2, l = x :: y :: l2 ∧ r = (.node noB (triQ tx x.1 y.1) [], l2) := by
    cases l with
    | nil => cases hr
    | cons x l2 => cases l2 with
      | nil => cases hr
      | cons y l2 => injection hr with hr; exact ⟨x, y, l2, rfl, hr.symm⟩
  have HT2 := Lib.hid (fun W (hW : RAt w0 W b (x :: y :: l2)) => restTake_calls w0 b x (y :: l2) W hW)
  have HT3 := Lib.hid (fun W (hW : RAt w0 W b (y :: l2)) => restTake_calls w0 b y l2 W hW)
  clear IH IL q1 q2 q3 q4 hr
  go_enter Tryz.func129, Tryz.ntmps129
  go_wp2_with fail
  refine HTK.out.mono ?_
  rintro e w2 ⟨rfl, hR2, B2⟩
  have hxz := hR2.z x (List.mem_cons_self ..)
  have hyz := hR2.z y (by simp)
  have hS2 := hS0.call B2
  clear hS0 HTK B2
  go_wp2_with fail
  refine (HT2.out _ hR2).mono ?_
  rintro e w3 ⟨rfl, hR3, B3⟩
  have hS3 := hS2.call B3
  clear hS2 B3 hR2
  go_wp2_with fail
  refine (HT3.out _ hR3).mono ?_
  rintro e w4 ⟨rfl, hR4, B4⟩
  have hS4 := hS3.call B4
  obtain ⟨k0, k1, k2, f0, f1, f2⟩ := Blk.threeQ (hS4.nth 0 rfl)
  have hS5 := hS4.three (.string ⟨#[]⟩) (.string (tx ++ ⟨#[32]⟩ ++ x.1 ++ ⟨#[32]⟩ ++ y.1)) (.slice none 0 0)
  have hR5 := hR4.three hg0 (.string ⟨#[]⟩) (.string (tx ++ ⟨#[32]⟩ ++ x.1 ++ ⟨#[32]⟩ ++ y.1)) (.slice none 0 0)
  obtain ⟨r0', r1', r2', _⟩ := Blk.threeQ (hS5.nth 0 rfl)
  have hbx := hS5.bx
  clear hS5 hS4 hS3 hR3 hR4 B4
  go_wp2_with fail
  exact bodyPost_ret (v := .agg #[.string ⟨#[]⟩, .string (tx ++ ⟨#[32]⟩ ++ x.1 ++ ⟨#[32]⟩ ++ y.1), .slice none 0 0]) (by simp [results, Tryz.results129, go_sem, r0', r1', r2']) rfl ⟨none, 0, _, rfl, nqv_leaf _ noB (triQ tx x.1 y.1), fun k hk => hk.elim, hR5, hbx⟩
end Go.Proofs.YtlkapcjofgpiiaaGreatDoor
