/-
  The list of resources of XSep beside a stream whose answers are known (XStrX); what the calls of the stream answer. (Printed by gen_sepx.py.)
-/
import Derived.Test.YthbcogekfdllmaaGreatDoorZStrX
import Derived.Test.YthbcogekfdllmaaGreatDoorZBs
namespace Go.Proofs.YthbcogekfdllmaaGreatDoor
open Go Go.RowKit

structure SpX (zs : ZsT) (w : World) (b K : Nat) (W : World) (l : List Rsc) : Prop where
  strm : StrmX W b zs K
  bx : Bx w.heap.size b w W
  hb : b < w.heap.size
  hold : ∀ r ∈ l, r.P W
  ok : ∀ r ∈ l, r.Ok
  new : ∀ r ∈ l, ∀ g, r.fp g → w.heap.size ≤ g ∧ g < W.heap.size
  apart : l.Pairwise Apart
section
variable {zs : ZsT} {w W W' : World} {b K K' : Nat} {l : List Rsc} {r : Rsc}
theorem SpX.start (h : StrmX w b zs K) : SpX zs w b K w [] := ⟨h, Bx.refl _ _ _, h.lt, (by intro r hr; cases hr), (by intro r hr; cases hr), (by intro r hr; cases hr), List.Pairwise.nil⟩
theorem SpX.size (h : SpX zs w b K W l) : w.heap.size ≤ W.heap.size := h.bx.size
theorem SpX.lt (h : SpX zs w b K W l) : b < W.heap.size := h.strm.lt
/-- behind a call that turned the stream alone -/
theorem SpX.call (h : SpX zs w b K W l) (hs : StrmX W' b zs K') (k : Bx W.heap.size b W W') : SpX zs w b K' W' l :=
  ⟨hs, h.bx.call k (Nat.le_refl _), h.hb, fun r hr => h.ok r hr W W' (fun g hg => by
      have := h.new r hr g hg
      have := h.hb
      exact k.block g (by omega) (by omega)) (h.hold r hr), h.ok, fun r hr g hg => by have := h.new r hr g hg; have := k.size; omega, h.apart⟩
theorem SpX.callB (h : SpX zs w b K W l) (k : Below W.heap.size W W') : SpX zs w b K W' l := h.call (h.strm.below k) (Bx.of_below k b)
theorem SpX.drew (h : SpX zs w b K W l) : SpX zs w b K W.drew l := h.callB (below_drewN (Below.refl _ _) 1)
theorem SpX.drewN (h : SpX zs w b K W l) (n : Nat) : SpX zs w b K (W.drewN n) l := h.callB (below_drewN (Below.refl _ _) n)
theorem SpX.alloc (h : SpX zs w b K W l) (o : Obj) : SpX zs w b K (W.alloc o) l := h.callB ((Below.refl _ _).alloc (Nat.le_refl _) o)
theorem SpX.cons (h : SpX zs w b K W l) (hp : r.P W) (hok : r.Ok) (hn : ∀ g, r.fp g → w.heap.size ≤ g ∧ g < W.heap.size) (ha : ∀ s ∈ l, Apart r s) : SpX zs w b K W (r :: l) :=
  ⟨h.strm, h.bx, h.hb, fun s hs => by rcases List.mem_cons.1 hs with rfl | hs; exact hp; exact h.hold s hs, fun s hs => by rcases List.mem_cons.1 hs with rfl | hs; exact hok; exact h.ok s hs,
    fun s hs => by rcases List.mem_cons.1 hs with rfl | hs; exact hn; exact h.new s hs, List.Pairwise.cons ha h.apart⟩
theorem SpX.add (h : SpX zs w b K W l) (cs : Array Value) (t : TypeId) : SpX zs w b K (W.alloc (.cells cs t)) (rBlk W.heap.size t cs :: l) :=
  (h.alloc _).cons (Blk.new W t cs) (rBlk_ok _ _ _) (fun g hg => by
    have hg : g = W.heap.size := hg
    subst hg
    exact ⟨h.size, by simp⟩) (fun s hs g hg hg2 => by
    have hg : g = W.heap.size := hg
    have := (h.new s hs g hg2).2
    omega)
theorem SpX.tail (h : SpX zs w b K W (r :: l)) : SpX zs w b K W l :=
  ⟨h.strm, h.bx, h.hb, fun s hs => h.hold s (List.mem_cons_of_mem _ hs), fun s hs => h.ok s (List.mem_cons_of_mem _ hs), fun s hs => h.new s (List.mem_cons_of_mem _ hs), (List.pairwise_cons.1 h.apart).2⟩
theorem SpX.head (h : SpX zs w b K W (r :: l)) : r.P W := h.hold r (List.mem_cons_self ..)
theorem SpX.nth (h : SpX zs w b K W l) (i : Nat) (hi : l[i]? = some r) : r.P W := h.hold r (List.mem_of_getElem? hi)
theorem SpX.perm {l' : List Rsc} (h : SpX zs w b K W l) (hp : l.Perm l') : SpX zs w b K W l' :=
  ⟨h.strm, h.bx, h.hb, fun s hs => h.hold s (hp.mem_iff.2 hs), fun s hs => h.ok s (hp.mem_iff.2 hs), fun s hs => h.new s (hp.mem_iff.2 hs), hp.pairwise h.apart (fun h => apart_comm h)⟩
/-- the i-th resource first -/
theorem SpX.front (h : SpX zs w b K W l) (i : Nat) (hi : l[i]? = some r) {l' : List Rsc} (hl : l.eraseIdx i = l') : SpX zs w b K W (r :: l') := by
  subst hl
  exact h.perm (front_perm l i r hi)
theorem SpX.drop (h : SpX zs w b K W l) (i : Nat) (hi : l[i]? = some r) {l' : List Rsc} (hl : l.eraseIdx i = l') : SpX zs w b K W l' := (h.front i hi hl).tail
/-- a list of the call's own that is nil -/
theorem SpX.nil (h : SpX zs w b K W l) (base : Nat) (e : TypeId) (size : Nat) : SpX zs w b K W (rOwn base e size (.slice none 0 0) 0 [] :: l) :=
  h.cons (World.ownsRow_nil _ _ _ _) (rOwn_ok _ _ _ _ _ _) (fun g hg => by simp [rOwn, Value.ownBlock] at hg) (fun s _ g hg => by simp [rOwn, Value.ownBlock] at hg)
/-- behind a call that answers with a row in new memory -/
theorem SpX.own {e : TypeId} {size n : Nat} {v : Value} {xs : List Value} (h : SpX zs w b K W l) (hs : StrmX W' b zs K') (k : Bx W.heap.size b W W') (ho : W'.ownsRow W.heap.size e size v n xs) : SpX zs w b K' W' (rOwn w.heap.size e size v n xs :: l) :=
  (h.call hs k).cons (own_base ho h.size) (rOwn_ok _ _ _ _ _ _) (fun g hg => by
    have := ho.lt g hg
    have := h.size
    omega) (fun s hs g hg hg2 => by
    have := (ho.lt g hg).1
    have := (h.new s hs g hg2).2
    omega)
theorem SpX.ownB {e : TypeId} {size n : Nat} {v : Value} {xs : List Value} (h : SpX zs w b K W l) (k : Below W.heap.size W W') (ho : W'.ownsRow W.heap.size e size v n xs) : SpX zs w b K W' (rOwn w.heap.size e size v n xs :: l) :=
  h.own (h.strm.below k) (Bx.of_below k b) ho
/-- an append to the first row -/
theorem SpX.append {base : Nat} {e : TypeId} {size n n' : Nat} {v v' : Value} {xs xs' : List Value} (h : SpX zs w b K W (rOwn base e size v n xs :: l)) (ho : W'.ownsRow base e size v' n' xs') (hg : W.grownBy W' v.ownBlock) (hv : v'.ownBlock = v.ownBlock ∨ v'.ownBlock = some W.heap.size) :
    SpX zs w b K W' (rOwn base e size v' n' xs' :: l) := by
  have hbw := h.hb
  have hrow : ∀ q, v.ownBlock = some q → w.heap.size ≤ q ∧ q < W.heap.size := fun q hq => h.new _ (List.mem_cons_self ..) q hq
  have h0 : SpX zs w b K W' l := ⟨h.strm.grown hg (fun k hk => by have := hrow k hk; omega), h.bx.grown hg (Nat.le_refl _) (fun k hk => .inr (hrow k hk).1), h.hb,
    fun r hr => h.ok r (List.mem_cons_of_mem _ hr) W W' (fun g hgg => hg.block g (h.new r (List.mem_cons_of_mem _ hr) g hgg).2 (fun e => (List.pairwise_cons.1 h.apart).1 r hr g e.symm hgg)) (h.hold r (List.mem_cons_of_mem _ hr)),
    h.tail.ok, fun r hr g hgg => by have := h.tail.new r hr g hgg; have := hg.size; omega, h.tail.apart⟩
  refine h0.cons ho (rOwn_ok _ _ _ _ _ _) (fun g hgg => ?_) (fun s hs g hgg hg2 => ?_)
  · have hgg : v'.ownBlock = some g := hgg
    have hl := (ho.lt g hgg).2
    rcases hv with hv | hv
    · rw [hv] at hgg; exact ⟨(hrow g hgg).1, hl⟩
    · rw [hv] at hgg; injection hgg with hgg; subst hgg; exact ⟨h.size, hl⟩
  · have hgg : v'.ownBlock = some g := hgg
    rcases hv with hv | hv
    · rw [hv] at hgg; exact (List.pairwise_cons.1 h.apart).1 s hs g hgg hg2
    · rw [hv] at hgg; injection hgg with hgg; subst hgg
      have := (h.tail.new s hs _ hg2).2
      omega
/-- a store into the block that is first -/
theorem SpX.store_ (h : SpX zs w b K W (r :: l)) {g : Nat} (hg : r.fp g) (i : Nat) (u : Value) {r' : Rsc} (hp : r'.P (W.setCell ⟨g, i, none⟩ u)) (hok : r'.Ok) (hf : ∀ k, r'.fp k → r.fp k) : SpX zs w b K (W.setCell ⟨g, i, none⟩ u) (r' :: l) := by
  have hgn := h.new _ (List.mem_cons_self ..) g hg
  have hbw := h.hb
  have hz : (W.setCell ⟨g, i, none⟩ u).heap.size = W.heap.size := by simp [World.setCell]
  have h0 : SpX zs w b K (W.setCell ⟨g, i, none⟩ u) l := ⟨h.strm.setCell (q := ⟨g, i, none⟩) (by show b < g; omega) u, h.bx.setCell (p := ⟨g, i, none⟩) (.inr hgn.1) u, h.hb,
    fun s hs => h.ok s (List.mem_cons_of_mem _ hs) W _ (fun k hk => Below.heap_setCell W ⟨g, i, none⟩ u k (fun e => (List.pairwise_cons.1 h.apart).1 s hs g hg (by have e : k = g := e; rw [← e]; exact hk))) (h.hold s (List.mem_cons_of_mem _ hs)),
    h.tail.ok, fun s hs k hk => by rw [hz]; exact h.tail.new s hs k hk, h.tail.apart⟩
  exact h0.cons hp hok (fun k hk => by rw [hz]; exact h.new _ (List.mem_cons_self ..) k (hf k hk)) (fun s hs k hk hk2 => (List.pairwise_cons.1 h.apart).1 s hs k (hf k hk) hk2)
theorem SpX.set_ {g : Nat} {t : TypeId} {cs : Array Value} (h : SpX zs w b K W (rBlk g t cs :: l)) (i : Nat) (u : Value) : SpX zs w b K (W.setCell ⟨g, i, none⟩ u) (rBlk g t (cs.setIfInBounds i u) :: l) :=
  h.store_ (g := g) rfl i u (r' := rBlk g t (cs.setIfInBounds i u)) (Blk.set_ h.head i u) (rBlk_ok _ _ _) (fun _k hk => hk)
/-- the first two as one fact -/
theorem SpX.snoc {α : Type} {f : α → Rsc} {xs : List α} {a : α} (h : SpX zs w b K W (f a :: rAll f xs :: l)) (hf : ∀ a, (f a).Ok) : SpX zs w b K W (rAll f (xs ++ [a]) :: l) := by
  have h1 : (f a).P W := h.head
  have h2 : ∀ x ∈ xs, (f x).P W := h.tail.head
  refine h.tail.tail.cons (fun x hx => ?_) (rAll_ok hf _) (fun g hg => ?_) (fun s hs g hg hg2 => ?_)
  · rcases List.mem_append.1 hx with hx | hx
    · exact h2 x hx
    · simp at hx; subst hx; exact h1
  · obtain ⟨x, hx, hxg⟩ := hg
    rcases List.mem_append.1 hx with hx | hx
    · exact h.tail.new _ (List.mem_cons_self ..) g ⟨x, hx, hxg⟩
    · simp at hx; subst hx; exact h.new _ (List.mem_cons_self ..) g hxg
  · obtain ⟨x, hx, hxg⟩ := hg
    rcases List.mem_append.1 hx with hx | hx
    · exact (List.pairwise_cons.1 h.tail.apart).1 s hs g ⟨x, hx, hxg⟩ hg2
    · simp at hx; subst hx; exact (List.pairwise_cons.1 h.apart).1 s (List.mem_cons_of_mem _ hs) g hxg hg2
theorem SpX.allNil {α : Type} (h : SpX zs w b K W l) (f : α → Rsc) (hf : ∀ a, (f a).Ok) : SpX zs w b K W (rAll f [] :: l) :=
  h.cons (by intro a ha; cases ha) (rAll_ok hf _) (fun g hg => by obtain ⟨a, ha, _⟩ := hg; cases ha) (fun s _ g hg => by obtain ⟨a, ha, _⟩ := hg; cases ha)
/-- a fact that speaks of no block -/
theorem SpX.rd (h : SpX zs w b K W l) {size n : Nat} {v : Value} {xs : List Value} (hr : Rd w b size v n xs) : Rd W b size v n xs := hr.bx h.bx
theorem SpX.ne {g : Nat} {t : TypeId} {cs : Array Value} (h : SpX zs w b K W l) (i : Nat) (hi : l[i]? = some (rBlk g t cs)) : g ≠ b := by
  have := (h.new _ (List.mem_of_getElem? hi) g rfl).1
  have := h.hb
  omega
end

theorem SpX.at_ {zs : ZsT} {w W : World} {b K K' : Nat} {l : List Rsc} (h : SpX zs w b K W l) (hK : K = K') : SpX zs w b K' W l := hK ▸ h
/-- what a call has drawn, with the resources carried along -/
def SpXS (zs : ZsT) (v : Value) (w : World) (b p : Nat) (l : List Rsc) (e : Ending) (w' : World) : Prop := e = .returned v ∧ SpX zs w b p w' l
section
variable {zs : ZsT} {w W : World} {b p : Nat} {l : List Rsc}
theorem spx_next (h : SpX zs w b p W l) (n : Int) (hn : 1 ≤ n) (hn' : n ≤ 9223372036854775807) (hp : p ≤ 1000000) :
    Calls Tryz.prog 47 #[.pointer (some ⟨b, 0, none⟩), .int .i64 n] W (SpXS zs (.int .i64 (nxX zs p n)) w b (p + 1) l) :=
  (nextX_calls b p zs n W hn hn' h.strm hp).mono (fun _e _w' ⟨he, hs, hb⟩ => ⟨he, h.call hs hb⟩)
theorem spx_range (h : SpX zs w b p W l) (lo hi : Int) (h1 : lo ≤ hi) (hlo : -2305843009213693952 ≤ lo) (hhi : hi ≤ 2305843009213693951) (hp : p ≤ 1000000) :
    Calls Tryz.prog 7 #[.pointer (some ⟨b, 0, none⟩), .int .i64 lo, .int .i64 hi] W (SpXS zs (.int .i64 (lo + nxX zs p (hi - lo + 1))) w b (p + 1) l) :=
  (rangeX_calls b p zs lo hi W h1 hlo hhi h.strm hp).mono (fun _e _w' ⟨he, hs, hb⟩ => ⟨he, h.call hs hb⟩)
theorem spx_flip (h : SpX zs w b p W l) (n : Int) (hn : 1 ≤ n) (hn' : n ≤ 9223372036854775807) (hp : p ≤ 1000000) :
    Calls Tryz.prog 61 #[.pointer (some ⟨b, 0, none⟩), .int .i64 n] W (SpXS zs (.bool (nxX zs p n == 0)) w b (p + 1) l) :=
  (flipX_calls b p zs n W hn hn' h.strm hp).mono (fun _e _w' ⟨he, hs, hb⟩ => ⟨he, h.call hs hb⟩)
theorem spx_pickL (h : SpX zs w b p W l) (xs : List Int) (cs : Array Value) (t : TypeId) (n : Nat) (hx : cs.toList = xs.map (Value.int .i64)) (h0 : 0 < n) (hn : n ≤ maxLen) (hs : cs.size = n) (hp : p ≤ 1000000) :
    Calls Tryz.prog 46 #[.pointer (some ⟨b, 0, none⟩), .slice (some ⟨W.heap.size, 0, none⟩) n n] (W.alloc (.cells cs t)) (SpXS zs (.int .i64 (pkX zs p xs)) w b (p + 1) l) := by
  have hA := h.add cs t
  have hr := blkRd (b := b) 1 n (hA.nth 0 rfl) (hA.ne 0 rfl) hn (by omega)
  rw [hx] at hr
  exact (pickX_calls b p zs _ n n xs _ h0 hr hA.strm hp).mono (fun _e _w' ⟨he, hs, hb⟩ => ⟨he, (hA.call hs hb).tail⟩)
end
/-- what a pick answers lies between -/
theorem pkX_bd (zs : ZsT) (p : Nat) (xs : List Int) (lo hi : Int) (h0 : 0 < xs.length) (h : ∀ x ∈ xs, lo ≤ x ∧ x ≤ hi) : lo ≤ pkX zs p xs ∧ pkX zs p xs ≤ hi := by
  have hb := nxX_bd zs p (n := (xs.length : Int)) (by omega)
  have hi : (nxX zs p (xs.length : Int)).toNat < xs.length := by omega
  unfold pkX
  rw [List.getElem?_eq_getElem hi]
  exact h _ (List.getElem_mem hi)
/-- a number that is nearly always within a range -/
def oddX (zs : ZsT) (p : Nat) (lo hi : Int) : Int := if nxX zs p 12 = 0 then pkX zs (p + 1) [lo - 1, hi + 1, lo, hi, -1099511627776, 1099511627776] else lo + nxX zs (p + 1) (hi - lo + 1)
theorem oddX_bd (zs : ZsT) (p : Nat) (lo hi : Int) (h1 : lo ≤ hi) (hlo : -1000000000000 ≤ lo) (hhi : hi ≤ 1000000000000) : -1099511627776 ≤ oddX zs p lo hi ∧ oddX zs p lo hi ≤ 1099511627776 := by
  unfold oddX
  split
  · refine pkX_bd _ _ _ _ _ (by simp) ?_
    intro x hx
    simp at hx
    omega
  · have := nxX_bd zs (p + 1) (n := hi - lo + 1) (by omega)
    omega
theorem oddX_calls (b p : Nat) (zs : ZsT) (lo hi : Int) (w : World) (h1 : lo ≤ hi) (hlo : -1000000000000 ≤ lo) (hhi : hi ≤ 1000000000000) (hs : StrmX w b zs p) (hp : p ≤ 900000) :
    Calls Tryz.prog 63 #[.pointer (some ⟨b, 0, none⟩), .int .i64 lo, .int .i64 hi] w (DrX (.int .i64 (oddX zs p lo hi)) b zs (p + 2) w) := by
  have hS := SpX.start hs
  have HF := Lib.hid (spx_flip hS 12 (by omega) (by omega) (by omega))
  by_cases h0 : nxX zs p 12 = 0
  · have HV := Lib.hid (show oddX zs p lo hi = pkX zs (p + 1) [lo - 1, hi + 1, lo, hi, -1099511627776, 1099511627776] by unfold oddX; rw [if_pos h0])
    have hfb : (nxX zs p 12 == 0) = true := by simpa using h0
    rw [hfb] at HF
    rw [HV.out]
    clear h0 hfb HV
    go_enter Tryz.func63, Tryz.ntmps63
    go_wp2_with fail
    refine HF.out.mono ?_
    rintro e w1 ⟨rfl, hS1⟩
    clear hS HF
    go_wp2_with fail
    refine (spx_pickL hS1 [lo - 1, hi + 1, lo, hi, -1099511627776, 1099511627776] #[.int .i64 (lo - 1), .int .i64 (hi + 1), .int .i64 lo, .int .i64 hi, .int .i64 (-1099511627776), .int .i64 1099511627776] 3 6 rfl (by decide) (by decide) rfl (by omega)).mono ?_
    rintro e w2 ⟨rfl, hS2⟩
    go_wp2_with fail
    go_ret
    exact ⟨rfl, hS2.strm, hS2.bx⟩
  · have HV := Lib.hid (show oddX zs p lo hi = lo + nxX zs (p + 1) (hi - lo + 1) by unfold oddX; rw [if_neg h0])
    have hfb : (nxX zs p 12 == 0) = false := by simpa using h0
    rw [hfb] at HF
    rw [HV.out]
    clear h0 hfb HV
    go_enter Tryz.func63, Tryz.ntmps63
    go_wp2_with fail
    refine HF.out.mono ?_
    rintro e w1 ⟨rfl, hS1⟩
    clear hS HF
    go_wp2_with fail
    refine (spx_range hS1 lo hi h1 (by omega) (by omega) (by omega)).mono ?_
    rintro e w2 ⟨rfl, hS2⟩
    go_wp2_with fail
    go_ret
    exact ⟨rfl, hS2.strm, hS2.bx⟩
theorem spx_odd {zs : ZsT} {w W : World} {b p : Nat} {l : List Rsc} (h : SpX zs w b p W l) (lo hi : Int) (h1 : lo ≤ hi) (hlo : -1000000000000 ≤ lo) (hhi : hi ≤ 1000000000000) (hp : p ≤ 900000) :
    Calls Tryz.prog 63 #[.pointer (some ⟨b, 0, none⟩), .int .i64 lo, .int .i64 hi] W (SpXS zs (.int .i64 (oddX zs p lo hi)) w b (p + 2) l) :=
  (oddX_calls b p zs lo hi W h1 hlo hhi h.strm hp).mono (fun _e _w' ⟨he, hs, hb⟩ => ⟨he, h.call hs hb⟩)
end Go.Proofs.YthbcogekfdllmaaGreatDoor
/-
  What a walk that makes memory holds of a world (Sq): old memory is as it was, and a list of resources that lie apart. No Go text is named here.
-/
namespace Go.Proofs.YthbcogekfdllmaaGreatDoor
open Go Go.RowKit

/-- resources that lie apart, from block B on -/
structure Hp (B : Nat) (W : World) (l : List Rsc) : Prop where
  hold : ∀ r ∈ l, r.P W
  ok : ∀ r ∈ l, r.Ok
  new : ∀ r ∈ l, ∀ g, r.fp g → B ≤ g ∧ g < W.heap.size
  apart : l.Pairwise Apart
section
variable {B : Nat} {W W' : World} {l : List Rsc} {r : Rsc}
theorem Hp.start (B : Nat) (W : World) : Hp B W [] := ⟨(by intro r hr; cases hr), (by intro r hr; cases hr), (by intro r hr; cases hr), List.Pairwise.nil⟩
theorem Hp.step (h : Hp B W l) (hs : W.heap.size ≤ W'.heap.size) (hk : ∀ r ∈ l, ∀ g, r.fp g → W'.heap[g]? = W.heap[g]?) : Hp B W' l :=
  ⟨fun r hr => h.ok r hr W W' (hk r hr) (h.hold r hr), h.ok, fun r hr g hg => by have := h.new r hr g hg; omega, h.apart⟩
theorem Hp.below (h : Hp B W l) (k : Below W.heap.size W W') : Hp B W' l := h.step k.size (fun r hr g hg => k.block g (h.new r hr g hg).2)
theorem Hp.cons (h : Hp B W l) (hp : r.P W) (hok : r.Ok) (hn : ∀ g, r.fp g → B ≤ g ∧ g < W.heap.size) (ha : ∀ s ∈ l, Apart r s) : Hp B W (r :: l) :=
  ⟨fun s hs => by rcases List.mem_cons.1 hs with rfl | hs; exact hp; exact h.hold s hs, fun s hs => by rcases List.mem_cons.1 hs with rfl | hs; exact hok; exact h.ok s hs,
    fun s hs => by rcases List.mem_cons.1 hs with rfl | hs; exact hn; exact h.new s hs, List.Pairwise.cons ha h.apart⟩
theorem Hp.tail (h : Hp B W (r :: l)) : Hp B W l :=
  ⟨fun s hs => h.hold s (List.mem_cons_of_mem _ hs), fun s hs => h.ok s (List.mem_cons_of_mem _ hs), fun s hs => h.new s (List.mem_cons_of_mem _ hs), (List.pairwise_cons.1 h.apart).2⟩
theorem Hp.head (h : Hp B W (r :: l)) : r.P W := h.hold r (List.mem_cons_self ..)
theorem Hp.perm {l' : List Rsc} (h : Hp B W l) (hp : l.Perm l') : Hp B W l' :=
  ⟨fun s hs => h.hold s (hp.mem_iff.2 hs), fun s hs => h.ok s (hp.mem_iff.2 hs), fun s hs => h.new s (hp.mem_iff.2 hs), hp.pairwise h.apart (fun h => apart_comm h)⟩
/-- the first one is turned within its own blocks and new ones -/
theorem Hp.turn {r' : Rsc} (h : Hp B W (r :: l)) (hs : W.heap.size ≤ W'.heap.size) (hk : ∀ g, g < W.heap.size → ¬ r.fp g → W'.heap[g]? = W.heap[g]?) (hp : r'.P W') (hok : r'.Ok)
    (hf : ∀ g, r'.fp g → (r.fp g ∨ W.heap.size ≤ g) ∧ g < W'.heap.size) (hB : B ≤ W.heap.size) : Hp B W' (r' :: l) := by
  have h0 : Hp B W' l := h.tail.step hs (fun s hs g hg => hk g (h.tail.new s hs g hg).2 (fun hr => (List.pairwise_cons.1 h.apart).1 s hs g hr hg))
  refine h0.cons hp hok (fun g hg => ?_) (fun s hs g hg hg2 => ?_)
  · obtain ⟨h1, h2⟩ := hf g hg
    rcases h1 with h1 | h1
    · exact ⟨(h.new _ (List.mem_cons_self ..) g h1).1, h2⟩
    · exact ⟨by omega, h2⟩
  · rcases (hf g hg).1 with h1 | h1
    · exact (List.pairwise_cons.1 h.apart).1 s hs g h1 hg2
    · have := (h.tail.new s hs g hg2).2; omega
theorem Hp.new_ (h : Hp B W l) (k : Below W.heap.size W W') (hp : r.P W') (hok : r.Ok) (hf : ∀ g, r.fp g → W.heap.size ≤ g ∧ g < W'.heap.size) (hB : B ≤ W.heap.size) : Hp B W' (r :: l) :=
  (h.below k).cons hp hok (fun g hg => by have := hf g hg; omega) (fun s hs g hg hg2 => by have := (hf g hg).1; have := (h.new s hs g hg2).2; omega)
end

/-- old memory is as it was; resources of the call's own -/
structure Sq (w W : World) (l : List Rsc) : Prop where
  below : Below w.heap.size w W
  hp : Hp w.heap.size W l
section
variable {w W W' : World} {l : List Rsc} {r : Rsc}
theorem Sq.start (w : World) : Sq w w [] := ⟨Below.refl _ _, Hp.start _ _⟩
theorem Sq.size (h : Sq w W l) : w.heap.size ≤ W.heap.size := h.below.size
theorem Sq.callB (h : Sq w W l) (k : Below W.heap.size W W') : Sq w W' l := ⟨below_call h.below k (Nat.le_refl _), h.hp.below k⟩
theorem Sq.drew (h : Sq w W l) : Sq w W.drew l := h.callB (below_drewN (Below.refl _ _) 1)
theorem Sq.drewN (h : Sq w W l) (n : Nat) : Sq w (W.drewN n) l := h.callB (below_drewN (Below.refl _ _) n)
theorem Sq.alloc (h : Sq w W l) (o : Obj) : Sq w (W.alloc o) l := h.callB ((Below.refl _ _).alloc (Nat.le_refl _) o)
theorem Sq.new_ (h : Sq w W l) (k : Below W.heap.size W W') (hp : r.P W') (hok : r.Ok) (hf : ∀ g, r.fp g → W.heap.size ≤ g ∧ g < W'.heap.size) : Sq w W' (r :: l) := ⟨below_call h.below k (Nat.le_refl _), h.hp.new_ k hp hok hf h.size⟩
theorem Sq.add (h : Sq w W l) (cs : Array Value) (t : TypeId) : Sq w (W.alloc (.cells cs t)) (rBlk W.heap.size t cs :: l) :=
  h.new_ ((Below.refl _ _).alloc (Nat.le_refl _) _) (Blk.new W t cs) (rBlk_ok _ _ _) (fun g hg => by
    have hg : g = W.heap.size := hg
    subst hg
    exact ⟨Nat.le_refl _, by simp⟩)
theorem Sq.tail (h : Sq w W (r :: l)) : Sq w W l := ⟨h.below, h.hp.tail⟩
theorem Sq.head (h : Sq w W (r :: l)) : r.P W := h.hp.head
theorem Sq.nth (h : Sq w W l) (i : Nat) (hi : l[i]? = some r) : r.P W := h.hp.hold r (List.mem_of_getElem? hi)
theorem Sq.front (h : Sq w W l) (i : Nat) (hi : l[i]? = some r) {l' : List Rsc} (hl : l.eraseIdx i = l') : Sq w W (r :: l') := by
  subst hl
  exact ⟨h.below, h.hp.perm (front_perm l i r hi)⟩
theorem Sq.drop (h : Sq w W l) (i : Nat) (hi : l[i]? = some r) {l' : List Rsc} (hl : l.eraseIdx i = l') : Sq w W l' := (h.front i hi hl).tail
theorem Sq.nil (h : Sq w W l) (base : Nat) (e : TypeId) (size : Nat) : Sq w W (rOwn base e size (.slice none 0 0) 0 [] :: l) :=
  ⟨h.below, h.hp.cons (World.ownsRow_nil _ _ _ _) (rOwn_ok _ _ _ _ _ _) (fun g hg => by simp [rOwn, Value.ownBlock] at hg) (fun s _ g hg => by simp [rOwn, Value.ownBlock] at hg)⟩
theorem Sq.ownB {e : TypeId} {size n : Nat} {v : Value} {xs : List Value} (h : Sq w W l) (k : Below W.heap.size W W') (ho : W'.ownsRow W.heap.size e size v n xs) : Sq w W' (rOwn w.heap.size e size v n xs :: l) :=
  h.new_ k (own_base ho h.size) (rOwn_ok _ _ _ _ _ _) (fun g hg => ho.lt g hg)
/-- the first one is turned within its own blocks and new ones -/
theorem Sq.turn {r' : Rsc} (h : Sq w W (r :: l)) {row : Option Nat} (hg : W.grownBy W' row) (hr : ∀ k, row = some k → r.fp k) (hp : r'.P W') (hok : r'.Ok)
    (hf : ∀ g, r'.fp g → (r.fp g ∨ W.heap.size ≤ g) ∧ g < W'.heap.size) : Sq w W' (r' :: l) :=
  ⟨h.below.grown hg h.size (fun k hk => (h.hp.new _ (List.mem_cons_self ..) k (hr k hk)).1), h.hp.turn hg.size (fun g hl hn => hg.block g hl (fun e => hn (hr g e.symm))) hp hok hf h.size⟩
theorem Sq.append {base : Nat} {e : TypeId} {size n n' : Nat} {v v' : Value} {xs xs' : List Value} (h : Sq w W (rOwn base e size v n xs :: l)) (ho : W'.ownsRow base e size v' n' xs') (hg : W.grownBy W' v.ownBlock) (hv : v'.ownBlock = v.ownBlock ∨ v'.ownBlock = some W.heap.size) :
    Sq w W' (rOwn base e size v' n' xs' :: l) :=
  h.turn hg (fun k hk => hk) ho (rOwn_ok _ _ _ _ _ _) (fun g hgg => by
    have hgg : v'.ownBlock = some g := hgg
    refine ⟨?_, (ho.lt g hgg).2⟩
    rcases hv with hv | hv
    · rw [hv] at hgg; exact .inl hgg
    · rw [hv] at hgg; injection hgg with hgg; exact .inr (by omega))
theorem Sq.store_ (h : Sq w W (r :: l)) {g : Nat} (hg : r.fp g) (i : Nat) (u : Value) {r' : Rsc} (hp : r'.P (W.setCell ⟨g, i, none⟩ u)) (hok : r'.Ok) (hf : ∀ k, r'.fp k → r.fp k) : Sq w (W.setCell ⟨g, i, none⟩ u) (r' :: l) :=
  h.turn (row := some g) ⟨rfl, rfl, rfl, by simp [World.setCell], fun k _ hk => Below.heap_setCell W ⟨g, i, none⟩ u k (fun e => hk (by rw [e]))⟩ (fun k hk => by injection hk with hk; subst hk; exact hg) hp hok
    (fun k hk => ⟨.inl (hf k hk), by have := (h.hp.new _ (List.mem_cons_self ..) k (hf k hk)).2; simpa [World.setCell] using this⟩)
theorem Sq.set_ {g : Nat} {t : TypeId} {cs : Array Value} (h : Sq w W (rBlk g t cs :: l)) (i : Nat) (u : Value) : Sq w (W.setCell ⟨g, i, none⟩ u) (rBlk g t (cs.setIfInBounds i u) :: l) :=
  h.store_ (g := g) rfl i u (r' := rBlk g t (cs.setIfInBounds i u)) (Blk.set_ h.head i u) (rBlk_ok _ _ _) (fun _k hk => hk)
theorem Sq.rd (h : Sq w W l) {b size n : Nat} {v : Value} {xs : List Value} (hr : Rd w b size v n xs) : Rd W b size v n xs := hr.below h.below
theorem Sq.ge (h : Sq w W l) {g : Nat} {t : TypeId} {cs : Array Value} (i : Nat) (hi : l[i]? = some (rBlk g t cs)) : w.heap.size ≤ g := (h.hp.new _ (List.mem_of_getElem? hi) g rfl).1
end
end Go.Proofs.YthbcogekfdllmaaGreatDoor
/-
  Two streams side by side over one list. (Split out of XMst1.) No walk.
-/
namespace Go.Proofs.YthbcogekfdllmaaGreatDoor
open Go Go.RowKit

/-- the state of the stream that does not stand in the list's way -/
theorem strmX_at0 {w w' : World} {a : Option Addr} {len cap b : Nat} {zs : List Int} {t : TypeId} (h : InRow w a len cap zs) (hk : Below w.heap.size w w') (B : Blk w' b t #[.slice a len cap, .int .i64 0]) (hb : w.heap.size ≤ b) :
    StrmX w' b ⟨zs.take len, w.heap.size⟩ 0 := by
  have hlz : (zs.take len).length = len := by
    rcases h with ⟨_, h1, _, h2⟩ | ⟨x, _, h1, h2, h3, h4⟩
    · rw [h1, h2]
      rfl
    · rw [List.length_take]
      omega
  refine ⟨a, cap, by simp only [hlz]; exact B.two.1, B.two.2.1, B.two.2.2.2, ?_, ?_⟩
  · simp only [hlz]
    rcases h with ⟨_, rfl, _, _⟩ | ⟨x, _, h1, h2, _⟩
    · omega
    · unfold maxLen at h2; omega
  · intro hlen
    simp only [hlz] at hlen
    rcases h with ⟨_, rfl, _, _⟩ | ⟨x, rfl, h1, h2, h3, h4, _⟩
    · omega
    · have c0 := h4 0 (by omega)
      obtain ⟨g, o, spot⟩ := x
      have hspot : spot = none := by simpa [Addr.add] using World.cell?_spot c0
      subst hspot
      have hadd : ∀ j, (⟨g, o, none⟩ : Addr).add j = ⟨g, o + j, none⟩ := fun j => by unfold Addr.add; split <;> simp_all
      have hg : g < w.heap.size := by have := World.block_lt_of_cell? w _ c0; rw [hadd] at this; exact this
      refine ⟨g, o, rfl, ⟨hg, hb⟩, fun j hj => ?_⟩
      simp only [hlz] at hj
      have := h4 j (by omega)
      rw [hadd] at this
      have hjz : j < zs.length := by omega
      simp only [List.getElem_take]
      simp [List.getElem?_eq_getElem hjz] at this
      exact (World.cell?_of_block (hk.block g hg)).trans this
/-- two streams side by side over one list, in the two blocks behind w0's memory; rows from there on -/
structure Two (zs : ZsT) (w0 : World) (p q : Nat) (W : World) (l : List Rsc) : Prop where
  lo : zs.lo = w0.heap.size
  sa : StrmX W w0.heap.size zs p
  sb : StrmX W (w0.heap.size + 1) zs q
  bel : Below w0.heap.size w0 W
  hp : Hp (w0.heap.size + 2) W l
  sz : w0.heap.size + 2 ≤ W.heap.size
section
variable {zs : ZsT} {w0 W W' : World} {p q p' : Nat} {l l2 : List Rsc}
theorem Two.below (h : Two zs w0 p q W l) (k : Below W.heap.size W W') : Two zs w0 p q W' l :=
  ⟨h.lo, h.sa.below k, h.sb.below k, below_call h.bel k (by have := h.sz; omega), h.hp.below k, Nat.le_trans h.sz k.size⟩
theorem Two.push (h : Two zs w0 p q W l) {s K : Nat} (k : SpX zs W s K W' l2) (hs : s < w0.heap.size + 2) : Hp (w0.heap.size + 2) W' (l2 ++ l) := by
  have h0 : Hp (w0.heap.size + 2) W' l := h.hp.step k.bx.size (fun r hr g hg => k.bx.block g (h.hp.new r hr g hg).2 (by have := (h.hp.new r hr g hg).1; omega))
  refine ⟨fun r hr => ?_, fun r hr => ?_, fun r hr g hg => ?_, List.pairwise_append.2 ⟨k.apart, h0.apart, fun r hr t ht g hg hg2 => ?_⟩⟩
  · rcases List.mem_append.1 hr with hr | hr
    · exact k.hold r hr
    · exact h0.hold r hr
  · rcases List.mem_append.1 hr with hr | hr
    · exact k.ok r hr
    · exact h0.ok r hr
  · rcases List.mem_append.1 hr with hr | hr
    · have := k.new r hr g hg; have := h.sz; omega
    · exact h0.new r hr g hg
  · have := (k.new r hr g hg).1
    have := (h.hp.new t ht g hg2).2
    omega
theorem bel_bx {s : Nat} (h : Below w0.heap.size w0 W) (k : Bx W.heap.size s W W') (hs : w0.heap.size ≤ s) : Below w0.heap.size w0 W' :=
  ⟨k.os.trans h.os, k.tape.trans h.tape, k.output.trans h.output, Nat.le_trans h.size k.size, fun i hi => (k.block i (by have := h.size; omega) (by omega)).trans (h.block i hi)⟩
theorem Two.callA (h : Two zs w0 p q W l) (k : SpX zs W w0.heap.size p' W' l2) : Two zs w0 p' q W' (l2 ++ l) :=
  ⟨h.lo, k.strm, h.sb.other k.bx (by rw [h.lo]; exact Nat.le_refl _) (by omega) (by rw [h.lo]; omega), bel_bx h.bel k.bx (Nat.le_refl _), h.push k (by omega), Nat.le_trans h.sz k.bx.size⟩
theorem Two.callB (h : Two zs w0 p q W l) (k : SpX zs W (w0.heap.size + 1) p' W' l2) : Two zs w0 p p' W' (l2 ++ l) :=
  ⟨h.lo, h.sa.other k.bx (by rw [h.lo]; omega) (by omega) (by rw [h.lo]; exact Nat.le_refl _), k.strm, bel_bx h.bel k.bx (by omega), h.push k (by omega), Nat.le_trans h.sz k.bx.size⟩
theorem Two.nth (h : Two zs w0 p q W l) (i : Nat) {r : Rsc} (hi : l[i]? = some r) : r.P W := h.hp.hold r (List.mem_of_getElem? hi)
end
end Go.Proofs.YthbcogekfdllmaaGreatDoor
