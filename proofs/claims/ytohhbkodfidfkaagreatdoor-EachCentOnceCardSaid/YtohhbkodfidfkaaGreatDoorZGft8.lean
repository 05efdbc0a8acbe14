/-
  The reference's GiftsOf by a contract. (Printed by gen_gft8.py; the walk lies in gft8_walk.txt.)
-/
import Derived.Test.YtohhbkodfidfkaaGreatDoorZGft7
import Derived.Test.YtohhbkodfidfkaaGreatDoorZBid10
import Derived.Test.YtohhbkodfidfkaaGreatDoorZBid17
import Derived.Test.YtohhbkodfidfkaaGreatDoorZGft3
import Derived.Test.YtohhbkodfidfkaaGreatDoorZGft5
import Derived.Test.YtohhbkodfidfkaaGreatDoorZGft2
import Derived.Test.YtohhbkodfidfkaaGreatDoorZSlot5
namespace Go.Proofs.YtohhbkodfidfkaaGreatDoor
open Go Go.RowKit
attribute [local go_sem ↓] Go.wp_at_zero Go.wp_at_succ

theorem neq_gf (a b d e f g : ByteArray) (x y x' y' : Int) (w : World) : (binOp .neq 61 (.agg #[.string a, .int .i64 x, .int .i64 y, .string b, .string d]) (.agg #[.string e, .int .i64 x', .int .i64 y', .string f, .string g])).run Tryz.prog w = .ok (.bool (!sameGf ⟨a, x, y, b, d⟩ ⟨e, x', y', f, g⟩)) w := by
  simp only [sameGf, eqS]
  simp [go_sem]
  by_cases h1 : a.toList = e.toList <;> by_cases h2 : x = x' <;> by_cases h3 : y = y' <;> by_cases h4 : b.toList = f.toList <;> by_cases h5 : d.toList = g.toList <;> simp [h1, h2, h3, h4, h5]
attribute [local go_sem ↓ high] neq_gf

end Go.Proofs.YtohhbkodfidfkaaGreatDoor
/-
  The law's own closure, which draws; IndexFunc and DeleteFunc of gifts with it. (Printed by gen_gft9.py.)
-/
namespace Go.Proofs.YtohhbkodfidfkaaGreatDoor
open Go Go.RowKit
attribute [local go_sem ↓] Go.wp_at_zero Go.wp_at_succ

/-- what the closure has captured: the bid, and the stream -/
structure Cap (w : World) (b g18 g3 : Nat) (key bef : ByteArray) (go : Int) (oa : Option Addr) (m oc : Nat) : Prop where
  bid : Blk w g18 53 #[.string key, .string bef, .int .i64 go, .slice oa m oc]
  box : Blk w g3 23 #[.pointer (some ⟨b, 0, none⟩)]
  n1 : g18 ≠ b
  n2 : g3 ≠ b
theorem Cap.bx {w w' : World} {b g18 g3 : Nat} {key bef : ByteArray} {go : Int} {oa : Option Addr} {m oc : Nat} (h : Cap w b g18 g3 key bef go oa m oc) (k : Bx w.heap.size b w w') : Cap w' b g18 g3 key bef go oa m oc := ⟨h.bid.bx k h.n1, h.box.bx k h.n2, h.n1, h.n2⟩

/-- a place in a list of n, or -1 -/
def IsIx (n : Nat) (v : Value) : Prop := v = .int .i64 (-1) ∨ ∃ k : Nat, v = .int .i64 k ∧ k < n
theorem gf_storeP {w0 W : World} {b K g n c i : Nat} {zs : List Gf} (y : Gf) (h : Sp w0 b K W [rOwn w0.heap.size 61 5 (.slice (some ⟨g, 0, none⟩) n c) n (zs.flatMap gfC)]) (hn : zs.length = n) (hi : i < n) :
    Sp w0 b K (((((W.setCell ⟨g, i * 5, none⟩ (.string y.id)).setCell ⟨g, i * 5 + 1, none⟩ (.int .i64 y.at_)).setCell ⟨g, i * 5 + 2, none⟩ (.int .i64 y.cents)).setCell ⟨g, i * 5 + 3, none⟩ (.string y.bid)).setCell ⟨g, i * 5 + 4, none⟩ (.string y.option)) [rOwn w0.heap.size 61 5 (.slice (some ⟨g, 0, none⟩) n c) n ((zs.set i y).flatMap gfC)] := by
  subst hn
  obtain ⟨y0, y1, y2, y3, y4⟩ := y
  have h1 := h.field gfC 5 gfC_len i 0 hi (by omega) (.string y0) ⟨y0, zs[i].at_, zs[i].cents, zs[i].bid, zs[i].option⟩ rfl
  have hg1 : ∀ hh : i < (zs.set i ⟨y0, zs[i].at_, zs[i].cents, zs[i].bid, zs[i].option⟩).length, (zs.set i ⟨y0, zs[i].at_, zs[i].cents, zs[i].bid, zs[i].option⟩)[i]'hh = ⟨y0, zs[i].at_, zs[i].cents, zs[i].bid, zs[i].option⟩ := fun hh => by rw [List.getElem_set_self]
  have h2 := h1.field gfC 5 gfC_len i 1 (by rw [List.length_set]; exact hi) (by omega) (.int .i64 y1) ⟨y0, y1, zs[i].cents, zs[i].bid, zs[i].option⟩ (by rw [hg1]; rfl)
  rw [List.set_set] at h2
  have hg2 : ∀ hh : i < (zs.set i ⟨y0, y1, zs[i].cents, zs[i].bid, zs[i].option⟩).length, (zs.set i ⟨y0, y1, zs[i].cents, zs[i].bid, zs[i].option⟩)[i]'hh = ⟨y0, y1, zs[i].cents, zs[i].bid, zs[i].option⟩ := fun hh => by rw [List.getElem_set_self]
  have h3 := h2.field gfC 5 gfC_len i 2 (by rw [List.length_set]; exact hi) (by omega) (.int .i64 y2) ⟨y0, y1, y2, zs[i].bid, zs[i].option⟩ (by rw [hg2]; rfl)
  rw [List.set_set] at h3
  have hg3 : ∀ hh : i < (zs.set i ⟨y0, y1, y2, zs[i].bid, zs[i].option⟩).length, (zs.set i ⟨y0, y1, y2, zs[i].bid, zs[i].option⟩)[i]'hh = ⟨y0, y1, y2, zs[i].bid, zs[i].option⟩ := fun hh => by rw [List.getElem_set_self]
  have h4 := h3.field gfC 5 gfC_len i 3 (by rw [List.length_set]; exact hi) (by omega) (.string y3) ⟨y0, y1, y2, y3, zs[i].option⟩ (by rw [hg3]; rfl)
  rw [List.set_set] at h4
  have hg4 : ∀ hh : i < (zs.set i ⟨y0, y1, y2, y3, zs[i].option⟩).length, (zs.set i ⟨y0, y1, y2, y3, zs[i].option⟩)[i]'hh = ⟨y0, y1, y2, y3, zs[i].option⟩ := fun hh => by rw [List.getElem_set_self]
  have h5 := h4.field gfC 5 gfC_len i 4 (by rw [List.length_set]; exact hi) (by omega) (.string y4) ⟨y0, y1, y2, y3, y4⟩ (by rw [hg4]; rfl)
  rw [List.set_set, List.length_set] at h5
  exact h5
/-- what DeleteFunc answers: some of the gifts -/
def DelS (w0 : World) (b K : Nat) (ys : List Gf) (e : Ending) (w' : World) : Prop :=
  ∃ (A' : Option Addr) (c' : Nat) (l : List Gf), e = .returned (.slice A' l.length c') ∧ (∀ x ∈ l, x ∈ ys) ∧ l.length ≤ ys.length ∧ Rd w' b 5 (.slice A' l.length c') l.length (l.flatMap gfC) ∧ Strm w' b K ∧ Bx w0.heap.size b w0 w'
theorem bx_setCells {B b g : Nat} {w : World} (hg : B ≤ g) : ∀ (vs : List Value) (o : Nat) (W : World), Bx B b w W → Bx B b w (W.setCells g o vs)
  | [], _, _, h => h
  | v :: r, o, _W, h => bx_setCells hg r (o + 1) _ (h.setCell (p := ⟨g, o, none⟩) (.inr hg) v)
theorem strm_setCells {b K g : Nat} (hg : b < g) : ∀ (vs : List Value) (o : Nat) (W : World), Strm W b K → Strm (W.setCells g o vs) b K
  | [], _, _, h => h
  | v :: r, o, _W, h => strm_setCells hg r (o + 1) _ (h.setCell (p := ⟨g, o, none⟩) hg v)

end Go.Proofs.YtohhbkodfidfkaaGreatDoor
/-
  Gifts of the law: draws in whatever order (Spm); the moment's fault; both mergings alike.
-/
namespace Go.Proofs.YtohhbkodfidfkaaGreatDoor
open Go Go.RowKit

/-- room for m calls more that draw -/
def Spm (w : World) (b m : Nat) (W : World) (l : List Rsc) : Prop := ∃ K, K + 300 * m ≤ 100000 ∧ Sp w b K W l
section
variable {w W W' : World} {b m : Nat} {l : List Rsc}
theorem Spm.add (h : Spm w b m W l) (cs : Array Value) (t : TypeId) : Spm w b m (W.alloc (.cells cs t)) (rBlk W.heap.size t cs :: l) := by
  obtain ⟨K, hK, h⟩ := h
  exact ⟨K, hK, h.add cs t⟩
theorem Spm.drew (h : Spm w b m W l) : Spm w b m W.drew l := by
  obtain ⟨K, hK, h⟩ := h
  exact ⟨K, hK, h.drew⟩
theorem Spm.drewN (h : Spm w b m W l) (n : Nat) : Spm w b m (W.drewN n) l := by
  obtain ⟨K, hK, h⟩ := h
  exact ⟨K, hK, h.drewN n⟩
theorem Spm.bx (h : Spm w b m W l) : Bx w.heap.size b w W := by
  obtain ⟨K, hK, h⟩ := h
  exact h.bx
theorem Spm.nth (h : Spm w b m W l) {r : Rsc} (i : Nat) (hi : l[i]? = some r) : r.P W := by
  obtain ⟨K, hK, h⟩ := h
  exact h.nth i hi
theorem Spm.hb (h : Spm w b m W l) : b < w.heap.size := by
  obtain ⟨K, hK, h⟩ := h
  exact h.hb
theorem Spm.strm (h : Spm w b m W l) : ∃ K, K + 300 * m ≤ 100000 ∧ Strm W b K := by
  obtain ⟨K, hK, h⟩ := h
  exact ⟨K, hK, h.strm⟩
theorem Spm.start {K : Nat} (h : Strm w b K) (hK : K + 300 * m ≤ 100000) : Spm w b m w [] := ⟨K, hK, Sp.start h⟩
theorem Spm.callB (h : Spm w b m W l) (k : Below W.heap.size W W') : Spm w b m W' l := by
  obtain ⟨K, hK, h⟩ := h
  exact ⟨K, hK, h.callB k⟩
theorem Spm.size (h : Spm w b m W l) : w.heap.size ≤ W.heap.size := h.bx.size
theorem Spm.drop (h : Spm w b m W l) {r : Rsc} (i : Nat) (hi : l[i]? = some r) {l' : List Rsc} (hl : l.eraseIdx i = l') : Spm w b m W l' := by
  obtain ⟨K, hK, h⟩ := h
  exact ⟨K, hK, h.drop i hi hl⟩
theorem Spm.front (h : Spm w b m W l) {r : Rsc} (i : Nat) (hi : l[i]? = some r) {l' : List Rsc} (hl : l.eraseIdx i = l') : Spm w b m W (r :: l') := by
  obtain ⟨K, hK, h⟩ := h
  exact ⟨K, hK, h.front i hi hl⟩
theorem Spm.ownB {e : TypeId} {size n : Nat} {v : Value} {xs : List Value} (h : Spm w b m W l) (k : Below W.heap.size W W') (ho : W'.ownsRow W.heap.size e size v n xs) : Spm w b m W' (rOwn w.heap.size e size v n xs :: l) := by
  obtain ⟨K, hK, h⟩ := h
  exact ⟨K, hK, h.ownB k ho⟩
theorem Spm.to (h : Spm w b m W l) {m' : Nat} (hm : m' ≤ m) : Spm w b m' W l := by
  obtain ⟨K, hK, h⟩ := h
  exact ⟨K, by omega, h⟩
/-- from here on -/
theorem Spm.from_ (h : Spm w b m W l) : Spm W b m W [] := by
  obtain ⟨K, hK, h⟩ := h
  exact ⟨K, hK, Sp.start h.strm⟩
theorem Spm.bare (h : Spm w b m W l) : Spm w b m W [] := by
  obtain ⟨K, hK, h⟩ := h
  exact ⟨K, hK, h.bare⟩
theorem Spm.less (h : Spm w b (m + 1) W l) : Spm w b m W l := by
  obtain ⟨K, hK, h⟩ := h
  exact ⟨K, by omega, h⟩
def SpmS (P : Value → Prop) (w : World) (b m : Nat) (l : List Rsc) (e : Ending) (w' : World) : Prop := ∃ v, e = .returned v ∧ P v ∧ Spm w b m w' l
theorem spm_of {P : Value → Prop} {K K' : Nat} {e : Ending} {w' : World} (h : SpS P w b K' l e w') (hK : K + 300 * (m + 1) ≤ 100000) (h' : K' ≤ K + 300) : SpmS P w b m l e w' := by
  obtain ⟨v, he, hp, hS⟩ := h
  exact ⟨v, he, hp, K', by omega, hS⟩
theorem spm_range (h : Spm w b (m + 1) W l) (lo hi : Int) (h1 : lo ≤ hi) (hlo : -2305843009213693952 ≤ lo) (hhi : hi ≤ 2305843009213693951) :
    Calls Tryz.prog 8 #[.pointer (some ⟨b, 0, none⟩), .int .i64 lo, .int .i64 hi] W (SpmS (IsInt lo hi) w b m l) := by
  obtain ⟨K, hK, h⟩ := h
  exact (sp_range h lo hi h1 hlo hhi (by omega)).mono (fun e w' h' => spm_of h' hK (by omega))
theorem spm_next (h : Spm w b (m + 1) W l) (n : Int) (hn : 1 ≤ n) (hn' : n ≤ 9223372036854775807) :
    Calls Tryz.prog 33 #[.pointer (some ⟨b, 0, none⟩), .int .i64 n] W (SpmS (IsInt 0 (n - 1)) w b m l) := by
  obtain ⟨K, hK, h⟩ := h
  exact (sp_next h n hn hn' (by omega)).mono (fun e w' h' => spm_of h' hK (by omega))
theorem spm_flip (h : Spm w b (m + 1) W l) (n : Int) (hn : 1 ≤ n) (hn' : n ≤ 9223372036854775807) :
    Calls Tryz.prog 30 #[.pointer (some ⟨b, 0, none⟩), .int .i64 n] W (SpmS IsBool w b m l) := by
  obtain ⟨K, hK, h⟩ := h
  exact (sp_flip h n hn hn' (by omega)).mono (fun e w' h' => spm_of h' hK (by omega))
theorem spm_pick (h : Spm w b (m + 1) W l) (i : Nat) {g n : Nat} {t : TypeId} {cs : Array Value} (lo hh : Int) (hi : l[i]? = some (rBlk g t cs)) (h0 : 0 < n) (hn : n ≤ maxLen) (hs : cs.size = n) (hx : intLit lo hh cs = true) :
    Calls Tryz.prog 32 #[.pointer (some ⟨b, 0, none⟩), .slice (some ⟨g, 0, none⟩) n n] W (SpmS (IsInt lo hh) w b m l) := by
  obtain ⟨K, hK, h⟩ := h
  exact (sp_pickB h i lo hh hi h0 hn hs hx (by omega)).mono (fun e w' h' => spm_of h' hK (by omega))
/-- gifts drawn, beside what was there -/
def GiftsM (w : World) (b m : Nat) (l : List Rsc) (e : Ending) (w' : World) : Prop :=
  ∃ (A : Option Addr) (c : Nat) (gs : List Gf), e = .returned (.slice A gs.length c) ∧ gs.length ≤ 10 ∧ GfOks gs ∧ Spm w b m w' (rOwn w.heap.size 61 5 (.slice A gs.length c) gs.length (gs.flatMap gfC) :: l)
theorem spm_gifts (h : Spm w b (m + 1) W l) (A : Option Addr) (n c many : Nat) (bs : List Bd) (hr : Bds w b A n c bs) (hn : n ≤ 1000) (hmany : (many : Int) ≤ 10) :
    Calls Tryz.prog 19 #[.pointer (some ⟨b, 0, none⟩), .slice A n c, .int .i64 many] W (GiftsM w b m l) := by
  obtain ⟨K, hK, h⟩ := h
  refine (gifts_calls b K A n c many bs W h.strm (by omega) (hr.bx h.bx) hn (by omega)).mono ?_
  rintro e w' ⟨v, gs, rfl, hl, hz, hS⟩
  obtain ⟨A', c', rfl⟩ := own_form (show w'.ownsRow _ _ _ v gs.length _ from hS.head)
  refine ⟨A', c', gs, rfl, by omega, hz, K + 240, by omega, ?_⟩
  have h2 := h.call hS.strm hS.bx
  have ho : w'.ownsRow W.heap.size 61 5 (.slice A' gs.length c') gs.length (gs.flatMap gfC) := hS.head
  exact h.own hS.strm hS.bx ho
end
/-- the gifts in a row of one's own -/
def rGf (base : Nat) (A : Option Addr) (c : Nat) (gs : List Gf) : Rsc := rOwn base 61 5 (.slice A gs.length c) gs.length (gs.flatMap gfC)
theorem Spm.gf {w W : World} {b m : Nat} {l : List Rsc} {A : Option Addr} {c : Nat} {gs : List Gf} (h : Spm w b m W l) (i : Nat) (hi : l[i]? = some (rGf w.heap.size A c gs)) : Rd W b 5 (.slice A gs.length c) gs.length (gs.flatMap gfC) :=
  Rd.own (show W.ownsRow w.heap.size 61 5 (.slice A gs.length c) gs.length (gs.flatMap gfC) from h.nth i hi) h.hb
theorem Spm.set_ {w W : World} {b m g : Nat} {t : TypeId} {cs : Array Value} {l : List Rsc} (h : Spm w b m W (rBlk g t cs :: l)) (i : Nat) (u : Value) : Spm w b m (W.setCell ⟨g, i, none⟩ u) (rBlk g t (cs.setIfInBounds i u) :: l) := by
  obtain ⟨K, hK, h⟩ := h
  exact ⟨K, hK, h.set_ i u⟩
theorem Spm.set4 {w W : World} {b m g : Nat} {t : TypeId} {a0 a1 a2 a3 : Value} {l : List Rsc} (h : Spm w b m W (rBlk g t #[a0, a1, a2, a3] :: l)) (u0 u1 u2 u3 : Value) :
    Spm w b m ((((W.setCell ⟨g, 0, none⟩ u0).setCell ⟨g, 1, none⟩ u1).setCell ⟨g, 2, none⟩ u2).setCell ⟨g, 3, none⟩ u3) (rBlk g t #[u0, u1, u2, u3] :: l) :=
  (((h.set_ 0 u0).set_ 1 u1).set_ 2 u2).set_ 3 u3
theorem BdOk.bxG {w w' : World} {b : Nat} {x : Bd} (h : BdOk w b x) (k : Bx w.heap.size b w w') : BdOk w' b x := h.bx k
/-- the bid that the law itself makes -/
def ownBid (g : Nat) : Bd := ⟨⟨#[98, 97]⟩, ⟨#[115, 97]⟩, 0, some ⟨g, 0, none⟩, 2, [⟨#[120]⟩, ⟨#[121]⟩]⟩
theorem ownBid_ok {w : World} {b g : Nat} (h : Blk w g 9 #[.string ⟨#[120]⟩, .string ⟨#[121]⟩]) (hg : g ≠ b) : BdOk w b (ownBid g) :=
  ⟨blkRd 1 2 h hg (by decide) rfl, (show (⟨#[98, 97]⟩ : ByteArray).size ≤ 1000 by decide), (show (⟨#[115, 97]⟩ : ByteArray).size ≤ 1000 by decide), (show ∀ s ∈ ([⟨#[120]⟩, ⟨#[121]⟩] : List ByteArray), s.size ≤ 1000 by decide), (show 2 ≤ 1000 by decide), (show (-2199023255552 : Int) ≤ 0 ∧ (0 : Int) ≤ 2199023255552 by decide)⟩
theorem ownBid_good (g : Nat) : keyB (ownBid g).key.data.toList = true ∧ ∀ s ∈ (ownBid g).opts, s.toList.isEmpty = false := by
  exact (show keyB (⟨#[98, 97]⟩ : ByteArray).data.toList = true ∧ ∀ s ∈ ([⟨#[120]⟩, ⟨#[121]⟩] : List ByteArray), s.toList.isEmpty = false by decide +kernel)
/-- what a bid has come to: both alike -/
theorem won_law {x : Bd} {l : List Gf} {at_ : Int} (hk : keyB x.key.data.toList = true) (ho : ∀ s ∈ x.opts, s.toList.isEmpty = false) (h : wonE x l at_ = 0) : wonR x l at_ = wonQ x l at_ := by
  have h1 : giftsF (namedF [x]) l = 0 := by
    unfold wonE at h
    by_cases h1 : giftsF (namedF [x]) l = 0
    · exact h1
    · rw [if_neg h1] at h; exact absurd h h1
  unfold wonR
  rw [if_pos h]
  have := won_same (opt_one hk ho h1) ho (fun y hy => (gifts_right h1 y hy).2) (at_ + 1)
  rw [this, Int.add_sub_cancel]
theorem wonE_first (x : Bd) (l : List Gf) (at_ : Int) : firstE [giftsF (namedF [x]) l, if momB at_ = true then 0 else 1] = wonE x l at_ := by
  unfold wonE
  by_cases h1 : giftsF (namedF [x]) l = 0
  · rw [if_pos h1, h1]
    cases momB at_ <;> rfl
  · rw [if_neg h1]
    simp [firstE, h1]
theorem wonR_no {x : Bd} {l : List Gf} {at_ : Int} (h : wonE x l at_ ≠ 0) : wonR x l at_ = (⟨#[]⟩, 0, false) := if_neg h
/-- one of the gifts has other cents -/
theorem Spm.cents {w W : World} {b m g c : Nat} {gs : List Gf} {l : List Rsc} (h : Spm w b m W (rGf w.heap.size (some ⟨g, 0, none⟩) c gs :: l)) (h0 : 0 < gs.length) (z : Int) :
    Spm w b m (W.setCell ⟨g, 2, none⟩ (.int .i64 z)) (rGf w.heap.size (some ⟨g, 0, none⟩) c (gs.set 0 ⟨gs[0].id, gs[0].at_, z, gs[0].bid, gs[0].option⟩) :: l) := by
  obtain ⟨K, hK, h⟩ := h
  exact ⟨K, hK, Sp.field gfC 5 gfC_len h 0 2 h0 (by omega) (.int .i64 z) _ rfl⟩
/-- what stands behind the k-th -/
theorem gf_behind {w : World} {b g o n c k : Nat} {gs : List Gf} (h : Rd w b 5 (.slice (some ⟨g, o, none⟩) n c) n (gs.flatMap gfC)) (hk : k < n) : Rd w b 5 (.slice (some ⟨g, o + k * 5, none⟩) (n - k) (c - k)) (n - k) ((gs.drop k).flatMap gfC) := by
  obtain ⟨hl, h1, h2, h3⟩ := h.cells gfC_len (by omega)
  obtain ⟨g', o', he, hgb, hcs⟩ := h3 (by omega)
  injection he with he
  injection he with he1 he2 _
  subst he1 he2
  refine ⟨_, _, rfl, by omega, by omega, by rw [flat_len gfC 5 gfC_len, List.length_drop, hl], (fun e => by cases e), fun _ => ⟨g, o + k * 5, rfl, hgb, fun j u hu => ?_⟩⟩
  have hj : j < ((gs.drop k).flatMap gfC).length := (List.getElem?_eq_some_iff.1 hu).1
  rw [flat_len gfC 5 gfC_len, List.length_drop] at hj
  obtain ⟨q, r, hr, rfl⟩ : ∃ q r, r < 5 ∧ j = q * 5 + r := ⟨j / 5, j % 5, Nat.mod_lt _ (by omega), by omega⟩
  rw [flat_get gfC 5 gfC_len _ q r (by rw [List.length_drop]; omega) hr, List.getElem_drop] at hu
  have := hcs (k + q) (by omega) r hr
  rw [hu] at this
  rw [← this]
  congr 2
  omega
/-- both mergings say the same -/
theorem merge_same {gs hs : List Gf} (h : firstE [giftsF keysT gs, giftsF keysT hs] = 0) : mergeE gs hs = mrgE (mrgF gs hs) ∧ mrgF [] (gs ++ hs) = mrgF gs hs := by
  have h1 : giftsF keysT gs = 0 := by
    by_cases h1 : giftsF keysT gs = 0
    · exact h1
    · simp [firstE, h1] at h
  have e := mrg_alike hs h1
  exact ⟨by unfold mergeE; rw [if_pos h, e], e⟩
theorem merge_lists {gs hs l1 l2 : List Gf} (h : giftsF keysT gs = 0) (h1 : ∃ acc, mrgF gs hs = some acc ∧ l1.Perm acc ∧ SrtG l1) (h2 : ∃ acc, mrgF gs hs = some acc ∧ l2.Perm acc ∧ SrtG l2) : l1 = l2 := by
  obtain ⟨a1, e1, p1, s1⟩ := h1
  obtain ⟨a2, e2, p2, s2⟩ := h2
  rw [e1] at e2
  injection e2 with e2
  subst e2
  exact srt_one (mrgF_uniq hs gs a1 (right_uniq h).2 e1) p1 p2 s1 s2
end Go.Proofs.YtohhbkodfidfkaaGreatDoor
