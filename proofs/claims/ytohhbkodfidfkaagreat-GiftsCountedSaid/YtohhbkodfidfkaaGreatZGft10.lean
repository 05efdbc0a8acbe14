/-
  Gifts of the law: draws in whatever order (Spm); the moment's fault; both mergings alike.
-/
import Derived.Test.YtohhbkodfidfkaaGreatZGft3
import Derived.Test.YtohhbkodfidfkaaGreatZGft4
import Derived.Test.YtohhbkodfidfkaaGreatZGft5
import Derived.Test.YtohhbkodfidfkaaGreatZGft2
import Derived.Test.YtohhbkodfidfkaaGreatZGft8
import Derived.Test.YtohhbkodfidfkaaGreatZGft9
import Derived.Test.YtohhbkodfidfkaaGreatZSlot5
namespace Go.Proofs.YtohhbkodfidfkaaGreat
open Go Go.RowKit

theorem momentFaultG_calls (u : Int) (w : World) : Calls Tryz.prog 18 #[.int .i64 u] w fun e w' => e = .returned (.int .i64 (if momB u = true then 0 else 1)) ∧ w = w' := by
  have HM := Lib.hid (momentQ_calls u w)
  cases hm : momB u
  · rw [hm] at HM
    clear hm
    go_enter Tryz.func18, Tryz.ntmps18
    go_wp2_with fail
    refine HM.out.mono ?_
    rintro e w1 ⟨rfl, rfl⟩
    go_wp2_with fail
    go_ret
    exact ⟨rfl, rfl⟩
  · rw [hm] at HM
    clear hm
    go_enter Tryz.func18, Tryz.ntmps18
    go_wp2_with fail
    refine HM.out.mono ?_
    rintro e w1 ⟨rfl, rfl⟩
    go_wp2_with fail
    go_ret
    exact ⟨rfl, rfl⟩

/-- room for m calls more that draw -/
def Spm (w : World) (b m : Nat) (W : World) (l : List Rsc) : Prop := ∃ K, K + 300 * m ≤ 100000 ∧ Sp w b K W l
section
variable {w W W' : World} {b m : Nat} {l : List Rsc}
theorem Spm.add (h : Spm w b m W l) (cs : Array Value) (t : TypeId) : Spm w b m (W.alloc (.cells cs t)) (rBlk W.heap.size t cs :: l) := by
  obtain ⟨K, hK, h⟩ := h
  exact ⟨K, hK, h.add cs t⟩
theorem Spm.drew (h : Spm w b m W l) : Spm w b m W.drew l := by
  obtain ⟨K, hK, h⟩ := h
  exact ⟨K, hK, h.drew⟩
theorem Spm.drewN (h : Spm w b m W l) (n : Nat) : Spm w b m (W.drewN n) l := by
  obtain ⟨K, hK, h⟩ := h
  exact ⟨K, hK, h.drewN n⟩
theorem Spm.bx (h : Spm w b m W l) : Bx w.heap.size b w W := by
  obtain ⟨K, hK, h⟩ := h
  exact h.bx
theorem Spm.nth (h : Spm w b m W l) {r : Rsc} (i : Nat) (hi : l[i]? = some r) : r.P W := by
  obtain ⟨K, hK, h⟩ := h
  exact h.nth i hi
theorem Spm.hb (h : Spm w b m W l) : b < w.heap.size := by
  obtain ⟨K, hK, h⟩ := h
  exact h.hb
theorem Spm.strm (h : Spm w b m W l) : ∃ K, K + 300 * m ≤ 100000 ∧ Strm W b K := by
  obtain ⟨K, hK, h⟩ := h
  exact ⟨K, hK, h.strm⟩
theorem Spm.start {K : Nat} (h : Strm w b K) (hK : K + 300 * m ≤ 100000) : Spm w b m w [] := ⟨K, hK, Sp.start h⟩
theorem Spm.callB (h : Spm w b m W l) (k : Below W.heap.size W W') : Spm w b m W' l := by
  obtain ⟨K, hK, h⟩ := h
  exact ⟨K, hK, h.callB k⟩
theorem Spm.size (h : Spm w b m W l) : w.heap.size ≤ W.heap.size := h.bx.size
theorem Spm.drop (h : Spm w b m W l) {r : Rsc} (i : Nat) (hi : l[i]? = some r) {l' : List Rsc} (hl : l.eraseIdx i = l') : Spm w b m W l' := by
  obtain ⟨K, hK, h⟩ := h
  exact ⟨K, hK, h.drop i hi hl⟩
theorem Spm.front (h : Spm w b m W l) {r : Rsc} (i : Nat) (hi : l[i]? = some r) {l' : List Rsc} (hl : l.eraseIdx i = l') : Spm w b m W (r :: l') := by
  obtain ⟨K, hK, h⟩ := h
  exact ⟨K, hK, h.front i hi hl⟩
theorem Spm.ownB {e : TypeId} {size n : Nat} {v : Value} {xs : List Value} (h : Spm w b m W l) (k : Below W.heap.size W W') (ho : W'.ownsRow W.heap.size e size v n xs) : Spm w b m W' (rOwn w.heap.size e size v n xs :: l) := by
  obtain ⟨K, hK, h⟩ := h
  exact ⟨K, hK, h.ownB k ho⟩
theorem Spm.to (h : Spm w b m W l) {m' : Nat} (hm : m' ≤ m) : Spm w b m' W l := by
  obtain ⟨K, hK, h⟩ := h
  exact ⟨K, by omega, h⟩
/-- from here on -/
theorem Spm.from_ (h : Spm w b m W l) : Spm W b m W [] := by
  obtain ⟨K, hK, h⟩ := h
  exact ⟨K, hK, Sp.start h.strm⟩
theorem Spm.bare (h : Spm w b m W l) : Spm w b m W [] := by
  obtain ⟨K, hK, h⟩ := h
  exact ⟨K, hK, h.bare⟩
theorem Spm.less (h : Spm w b (m + 1) W l) : Spm w b m W l := by
  obtain ⟨K, hK, h⟩ := h
  exact ⟨K, by omega, h⟩
def SpmS (P : Value → Prop) (w : World) (b m : Nat) (l : List Rsc) (e : Ending) (w' : World) : Prop := ∃ v, e = .returned v ∧ P v ∧ Spm w b m w' l
theorem spm_of {P : Value → Prop} {K K' : Nat} {e : Ending} {w' : World} (h : SpS P w b K' l e w') (hK : K + 300 * (m + 1) ≤ 100000) (h' : K' ≤ K + 300) : SpmS P w b m l e w' := by
  obtain ⟨v, he, hp, hS⟩ := h
  exact ⟨v, he, hp, K', by omega, hS⟩
theorem spm_range (h : Spm w b (m + 1) W l) (lo hi : Int) (h1 : lo ≤ hi) (hlo : -2305843009213693952 ≤ lo) (hhi : hi ≤ 2305843009213693951) :
    Calls Tryz.prog 9 #[.pointer (some ⟨b, 0, none⟩), .int .i64 lo, .int .i64 hi] W (SpmS (IsInt lo hi) w b m l) := by
  obtain ⟨K, hK, h⟩ := h
  exact (sp_range h lo hi h1 hlo hhi (by omega)).mono (fun e w' h' => spm_of h' hK (by omega))
theorem spm_next (h : Spm w b (m + 1) W l) (n : Int) (hn : 1 ≤ n) (hn' : n ≤ 9223372036854775807) :
    Calls Tryz.prog 13 #[.pointer (some ⟨b, 0, none⟩), .int .i64 n] W (SpmS (IsInt 0 (n - 1)) w b m l) := by
  obtain ⟨K, hK, h⟩ := h
  exact (sp_next h n hn hn' (by omega)).mono (fun e w' h' => spm_of h' hK (by omega))
theorem spm_flip (h : Spm w b (m + 1) W l) (n : Int) (hn : 1 ≤ n) (hn' : n ≤ 9223372036854775807) :
    Calls Tryz.prog 11 #[.pointer (some ⟨b, 0, none⟩), .int .i64 n] W (SpmS IsBool w b m l) := by
  obtain ⟨K, hK, h⟩ := h
  exact (sp_flip h n hn hn' (by omega)).mono (fun e w' h' => spm_of h' hK (by omega))
theorem spm_pick (h : Spm w b (m + 1) W l) (i : Nat) {g n : Nat} {t : TypeId} {cs : Array Value} (lo hh : Int) (hi : l[i]? = some (rBlk g t cs)) (h0 : 0 < n) (hn : n ≤ maxLen) (hs : cs.size = n) (hx : intLit lo hh cs = true) :
    Calls Tryz.prog 10 #[.pointer (some ⟨b, 0, none⟩), .slice (some ⟨g, 0, none⟩) n n] W (SpmS (IsInt lo hh) w b m l) := by
  obtain ⟨K, hK, h⟩ := h
  exact (sp_pickB h i lo hh hi h0 hn hs hx (by omega)).mono (fun e w' h' => spm_of h' hK (by omega))
/-- gifts drawn, beside what was there -/
def GiftsM (w : World) (b m : Nat) (l : List Rsc) (e : Ending) (w' : World) : Prop :=
  ∃ (A : Option Addr) (c : Nat) (gs : List Gf), e = .returned (.slice A gs.length c) ∧ gs.length ≤ 10 ∧ GfOks gs ∧ Spm w b m w' (rOwn w.heap.size 39 5 (.slice A gs.length c) gs.length (gs.flatMap gfC) :: l)
theorem spm_gifts (h : Spm w b (m + 1) W l) (A : Option Addr) (n c many : Nat) (bs : List Bd) (hr : Bds w b A n c bs) (hn : n ≤ 1000) (hmany : (many : Int) ≤ 10) :
    Calls Tryz.prog 8 #[.pointer (some ⟨b, 0, none⟩), .slice A n c, .int .i64 many] W (GiftsM w b m l) := by
  obtain ⟨K, hK, h⟩ := h
  refine (gifts_calls b K A n c many bs W h.strm (by omega) (hr.bx h.bx) hn (by omega)).mono ?_
  rintro e w' ⟨v, gs, rfl, hl, hz, hS⟩
  obtain ⟨A', c', rfl⟩ := own_form (show w'.ownsRow _ _ _ v gs.length _ from hS.head)
  refine ⟨A', c', gs, rfl, by omega, hz, K + 240, by omega, ?_⟩
  have h2 := h.call hS.strm hS.bx
  have ho : w'.ownsRow W.heap.size 39 5 (.slice A' gs.length c') gs.length (gs.flatMap gfC) := hS.head
  exact h.own hS.strm hS.bx ho
end
/-- the gifts in a row of one's own -/
def rGf (base : Nat) (A : Option Addr) (c : Nat) (gs : List Gf) : Rsc := rOwn base 39 5 (.slice A gs.length c) gs.length (gs.flatMap gfC)
theorem Spm.gf {w W : World} {b m : Nat} {l : List Rsc} {A : Option Addr} {c : Nat} {gs : List Gf} (h : Spm w b m W l) (i : Nat) (hi : l[i]? = some (rGf w.heap.size A c gs)) : Rd W b 5 (.slice A gs.length c) gs.length (gs.flatMap gfC) :=
  Rd.own (show W.ownsRow w.heap.size 39 5 (.slice A gs.length c) gs.length (gs.flatMap gfC) from h.nth i hi) h.hb
theorem Spm.set_ {w W : World} {b m g : Nat} {t : TypeId} {cs : Array Value} {l : List Rsc} (h : Spm w b m W (rBlk g t cs :: l)) (i : Nat) (u : Value) : Spm w b m (W.setCell ⟨g, i, none⟩ u) (rBlk g t (cs.setIfInBounds i u) :: l) := by
  obtain ⟨K, hK, h⟩ := h
  exact ⟨K, hK, h.set_ i u⟩
theorem Spm.set4 {w W : World} {b m g : Nat} {t : TypeId} {a0 a1 a2 a3 : Value} {l : List Rsc} (h : Spm w b m W (rBlk g t #[a0, a1, a2, a3] :: l)) (u0 u1 u2 u3 : Value) :
    Spm w b m ((((W.setCell ⟨g, 0, none⟩ u0).setCell ⟨g, 1, none⟩ u1).setCell ⟨g, 2, none⟩ u2).setCell ⟨g, 3, none⟩ u3) (rBlk g t #[u0, u1, u2, u3] :: l) :=
  (((h.set_ 0 u0).set_ 1 u1).set_ 2 u2).set_ 3 u3
theorem BdOk.bxG {w w' : World} {b : Nat} {x : Bd} (h : BdOk w b x) (k : Bx w.heap.size b w w') : BdOk w' b x := h.bx k
/-- the bid that the law itself makes -/
def ownBid (g : Nat) : Bd := ⟨⟨#[98, 97]⟩, ⟨#[115, 97]⟩, 0, some ⟨g, 0, none⟩, 2, [⟨#[120]⟩, ⟨#[121]⟩]⟩
theorem ownBid_ok {w : World} {b g : Nat} (h : Blk w g 9 #[.string ⟨#[120]⟩, .string ⟨#[121]⟩]) (hg : g ≠ b) : BdOk w b (ownBid g) :=
  ⟨blkRd 1 2 h hg (by decide) rfl, (show (⟨#[98, 97]⟩ : ByteArray).size ≤ 1000 by decide), (show (⟨#[115, 97]⟩ : ByteArray).size ≤ 1000 by decide), (show ∀ s ∈ ([⟨#[120]⟩, ⟨#[121]⟩] : List ByteArray), s.size ≤ 1000 by decide), (show 2 ≤ 1000 by decide), (show (-2199023255552 : Int) ≤ 0 ∧ (0 : Int) ≤ 2199023255552 by decide)⟩
theorem ownBid_good (g : Nat) : keyB (ownBid g).key.data.toList = true ∧ ∀ s ∈ (ownBid g).opts, s.toList.isEmpty = false := by
  exact (show keyB (⟨#[98, 97]⟩ : ByteArray).data.toList = true ∧ ∀ s ∈ ([⟨#[120]⟩, ⟨#[121]⟩] : List ByteArray), s.toList.isEmpty = false by decide +kernel)
/-- what a bid has come to: both alike -/
theorem won_law {x : Bd} {l : List Gf} {at_ : Int} (hk : keyB x.key.data.toList = true) (ho : ∀ s ∈ x.opts, s.toList.isEmpty = false) (h : wonE x l at_ = 0) : wonR x l at_ = wonQ x l at_ := by
  have h1 : giftsF (namedF [x]) l = 0 := by
    unfold wonE at h
    by_cases h1 : giftsF (namedF [x]) l = 0
    · exact h1
    · rw [if_neg h1] at h; exact absurd h h1
  unfold wonR
  rw [if_pos h]
  have := won_same (opt_one hk ho h1) ho (fun y hy => (gifts_right h1 y hy).2) (at_ + 1)
  rw [this, Int.add_sub_cancel]
theorem wonE_first (x : Bd) (l : List Gf) (at_ : Int) : firstE [giftsF (namedF [x]) l, if momB at_ = true then 0 else 1] = wonE x l at_ := by
  unfold wonE
  by_cases h1 : giftsF (namedF [x]) l = 0
  · rw [if_pos h1, h1]
    cases momB at_ <;> rfl
  · rw [if_neg h1]
    simp [firstE, h1]
theorem wonR_no {x : Bd} {l : List Gf} {at_ : Int} (h : wonE x l at_ ≠ 0) : wonR x l at_ = (⟨#[]⟩, 0, false) := if_neg h
/-- one of the gifts has other cents -/
theorem Spm.cents {w W : World} {b m g c : Nat} {gs : List Gf} {l : List Rsc} (h : Spm w b m W (rGf w.heap.size (some ⟨g, 0, none⟩) c gs :: l)) (h0 : 0 < gs.length) (z : Int) :
    Spm w b m (W.setCell ⟨g, 2, none⟩ (.int .i64 z)) (rGf w.heap.size (some ⟨g, 0, none⟩) c (gs.set 0 ⟨gs[0].id, gs[0].at_, z, gs[0].bid, gs[0].option⟩) :: l) := by
  obtain ⟨K, hK, h⟩ := h
  exact ⟨K, hK, Sp.field gfC 5 gfC_len h 0 2 h0 (by omega) (.int .i64 z) _ rfl⟩
/-- what stands behind the k-th -/
theorem gf_behind {w : World} {b g o n c k : Nat} {gs : List Gf} (h : Rd w b 5 (.slice (some ⟨g, o, none⟩) n c) n (gs.flatMap gfC)) (hk : k < n) : Rd w b 5 (.slice (some ⟨g, o + k * 5, none⟩) (n - k) (c - k)) (n - k) ((gs.drop k).flatMap gfC) := by
  obtain ⟨hl, h1, h2, h3⟩ := h.cells gfC_len (by omega)
  obtain ⟨g', o', he, hgb, hcs⟩ := h3 (by omega)
  injection he with he
  injection he with he1 he2 _
  subst he1 he2
  refine ⟨_, _, rfl, by omega, by omega, by rw [flat_len gfC 5 gfC_len, List.length_drop, hl], (fun e => by cases e), fun _ => ⟨g, o + k * 5, rfl, hgb, fun j u hu => ?_⟩⟩
  have hj : j < ((gs.drop k).flatMap gfC).length := (List.getElem?_eq_some_iff.1 hu).1
  rw [flat_len gfC 5 gfC_len, List.length_drop] at hj
  obtain ⟨q, r, hr, rfl⟩ : ∃ q r, r < 5 ∧ j = q * 5 + r := ⟨j / 5, j % 5, Nat.mod_lt _ (by omega), by omega⟩
  rw [flat_get gfC 5 gfC_len _ q r (by rw [List.length_drop]; omega) hr, List.getElem_drop] at hu
  have := hcs (k + q) (by omega) r hr
  rw [hu] at this
  rw [← this]
  congr 2
  omega
/-- both mergings say the same -/
theorem merge_same {gs hs : List Gf} (h : firstE [giftsF keysT gs, giftsF keysT hs] = 0) : mergeE gs hs = mrgE (mrgF gs hs) ∧ mrgF [] (gs ++ hs) = mrgF gs hs := by
  have h1 : giftsF keysT gs = 0 := by
    by_cases h1 : giftsF keysT gs = 0
    · exact h1
    · simp [firstE, h1] at h
  have e := mrg_alike hs h1
  exact ⟨by unfold mergeE; rw [if_pos h, e], e⟩
theorem merge_lists {gs hs l1 l2 : List Gf} (h : giftsF keysT gs = 0) (h1 : ∃ acc, mrgF gs hs = some acc ∧ l1.Perm acc ∧ SrtG l1) (h2 : ∃ acc, mrgF gs hs = some acc ∧ l2.Perm acc ∧ SrtG l2) : l1 = l2 := by
  obtain ⟨a1, e1, p1, s1⟩ := h1
  obtain ⟨a2, e2, p2, s2⟩ := h2
  rw [e1] at e2
  injection e2 with e2
  subst e2
  exact srt_one (mrgF_uniq hs gs a1 (right_uniq h).2 e1) p1 p2 s1 s2
end Go.Proofs.YtohhbkodfidfkaaGreat
