/-
  The reference's parsed by a contract. (Printed by gen_qtx.py.)
-/
import Derived.Test.YtlkapcjofgpiiaaGreatDoorZRst3
import Derived.Test.YtlkapcjofgpiiaaGreatDoorZChkOf
namespace Go.Proofs.YtlkapcjofgpiiaaGreatDoor
open Go Go.RowKit
attribute [local go_sem ↓] Go.wp_at_zero Go.wp_at_succ

theorem Sq.turnQ {w0 w w' : World} {b : Nat} {t : TypeId} {cs cs' : Array Value} {l : List Rsc} (h : Sq w0 w (rBlk b t cs :: l)) (k : Bx w.heap.size b w w') (hb : Blk w' b t cs') : Sq w0 w' (rBlk b t cs' :: l) :=
  h.turn (r' := rBlk b t cs') k.grownBy (fun q hq => by injection hq with hq; exact hq.symm) hb (rBlk_ok _ _ _) (fun q hq => ⟨.inl hq, by have hq : q = b := hq; subst hq; exact hb.lt⟩)
/-- the tree t, in new memory -/
def PsdS (t : Nq) (w : World) (e : Ending) (w' : World) : Prop :=
  ∃ (A : Option Addr) (c : Nat) (P : Nat → Prop), e = .returned (.agg #[.string t.op, .string t.atom, .slice A t.kids.length c]) ∧ NqV w' P (A, c) t ∧ (∀ k, P k → w.heap.size ≤ k ∧ k < w'.heap.size) ∧ Below w.heap.size w w'
set_option maxRecDepth 100000 in
set_option maxHeartbeats 2000000 in
theorem parsed_calls (s : ByteArray) (t : Nq) (l' : List Tk) (f : Nat) (w : World) (hs : s.size ≤ 90000) (h : orR f (toks s 0) = some (t, l')) : Calls Tryz.prog 91 #[.string s] w (PsdS t w) := by
  have IL := (rest_all f).2.2
  have hlen := toks_len s _ 0 (Nat.le_refl _) (Nat.zero_le _)
  have hsz := toks_sz s _ 0 (Nat.le_refl _) (Nat.zero_le _)
  obtain ⟨L, hL⟩ : ∃ L, toks s 0 = L := ⟨_, rfl⟩
  have HTK := Lib.hid (tokens_calls s)
  have HTK2 : Hid (∀ W, Calls Tryz.prog 69 #[.string s] W (fun e w' => ∃ v, e = .returned v ∧ w'.ownsRow W.heap.size 110 2 v L.length (L.flatMap tkC) ∧ Below W.heap.size W w')) := Lib.hid (fun W => by
    have := HTK.out W (by omega)
    unfold TokS at this
    rw [hL] at this
    exact this)
  rw [hL] at h hlen hsz
  have hS0 := (Sq.start w).add #[.string ⟨#[]⟩, .string ⟨#[]⟩, .slice none 0 0] 135
  have HIL : Hid (∀ w0 b W, RAt w0 W b L → Calls Tryz.prog 111 #[.pointer (some ⟨b, 0, none⟩), .string ⟨#[111, 114]⟩] W (NqS w0 b (t, l') W)) := Lib.hid (fun w0 b W hW => IL w0 b L _ W hW h)
  obtain ⟨n, hn⟩ : ∃ n, L.length = n := ⟨_, rfl⟩
  have HN := Lib.hid hn
  rw [hn] at HTK2 hlen
  have HSZ := Lib.hid hsz
  clear IL hL HTK h hn hsz
  go_enter Tryz.func91, Tryz.ntmps91
  go_wp2_with fail
  refine (HTK2.out _).mono ?_
  rintro e w2 ⟨v, rfl, ho2, hb2⟩
  obtain ⟨A, c, hv⟩ := own_form ho2
  subst hv
  have hS2 := hS0.ownB hb2 ho2
  have hS3 := hS2.add #[.slice A n c] 153
  have hoW := (hS3.nth 1 rfl : World.ownsRow _ w.heap.size 110 2 (.slice A n c) n (L.flatMap tkC))
  have hlt2 := (hS2.nth 0 rfl : World.ownsRow _ w.heap.size 110 2 (.slice A n c) n (L.flatMap tkC))
  have hR : RAt (w2.alloc (.cells #[.slice A n c] 153)) (w2.alloc (.cells #[.slice A n c] 153)) w2.heap.size L :=
    ⟨by simp, Bx.refl _ _ _, ⟨A, c, by rw [HN.out]; exact hS3.head, by rw [HN.out]; exact Rd.of_own hoW (fun k hk e => by have := (hlt2.lt k hk).2; omega)⟩, fun x hx => by have := (HSZ.out x hx).1; omega, by rw [HN.out]; omega⟩
  have hg2 : w.heap.size < w2.heap.size := by have := hS2.size; have h1 := (hS2.nth 1 rfl : Blk w2 w.heap.size 135 _).lt; exact h1
  clear hS0 hb2 ho2 hS2 HTK2 hoW hlt2
  go_wp2_with fail
  refine (HIL.out _ _ _ hR).mono ?_
  rintro e w4 ⟨A4, c4, P4, rfl, hN4, hP4, hR4, B4⟩
  simp only at hN4 hR4
  obtain ⟨A5, c5, hk5, _⟩ := hR4.ex
  have hS4 := (hS3.turnQ B4 hk5).front 2 rfl rfl
  obtain ⟨k0, k1, k2, f0, f1, f2⟩ := Blk.threeQ hS4.head
  have hS5 := ((hS4.set_ 0 (.string t.op)).set_ 1 (.string t.atom)).set_ 2 (.slice A4 t.kids.length c4)
  obtain ⟨r0', r1', r2', _⟩ := Blk.threeQ hS5.head
  have hbl := hS5.below
  have hfar : ∀ k, P4 k → k ≠ w.heap.size := fun k hk e => by have := (hP4 k hk).1; simp at this; omega
  have hN5 := (((hN4.keep (w' := w4.setCell ⟨w.heap.size, 0, none⟩ (.string t.op)) (fun k hk => Below.heap_setCell _ _ _ _ (hfar k hk))).keep (w' := (w4.setCell ⟨w.heap.size, 0, none⟩ (.string t.op)).setCell ⟨w.heap.size, 1, none⟩ (.string t.atom)) (fun k hk => Below.heap_setCell _ _ _ _ (hfar k hk))).keep (w' := ((w4.setCell ⟨w.heap.size, 0, none⟩ (.string t.op)).setCell ⟨w.heap.size, 1, none⟩ (.string t.atom)).setCell ⟨w.heap.size, 2, none⟩ (.slice A4 t.kids.length c4)) (fun k hk => Below.heap_setCell _ _ _ _ (hfar k hk)))
  have hfp : ∀ k, P4 k → w.heap.size ≤ k ∧ k < (((w4.setCell ⟨w.heap.size, 0, none⟩ (.string t.op)).setCell ⟨w.heap.size, 1, none⟩ (.string t.atom)).setCell ⟨w.heap.size, 2, none⟩ (.slice A4 t.kids.length c4)).heap.size := fun k hk => by
    have h1 := hP4 k hk
    have h2 : w.heap.size ≤ k := by have := h1.1; simp at this; omega
    exact ⟨h2, by have := h1.2; simpa [World.setCell] using this⟩
  clear hS3 hS4 hS5 hR hR4 hk5 B4 hN4 hP4
  go_wp2_with fail
  exact bodyPost_ret (v := .agg #[.string t.op, .string t.atom, .slice A4 t.kids.length c4]) (by simp [results, Tryz.results91, go_sem, r0', r1', r2']) rfl ⟨A4, c4, P4, rfl, hN5, hfp, hbl⟩
end Go.Proofs.YtlkapcjofgpiiaaGreatDoor
