/-
  The reference's parser of rules, on: not by a contract. (Printed by gen_rst.py.)
-/
import Derived.Test.YtfhdknppldobiaaGreatDoorZRst1
namespace Go.Proofs.YtfhdknppldobiaaGreatDoor
open Go Go.RowKit
attribute [local go_sem ↓] Go.wp_at_zero Go.wp_at_succ

def NotH (f : Nat) : Prop := ∀ w0 b l r w, RAt w0 w b l → notR f l = some r → Calls Tryz.prog 200 #[.pointer (some ⟨b, 0, none⟩)] w (NqS w0 b r w)
def LstH (op : ByteArray) (part : List Tk → Option (Nq × List Tk)) : Prop := ∀ w0 b l r w, RAt w0 w b l → listR op part l = some r → Calls Tryz.prog 158 #[.pointer (some ⟨b, 0, none⟩), .string op] w (NqS w0 b r w)
theorem Px.three {w W : World} {b : Nat} {l : List Rsc} {g : Nat} {t : TypeId} {x y z : Value} (h : Px w b W (rBlk g t #[x, y, z] :: l)) (x' y' z' : Value) :
    Px w b (((W.setCell ⟨g, 0, none⟩ x').setCell ⟨g, 1, none⟩ y').setCell ⟨g, 2, none⟩ z') (rBlk g t #[x', y', z'] :: l) := ((h.set_ 0 x').set_ 1 y').set_ 2 z'
theorem RAt.three {w0 W : World} {b : Nat} {l : List Tk} (h : RAt w0 W b l) {g : Nat} (hg : w0.heap.size ≤ g) (x' y' z' : Value) :
    RAt w0 (((W.setCell ⟨g, 0, none⟩ x').setCell ⟨g, 1, none⟩ y').setCell ⟨g, 2, none⟩ z') b l := ((h.far hg 0 x').far hg 1 y').far hg 2 z'
theorem Blk.threeQ {w : World} {g : Nat} {t : TypeId} {x y z : Value} (h : Blk w g t #[x, y, z]) :
    w.cell? ⟨g, 0, none⟩ = some x ∧ w.cell? ⟨g, 1, none⟩ = some y ∧ w.cell? ⟨g, 2, none⟩ = some z ∧ w.frozen? ⟨g, 0, none⟩ = false ∧ w.frozen? ⟨g, 1, none⟩ = false ∧ w.frozen? ⟨g, 2, none⟩ = false :=
  ⟨h.cell 0, h.cell 1, h.cell 2, h.frozen 0, h.frozen 1, h.frozen 2⟩
theorem nqv_leaf (w : World) (op atom : ByteArray) : NqV w (fun _ => False) (none, 0) (.node op atom []) :=
  .mk none 0 op atom [] (World.ownsRow_nil _ _ _ _) (fun k h => by cases h) (fun p hp => by cases hp)
theorem nqv_one {w : World} {P : Nat → Prop} {base g : Nat} {A : Option Addr} {c : Nat} {t : Nq} (op atom : ByteArray) (hr : w.ownsRow base 139 3 (.slice (some ⟨g, 0, none⟩) 1 1) 1 [.string t.op, .string t.atom, .slice A t.kids.length c]) (hn : NqV w P (A, c) t) :
    NqV w (fun k => P k ∨ k = g) (some ⟨g, 0, none⟩, 1) (.node op atom [t]) :=
  .mk (some ⟨g, 0, none⟩) 1 op atom [((A, c), t)] (own_base hr (Nat.zero_le _)) (fun k h => .inr (by injection h with h; exact h.symm)) (fun p hp => by simp at hp; subst hp; exact hn.wide (fun k hk => .inl hk))

set_option maxRecDepth 100000 in
set_option maxHeartbeats 2000000 in
theorem restNot_calls (f : Nat) (IH : NotH f) (IL : LstH sOr (listR sAnd (notR f))) : NotH (f + 1) := by
  intro w0 b l r w h hr
  cases l with
  | nil => cases hr
  | cons t l =>
  have hb : b < w.heap.size := Nat.lt_of_lt_of_le h.lt h.size
  have hg0 : w0.heap.size ≤ w.heap.size := h.size
  have htz := h.z t (List.mem_cons_self ..)
  have hS0 := (Px.start w hb).add #[.string ⟨#[]⟩, .string ⟨#[]⟩, .slice none 0 0] 139
  have hR0 := h.below ((Below.refl _ _).alloc (Nat.le_refl _) (.cells #[.string ⟨#[]⟩, .string ⟨#[]⟩, .slice none 0 0] 139))
  have HTK := Lib.hid (restTake_calls w0 b t l _ hR0)
  have eN := tokB t.1 [110, 111, 116] sNot rfl
  have eO := tokB t.1 [40] sOpen rfl
  have eT := tokB t.1 [116, 114, 117, 101] sTrue rfl
  have eH := tokB t.1 [104, 97, 115] sHas rfl
  rw [notR] at hr
  obtain ⟨tx, ta⟩ := t
  simp only at hr htz HTK eN eO eT eH
  clear h hR0
  by_cases q1 : tx = sNot
  · rw [if_pos q1] at hr
    obtain ⟨r0, hr0, rfl⟩ : ∃ r0, notR f l = some r0 ∧ r = (.node sNot noB [r0.1], r0.2) := by
      cases hx : notR f l with
      | none => rw [hx] at hr; cases hr
      | some r0 => rw [hx] at hr; injection hr with hr; exact ⟨r0, rfl, hr.symm⟩
    rw [decide_eq_true q1] at eN
    have HIH := Lib.hid (fun W (hW : RAt w0 W b l) => IH w0 b l r0 W hW hr0)
    clear hr eO eT eH IH IL hr0
    subst q1
    go_enter Tryz.func200, Tryz.ntmps200
    go_wp2_with fail
    refine HTK.out.mono ?_
    rintro e w2 ⟨rfl, hR2, B2⟩
    have hS2 := hS0.call B2
    clear hS0 HTK B2
    go_wp2_with fail
    refine (HIH.out _ hR2).mono ?_
    rintro e w3 ⟨A3, c3, P3, rfl, hN3, hP3, hR3, B3⟩
    have hS3 := (hS2.nq B3 hN3 hP3).front 1 rfl rfl
    have hlt3 : w.heap.size < w3.heap.size := (hS3.ge 0 rfl (g := w.heap.size) rfl).2
    have hne3 : ¬ w.heap.size = w3.heap.size := by omega
    obtain ⟨k0, k1, k2, f0, f1, f2⟩ := Blk.threeQ hS3.head
    have hS4 := (hS3.three (.string ⟨#[110, 111, 116]⟩) (.string ⟨#[]⟩) (.slice (some ⟨w3.heap.size, 0, none⟩) 1 1)).addRow #[.string r0.1.op, .string r0.1.atom, .slice A3 r0.1.kids.length c3] 139 3 1 rfl (by decide)
    have hR4 := (hR3.three hg0 (.string ⟨#[110, 111, 116]⟩) (.string ⟨#[]⟩) (.slice (some ⟨w3.heap.size, 0, none⟩) 1 1)).below ((Below.refl _ _).alloc (Nat.le_refl _) (.cells #[.string r0.1.op, .string r0.1.atom, .slice A3 r0.1.kids.length c3] 139))
    have hz3 : (((w3.setCell ⟨w.heap.size, 0, none⟩ (.string ⟨#[110, 111, 116]⟩)).setCell ⟨w.heap.size, 1, none⟩ (.string ⟨#[]⟩)).setCell ⟨w.heap.size, 2, none⟩ (.slice (some ⟨w3.heap.size, 0, none⟩) 1 1)).heap.size = w3.heap.size := by simp [World.setCell]
    rw [hz3] at hS4
    obtain ⟨r0', r1', r2', _⟩ := Blk.threeQ (hS4.nth 1 rfl)
    have hN4 := (hS4.nth 2 rfl : ∀ p ∈ [((A3, c3), r0.1)], NqV _ P3 p.1 p.2) _ (List.mem_singleton.2 rfl)
    have hfin := nqv_one sNot noB (show World.ownsRow _ w.heap.size 139 3 (.slice (some ⟨w3.heap.size, 0, none⟩) 1 1) 1 _ from hS4.head) hN4
    have hfp : ∀ k, P3 k ∨ k = w3.heap.size → w.heap.size ≤ k ∧ k < _ := fun k hk => by
      rcases hk with hk | hk
      · exact hS4.ge 2 rfl hk
      · exact hS4.ge 0 rfl (by rw [hk]; rfl)
    have hbx := hS4.bx
    clear hS4 hS3 hS2 hR2 hR3 hN3 hP3 hN4 hz3
    go_wp2_with fail
    exact bodyPost_ret (v := .agg #[.string ⟨#[110, 111, 116]⟩, .string ⟨#[]⟩, .slice (some ⟨w3.heap.size, 0, none⟩) 1 1]) (by simp [results, Tryz.results200, go_sem, r0', r1', r2']) rfl ⟨_, _, _, rfl, hfin, hfp, hR4, hbx⟩
  rw [if_neg q1] at hr
  rw [decide_eq_false q1] at eN
  by_cases q2 : tx = sOpen
  · rw [if_pos q2] at hr
    obtain ⟨n, t2, l2, hl2, rfl⟩ : ∃ n t2 l2, listR sOr (listR sAnd (notR f)) l = some (n, t2 :: l2) ∧ r = (n, l2) := by
      cases hx : listR sOr (listR sAnd (notR f)) l with
      | none => rw [hx] at hr; cases hr
      | some r0 =>
        rw [hx] at hr
        obtain ⟨n, l2⟩ := r0
        cases l2 with
        | nil => cases hr
        | cons t2 l2 => injection hr with hr; exact ⟨n, t2, l2, rfl, hr.symm⟩
    rw [decide_eq_true q2] at eO
    have HIL := Lib.hid (fun W (hW : RAt w0 W b l) => IL w0 b l _ W hW hl2)
    have HT2 := Lib.hid (fun W (hW : RAt w0 W b (t2 :: l2)) => restTake_calls w0 b t2 l2 W hW)
    clear hr eT eH IH IL hl2 q1
    subst q2
    have eOr : (⟨#[111, 114]⟩ : ByteArray) = sOr := rfl
    go_enter Tryz.func200, Tryz.ntmps200
    go_wp2_with fail
    refine HTK.out.mono ?_
    rintro e w2 ⟨rfl, hR2, B2⟩
    have hS2 := hS0.call B2
    clear hS0 HTK B2
    go_wp2_with fail
    refine (HIL.out _ hR2).mono ?_
    rintro e w3 ⟨A3, c3, P3, rfl, hN3, hP3, hR3, B3⟩
    have hS3 := ((hS2.nq B3 hN3 hP3)).add #[.string n.op, .string n.atom, .slice A3 n.kids.length c3] 139
    have hR3' := hR3.below ((Below.refl _ _).alloc (Nat.le_refl _) (.cells #[.string n.op, .string n.atom, .slice A3 n.kids.length c3] 139))
    clear hS2 hR2 hR3 hN3 hP3 B3
    go_wp2_with fail
    refine (HT2.out _ hR3').mono ?_
    rintro e w4 ⟨rfl, hR4, B4⟩
    have hS4 := hS3.call B4
    obtain ⟨k0, k1, k2, f0, f1, f2⟩ := Blk.threeQ (hS4.nth 0 rfl)
    obtain ⟨d0, d1, d2, g0, g1, g2⟩ := Blk.threeQ (hS4.nth 2 rfl)
    have hS5 := (hS4.front 2 rfl rfl).three (.string n.op) (.string n.atom) (.slice A3 n.kids.length c3)
    have hR5 := hR4.three hg0 (.string n.op) (.string n.atom) (.slice A3 n.kids.length c3)
    obtain ⟨r0', r1', r2', _⟩ := Blk.threeQ (hS5.nth 0 rfl)
    have hN5 := (hS5.nth 2 rfl : ∀ p ∈ [((A3, c3), n)], NqV _ P3 p.1 p.2) _ (List.mem_singleton.2 rfl)
    have hfp : ∀ k, P3 k → w.heap.size ≤ k ∧ k < _ := fun k hk => hS5.ge 2 rfl hk
    have hbx := hS5.bx
    clear hS5 hS4 hS3 hR3' hR4 B4
    go_wp2_with fail
    exact bodyPost_ret (v := .agg #[.string n.op, .string n.atom, .slice A3 n.kids.length c3]) (by simp [results, Tryz.results200, go_sem, r0', r1', r2']) rfl ⟨_, _, _, rfl, hN5, hfp, hR5, hbx⟩
  rw [if_neg q2] at hr
  rw [decide_eq_false q2] at eO
  by_cases q3 : tx = sTrue
  · rw [if_pos q3] at hr
    injection hr with hr
    subst hr
    rw [decide_eq_true q3] at eT
    clear eH IH IL q1 q2
    subst q3
    go_enter Tryz.func200, Tryz.ntmps200
    go_wp2_with fail
    refine HTK.out.mono ?_
    rintro e w2 ⟨rfl, hR2, B2⟩
    have hS2 := hS0.call B2
    obtain ⟨k0, k1, k2, f0, f1, f2⟩ := Blk.threeQ (hS2.nth 0 rfl)
    have hS5 := hS2.three (.string ⟨#[]⟩) (.string sTrue) (.slice none 0 0)
    have hR5 := hR2.three hg0 (.string ⟨#[]⟩) (.string sTrue) (.slice none 0 0)
    obtain ⟨r0', r1', r2', _⟩ := Blk.threeQ (hS5.nth 0 rfl)
    have hbx := hS5.bx
    clear hS0 HTK B2 hS2 hR2 hS5
    go_wp2_with fail
    exact bodyPost_ret (v := .agg #[.string ⟨#[]⟩, .string sTrue, .slice none 0 0]) (by simp [results, Tryz.results200, go_sem, r0', r1', r2']) rfl ⟨none, 0, _, rfl, nqv_leaf _ noB sTrue, fun k hk => hk.elim, hR5, hbx⟩
  rw [if_neg q3] at hr
  rw [decide_eq_false q3] at eT
  by_cases q4 : tx = sHas
  · rw [if_pos q4] at hr
    obtain ⟨x, l2, rfl, rfl⟩ : ∃ x l2, l = x :: l2 ∧ r = (.node noB (hasQ x.1) [], l2) := by
      cases l with
      | nil => cases hr
      | cons x l2 => injection hr with hr; exact ⟨x, l2, rfl, hr.symm⟩
    rw [decide_eq_true q4] at eH
    have HT2 := Lib.hid (fun W (hW : RAt w0 W b (x :: l2)) => restTake_calls w0 b x l2 W hW)
    obtain ⟨X, hX⟩ : ∃ X : ByteArray, (⟨#[104, 97, 115, 32]⟩ ++ x.1) = X := ⟨_, rfl⟩
    have HXX : Hid (hasQ x.1 = X) := Lib.hid hX
    have HXS := Lib.hid hX
    clear IH IL q1 q2 q3 hr hX
    subst q4
    go_enter Tryz.func200, Tryz.ntmps200
    go_wp2_with fail
    refine HTK.out.mono ?_
    rintro e w2 ⟨rfl, hR2, B2⟩
    have hxz := hR2.z x (List.mem_cons_self ..)
    have hS2 := hS0.call B2
    clear hS0 HTK B2
    go_wp2_with fail
    refine (HT2.out _ hR2).mono ?_
    rintro e w3 ⟨rfl, hR3, B3⟩
    have hS3 := hS2.call B3
    obtain ⟨k0, k1, k2, f0, f1, f2⟩ := Blk.threeQ (hS3.nth 0 rfl)
    have hS5 := hS3.three (.string ⟨#[]⟩) (.string (⟨#[104, 97, 115, 32]⟩ ++ x.1)) (.slice none 0 0)
    have hR5 := hR3.three hg0 (.string ⟨#[]⟩) (.string (⟨#[104, 97, 115, 32]⟩ ++ x.1)) (.slice none 0 0)
    obtain ⟨r0', r1', r2', _⟩ := Blk.threeQ (hS5.nth 0 rfl)
    have hbx := hS5.bx
    clear hS2 hR2 hS5 hS3 hR3 B3
    go_wp2_with fail
    exact bodyPost_ret (v := .agg #[.string ⟨#[]⟩, .string (⟨#[104, 97, 115, 32]⟩ ++ x.1), .slice none 0 0]) (by simp [results, Tryz.results200, go_sem, r0', r1', r2']) rfl ⟨none, 0, _, rfl, nqv_leaf _ noB (hasQ x.1), fun k hk => hk.elim, hR5, hbx⟩
  rw [if_neg q4] at hr
  rw [decide_eq_false q4] at eH
  obtain ⟨x, y, l2, rfl, rfl⟩ : ∃ x y l2, l = x :: y :: l2 ∧ r = (.node noB (triQ tx x.1 y.1) [], l2) := by
    cases l with
    | nil => cases hr
    | cons x l2 => cases l2 with
      | nil => cases hr
      | cons y l2 => injection hr with hr; exact ⟨x, y, l2, rfl, hr.symm⟩
  have HT2 := Lib.hid (fun W (hW : RAt w0 W b (x :: y :: l2)) => restTake_calls w0 b x (y :: l2) W hW)
  have HT3 := Lib.hid (fun W (hW : RAt w0 W b (y :: l2)) => restTake_calls w0 b y l2 W hW)
  clear IH IL q1 q2 q3 q4 hr
  go_enter Tryz.func200, Tryz.ntmps200
  go_wp2_with fail
  refine HTK.out.mono ?_
  rintro e w2 ⟨rfl, hR2, B2⟩
  have hxz := hR2.z x (List.mem_cons_self ..)
  have hyz := hR2.z y (by simp)
  have hS2 := hS0.call B2
  clear hS0 HTK B2
  go_wp2_with fail
  refine (HT2.out _ hR2).mono ?_
  rintro e w3 ⟨rfl, hR3, B3⟩
  have hS3 := hS2.call B3
  clear hS2 B3 hR2
  go_wp2_with fail
  refine (HT3.out _ hR3).mono ?_
  rintro e w4 ⟨rfl, hR4, B4⟩
  have hS4 := hS3.call B4
  obtain ⟨k0, k1, k2, f0, f1, f2⟩ := Blk.threeQ (hS4.nth 0 rfl)
  have hS5 := hS4.three (.string ⟨#[]⟩) (.string (tx ++ ⟨#[32]⟩ ++ x.1 ++ ⟨#[32]⟩ ++ y.1)) (.slice none 0 0)
  have hR5 := hR4.three hg0 (.string ⟨#[]⟩) (.string (tx ++ ⟨#[32]⟩ ++ x.1 ++ ⟨#[32]⟩ ++ y.1)) (.slice none 0 0)
  obtain ⟨r0', r1', r2', _⟩ := Blk.threeQ (hS5.nth 0 rfl)
  have hbx := hS5.bx
  clear hS5 hS4 hS3 hR3 hR4 B4
  go_wp2_with fail
  exact bodyPost_ret (v := .agg #[.string ⟨#[]⟩, .string (tx ++ ⟨#[32]⟩ ++ x.1 ++ ⟨#[32]⟩ ++ y.1), .slice none 0 0]) (by simp [results, Tryz.results200, go_sem, r0', r1', r2']) rfl ⟨none, 0, _, rfl, nqv_leaf _ noB (triQ tx x.1 y.1), fun k hk => hk.elim, hR5, hbx⟩
end Go.Proofs.YtfhdknppldobiaaGreatDoor
