/-
  marathon.orders by a contract: the closure that keeps the best order, and the recursion.
-/
import Derived.Test.YtejadhehmcifoaaGreatDoorZOrd1
import Derived.Test.YtejadhehmcifoaaGreatDoorZSlot8
import Derived.Test.YtejadhehmcifoaaGreatDoorZLow
import Derived.Deep.RegionHeld3
import Derived.Deep.DeepCutAuto
import Derived.RegionTactic
import Derived.ChangeAlike
import Derived.BigRegion
namespace Go.Proofs.YtejadhehmcifoaaGreatDoor
open Go Go.RowKit
attribute [local go_sem ↓] Go.wp_at_zero Go.wp_at_succ

/-- the best order so far, as the closure keeps it -/
def StO (w0 : World) (gr gf gb : Nat) (rest : Int) (s : List Slt × Int) (W : World) (l : List Rsc) : Prop :=
  ∃ A c, Sq w0 W (rBlk gf 3 #[.int .i64 s.2] :: rBlk gb 36 #[.slice A s.1.length c] :: rSl w0.heap.size A s.1.length c s.1 :: rBlk gr 3 #[.int .i64 rest] :: l)
theorem StO.callB {w0 W W' : World} {gr gf gb : Nat} {rest : Int} {s : List Slt × Int} {l : List Rsc} (h : StO w0 gr gf gb rest s W l) (k : Below W.heap.size W W') : StO w0 gr gf gb rest s W' l := by
  obtain ⟨A, c, h⟩ := h
  exact ⟨A, c, h.callB k⟩
/-- slots that lie in old memory, but for their row -/
def OkS (w0 : World) (b : Nat) (xs : List Slt) : Prop := ∀ x ∈ xs, SltOk w0 b x
theorem OkS.slts {w0 W : World} {b n c : Nat} {A : Option Addr} {xs : List Slt} {l : List Rsc} (h : OkS w0 b xs) (hS : Sq w0 W l) (hr : Rd W b 5 (.slice A n c) n (xs.flatMap sltC)) : Slts W b A n c xs := ⟨hr, fun x hx => (h x hx).below hS.below⟩
theorem clF_len_bd (rest : Int) (p : List Slt) (hn : p.length ≤ 1000) : clN_ rest p ≤ 1000000 := by
  unfold clN_
  have h := clTo_le p rest p.length p.length (Nat.le_refl _) rfl
  have : p.length * p.length ≤ 1000 * 1000 := Nat.mul_le_mul hn hn
  unfold clF
  omega

set_option maxRecDepth 100000 in
set_option maxHeartbeats 1000000 in
theorem ordF_calls (b : Nat) (w0 W : World) (gr gf gb : Nat) (rest : Int) (s : List Slt × Int) (l : List Rsc) (A : Option Addr) (n c : Nat) (p : List Slt) (hb : b < w0.heap.size) (hrest : 0 ≤ rest ∧ rest ≤ 86400000) (hs2 : -1 ≤ s.2 ∧ s.2 ≤ 1000000) (hS : StO w0 gr gf gb rest s W l) (hok : OkS w0 b p) (hr : Rd W b 5 (.slice A n c) n (p.flatMap sltC)) (hn : n ≤ 1000) :
    Calls Tryz.prog 37 #[.slice A n c, .pointer (some ⟨gr, 0, none⟩), .pointer (some ⟨gf, 0, none⟩), .pointer (some ⟨gb, 0, none⟩)] W fun e W' => e = .returned (.tuple #[]) ∧ StO w0 gr gf gb rest (stepO rest s p) W' l := by
  obtain ⟨Ab, cb, hS⟩ := hS
  obtain ⟨bs, f⟩ := s
  simp only at hS hs2
  have hsz := hS.size
  have hl : p.length = n := (hr.cells sltC_len (by omega)).1
  have HCL := Lib.hid (clashes_calls b A n c p rest W (hok.slts hS hr) hn (by omega) (by omega))
  have HCB := Lib.hid (clF_len_bd rest p (by omega))
  have HR := Lib.hid hr
  have HS := Lib.hid hS
  obtain ⟨N, hN⟩ : ∃ N : Nat, (clF p rest).length = N := ⟨_, rfl⟩
  have HN : Hid (clN_ rest p = (N : Int)) := Lib.hid (by unfold clN_; rw [hN])
  have hNb : (N : Int) ≤ 1000000 := by rw [← HN.out]; exact HCB.out
  have HNL := Lib.hid hN
  obtain ⟨f0, f1⟩ := hs2
  have hgr : W.cell? ⟨gr, 0, none⟩ = some (.int .i64 rest) := (show Blk W gr _ _ from hS.nth 3 rfl).cell 0
  have HL := Lib.hid hl
  clear hS hN HCB hr hl
  by_cases hc : f < 0
  · have HST : Hid (stepO rest (bs, f) p = (p, (N : Int))) := Lib.hid (by unfold stepO; rw [if_pos (.inl hc), HN.out])
    rw [HST.out]
    go_enter Tryz.func37, Tryz.ntmps37
    go_wp2_with fail
    refine HCL.out.mono ?_
    rintro e w1 ⟨v, rfl, hown, hb1⟩
    rw [HNL.out] at hown
    obtain ⟨vA, vc, rfl⟩ := own_form hown
    have hS1 := HS.out.callB hb1
    have bf : Blk w1 gf 3 #[.int .i64 f] := hS1.nth 0 rfl
    have kf := bf.cell 0
    replace kf : w1.cell? ⟨gf, 0, none⟩ = some (.int .i64 f) := kf
    have HCN := Lib.hid (cloneSlt_calls b A n c (p.flatMap sltC) w1 (HR.out.below hb1) (sltC_one p) (by omega))
    have HS1 := Lib.hid hS1
    clear hS1 hown hb1 bf
    go_wp2_with fail
    refine HCN.out.mono ?_
    rintro e w2 ⟨v2, rfl, hown2, hb2⟩
    obtain ⟨A2, c2, rfl⟩ := own_form hown2
    have hS2 := HS1.out.ownB hb2 hown2
    have b2f : Blk w2 gf 3 #[.int .i64 f] := hS2.nth 1 rfl
    have b2b : Blk w2 gb 36 #[.slice Ab bs.length cb] := hS2.nth 2 rfl
    have z0 := b2f.cell 0
    have z1 := b2f.frozen 0
    have z2 := b2b.cell 0
    have z3 := b2b.frozen 0
    have hS3 := ((hS2.front 2 rfl rfl).set_ 0 (.slice A2 n c2))
    have hS4 := ((hS3.front 2 rfl rfl).set_ 0 (.int .i64 N))
    have hS5 := (((hS4.drop 3 rfl rfl).front 1 rfl rfl).front 1 rfl rfl)
    have hne : gf ≠ gb := by
      have hap := hS2.hp.apart
      simp only [List.pairwise_cons] at hap
      intro he
      exact hap.2.1 _ (List.mem_cons_self ..) gf rfl he
    have HF : Hid (StO w0 gr gf gb rest (p, (N : Int)) ((w2.setCell ⟨gb, 0, none⟩ (.slice A2 n c2)).setCell ⟨gf, 0, none⟩ (.int .i64 N)) l) := Lib.hid ⟨A2, c2, by
      have := HL.out
      subst this
      exact hS5⟩
    clear hS2 hS3 hS4 hS5 b2f b2b hown2 hb2
    go_wp2_with fail
    go_end0
    exact ⟨rfl, HF.out⟩
  by_cases hd : (N : Int) < f
  · have HST : Hid (stepO rest (bs, f) p = (p, (N : Int))) := Lib.hid (by unfold stepO; rw [if_pos (.inr (by rw [HN.out]; exact hd)), HN.out])
    rw [HST.out]
    go_enter Tryz.func37, Tryz.ntmps37
    go_wp2_with fail
    refine HCL.out.mono ?_
    rintro e w1 ⟨v, rfl, hown, hb1⟩
    rw [HNL.out] at hown
    obtain ⟨vA, vc, rfl⟩ := own_form hown
    have hS1 := HS.out.callB hb1
    have bf : Blk w1 gf 3 #[.int .i64 f] := hS1.nth 0 rfl
    have kf := bf.cell 0
    replace kf : w1.cell? ⟨gf, 0, none⟩ = some (.int .i64 f) := kf
    have HCN := Lib.hid (cloneSlt_calls b A n c (p.flatMap sltC) w1 (HR.out.below hb1) (sltC_one p) (by omega))
    have HS1 := Lib.hid hS1
    clear hS1 hown hb1 bf
    go_wp2_with fail
    refine HCN.out.mono ?_
    rintro e w2 ⟨v2, rfl, hown2, hb2⟩
    obtain ⟨A2, c2, rfl⟩ := own_form hown2
    have hS2 := HS1.out.ownB hb2 hown2
    have b2f : Blk w2 gf 3 #[.int .i64 f] := hS2.nth 1 rfl
    have b2b : Blk w2 gb 36 #[.slice Ab bs.length cb] := hS2.nth 2 rfl
    have z0 := b2f.cell 0
    have z1 := b2f.frozen 0
    have z2 := b2b.cell 0
    have z3 := b2b.frozen 0
    have hS3 := ((hS2.front 2 rfl rfl).set_ 0 (.slice A2 n c2))
    have hS4 := ((hS3.front 2 rfl rfl).set_ 0 (.int .i64 N))
    have hS5 := (((hS4.drop 3 rfl rfl).front 1 rfl rfl).front 1 rfl rfl)
    have hne : gf ≠ gb := by
      have hap := hS2.hp.apart
      simp only [List.pairwise_cons] at hap
      intro he
      exact hap.2.1 _ (List.mem_cons_self ..) gf rfl he
    have HF : Hid (StO w0 gr gf gb rest (p, (N : Int)) ((w2.setCell ⟨gb, 0, none⟩ (.slice A2 n c2)).setCell ⟨gf, 0, none⟩ (.int .i64 N)) l) := Lib.hid ⟨A2, c2, by
      have := HL.out
      subst this
      exact hS5⟩
    clear hS2 hS3 hS4 hS5 b2f b2b hown2 hb2
    go_wp2_with fail
    go_end0
    exact ⟨rfl, HF.out⟩
  · have HST : Hid (stepO rest (bs, f) p = (bs, f)) := Lib.hid (by unfold stepO; rw [if_neg (by rw [HN.out]; rintro (h | h); exact hc h; exact hd h)])
    rw [HST.out]
    go_enter Tryz.func37, Tryz.ntmps37
    go_wp2_with fail
    refine HCL.out.mono ?_
    rintro e w1 ⟨v, rfl, hown, hb1⟩
    rw [HNL.out] at hown
    obtain ⟨vA, vc, rfl⟩ := own_form hown
    have hS1 := HS.out.callB hb1
    have bf : Blk w1 gf 3 #[.int .i64 f] := hS1.nth 0 rfl
    have kf := bf.cell 0
    replace kf : w1.cell? ⟨gf, 0, none⟩ = some (.int .i64 f) := kf
    have HF : Hid (StO w0 gr gf gb rest (bs, f) w1 l) := Lib.hid ⟨Ab, cb, hS1⟩
    clear hS1 hown hb1 bf
    go_wp2_with fail
    go_end0
    exact ⟨rfl, HF.out⟩
end Go.Proofs.YtejadhehmcifoaaGreatDoor
