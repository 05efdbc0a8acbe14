/-
  Strings that are added up, as a law of its own for a walk. No Go text is named here.
-/
import Derived.Test.YthbcogekfdllmaaGreatDoorZTxt2
import Derived.Laws.Concat
import Derived.Test.YthbcogekfdllmaaGreatDoorZSrn1
import Derived.Test.YthbcogekfdllmaaGreatDoorZBs
import Derived.Test.YthbcogekfdllmaaGreatDoorZSrnX
namespace Go.Proofs.YthbcogekfdllmaaGreatDoor
open Go Go.RowKit TxtP

/-- strings that are added up, as a law of its own -/
def sumS (a b : ByteArray) : ByteArray := a ++ b
def AddOk (a b : ByteArray) : Prop := a.size + b.size ≤ 1000000
theorem run_sumS {P : Program} {w : World} (a b : ByteArray) (h : AddOk a b) : (Op.stringOp .add a b).run P w = .ok (.string (sumS a b)) w := by
  refine run_string_add_sum _ _ _ ?_
  unfold AddOk at h
  omega
theorem sumS_data (a b : ByteArray) : (sumS a b).data.toList = a.data.toList ++ b.data.toList := by
  unfold sumS
  rw [ByteArray.data_append, Array.toList_append]
theorem sumS_size (a b : ByteArray) : (sumS a b).size = a.size + b.size := by
  unfold sumS
  rw [ByteArray.size_append]
end Go.Proofs.YthbcogekfdllmaaGreatDoor
/-
  The stream's SomeRuns and RunText by contracts.
-/
namespace Go.Proofs.YthbcogekfdllmaaGreatDoor
open Go Go.RowKit TxtP

theorem RnZs.snoc {xs : List Rn} {x : Rn} (h : RnZs xs) (hx : RnZ x) : RnZs (xs ++ [x]) := by
  intro y hy
  rcases List.mem_append.1 hy with hy | hy
  · exact h y hy
  · simp at hy; subst hy; exact hx
theorem rn_snoc (xs : List Rn) (x : Rn) : (xs ++ [x]).flatMap rnC = xs.flatMap rnC ++ rnC x := by
  rw [List.flatMap_append]; simp

end Go.Proofs.YthbcogekfdllmaaGreatDoor
/-
  The stream's SomeRuns to the letter. (Turned out of XSrn2.)
-/
namespace Go.Proofs.YthbcogekfdllmaaGreatDoor
open Go Go.RowKit TxtP

def rnKs : List ByteArray := [⟨#[114, 97]⟩, ⟨#[114, 98]⟩, ⟨#[114, 99]⟩, ⟨#[114, 100]⟩]
theorem rnKs_at (k : Nat) (hk : k < 4) : ∃ s, (#[.string ⟨#[114, 97]⟩, .string ⟨#[114, 98]⟩, .string ⟨#[114, 99]⟩, .string ⟨#[114, 100]⟩] : Array Value)[k]? = some (.string s) ∧ s.size ≤ 1000 ∧ rnKs[k]? = some s := by
  rcases (show k = 0 ∨ k = 1 ∨ k = 2 ∨ k = 3 by omega) with rfl | rfl | rfl | rfl <;> exact ⟨_, rfl, by decide, rfl⟩
/-- the runs after k rounds, and the position -/
def rnsX (zs : ZsT) (p : Nat) : Nat → Nat × List CntR
  | 0 => (p, [])
  | k + 1 => if (nxX zs (rnsX zs p k).1 5 == 0) = true then ((rnsX zs p k).1 + 1, (rnsX zs p k).2) else ((srX zs ((rnsX zs p k).1 + 1) (rnKs[k]?.getD ⟨#[]⟩)).1, (rnsX zs p k).2 ++ [(srX zs ((rnsX zs p k).1 + 1) (rnKs[k]?.getD ⟨#[]⟩)).2])
theorem rnsX_no {zs : ZsT} {p k r : Nat} {L : List CntR} (h : rnsX zs p k = (r, L)) (hf : (nxX zs r 5 == 0) = true) : rnsX zs p (k + 1) = (r + 1, L) := by
  rw [rnsX, h, if_pos hf]
theorem rnsX_yes {zs : ZsT} {p k r r2 : Nat} {xs : List Rn} {x : Rn} {s : ByteArray} (hk : rnKs[k]? = some s) (h : rnsX zs p k = (r, xs.map cntR)) (hf : (nxX zs r 5 == 0) = false) (hx : srX zs (r + 1) s = (r2, cntR x)) : rnsX zs p (k + 1) = (r2, (xs ++ [x]).map cntR) := by
  rw [rnsX, h, if_neg (by rw [hf]; decide), hk]
  show ((srX zs (r + 1) s).1, xs.map cntR ++ [(srX zs (r + 1) s).2]) = _
  rw [hx, List.map_append]
  rfl
/-- runs in new memory, drawn, to the letter -/
def RunsX (zs : ZsT) (b p m : Nat) (w : World) (e : Ending) (w' : World) : Prop :=
  ∃ (v : Value) (xs : List Rn) (r : Nat), e = .returned v ∧ xs.length ≤ m ∧ RnZs xs ∧ rnsX zs p m = (r, xs.map cntR) ∧ r ≤ p + 84 ∧ SpX zs w b r w' [rOwn w.heap.size 101 5 v xs.length (xs.flatMap rnC), rAll (fldR w.heap.size) xs]
set_option maxRecDepth 100000 in
set_option maxHeartbeats 2000000 in
theorem someRunsX_calls (b p : Nat) (zs : ZsT) (w : World) (hs : StrmX w b zs p) (hK : p ≤ 700000) :
    Calls Tryz.prog 35 #[.pointer (some ⟨b, 0, none⟩)] w (RunsX zs b p 4 w) := by
  obtain ⟨i0, hi, hz0, hz1, hz2⟩ := info_parts info_rn
  have hS0 := ((((SpX.start hs).add #[.string ⟨#[114, 97]⟩, .string ⟨#[114, 98]⟩, .string ⟨#[114, 99]⟩, .string ⟨#[114, 100]⟩] 9).allNil (fldR w.heap.size) (fldR_ok _)).nil w.heap.size 101 5)
  clear hs
  go_enter Tryz.func35, Tryz.ntmps35
  go_wp2_with fail
  go_loopw [3, 8] (fun v i wr => ∃ (k r : Nat) (xs : List Rn), k ≤ 4 ∧ i = .int .i64 k ∧ xs.length ≤ k ∧ RnZs xs ∧ Hid (rnsX zs p k = (r, xs.map cntR)) ∧ r ≤ p + 21 * k ∧ SpX zs w b r wr [rOwn w.heap.size 101 5 v xs.length (xs.flatMap rnC), rAll (fldR w.heap.size) xs, rBlk w.heap.size 9 #[.string ⟨#[114, 97]⟩, .string ⟨#[114, 98]⟩, .string ⟨#[114, 99]⟩, .string ⟨#[114, 100]⟩]]) (fun _ i _ => 4 - (intOf i).toNat)
  case atStart => exact ⟨0, p, [], Nat.zero_le _, rfl, Nat.le_refl _, (by intro x hx; cases hx), Lib.hid rfl, by omega, hS0⟩
  case round =>
    clear hS0
    obtain ⟨k, r, xs, hk, rfl, hxk, hz, HP, hrp, hS⟩ := hrel
    by_cases hlt : k < 4
    · obtain ⟨s, hcs, hss, hsl⟩ := rnKs_at k hlt
      have HSL := Lib.hid hsl
      clear hsl
      have hb5 : Blk wr w.heap.size 9 #[.string ⟨#[114, 97]⟩, .string ⟨#[114, 98]⟩, .string ⟨#[114, 99]⟩, .string ⟨#[114, 100]⟩] := hS.nth 2 rfl
      have c0 := (hb5.cell k).trans hcs
      have hk0 : (0 : Int) ≤ (k : Int) := by omega
      have hk5 : (k : Int) < 4 := by omega
      clear hcs hb5
      go_wp2_with fail
      refine (spE_flip hS 5 (by omega) (by omega) (by omega)).mono ?_
      rintro e w1 ⟨fv, rfl, HFV, hS1⟩
      clear c0 hS
      cases fv
      · go_wp2_with fail
        refine (someRunX_calls b (r + 1) zs s w1 hS1.strm (by omega) hss).mono ?_
        rintro e w2 ⟨⟨id, who, ti, da, fa, fc, fs⟩, r2, rfl, hxz, hsr, hr2, hR⟩
        have HSR := Lib.hid hsr
        clear hsr
        have ho : w2.ownsRow w1.heap.size 75 2 (.slice fa fs.length fc) fs.length (fs.flatMap prC) := hR.head
        have hSf := (hS1.own hR.strm hR.bx ho).front 1 rfl rfl
        obtain ⟨m, hm⟩ : ∃ m, fs.length = m := ⟨_, rfl⟩
        have HM := Lib.hid hm
        simp only [hm] at hSf ⊢
        have hz5 := hSf.size
        have HO5 : w2.ownsRow w.heap.size 101 5 u3 xs.length (xs.flatMap rnC) := hSf.head
        clear hS1 hR ho hm
        go_wp2_with (first
          | (at_builtin; refine wpList_append_own_at _ rfl _ _ 89 rfl w.heap.size 101 i0 (.agg #[.string ⟨#[]⟩, .string ⟨#[]⟩, .int .i64 0, .int .i64 0, .slice none 0 0]) 5 72 Tryz.underlying89 hi hz0 hz1 hz2 rfl (by decide) _ _ _ rfl (HO5.alloc _) ⟨w2.heap.size, 0, none⟩ 1 1 [.string id, .string who, .int .i64 ti, .int .i64 da, .slice fa m fc] rfl rfl (World.news_of_block (heap_alloc_new _ _)) (one5r rfl rfl rfl rfl rfl) (by unfold maxLen; omega) (by omega) (by simp; omega) ?_; intro v' w8 hown' hgrow _ hblk; have hS8 := (hSf.alloc _).append hown' hgrow hblk; clear hown' hgrow hblk))
        have hS9 : SpX zs w b r2 w8 [rOwn w.heap.size 101 5 v' (xs ++ [(⟨id, who, ti, da, fa, fc, fs⟩ : Rn)]).length ((xs ++ [(⟨id, who, ti, da, fa, fc, fs⟩ : Rn)]).flatMap rnC), rAll (fldR w.heap.size) (xs ++ [(⟨id, who, ti, da, fa, fc, fs⟩ : Rn)]), rBlk w.heap.size 9 #[.string ⟨#[114, 97]⟩, .string ⟨#[114, 98]⟩, .string ⟨#[114, 99]⟩, .string ⟨#[114, 100]⟩]] := by
          have h5 : SpX zs w b r2 w8 [rOwn w.heap.size 101 5 v' (xs.length + 1) (xs.flatMap rnC ++ rnC ⟨id, who, ti, da, fa, fc, fs⟩), fldR w.heap.size ⟨id, who, ti, da, fa, fc, fs⟩, rAll (fldR w.heap.size) xs, rBlk w.heap.size 9 #[.string ⟨#[114, 97]⟩, .string ⟨#[114, 98]⟩, .string ⟨#[114, 99]⟩, .string ⟨#[114, 100]⟩]] := by
            unfold fldR rnC
            simp only [HM.out]
            exact hS8
          rw [rn_snoc, List.length_append]
          exact (((h5.front 2 rfl rfl).front 2 rfl rfl).snoc (fldR_ok _)).front 1 rfl rfl
        go_roundw
        case rel => exact ⟨k + 1, r2, _, by omega, by go_num, by simp; omega, hz.snoc hxz, Lib.hid (rnsX_yes HSL.out HP.out HFV.out HSR.out), by omega, hS9⟩
        case measure => simp [intOf]; omega
      · go_wp2_with fail
        go_roundw
        case rel => exact ⟨k + 1, r + 1, xs, by omega, by go_num, by omega, hz, Lib.hid (rnsX_no HP.out HFV.out), by omega, hS1⟩
        case measure => simp [intOf]; omega
    · obtain rfl : k = 4 := by omega
      go_wp2_with fail
      go_ret
      exact ⟨_, xs, r, rfl, hxk, hz, HP.out, by omega, hS.drop 2 rfl rfl⟩
end Go.Proofs.YthbcogekfdllmaaGreatDoor
