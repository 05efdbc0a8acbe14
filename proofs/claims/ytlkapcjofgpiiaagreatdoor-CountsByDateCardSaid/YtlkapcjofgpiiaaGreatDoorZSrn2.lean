/-
  The stream's SomeRuns and RunText by contracts.
-/
import Derived.Test.YtlkapcjofgpiiaaGreatDoorZSrn1
import Derived.Test.YtlkapcjofgpiiaaGreatDoorZSumS
namespace Go.Proofs.YtlkapcjofgpiiaaGreatDoor
open Go Go.RowKit TxtP

/-- runs in new memory, drawn -/
def RunsS (b K m : Nat) (w : World) (e : Ending) (w' : World) : Prop :=
  ∃ (v : Value) (xs : List Rn), e = .returned v ∧ xs.length ≤ m ∧ RnZs xs ∧ Sp w b K w' [rOwn w.heap.size 36 5 v xs.length (xs.flatMap rnC), rAll (fldR w.heap.size) xs]
theorem RnZs.snoc {xs : List Rn} {x : Rn} (h : RnZs xs) (hx : RnZ x) : RnZs (xs ++ [x]) := by
  intro y hy
  rcases List.mem_append.1 hy with hy | hy
  · exact h y hy
  · simp at hy; subst hy; exact hx
theorem rns_ofS {w W : World} {b K n c : Nat} {A : Option Addr} {xs : List Rn} {l : List Rsc} (hS : Sp w b K W (rOwn w.heap.size 36 5 (.slice A n c) n (xs.flatMap rnC) :: rAll (fldR w.heap.size) xs :: l)) (hz : RnZs xs) : Rns W b A n c xs := by
  have h0 : W.ownsRow w.heap.size 36 5 (.slice A n c) n (xs.flatMap rnC) := hS.head
  have h1 : ∀ x ∈ xs, (fldR w.heap.size x).P W := hS.tail.head
  exact ⟨Rd.own h0 hS.hb, fun x hx => ⟨Rd.own (h1 x hx) hS.hb, Nat.le_trans (hz x hx).hi (by omega), Nat.le_trans (hz x hx).hw (by omega), fun p hp => ⟨Nat.le_trans ((hz x hx).hf p hp).1 (by omega), Nat.le_trans ((hz x hx).hf p hp).2 (by omega)⟩, Nat.le_trans (hz x hx).hn (by omega)⟩⟩
theorem rn_snoc (xs : List Rn) (x : Rn) : (xs ++ [x]).flatMap rnC = xs.flatMap rnC ++ rnC x := by
  rw [List.flatMap_append]; simp

set_option maxRecDepth 100000 in
set_option maxHeartbeats 2000000 in
theorem someRuns_calls (b K : Nat) (w : World) (hs : Strm w b K) (hK : K ≤ 800000) :
    Calls Tryz.prog 6 #[.pointer (some ⟨b, 0, none⟩)] w (RunsS b (K + 84) 4 w) := by
  obtain ⟨i0, hi, hz0, hz1, hz2⟩ := info_parts info_rn
  have hS0 := ((((Sp.start hs).add #[.string ⟨#[114, 97]⟩, .string ⟨#[114, 98]⟩, .string ⟨#[114, 99]⟩, .string ⟨#[114, 100]⟩] 9).allNil (fldR w.heap.size) (fldR_ok _)).nil w.heap.size 36 5)
  clear hs
  go_enter Tryz.func6, Tryz.ntmps6
  go_wp2_with fail
  go_loopw [3, 8] (fun v i wr => ∃ (k : Nat) (xs : List Rn), k ≤ 4 ∧ i = .int .i64 k ∧ xs.length ≤ k ∧ RnZs xs ∧ Sp w b (K + 21 * k) wr [rOwn w.heap.size 36 5 v xs.length (xs.flatMap rnC), rAll (fldR w.heap.size) xs, rBlk w.heap.size 9 #[.string ⟨#[114, 97]⟩, .string ⟨#[114, 98]⟩, .string ⟨#[114, 99]⟩, .string ⟨#[114, 100]⟩]]) (fun _ i _ => 4 - (intOf i).toNat)
  case atStart => exact ⟨0, [], Nat.zero_le _, rfl, Nat.le_refl _, (by intro x hx; cases hx), hS0.more (by omega)⟩
  case round =>
    clear hS0
    obtain ⟨k, xs, hk, rfl, hxk, hz, hS⟩ := hrel
    by_cases hlt : k < 4
    · obtain ⟨s, hcs, hss⟩ := strLit_at (cs := #[.string ⟨#[114, 97]⟩, .string ⟨#[114, 98]⟩, .string ⟨#[114, 99]⟩, .string ⟨#[114, 100]⟩]) rfl k (by simp; omega)
      have hb5 : Blk wr w.heap.size 9 #[.string ⟨#[114, 97]⟩, .string ⟨#[114, 98]⟩, .string ⟨#[114, 99]⟩, .string ⟨#[114, 100]⟩] := hS.nth 2 rfl
      have c0 := (hb5.cell k).trans hcs
      have hk0 : (0 : Int) ≤ (k : Int) := by omega
      have hk5 : (k : Int) < 4 := by omega
      clear hcs hb5
      go_wp2_with fail
      refine (sp_flip hS 5 (by omega) (by omega) (by omega)).mono ?_
      rintro e w1 ⟨_, rfl, ⟨fv, rfl⟩, hS1⟩
      clear c0 hS
      cases fv
      · go_wp2_with fail
        refine (someRun_calls b (K + 21 * k + 1) s w1 hS1.strm (by omega) hss).mono ?_
        rintro e w2 ⟨⟨id, who, ti, da, fa, fc, fs⟩, rfl, hxz, hR⟩
        have ho : w2.ownsRow w1.heap.size 99 2 (.slice fa fs.length fc) fs.length (fs.flatMap prC) := hR.head
        have hSf := (hS1.own hR.strm hR.bx ho).front 1 rfl rfl
        obtain ⟨m, hm⟩ : ∃ m, fs.length = m := ⟨_, rfl⟩
        have HM := Lib.hid hm
        simp only [hm] at hSf ⊢
        have hz5 := hSf.size
        have HO5 : w2.ownsRow w.heap.size 36 5 u3 xs.length (xs.flatMap rnC) := hSf.head
        clear hS1 hR ho hm
        go_wp2_with (first
          | (at_builtin; refine wpList_append_own_at _ rfl _ _ 28 rfl w.heap.size 36 i0 (.agg #[.string ⟨#[]⟩, .string ⟨#[]⟩, .int .i64 0, .int .i64 0, .slice none 0 0]) 5 72 Tryz.underlying28 hi hz0 hz1 hz2 rfl (by decide) _ _ _ rfl (HO5.alloc _) ⟨w2.heap.size, 0, none⟩ 1 1 [.string id, .string who, .int .i64 ti, .int .i64 da, .slice fa m fc] rfl rfl (World.news_of_block (heap_alloc_new _ _)) (one5r rfl rfl rfl rfl rfl) (by unfold maxLen; omega) (by omega) (by simp; omega) ?_; intro v' w8 hown' hgrow _ hblk; have hS8 := (hSf.alloc _).append hown' hgrow hblk; clear hown' hgrow hblk))
        have hS9 : Sp w b (K + 21 * k + 1 + 20) w8 [rOwn w.heap.size 36 5 v' (xs ++ [(⟨id, who, ti, da, fa, fc, fs⟩ : Rn)]).length ((xs ++ [(⟨id, who, ti, da, fa, fc, fs⟩ : Rn)]).flatMap rnC), rAll (fldR w.heap.size) (xs ++ [(⟨id, who, ti, da, fa, fc, fs⟩ : Rn)]), rBlk w.heap.size 9 #[.string ⟨#[114, 97]⟩, .string ⟨#[114, 98]⟩, .string ⟨#[114, 99]⟩, .string ⟨#[114, 100]⟩]] := by
          have h5 : Sp w b (K + 21 * k + 1 + 20) w8 [rOwn w.heap.size 36 5 v' (xs.length + 1) (xs.flatMap rnC ++ rnC ⟨id, who, ti, da, fa, fc, fs⟩), fldR w.heap.size ⟨id, who, ti, da, fa, fc, fs⟩, rAll (fldR w.heap.size) xs, rBlk w.heap.size 9 #[.string ⟨#[114, 97]⟩, .string ⟨#[114, 98]⟩, .string ⟨#[114, 99]⟩, .string ⟨#[114, 100]⟩]] := by
            unfold fldR rnC
            simp only [HM.out]
            exact hS8
          rw [rn_snoc, List.length_append]
          exact (((h5.front 2 rfl rfl).front 2 rfl rfl).snoc (fldR_ok _)).front 1 rfl rfl
        go_roundw
        case rel => exact ⟨k + 1, _, by omega, by go_num, by simp; omega, hz.snoc hxz, hS9.more (by omega)⟩
        case measure => simp [intOf]; omega
      · go_wp2_with fail
        go_roundw
        case rel => exact ⟨k + 1, xs, by omega, by go_num, by omega, hz, hS1.more (by omega)⟩
        case measure => simp [intOf]; omega
    · obtain rfl : k = 4 := by omega
      go_wp2_with fail
      go_ret
      exact ⟨_, xs, rfl, hxk, hz, (hS.drop 2 rfl rfl).more (by omega)⟩
end Go.Proofs.YtlkapcjofgpiiaaGreatDoor
