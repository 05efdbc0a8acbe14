/-
  The reference's OrderOf by a contract.
-/
import Derived.Test.YtejadhehmcifoaaZOrd6
namespace Go.Proofs.Ytejadhehmcifoaa
open Go Go.RowKit
attribute [local go_sem ↓] Go.wp_at_zero Go.wp_at_succ

theorem run_store_func {P : Program} (w : World) (a : Addr) (m : Mode) (f : Fn) (ts lb : Array Value) : (store a (.func f ts lb) m).run P w = stored P w a (.func f ts lb) m := run_store P w a _ m rfl
attribute [local go_sem] run_store_func
theorem ordQ_calls : ∀ m, OrdQ m
  | 0 => ordQ_zero
  | m + 1 => ordQ_succ m (Lib.hid (ordQ_calls m))
set_option maxRecDepth 100000 in
set_option maxHeartbeats 2000000 in
theorem orderOf_calls (b : Nat) (A : Option Addr) (n c : Nat) (xs : List Slt) (rest : Int) (w : World) (hr : Slts w b A n c xs) (hb : b < w.heap.size) (hk : KeyOne xs) (hn : n ≤ 1000) (hrest : 0 ≤ rest ∧ rest ≤ 86400000) :
    Calls Try.prog 24 #[.slice A n c, .int .i64 rest] w (fun e w' => ∃ v, e = .returned (.tuple #[v, .int .i64 (bestR rest xs).2]) ∧ w'.ownsRow w.heap.size 9 1 v (bestR rest xs).1.length (strsV (bestR rest xs).1) ∧ Below w.heap.size w w') := by
  have hl := (hr.rd.cells sltC_len (by omega)).1
  have HS0 := Lib.hid ((((((Sq.start w).add #[.slice A n c] 42).add #[.int .i64 rest] 3).add #[.slice none 0 0] 26).add #[.int .i64 (-1)] 3).add #[.nilFunc] 90)
  simp only [World.size_alloc] at HS0
  have HR := Lib.hid hr
  have HL := Lib.hid hl
  have HK := Lib.hid hk
  have HBR : Hid ((permsQ xs n []).foldl (stepQ rest) ([], -1) = bestR rest xs) := Lib.hid (by unfold bestR; rw [hl])
  obtain ⟨B, hB⟩ : ∃ B, bestR rest xs = B := ⟨_, rfl⟩
  rw [hB] at HBR ⊢
  clear hB
  obtain ⟨L, N⟩ := B
  clear hr hk hl
  go_enter Try.func24, Try.ntmps24
  go_upto_region 4 with (fail)
  obtain ⟨W5, hW5⟩ : ∃ W5, (((((w.alloc (.cells #[.slice A n c] 42)).alloc (.cells #[.int .i64 rest] 3)).alloc (.cells #[.slice none 0 0] 26)).alloc (.cells #[.int .i64 (-1)] 3)).alloc (.cells #[.nilFunc] 90)) = W5 := ⟨_, rfl⟩
  have hS0 := HS0.out
  rw [hW5] at hS0 ⊢
  have b0 : Blk W5 (w.heap.size + 1 + 1 + 1 + 1) 90 #[.nilFunc] := hS0.nth 0 rfl
  have k0 : W5.cell? ⟨w.heap.size + 1 + 1 + 1 + 1, 0, none⟩ = some .nilFunc := b0.cell 0
  have f0 := b0.frozen 0
  have hS1 := ((hS0.set_ 0 (cloV w.heap.size (w.heap.size + 1 + 1 + 1 + 1) (w.heap.size + 1) (w.heap.size + 1 + 1 + 1) (w.heap.size + 1 + 1))).nil w.heap.size 59 5).nil w.heap.size 9 1
  have hS3 : Sq w _ (rBlk (w.heap.size + 1 + 1 + 1) 3 #[.int .i64 (-1)] :: rBlk (w.heap.size + 1 + 1) 26 #[.slice none 0 0] :: rSt w.heap.size none 0 0 [] :: rBlk w.heap.size 42 #[.slice A n c] :: rBlk (w.heap.size + 1 + 1 + 1 + 1) 90 #[cloV w.heap.size (w.heap.size + 1 + 1 + 1 + 1) (w.heap.size + 1) (w.heap.size + 1 + 1 + 1) (w.heap.size + 1 + 1)] :: rBlk (w.heap.size + 1) 3 #[.int .i64 rest] :: rSl w.heap.size none 0 0 [] :: []) :=
    ((((((hS1.front 1 rfl rfl).front 5 rfl rfl).front 3 rfl rfl).front 6 rfl rfl).front 4 rfl rfl).front 6 rfl rfl).front 6 rfl rfl
  have HOC := Lib.hid (ordQ_calls n b w _ w.heap.size (w.heap.size + 1 + 1 + 1 + 1) (w.heap.size + 1) (w.heap.size + 1 + 1 + 1) (w.heap.size + 1 + 1) A n c xs rest ([], -1) [] none 0 0 [] xs hb hrest (by decide) HR.out HK.out HL.out (List.Perm.refl _) hn ⟨none, 0, hS3⟩)
  have k1 : (W5.setCell ⟨w.heap.size + 1 + 1 + 1 + 1, 0, none⟩ (cloV w.heap.size (w.heap.size + 1 + 1 + 1 + 1) (w.heap.size + 1) (w.heap.size + 1 + 1 + 1) (w.heap.size + 1 + 1))).cell? ⟨w.heap.size + 1 + 1 + 1 + 1, 0, none⟩ = some (cloV w.heap.size (w.heap.size + 1 + 1 + 1 + 1) (w.heap.size + 1) (w.heap.size + 1 + 1 + 1) (w.heap.size + 1 + 1)) := (show Blk _ _ _ _ from hS3.nth 4 rfl).cell 0
  clear hS0 hS1 hS3 hW5 b0 HS0
  go_wp2_with fail
  refine HOC.out.mono ?_
  rintro e w6 ⟨rfl, hF⟩
  rw [HBR.out] at hF
  obtain ⟨Ab, cb, hS⟩ := hF
  have kn : w6.cell? ⟨w.heap.size + 1 + 1 + 1, 0, none⟩ = some (.int .i64 N) := (show Blk w6 (w.heap.size + 1 + 1 + 1) _ _ from hS.nth 0 rfl).cell 0
  have kb : w6.cell? ⟨w.heap.size + 1 + 1, 0, none⟩ = some (.slice Ab L.length cb) := (show Blk w6 (w.heap.size + 1 + 1) _ _ from hS.nth 1 rfl).cell 0
  have HF : Hid (∀ W, Below w6.heap.size w6 W → ∃ v, Ending.returned (Value.tuple #[.slice Ab L.length cb, .int .i64 N]) = Ending.returned (.tuple #[v, .int .i64 N]) ∧ W.ownsRow w.heap.size 9 1 v L.length (strsV L) ∧ Below w.heap.size w W) := Lib.hid (fun W h => ⟨_, rfl, (hS.callB h).nth 2 rfl, (hS.callB h).below⟩)
  clear hS HOC k0 f0 k1
  go_wp2_with fail
  go_region
  all_goals
    go_wp2_with fail
    refine bodyPost_ret (by simp [results, Try.results24, go_sem]) rfl (HF.out _ (below_drewN (Below.refl _ _) _))
end Go.Proofs.Ytejadhehmcifoaa
