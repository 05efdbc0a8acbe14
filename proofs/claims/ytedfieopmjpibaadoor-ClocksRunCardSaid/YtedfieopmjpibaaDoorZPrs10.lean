/-
  The reference's press: no attempt is on. (Printed by gen_prs10.py.)
-/
import Derived.Test.YtedfieopmjpibaaDoorZPrs9
import Derived.Test.YtedfieopmjpibaaDoorZMap
import Derived.Maps.OwnOps
namespace Go.Proofs.YtedfieopmjpibaaDoor
open Go Go.RowKit
attribute [local go_sem ↓] Go.wp_at_zero Go.wp_at_succ

/-- where the attempt stands, and what a press has answered -/
def QrS (w0 : World) (ga : Nat) (a : Option Att) (l : List Rsc) (r : Value) (e : Ending) (w' : World) : Prop :=
  e = .returned r ∧ ∃ (g : Nat) (A1 : Option Addr) (c1 : Nat) (A2 : Option Addr) (c2 : Nat), Sq w0 w' (rBlk ga 69 #[attV a g] :: attL w0.heap.size a g A1 c1 A2 c2 l)
def QrG (w0 : World) (ga n : Nat) (a : Option Att) (p : Pz) (l : List Rsc) (e : Ending) (w' : World) : Prop :=
  QrS w0 ga (pressQ n a p) l (.bool (!refQ n a p.2)) e w'
theorem qr_no {w0 W : World} {ga n g : Nat} {a : Option Att} {p : Pz} {A1 A2 : Option Addr} {c1 c2 : Nat} {l : List Rsc} (h : refQ n a p.2 = true)
    (hS : Sq w0 W (rBlk ga 69 #[attV a g] :: attL w0.heap.size a g A1 c1 A2 c2 l)) : QrG w0 ga n a p l (.returned (.bool false)) W := by
  unfold QrG pressQ
  rw [h]
  exact ⟨rfl, g, A1, c1, A2, c2, hS⟩
theorem qr_yes {w0 W : World} {ga n g : Nat} {a a' : Option Att} {p : Pz} {A1 A2 : Option Addr} {c1 c2 : Nat} {l : List Rsc} (h : refQ n a p.2 = false) (h2 : doneQ a p = a')
    (hS : Sq w0 W (rBlk ga 69 #[attV a' g] :: attL w0.heap.size a' g A1 c1 A2 c2 l)) : QrG w0 ga n a p l (.returned (.bool true)) W := by
  unfold QrG pressQ
  rw [h, if_neg (by simp), h2]
  exact ⟨rfl, g, A1, c1, A2, c2, hS⟩
theorem info_press : (Tryd.prog.info? 61).map (fun i => (i.zero, i.size, i.bytes)) = some (some (.agg #[.int .i64 0, .int .i64 0]), 2, 16) := by kernel_rfl
theorem one2p {x y : Value} (hx : x.oneCell' = true) (hy : y.oneCell' = true) : ∀ u ∈ [x, y], u.oneCell' = true := by
  intro u hu
  simp at hu
  rcases hu with rfl | rfl <;> assumption
theorem flat_pz (l : List Pz) (p : Pz) : (l ++ [p]).flatMap pzC = l.flatMap pzC ++ pzC p := flat_snoc pzC l p

/-- the literal that says in which phase a pause and its end are followed -/
theorem map56 (w : World) : ∃ w2 w3 : World, (Instr.mapUpdate 94 (.map (some w.heap.size)) (.int .i64 5) (.int .i64 1)).run Tryd.prog (w.alloc (.map #[] 0)) = .ok () w2 ∧ (Instr.mapUpdate 94 (.map (some w.heap.size)) (.int .i64 6) (.int .i64 2)).run Tryd.prog w2 = .ok () w3 ∧ Below w.heap.size w w3 ∧
    (Instr.lookup 94 (.map (some w.heap.size)) (.int .i64 5) false).run Tryd.prog w3 = .ok (.int .i64 1) w3 ∧ (Instr.lookup 94 (.map (some w.heap.size)) (.int .i64 6) false).run Tryd.prog w3 = .ok (.int .i64 2) w3 := by
  have h0 := World.ownsMap_made w Tryd.prog 3 (plainElem (H := Unit) Tryd.prog 3)
  have K := Maps.int_keyed (P := Tryd.prog) (k := 3) Tryd.underlying3
  obtain ⟨w2, r1, h1, g1⟩ := h0.update (t := 94) (e := 3) K Tryd.underlying94 (by decide) (key := .int .i64 5) (val := .int .i64 1) (kl := .int .i64 5) (by kernel_rfl) (plainElem_int Tryd.underlying3 (by decide))
  obtain ⟨w3, r2, h2, g2⟩ := h1.update (t := 94) (e := 3) K Tryd.underlying94 (by decide) (key := .int .i64 6) (val := .int .i64 2) (kl := .int .i64 6) (by kernel_rfl) (plainElem_int Tryd.underlying3 (by decide))
  obtain ⟨c5, l5, e5, _⟩ := h2.lookup_int (t := 94) (e := 3) K Tryd.underlying94 Tryd.underlying3 (by kernel_rfl) (key := .int .i64 5) (kl := .int .i64 5) (by kernel_rfl)
  obtain ⟨c6, l6, e6, _⟩ := h2.lookup_int (t := 94) (e := 3) K Tryd.underlying94 Tryd.underlying3 (by kernel_rfl) (key := .int .i64 6) (kl := .int .i64 6) (by kernel_rfl)
  have hB := ((((Below.refl w.heap.size w).alloc (Nat.le_refl _) (.map #[] 0)).grown g1 (by simp) (fun k hk => by injection hk with hk; omega))).grown g2 (by have := g1.size; simp at this; omega) (fun k hk => by injection hk with hk; omega)
  refine ⟨w2, w3, r1, r2, hB, ?_, ?_⟩
  · have : c5 = 1 := by
      have f5 : (((DataW.map [] : DataW Unit).put (.int .i64 5) (.lit (.int .i64 1))).put (.int .i64 6) (.lit (.int .i64 2))).atKey (.int .i64 5) (.lit (.int .i64 0)) = .lit (.int .i64 1) := by kernel_rfl
      have g5 := f5.symm.trans e5
      exact (Lit.int.inj (DataW.lit.inj g5)).2.symm
    rw [← this]
    exact l5
  · have : c6 = 2 := by
      have f6 : (((DataW.map [] : DataW Unit).put (.int .i64 5) (.lit (.int .i64 1))).put (.int .i64 6) (.lit (.int .i64 2))).atKey (.int .i64 6) (.lit (.int .i64 0)) = .lit (.int .i64 2) := by kernel_rfl
      have g6 := f6.symm.trans e6
      exact (Lit.int.inj (DataW.lit.inj g6)).2.symm
    rw [← this]
    exact l6

set_option maxRecDepth 100000 in
set_option maxHeartbeats 1000000 in
theorem qpress0_1 (w0 : World) (ga n : Nat) (t : Int) (l : List Rsc) (w : World) (hS : Sq w0 w (rBlk ga 69 #[.pointer none] :: l)) :
    Calls Tryd.prog 51 #[.pointer (some ⟨ga, 0, none⟩), .int .i64 n, .agg #[.int .i64 t, .int .i64 1]] w (QrG w0 ga n none (t, 1) l) := by
  have hS1 := hS.add #[.int .i64 t, .int .i64 1] 61
  obtain ⟨q0, q1, _, _⟩ := Blk.two (hS1.nth 0 rfl)
  obtain ⟨z0, zf⟩ := Blk.one (show Blk _ ga 69 #[.pointer none] from hS1.nth 1 rfl)
  have HPH := Lib.hid (phase0_calls n (w.alloc (.cells #[.int .i64 t, .int .i64 1] 61)))
  clear hS
  go_enter Tryd.func51, Tryd.ntmps51
  go_wp2_with fail
  refine HPH.out.mono ?_
  rintro e w1 ⟨rfl, hb1⟩
  have hS2 := hS1.callB hb1
  clear q0 q1 z0 zf
  obtain ⟨q0, q1, _, _⟩ := Blk.two (hS2.nth 0 rfl)
  obtain ⟨z0, zf⟩ := Blk.one (show Blk _ ga 69 #[.pointer none] from hS2.nth 1 rfl)
  clear hS1 hb1 HPH
  have hltg : ga < w1.heap.size := Blk.lt (show Blk _ ga 69 #[.pointer none] from hS2.nth 1 rfl)
  have hS3 := ((hS2.drop 0 rfl rfl).set_ 0 (.pointer (some ⟨w1.heap.size, 0, none⟩))).add #[.int .i64 t, .slice none 0 0, .slice none 0 0] 82
  rw [show (w1.setCell ⟨ga, 0, none⟩ (.pointer (some ⟨w1.heap.size, 0, none⟩))).heap.size = w1.heap.size from by simp [World.setCell]] at hS3
  have hS4 := (hS3.nil w0.heap.size 61 2).nil w0.heap.size 61 2
  have hS5 := (hS4.front 2 rfl rfl).front 3 rfl rfl
  clear hS3 hS4
  go_wp2_with fail
  go_ret
  exact qr_yes (a' := some ⟨t, [], []⟩) (A1 := none) (c1 := 0) (A2 := none) (c2 := 0) rfl rfl hS5

set_option maxRecDepth 100000 in
set_option maxHeartbeats 1000000 in
theorem qpress0_2 (w0 : World) (ga n : Nat) (t : Int) (l : List Rsc) (w : World) (hS : Sq w0 w (rBlk ga 69 #[.pointer none] :: l)) :
    Calls Tryd.prog 51 #[.pointer (some ⟨ga, 0, none⟩), .int .i64 n, .agg #[.int .i64 t, .int .i64 2]] w (QrG w0 ga n none (t, 2) l) := by
  have hS1 := hS.add #[.int .i64 t, .int .i64 2] 61
  obtain ⟨q0, q1, _, _⟩ := Blk.two (hS1.nth 0 rfl)
  obtain ⟨z0, zf⟩ := Blk.one (show Blk _ ga 69 #[.pointer none] from hS1.nth 1 rfl)
  have HPH := Lib.hid (phase0_calls n (w.alloc (.cells #[.int .i64 t, .int .i64 2] 61)))
  clear hS
  go_enter Tryd.func51, Tryd.ntmps51
  go_wp2_with fail
  refine HPH.out.mono ?_
  rintro e w1 ⟨rfl, hb1⟩
  have hS2 := hS1.callB hb1
  clear q0 q1 z0 zf
  obtain ⟨q0, q1, _, _⟩ := Blk.two (hS2.nth 0 rfl)
  obtain ⟨z0, zf⟩ := Blk.one (show Blk _ ga 69 #[.pointer none] from hS2.nth 1 rfl)
  clear hS1 hb1 HPH
  go_wp2_with fail
  go_ret
  exact qr_no (g := 0) (A1 := none) (c1 := 0) (A2 := none) (c2 := 0) rfl (hS2.drop 0 rfl rfl)

set_option maxRecDepth 100000 in
set_option maxHeartbeats 1000000 in
theorem qpress0_3 (w0 : World) (ga n : Nat) (t : Int) (l : List Rsc) (w : World) (hS : Sq w0 w (rBlk ga 69 #[.pointer none] :: l)) :
    Calls Tryd.prog 51 #[.pointer (some ⟨ga, 0, none⟩), .int .i64 n, .agg #[.int .i64 t, .int .i64 3]] w (QrG w0 ga n none (t, 3) l) := by
  have hS1 := hS.add #[.int .i64 t, .int .i64 3] 61
  obtain ⟨q0, q1, _, _⟩ := Blk.two (hS1.nth 0 rfl)
  obtain ⟨z0, zf⟩ := Blk.one (show Blk _ ga 69 #[.pointer none] from hS1.nth 1 rfl)
  have HPH := Lib.hid (phase0_calls n (w.alloc (.cells #[.int .i64 t, .int .i64 3] 61)))
  clear hS
  go_enter Tryd.func51, Tryd.ntmps51
  go_wp2_with fail
  refine HPH.out.mono ?_
  rintro e w1 ⟨rfl, hb1⟩
  have hS2 := hS1.callB hb1
  clear q0 q1 z0 zf
  obtain ⟨q0, q1, _, _⟩ := Blk.two (hS2.nth 0 rfl)
  obtain ⟨z0, zf⟩ := Blk.one (show Blk _ ga 69 #[.pointer none] from hS2.nth 1 rfl)
  clear hS1 hb1 HPH
  go_wp2_with fail
  go_ret
  exact qr_no (g := 0) (A1 := none) (c1 := 0) (A2 := none) (c2 := 0) rfl (hS2.drop 0 rfl rfl)

set_option maxRecDepth 100000 in
set_option maxHeartbeats 1000000 in
theorem qpress0_4 (w0 : World) (ga n : Nat) (t : Int) (l : List Rsc) (w : World) (hS : Sq w0 w (rBlk ga 69 #[.pointer none] :: l)) :
    Calls Tryd.prog 51 #[.pointer (some ⟨ga, 0, none⟩), .int .i64 n, .agg #[.int .i64 t, .int .i64 4]] w (QrG w0 ga n none (t, 4) l) := by
  have hS1 := hS.add #[.int .i64 t, .int .i64 4] 61
  obtain ⟨q0, q1, _, _⟩ := Blk.two (hS1.nth 0 rfl)
  obtain ⟨z0, zf⟩ := Blk.one (show Blk _ ga 69 #[.pointer none] from hS1.nth 1 rfl)
  have HPH := Lib.hid (phase0_calls n (w.alloc (.cells #[.int .i64 t, .int .i64 4] 61)))
  clear hS
  go_enter Tryd.func51, Tryd.ntmps51
  go_wp2_with fail
  refine HPH.out.mono ?_
  rintro e w1 ⟨rfl, hb1⟩
  have hS2 := hS1.callB hb1
  clear q0 q1 z0 zf
  obtain ⟨q0, q1, _, _⟩ := Blk.two (hS2.nth 0 rfl)
  obtain ⟨z0, zf⟩ := Blk.one (show Blk _ ga 69 #[.pointer none] from hS2.nth 1 rfl)
  clear hS1 hb1 HPH
  go_wp2_with fail
  go_ret
  exact qr_no (g := 0) (A1 := none) (c1 := 0) (A2 := none) (c2 := 0) rfl (hS2.drop 0 rfl rfl)

set_option maxRecDepth 100000 in
set_option maxHeartbeats 1000000 in
theorem qpress0_5 (w0 : World) (ga n : Nat) (t : Int) (l : List Rsc) (w : World) (hS : Sq w0 w (rBlk ga 69 #[.pointer none] :: l)) :
    Calls Tryd.prog 51 #[.pointer (some ⟨ga, 0, none⟩), .int .i64 n, .agg #[.int .i64 t, .int .i64 5]] w (QrG w0 ga n none (t, 5) l) := by
  have hS1 := hS.add #[.int .i64 t, .int .i64 5] 61
  obtain ⟨q0, q1, _, _⟩ := Blk.two (hS1.nth 0 rfl)
  obtain ⟨z0, zf⟩ := Blk.one (show Blk _ ga 69 #[.pointer none] from hS1.nth 1 rfl)
  have HPH := Lib.hid (phase0_calls n (w.alloc (.cells #[.int .i64 t, .int .i64 5] 61)))
  clear hS
  go_enter Tryd.func51, Tryd.ntmps51
  go_wp2_with fail
  refine HPH.out.mono ?_
  rintro e w1 ⟨rfl, hb1⟩
  have hS2 := hS1.callB hb1
  clear q0 q1 z0 zf
  obtain ⟨q0, q1, _, _⟩ := Blk.two (hS2.nth 0 rfl)
  obtain ⟨z0, zf⟩ := Blk.one (show Blk _ ga 69 #[.pointer none] from hS2.nth 1 rfl)
  clear hS1 hb1 HPH
  obtain ⟨wm2, wm3, r5, r6, hbm, l5, l6⟩ := map56 w1
  have hmm := @run_makeMap Tryd.prog
  have hS3 := (hS2.callB hbm).drop 0 rfl rfl
  have q2 := below_cell hbm q1
  clear hS2 hbm
  go_wp2_with fail
  go_ret
  exact qr_no (g := 0) (A1 := none) (c1 := 0) (A2 := none) (c2 := 0) rfl hS3

set_option maxRecDepth 100000 in
set_option maxHeartbeats 1000000 in
theorem qpress0_6 (w0 : World) (ga n : Nat) (t : Int) (l : List Rsc) (w : World) (hS : Sq w0 w (rBlk ga 69 #[.pointer none] :: l)) :
    Calls Tryd.prog 51 #[.pointer (some ⟨ga, 0, none⟩), .int .i64 n, .agg #[.int .i64 t, .int .i64 6]] w (QrG w0 ga n none (t, 6) l) := by
  have hS1 := hS.add #[.int .i64 t, .int .i64 6] 61
  obtain ⟨q0, q1, _, _⟩ := Blk.two (hS1.nth 0 rfl)
  obtain ⟨z0, zf⟩ := Blk.one (show Blk _ ga 69 #[.pointer none] from hS1.nth 1 rfl)
  have HPH := Lib.hid (phase0_calls n (w.alloc (.cells #[.int .i64 t, .int .i64 6] 61)))
  clear hS
  go_enter Tryd.func51, Tryd.ntmps51
  go_wp2_with fail
  refine HPH.out.mono ?_
  rintro e w1 ⟨rfl, hb1⟩
  have hS2 := hS1.callB hb1
  clear q0 q1 z0 zf
  obtain ⟨q0, q1, _, _⟩ := Blk.two (hS2.nth 0 rfl)
  obtain ⟨z0, zf⟩ := Blk.one (show Blk _ ga 69 #[.pointer none] from hS2.nth 1 rfl)
  clear hS1 hb1 HPH
  obtain ⟨wm2, wm3, r5, r6, hbm, l5, l6⟩ := map56 w1
  have hmm := @run_makeMap Tryd.prog
  have hS3 := (hS2.callB hbm).drop 0 rfl rfl
  have q2 := below_cell hbm q1
  clear hS2 hbm
  go_wp2_with fail
  go_ret
  exact qr_no (g := 0) (A1 := none) (c1 := 0) (A2 := none) (c2 := 0) rfl hS3

set_option maxRecDepth 100000 in
set_option maxHeartbeats 1000000 in
theorem qpress0_7 (w0 : World) (ga n : Nat) (t : Int) (l : List Rsc) (w : World) (hS : Sq w0 w (rBlk ga 69 #[.pointer none] :: l)) :
    Calls Tryd.prog 51 #[.pointer (some ⟨ga, 0, none⟩), .int .i64 n, .agg #[.int .i64 t, .int .i64 7]] w (QrG w0 ga n none (t, 7) l) := by
  have hS1 := hS.add #[.int .i64 t, .int .i64 7] 61
  obtain ⟨q0, q1, _, _⟩ := Blk.two (hS1.nth 0 rfl)
  obtain ⟨z0, zf⟩ := Blk.one (show Blk _ ga 69 #[.pointer none] from hS1.nth 1 rfl)
  have HPH := Lib.hid (phase0_calls n (w.alloc (.cells #[.int .i64 t, .int .i64 7] 61)))
  clear hS
  go_enter Tryd.func51, Tryd.ntmps51
  go_wp2_with fail
  refine HPH.out.mono ?_
  rintro e w1 ⟨rfl, hb1⟩
  have hS2 := hS1.callB hb1
  clear q0 q1 z0 zf
  obtain ⟨q0, q1, _, _⟩ := Blk.two (hS2.nth 0 rfl)
  obtain ⟨z0, zf⟩ := Blk.one (show Blk _ ga 69 #[.pointer none] from hS2.nth 1 rfl)
  clear hS1 hb1 HPH
  go_wp2_with fail
  go_quiet (fail)
  go_wp2_with fail
  go_ret
  exact qr_no (g := 0) (A1 := none) (c1 := 0) (A2 := none) (c2 := 0) rfl ((hS2.drop 0 rfl rfl).drewN _)

set_option maxRecDepth 100000 in
set_option maxHeartbeats 1000000 in
theorem qpress0_8 (w0 : World) (ga n : Nat) (t : Int) (l : List Rsc) (w : World) (hS : Sq w0 w (rBlk ga 69 #[.pointer none] :: l)) :
    Calls Tryd.prog 51 #[.pointer (some ⟨ga, 0, none⟩), .int .i64 n, .agg #[.int .i64 t, .int .i64 8]] w (QrG w0 ga n none (t, 8) l) := by
  have hS1 := hS.add #[.int .i64 t, .int .i64 8] 61
  obtain ⟨q0, q1, _, _⟩ := Blk.two (hS1.nth 0 rfl)
  obtain ⟨z0, zf⟩ := Blk.one (show Blk _ ga 69 #[.pointer none] from hS1.nth 1 rfl)
  have HPH := Lib.hid (phase0_calls n (w.alloc (.cells #[.int .i64 t, .int .i64 8] 61)))
  clear hS
  go_enter Tryd.func51, Tryd.ntmps51
  go_wp2_with fail
  refine HPH.out.mono ?_
  rintro e w1 ⟨rfl, hb1⟩
  have hS2 := hS1.callB hb1
  clear q0 q1 z0 zf
  obtain ⟨q0, q1, _, _⟩ := Blk.two (hS2.nth 0 rfl)
  obtain ⟨z0, zf⟩ := Blk.one (show Blk _ ga 69 #[.pointer none] from hS2.nth 1 rfl)
  clear hS1 hb1 HPH
  go_wp2_with fail
  go_quiet (fail)
  go_wp2_with fail
  go_ret
  exact qr_no (g := 0) (A1 := none) (c1 := 0) (A2 := none) (c2 := 0) rfl ((hS2.drop 0 rfl rfl).drewN _)

set_option maxRecDepth 100000 in
set_option maxHeartbeats 1000000 in
theorem qpress0_9 (w0 : World) (ga n : Nat) (t : Int) (l : List Rsc) (w : World) (hS : Sq w0 w (rBlk ga 69 #[.pointer none] :: l)) :
    Calls Tryd.prog 51 #[.pointer (some ⟨ga, 0, none⟩), .int .i64 n, .agg #[.int .i64 t, .int .i64 9]] w (QrG w0 ga n none (t, 9) l) := by
  have hS1 := hS.add #[.int .i64 t, .int .i64 9] 61
  obtain ⟨q0, q1, _, _⟩ := Blk.two (hS1.nth 0 rfl)
  obtain ⟨z0, zf⟩ := Blk.one (show Blk _ ga 69 #[.pointer none] from hS1.nth 1 rfl)
  have HPH := Lib.hid (phase0_calls n (w.alloc (.cells #[.int .i64 t, .int .i64 9] 61)))
  clear hS
  go_enter Tryd.func51, Tryd.ntmps51
  go_wp2_with fail
  refine HPH.out.mono ?_
  rintro e w1 ⟨rfl, hb1⟩
  have hS2 := hS1.callB hb1
  clear q0 q1 z0 zf
  obtain ⟨q0, q1, _, _⟩ := Blk.two (hS2.nth 0 rfl)
  obtain ⟨z0, zf⟩ := Blk.one (show Blk _ ga 69 #[.pointer none] from hS2.nth 1 rfl)
  clear hS1 hb1 HPH
  go_wp2_with fail
  go_ret
  exact qr_no (g := 0) (A1 := none) (c1 := 0) (A2 := none) (c2 := 0) rfl (hS2.drop 0 rfl rfl)
end Go.Proofs.YtedfieopmjpibaaDoor
/-
  The reference's press: an attempt is on; start, split, skip, undo, reset. (Printed by gen_prs10.py.)
-/
namespace Go.Proofs.YtedfieopmjpibaaDoor
open Go Go.RowKit
attribute [local go_sem ↓] Go.wp_at_zero Go.wp_at_succ


set_option maxRecDepth 100000 in
set_option maxHeartbeats 2000000 in
theorem qpress1_1 (w0 : World) (ga g n : Nat) (x : Att) (A1 : Option Addr) (c1 : Nat) (A2 : Option Addr) (c2 : Nat) (t : Int) (l : List Rsc) (w : World)
    (hS : Sq w0 w (rBlk ga 69 #[.pointer (some ⟨g, 0, none⟩)] :: rBlk g 82 (attC x A1 c1 A2 c2) :: rOwn w0.heap.size 61 2 (.slice A1 x.ended.length c1) x.ended.length (x.ended.flatMap pzC) :: rOwn w0.heap.size 61 2 (.slice A2 x.breaks.length c2) x.breaks.length (x.breaks.flatMap pzC) :: l)) (_he : x.ended.length ≤ 100000) (_hbk : x.breaks.length ≤ 100000) (_hn : n ≤ 100000) :
    Calls Tryd.prog 51 #[.pointer (some ⟨ga, 0, none⟩), .int .i64 n, .agg #[.int .i64 t, .int .i64 1]] w (QrG w0 ga n (some x) (t, 1) l) := by
  have hS1 := hS.add #[.int .i64 t, .int .i64 1] 61
  have hltg : g < w.heap.size := Blk.lt (show Blk w g 82 (attC x A1 c1 A2 c2) from hS.nth 1 rfl)
  have hlta : ga < w.heap.size := Blk.lt (hS.nth 0 rfl)
  obtain ⟨q0, q1, _, _⟩ := Blk.two (hS1.nth 0 rfl)
  obtain ⟨z0, zf⟩ := Blk.one (show Blk _ ga 69 #[.pointer (some ⟨g, 0, none⟩)] from hS1.nth 1 rfl)
  have hE1 : (w.alloc (.cells #[.int .i64 t, .int .i64 1] 61)).ownsRow w0.heap.size 61 2 (.slice A1 x.ended.length c1) x.ended.length (x.ended.flatMap pzC) := hS1.nth 3 rfl
  have hE2 : (w.alloc (.cells #[.int .i64 t, .int .i64 1] 61)).ownsRow w0.heap.size 61 2 (.slice A2 x.breaks.length c2) x.breaks.length (x.breaks.flatMap pzC) := hS1.nth 4 rfl
  have HAT : Hid (∀ W, Below (w.alloc (.cells #[.int .i64 t, .int .i64 1] 61)).heap.size (w.alloc (.cells #[.int .i64 t, .int .i64 1] 61)) W → AttAt W (w.alloc (.cells #[.int .i64 t, .int .i64 1] 61)).heap.size g x A1 c1 A2 c2) := fun W hW =>
    AttAt.below ⟨hS1.nth 2 rfl, Rd.of_own hE1 (fun k hk => by have := (hE1.lt k hk).2; omega), Rd.of_own hE2 (fun k hk => by have := (hE2.lt k hk).2; omega)⟩ hW
  have HPH := Lib.hid (phase1_calls _ g n x A1 c1 A2 c2 _ (HAT.out _ (Below.refl _ _)))
  obtain ⟨ph, hph⟩ : ∃ ph, phaseQ n (some x) = ph := ⟨_, rfl⟩
  have hp3 : ph = 1 ∨ ph = 2 ∨ ph = 3 := by rcases phase_cases n x with ⟨h, _⟩ | ⟨h, _⟩ | ⟨h, _⟩ <;> omega
  rw [hph] at HPH
  have HP := Lib.hid hph
  have hc1 := own_cap hE1
  have hc2 := own_cap hE2
  clear hS hph hE1 hE2
  go_enter Tryd.func51, Tryd.ntmps51
  go_wp2_with fail
  refine HPH.out.mono ?_
  rintro e w1 ⟨rfl, hb1⟩
  have hS2 := hS1.callB hb1
  have hz1 : w.heap.size + 1 ≤ w1.heap.size := by have := hb1.size; simpa using this
  clear q0 q1 z0 zf
  obtain ⟨q0, q1, _, _⟩ := Blk.two (hS2.nth 0 rfl)
  obtain ⟨z0, zf⟩ := Blk.one (show Blk _ ga 69 #[.pointer (some ⟨g, 0, none⟩)] from hS2.nth 1 rfl)
  have kG : Blk w1 g 82 (attC x A1 c1 A2 c2) := hS2.nth 2 rfl
  obtain ⟨g0, g1, g2, _, j1, j2⟩ := kG.three
  clear hS1 HPH kG
  have e0 : (ph != 0) = true := by simp; omega
  go_wp2_with fail
  go_ret
  exact qr_no (by unfold refQ; rw [HP.out]; simp; omega) (hS2.drop 0 rfl rfl)

set_option maxRecDepth 100000 in
set_option maxHeartbeats 2000000 in
theorem qpress1_2 (w0 : World) (ga g n : Nat) (x : Att) (A1 : Option Addr) (c1 : Nat) (A2 : Option Addr) (c2 : Nat) (t : Int) (l : List Rsc) (w : World)
    (hS : Sq w0 w (rBlk ga 69 #[.pointer (some ⟨g, 0, none⟩)] :: rBlk g 82 (attC x A1 c1 A2 c2) :: rOwn w0.heap.size 61 2 (.slice A1 x.ended.length c1) x.ended.length (x.ended.flatMap pzC) :: rOwn w0.heap.size 61 2 (.slice A2 x.breaks.length c2) x.breaks.length (x.breaks.flatMap pzC) :: l)) (_he : x.ended.length ≤ 100000) (_hbk : x.breaks.length ≤ 100000) (_hn : n ≤ 100000) :
    Calls Tryd.prog 51 #[.pointer (some ⟨ga, 0, none⟩), .int .i64 n, .agg #[.int .i64 t, .int .i64 2]] w (QrG w0 ga n (some x) (t, 2) l) := by
  have hS1 := hS.add #[.int .i64 t, .int .i64 2] 61
  have hltg : g < w.heap.size := Blk.lt (show Blk w g 82 (attC x A1 c1 A2 c2) from hS.nth 1 rfl)
  have hlta : ga < w.heap.size := Blk.lt (hS.nth 0 rfl)
  obtain ⟨q0, q1, _, _⟩ := Blk.two (hS1.nth 0 rfl)
  obtain ⟨z0, zf⟩ := Blk.one (show Blk _ ga 69 #[.pointer (some ⟨g, 0, none⟩)] from hS1.nth 1 rfl)
  have hE1 : (w.alloc (.cells #[.int .i64 t, .int .i64 2] 61)).ownsRow w0.heap.size 61 2 (.slice A1 x.ended.length c1) x.ended.length (x.ended.flatMap pzC) := hS1.nth 3 rfl
  have hE2 : (w.alloc (.cells #[.int .i64 t, .int .i64 2] 61)).ownsRow w0.heap.size 61 2 (.slice A2 x.breaks.length c2) x.breaks.length (x.breaks.flatMap pzC) := hS1.nth 4 rfl
  have HAT : Hid (∀ W, Below (w.alloc (.cells #[.int .i64 t, .int .i64 2] 61)).heap.size (w.alloc (.cells #[.int .i64 t, .int .i64 2] 61)) W → AttAt W (w.alloc (.cells #[.int .i64 t, .int .i64 2] 61)).heap.size g x A1 c1 A2 c2) := fun W hW =>
    AttAt.below ⟨hS1.nth 2 rfl, Rd.of_own hE1 (fun k hk => by have := (hE1.lt k hk).2; omega), Rd.of_own hE2 (fun k hk => by have := (hE2.lt k hk).2; omega)⟩ hW
  have HPH := Lib.hid (phase1_calls _ g n x A1 c1 A2 c2 _ (HAT.out _ (Below.refl _ _)))
  obtain ⟨ph, hph⟩ : ∃ ph, phaseQ n (some x) = ph := ⟨_, rfl⟩
  have hp3 : ph = 1 ∨ ph = 2 ∨ ph = 3 := by rcases phase_cases n x with ⟨h, _⟩ | ⟨h, _⟩ | ⟨h, _⟩ <;> omega
  rw [hph] at HPH
  have HP := Lib.hid hph
  have hc1 := own_cap hE1
  have hc2 := own_cap hE2
  clear hS hph hE1 hE2
  go_enter Tryd.func51, Tryd.ntmps51
  go_wp2_with fail
  refine HPH.out.mono ?_
  rintro e w1 ⟨rfl, hb1⟩
  have hS2 := hS1.callB hb1
  have hz1 : w.heap.size + 1 ≤ w1.heap.size := by have := hb1.size; simpa using this
  clear q0 q1 z0 zf
  obtain ⟨q0, q1, _, _⟩ := Blk.two (hS2.nth 0 rfl)
  obtain ⟨z0, zf⟩ := Blk.one (show Blk _ ga 69 #[.pointer (some ⟨g, 0, none⟩)] from hS2.nth 1 rfl)
  have kG : Blk w1 g 82 (attC x A1 c1 A2 c2) := hS2.nth 2 rfl
  obtain ⟨g0, g1, g2, _, j1, j2⟩ := kG.three
  clear hS1 HPH kG
  by_cases h0 : ph = 1
  · subst h0
    obtain ⟨i0, hi, hi0, hi1, hi2⟩ := info_parts info_press
    have hS3 := (hS2.front 3 rfl rfl).drew
    have hw0 := hS2.size
    have hgl1 : g < w1.heap.size := by omega
    have hpl1 : w.heap.size < w1.heap.size := by omega
    have hgn1 : ¬ g = w1.heap.size := by omega
    have hpn1 : ¬ w.heap.size = w1.heap.size := by omega
    obtain ⟨m, hm⟩ : ∃ m, x.ended.length = m := ⟨_, rfl⟩
    have HM := Lib.hid hm
    have hm2 : m ≤ 100000 := by omega
    have h63 : m + 1 ≤ maxLen := by unfold maxLen; omega
    have hby : (m + 1) * 16 ≤ 140737488355328 := by omega
    rw [hm] at hS3 g1
    have HCL : Hid (∀ W L, Sq w0 W (rOwn w0.heap.size 61 2 L (m + 1) (x.ended.flatMap pzC ++ [.int .i64 t, .int .i64 2]) :: rBlk w.heap.size 61 #[.int .i64 t, .int .i64 2] :: rBlk ga 69 #[.pointer (some ⟨g, 0, none⟩)] :: rBlk g 82 (attC x A1 c1 A2 c2) :: rOwn w0.heap.size 61 2 (.slice A2 x.breaks.length c2) x.breaks.length (x.breaks.flatMap pzC) :: l) → W.cell? ⟨g, 1, none⟩ = some (.slice A1 m c1) ∧ W.frozen? ⟨g, 1, none⟩ = false) := fun W L h => ⟨by rw [← HM.out]; exact Blk.cell (h.nth 3 rfl) 1, Blk.frozen (h.nth 3 rfl) 1⟩
    clear hm
    go_upto_region 16 with (fail)
    go_region_law (first
      | (refine step_append_lies _ (by rfl) _ _ _ (by rfl) w0.heap.size 61 i0 (.agg #[.int .i64 0, .int .i64 0]) 2 16 Tryd.underlying27 hi hi0 hi1 hi2 rfl (by omega) (.slice A1 m c1) m (x.ended.flatMap pzC) (by rfl) ((hS3.alloc _).head) ⟨w1.heap.size, 0, none⟩ 1 1 [.int .i64 t, .int .i64 2] (by rfl) (by rfl) (news_new _ _ _ _ rfl) (one2p rfl rfl) (by omega) h63 hby (by simp; omega) _ rfl ?_; intro g9 cap9 w5 hown' hgrow hblk hlt5; have hV := (hS3.alloc _).append hown' hgrow (own_lies hblk); obtain ⟨k9, f9⟩ := HCL.out _ _ hV; clear hown' hgrow hblk))
    all_goals
      have hV2 := (hV.front 3 rfl rfl).set_ 1 (.slice (some ⟨g9, 0, none⟩) (m + 1) cap9)
      have hV3 := ((((hV2.drop 2 rfl rfl).front 3 rfl rfl).front 2 rfl rfl).front 2 rfl rfl).front 3 rfl rfl
      have hln : (x.ended ++ [(t, (2 : Int))]).length = m + 1 := by rw [List.length_append, HM.out]; rfl
      have HLN := Lib.hid hln
      clear hV hV2 hln
      go_wp2_with fail
      go_ret
      refine qr_yes (g := g) (a' := some ⟨x.start, x.ended ++ [(t, 2)], x.breaks⟩) (A1 := some ⟨g9, 0, none⟩) (c1 := cap9) (A2 := A2) (c2 := c2) (by unfold refQ; rw [HP.out]; rfl) rfl ?_
      unfold attL attC
      simp only
      rw [HLN.out, flat_pz]
      exact hV3
  · have e0 : (ph == 1) = false := by simpa using h0
    go_wp2_with fail
    go_ret
    exact qr_no (by unfold refQ; rw [HP.out]; simpa using h0) (hS2.drop 0 rfl rfl)

set_option maxRecDepth 100000 in
set_option maxHeartbeats 2000000 in
theorem qpress1_3 (w0 : World) (ga g n : Nat) (x : Att) (A1 : Option Addr) (c1 : Nat) (A2 : Option Addr) (c2 : Nat) (t : Int) (l : List Rsc) (w : World)
    (hS : Sq w0 w (rBlk ga 69 #[.pointer (some ⟨g, 0, none⟩)] :: rBlk g 82 (attC x A1 c1 A2 c2) :: rOwn w0.heap.size 61 2 (.slice A1 x.ended.length c1) x.ended.length (x.ended.flatMap pzC) :: rOwn w0.heap.size 61 2 (.slice A2 x.breaks.length c2) x.breaks.length (x.breaks.flatMap pzC) :: l)) (_he : x.ended.length ≤ 100000) (_hbk : x.breaks.length ≤ 100000) (_hn : n ≤ 100000) :
    Calls Tryd.prog 51 #[.pointer (some ⟨ga, 0, none⟩), .int .i64 n, .agg #[.int .i64 t, .int .i64 3]] w (QrG w0 ga n (some x) (t, 3) l) := by
  have hS1 := hS.add #[.int .i64 t, .int .i64 3] 61
  have hltg : g < w.heap.size := Blk.lt (show Blk w g 82 (attC x A1 c1 A2 c2) from hS.nth 1 rfl)
  have hlta : ga < w.heap.size := Blk.lt (hS.nth 0 rfl)
  obtain ⟨q0, q1, _, _⟩ := Blk.two (hS1.nth 0 rfl)
  obtain ⟨z0, zf⟩ := Blk.one (show Blk _ ga 69 #[.pointer (some ⟨g, 0, none⟩)] from hS1.nth 1 rfl)
  have hE1 : (w.alloc (.cells #[.int .i64 t, .int .i64 3] 61)).ownsRow w0.heap.size 61 2 (.slice A1 x.ended.length c1) x.ended.length (x.ended.flatMap pzC) := hS1.nth 3 rfl
  have hE2 : (w.alloc (.cells #[.int .i64 t, .int .i64 3] 61)).ownsRow w0.heap.size 61 2 (.slice A2 x.breaks.length c2) x.breaks.length (x.breaks.flatMap pzC) := hS1.nth 4 rfl
  have HAT : Hid (∀ W, Below (w.alloc (.cells #[.int .i64 t, .int .i64 3] 61)).heap.size (w.alloc (.cells #[.int .i64 t, .int .i64 3] 61)) W → AttAt W (w.alloc (.cells #[.int .i64 t, .int .i64 3] 61)).heap.size g x A1 c1 A2 c2) := fun W hW =>
    AttAt.below ⟨hS1.nth 2 rfl, Rd.of_own hE1 (fun k hk => by have := (hE1.lt k hk).2; omega), Rd.of_own hE2 (fun k hk => by have := (hE2.lt k hk).2; omega)⟩ hW
  have HPH := Lib.hid (phase1_calls _ g n x A1 c1 A2 c2 _ (HAT.out _ (Below.refl _ _)))
  obtain ⟨ph, hph⟩ : ∃ ph, phaseQ n (some x) = ph := ⟨_, rfl⟩
  have hp3 : ph = 1 ∨ ph = 2 ∨ ph = 3 := by rcases phase_cases n x with ⟨h, _⟩ | ⟨h, _⟩ | ⟨h, _⟩ <;> omega
  rw [hph] at HPH
  have HP := Lib.hid hph
  have hc1 := own_cap hE1
  have hc2 := own_cap hE2
  clear hS hph hE1 hE2
  go_enter Tryd.func51, Tryd.ntmps51
  go_wp2_with fail
  refine HPH.out.mono ?_
  rintro e w1 ⟨rfl, hb1⟩
  have hS2 := hS1.callB hb1
  have hz1 : w.heap.size + 1 ≤ w1.heap.size := by have := hb1.size; simpa using this
  clear q0 q1 z0 zf
  obtain ⟨q0, q1, _, _⟩ := Blk.two (hS2.nth 0 rfl)
  obtain ⟨z0, zf⟩ := Blk.one (show Blk _ ga 69 #[.pointer (some ⟨g, 0, none⟩)] from hS2.nth 1 rfl)
  have kG : Blk w1 g 82 (attC x A1 c1 A2 c2) := hS2.nth 2 rfl
  obtain ⟨g0, g1, g2, _, j1, j2⟩ := kG.three
  clear hS1 HPH kG
  by_cases h0 : ph = 1
  · subst h0
    by_cases hmn : x.ended.length + 1 = n
    · have t1 : ((x.ended.length : Int) == (n : Int) - 1) = true := by simp; omega
      have HR : Hid (refQ n (some x) 3 = true) := by
        unfold refQ
        rw [HP.out, if_neg (by decide), if_neg (by decide), if_pos rfl]
        show (_ || decide (x.ended.length + 1 = n)) = true
        rw [decide_eq_true hmn]
        exact Lib.hid rfl
      clear hmn
      go_wp2_with fail
      go_ret
      exact qr_no HR.out (hS2.drop 0 rfl rfl)
    · have t1 : ((x.ended.length : Int) == (n : Int) - 1) = false := by simp; omega
      have HR : Hid (refQ n (some x) 3 = false) := by
        unfold refQ
        rw [HP.out, if_neg (by decide), if_neg (by decide), if_pos rfl]
        show (_ || decide (x.ended.length + 1 = n)) = false
        rw [decide_eq_false hmn]
        exact Lib.hid rfl
      clear hmn
      obtain ⟨i0, hi, hi0, hi1, hi2⟩ := info_parts info_press
      have hS3 := (hS2.front 3 rfl rfl).drew
      have hw0 := hS2.size
      have hgl1 : g < w1.heap.size := by omega
      have hpl1 : w.heap.size < w1.heap.size := by omega
      have hgn1 : ¬ g = w1.heap.size := by omega
      have hpn1 : ¬ w.heap.size = w1.heap.size := by omega
      obtain ⟨m, hm⟩ : ∃ m, x.ended.length = m := ⟨_, rfl⟩
      have HM := Lib.hid hm
      have hm2 : m ≤ 100000 := by omega
      have h63 : m + 1 ≤ maxLen := by unfold maxLen; omega
      have hby : (m + 1) * 16 ≤ 140737488355328 := by omega
      rw [hm] at hS3 g1 t1
      have HCL : Hid (∀ W L, Sq w0 W (rOwn w0.heap.size 61 2 L (m + 1) (x.ended.flatMap pzC ++ [.int .i64 t, .int .i64 3]) :: rBlk w.heap.size 61 #[.int .i64 t, .int .i64 3] :: rBlk ga 69 #[.pointer (some ⟨g, 0, none⟩)] :: rBlk g 82 (attC x A1 c1 A2 c2) :: rOwn w0.heap.size 61 2 (.slice A2 x.breaks.length c2) x.breaks.length (x.breaks.flatMap pzC) :: l) → W.cell? ⟨g, 1, none⟩ = some (.slice A1 m c1) ∧ W.frozen? ⟨g, 1, none⟩ = false) := fun W L h => ⟨by rw [← HM.out]; exact Blk.cell (h.nth 3 rfl) 1, Blk.frozen (h.nth 3 rfl) 1⟩
      clear hm
      go_upto_region 16 with (fail)
      go_region_law (first
        | (refine step_append_lies _ (by rfl) _ _ _ (by rfl) w0.heap.size 61 i0 (.agg #[.int .i64 0, .int .i64 0]) 2 16 Tryd.underlying27 hi hi0 hi1 hi2 rfl (by omega) (.slice A1 m c1) m (x.ended.flatMap pzC) (by rfl) ((hS3.alloc _).head) ⟨w1.heap.size, 0, none⟩ 1 1 [.int .i64 t, .int .i64 3] (by rfl) (by rfl) (news_new _ _ _ _ rfl) (one2p rfl rfl) (by omega) h63 hby (by simp; omega) _ rfl ?_; intro g9 cap9 w5 hown' hgrow hblk hlt5; have hV := (hS3.alloc _).append hown' hgrow (own_lies hblk); obtain ⟨k9, f9⟩ := HCL.out _ _ hV; clear hown' hgrow hblk))
      all_goals
        have hV2 := (hV.front 3 rfl rfl).set_ 1 (.slice (some ⟨g9, 0, none⟩) (m + 1) cap9)
        have hV3 := ((((hV2.drop 2 rfl rfl).front 3 rfl rfl).front 2 rfl rfl).front 2 rfl rfl).front 3 rfl rfl
        have hln : (x.ended ++ [(t, (3 : Int))]).length = m + 1 := by rw [List.length_append, HM.out]; rfl
        have HLN := Lib.hid hln
        clear hV hV2 hln
        go_wp2_with fail
        go_ret
        refine qr_yes (g := g) (a' := some ⟨x.start, x.ended ++ [(t, 3)], x.breaks⟩) (A1 := some ⟨g9, 0, none⟩) (c1 := cap9) (A2 := A2) (c2 := c2) HR.out rfl ?_
        unfold attL attC
        simp only
        rw [HLN.out, flat_pz]
        exact hV3
  · have e0 : (ph == 1) = false := by simpa using h0
    go_wp2_with fail
    go_ret
    exact qr_no (by unfold refQ; rw [HP.out]; simp [h0]) (hS2.drop 0 rfl rfl)

set_option maxRecDepth 100000 in
set_option maxHeartbeats 2000000 in
theorem qpress1_4 (w0 : World) (ga g n : Nat) (x : Att) (A1 : Option Addr) (c1 : Nat) (A2 : Option Addr) (c2 : Nat) (t : Int) (l : List Rsc) (w : World)
    (hS : Sq w0 w (rBlk ga 69 #[.pointer (some ⟨g, 0, none⟩)] :: rBlk g 82 (attC x A1 c1 A2 c2) :: rOwn w0.heap.size 61 2 (.slice A1 x.ended.length c1) x.ended.length (x.ended.flatMap pzC) :: rOwn w0.heap.size 61 2 (.slice A2 x.breaks.length c2) x.breaks.length (x.breaks.flatMap pzC) :: l)) (_he : x.ended.length ≤ 100000) (_hbk : x.breaks.length ≤ 100000) (_hn : n ≤ 100000) :
    Calls Tryd.prog 51 #[.pointer (some ⟨ga, 0, none⟩), .int .i64 n, .agg #[.int .i64 t, .int .i64 4]] w (QrG w0 ga n (some x) (t, 4) l) := by
  have hS1 := hS.add #[.int .i64 t, .int .i64 4] 61
  have hltg : g < w.heap.size := Blk.lt (show Blk w g 82 (attC x A1 c1 A2 c2) from hS.nth 1 rfl)
  have hlta : ga < w.heap.size := Blk.lt (hS.nth 0 rfl)
  obtain ⟨q0, q1, _, _⟩ := Blk.two (hS1.nth 0 rfl)
  obtain ⟨z0, zf⟩ := Blk.one (show Blk _ ga 69 #[.pointer (some ⟨g, 0, none⟩)] from hS1.nth 1 rfl)
  have hE1 : (w.alloc (.cells #[.int .i64 t, .int .i64 4] 61)).ownsRow w0.heap.size 61 2 (.slice A1 x.ended.length c1) x.ended.length (x.ended.flatMap pzC) := hS1.nth 3 rfl
  have hE2 : (w.alloc (.cells #[.int .i64 t, .int .i64 4] 61)).ownsRow w0.heap.size 61 2 (.slice A2 x.breaks.length c2) x.breaks.length (x.breaks.flatMap pzC) := hS1.nth 4 rfl
  have HAT : Hid (∀ W, Below (w.alloc (.cells #[.int .i64 t, .int .i64 4] 61)).heap.size (w.alloc (.cells #[.int .i64 t, .int .i64 4] 61)) W → AttAt W (w.alloc (.cells #[.int .i64 t, .int .i64 4] 61)).heap.size g x A1 c1 A2 c2) := fun W hW =>
    AttAt.below ⟨hS1.nth 2 rfl, Rd.of_own hE1 (fun k hk => by have := (hE1.lt k hk).2; omega), Rd.of_own hE2 (fun k hk => by have := (hE2.lt k hk).2; omega)⟩ hW
  have HPH := Lib.hid (phase1_calls _ g n x A1 c1 A2 c2 _ (HAT.out _ (Below.refl _ _)))
  obtain ⟨ph, hph⟩ : ∃ ph, phaseQ n (some x) = ph := ⟨_, rfl⟩
  have hp3 : ph = 1 ∨ ph = 2 ∨ ph = 3 := by rcases phase_cases n x with ⟨h, _⟩ | ⟨h, _⟩ | ⟨h, _⟩ <;> omega
  rw [hph] at HPH
  have HP := Lib.hid hph
  have hc1 := own_cap hE1
  have hc2 := own_cap hE2
  clear hS hph hE1 hE2
  go_enter Tryd.func51, Tryd.ntmps51
  go_wp2_with fail
  refine HPH.out.mono ?_
  rintro e w1 ⟨rfl, hb1⟩
  have hS2 := hS1.callB hb1
  have hz1 : w.heap.size + 1 ≤ w1.heap.size := by have := hb1.size; simpa using this
  clear q0 q1 z0 zf
  obtain ⟨q0, q1, _, _⟩ := Blk.two (hS2.nth 0 rfl)
  obtain ⟨z0, zf⟩ := Blk.one (show Blk _ ga 69 #[.pointer (some ⟨g, 0, none⟩)] from hS2.nth 1 rfl)
  have kG : Blk w1 g 82 (attC x A1 c1 A2 c2) := hS2.nth 2 rfl
  obtain ⟨g0, g1, g2, _, j1, j2⟩ := kG.three
  clear hS1 HPH kG
  have e0 : (ph == 0) = false := by simp; omega
  rcases Nat.eq_zero_or_pos x.ended.length with hm0 | hm0
  · have HR : Hid (refQ n (some x) 4 = true) := by
      unfold refQ
      rw [if_neg (by decide), if_neg (by decide), if_neg (by decide), if_pos rfl]
      show (_ || decide (x.ended.length = 0)) = true
      rw [decide_eq_true hm0, Bool.or_true]
    have t0 : ((x.ended.length : Int) == 0) = true := by simp [hm0]
    clear hm0
    go_wp2_with fail
    go_ret
    exact qr_no HR.out (hS2.drop 0 rfl rfl)
  · have HR : Hid (refQ n (some x) 4 = false) := by
      unfold refQ
      rw [HP.out, if_neg (by decide), if_neg (by decide), if_neg (by decide), if_pos rfl]
      show (decide (ph = 0) || decide (x.ended.length = 0)) = false
      rw [decide_eq_false (by omega), decide_eq_false (by omega)]
      exact Lib.hid rfl
    obtain ⟨q, hq⟩ : ∃ q, x.ended.length = q + 1 := ⟨x.ended.length - 1, by omega⟩
    have HO : w1.ownsRow w0.heap.size 61 2 (.slice A1 x.ended.length c1) x.ended.length (x.ended.flatMap pzC) := hS2.nth 3 rfl
    obtain ⟨g8, cp, hv, _, _⟩ := HO.form (by omega)
    injection hv with hA1 _ hA2
    subst hA1 hA2
    rw [hq] at g1 hc1
    have hS3 := hS2.front 3 rfl rfl
    rw [hq] at hS3
    have hS4 := (hS3.weak (r' := rOwn w0.heap.size 61 2 (.slice (some ⟨g8, 0, none⟩) q c1) q ((x.ended.take q).flatMap pzC)) (fun h => by rw [flat_take pzC 2 pzC_len]; exact own_short h (by omega) (by simp)) (rOwn_ok _ _ _ _ _ _) (fun _ hk => hk))
    have hS5 := (hS4.front 3 rfl rfl).set_ 1 (.slice (some ⟨g8, 0, none⟩) q c1)
    have hS6 := ((((hS5.drop 2 rfl rfl).front 3 rfl rfl).front 2 rfl rfl).front 2 rfl rfl).front 3 rfl rfl
    have HL : Hid ((x.ended.take q).length = q) := by show _ = _; rw [List.length_take, hq]; omega
    have t0 : (((q : Int) + 1) == 0) = false := by simp; omega
    have hq9 : q ≤ 100000 := by omega
    have HQ := Lib.hid hq
    clear hS4 HO hS3 hS5 hq hm0
    go_upto_region 20 with (fail)
    go_region
    go_wp2_with fail
    go_ret
    refine qr_yes (g := g) (a' := some ⟨x.start, x.ended.take q, x.breaks⟩) (A1 := some ⟨g8, 0, none⟩) (c1 := c1) (A2 := A2) (c2 := c2) HR.out (by unfold doneQ; rw [if_neg (by simp), if_neg (by simp), if_pos rfl, Option.map_some, HQ.out]; rfl) ?_
    unfold attL attC
    simp only
    rw [HL.out]
    exact hS6.drew

set_option maxRecDepth 100000 in
set_option maxHeartbeats 2000000 in
theorem qpress1_9 (w0 : World) (ga g n : Nat) (x : Att) (A1 : Option Addr) (c1 : Nat) (A2 : Option Addr) (c2 : Nat) (t : Int) (l : List Rsc) (w : World)
    (hS : Sq w0 w (rBlk ga 69 #[.pointer (some ⟨g, 0, none⟩)] :: rBlk g 82 (attC x A1 c1 A2 c2) :: rOwn w0.heap.size 61 2 (.slice A1 x.ended.length c1) x.ended.length (x.ended.flatMap pzC) :: rOwn w0.heap.size 61 2 (.slice A2 x.breaks.length c2) x.breaks.length (x.breaks.flatMap pzC) :: l)) (_he : x.ended.length ≤ 100000) (_hbk : x.breaks.length ≤ 100000) (_hn : n ≤ 100000) :
    Calls Tryd.prog 51 #[.pointer (some ⟨ga, 0, none⟩), .int .i64 n, .agg #[.int .i64 t, .int .i64 9]] w (QrG w0 ga n (some x) (t, 9) l) := by
  have hS1 := hS.add #[.int .i64 t, .int .i64 9] 61
  have hltg : g < w.heap.size := Blk.lt (show Blk w g 82 (attC x A1 c1 A2 c2) from hS.nth 1 rfl)
  have hlta : ga < w.heap.size := Blk.lt (hS.nth 0 rfl)
  obtain ⟨q0, q1, _, _⟩ := Blk.two (hS1.nth 0 rfl)
  obtain ⟨z0, zf⟩ := Blk.one (show Blk _ ga 69 #[.pointer (some ⟨g, 0, none⟩)] from hS1.nth 1 rfl)
  have hE1 : (w.alloc (.cells #[.int .i64 t, .int .i64 9] 61)).ownsRow w0.heap.size 61 2 (.slice A1 x.ended.length c1) x.ended.length (x.ended.flatMap pzC) := hS1.nth 3 rfl
  have hE2 : (w.alloc (.cells #[.int .i64 t, .int .i64 9] 61)).ownsRow w0.heap.size 61 2 (.slice A2 x.breaks.length c2) x.breaks.length (x.breaks.flatMap pzC) := hS1.nth 4 rfl
  have HAT : Hid (∀ W, Below (w.alloc (.cells #[.int .i64 t, .int .i64 9] 61)).heap.size (w.alloc (.cells #[.int .i64 t, .int .i64 9] 61)) W → AttAt W (w.alloc (.cells #[.int .i64 t, .int .i64 9] 61)).heap.size g x A1 c1 A2 c2) := fun W hW =>
    AttAt.below ⟨hS1.nth 2 rfl, Rd.of_own hE1 (fun k hk => by have := (hE1.lt k hk).2; omega), Rd.of_own hE2 (fun k hk => by have := (hE2.lt k hk).2; omega)⟩ hW
  have HPH := Lib.hid (phase1_calls _ g n x A1 c1 A2 c2 _ (HAT.out _ (Below.refl _ _)))
  obtain ⟨ph, hph⟩ : ∃ ph, phaseQ n (some x) = ph := ⟨_, rfl⟩
  have hp3 : ph = 1 ∨ ph = 2 ∨ ph = 3 := by rcases phase_cases n x with ⟨h, _⟩ | ⟨h, _⟩ | ⟨h, _⟩ <;> omega
  rw [hph] at HPH
  have HP := Lib.hid hph
  have hc1 := own_cap hE1
  have hc2 := own_cap hE2
  clear hS hph hE1 hE2
  go_enter Tryd.func51, Tryd.ntmps51
  go_wp2_with fail
  refine HPH.out.mono ?_
  rintro e w1 ⟨rfl, hb1⟩
  have hS2 := hS1.callB hb1
  have hz1 : w.heap.size + 1 ≤ w1.heap.size := by have := hb1.size; simpa using this
  clear q0 q1 z0 zf
  obtain ⟨q0, q1, _, _⟩ := Blk.two (hS2.nth 0 rfl)
  obtain ⟨z0, zf⟩ := Blk.one (show Blk _ ga 69 #[.pointer (some ⟨g, 0, none⟩)] from hS2.nth 1 rfl)
  have kG : Blk w1 g 82 (attC x A1 c1 A2 c2) := hS2.nth 2 rfl
  obtain ⟨g0, g1, g2, _, j1, j2⟩ := kG.three
  clear hS1 HPH kG
  have e0 : (ph == 0) = false := by simp; omega
  have hS3 := (((hS2.drop 0 rfl rfl).set_ 0 (.pointer none)).drop 1 rfl rfl).drop 1 rfl rfl |>.drop 1 rfl rfl
  go_wp2_with fail
  go_ret
  exact qr_yes (a' := none) (g := 0) (A1 := none) (c1 := 0) (A2 := none) (c2 := 0) (by unfold refQ; rw [HP.out]; simp; omega) rfl hS3
end Go.Proofs.YtedfieopmjpibaaDoor
/-
  The reference's press: an attempt is on; pause, resume. (Printed by gen_prs10.py.)
-/
namespace Go.Proofs.YtedfieopmjpibaaDoor
open Go Go.RowKit
attribute [local go_sem ↓] Go.wp_at_zero Go.wp_at_succ


set_option maxRecDepth 100000 in
set_option maxHeartbeats 2000000 in
theorem qpress1_5 (w0 : World) (ga g n : Nat) (x : Att) (A1 : Option Addr) (c1 : Nat) (A2 : Option Addr) (c2 : Nat) (t : Int) (l : List Rsc) (w : World)
    (hS : Sq w0 w (rBlk ga 69 #[.pointer (some ⟨g, 0, none⟩)] :: rBlk g 82 (attC x A1 c1 A2 c2) :: rOwn w0.heap.size 61 2 (.slice A1 x.ended.length c1) x.ended.length (x.ended.flatMap pzC) :: rOwn w0.heap.size 61 2 (.slice A2 x.breaks.length c2) x.breaks.length (x.breaks.flatMap pzC) :: l)) (_he : x.ended.length ≤ 100000) (_hbk : x.breaks.length ≤ 100000) (_hn : n ≤ 100000) :
    Calls Tryd.prog 51 #[.pointer (some ⟨ga, 0, none⟩), .int .i64 n, .agg #[.int .i64 t, .int .i64 5]] w (QrG w0 ga n (some x) (t, 5) l) := by
  have hS1 := hS.add #[.int .i64 t, .int .i64 5] 61
  have hltg : g < w.heap.size := Blk.lt (show Blk w g 82 (attC x A1 c1 A2 c2) from hS.nth 1 rfl)
  have hlta : ga < w.heap.size := Blk.lt (hS.nth 0 rfl)
  obtain ⟨q0, q1, _, _⟩ := Blk.two (hS1.nth 0 rfl)
  obtain ⟨z0, zf⟩ := Blk.one (show Blk _ ga 69 #[.pointer (some ⟨g, 0, none⟩)] from hS1.nth 1 rfl)
  have hE1 : (w.alloc (.cells #[.int .i64 t, .int .i64 5] 61)).ownsRow w0.heap.size 61 2 (.slice A1 x.ended.length c1) x.ended.length (x.ended.flatMap pzC) := hS1.nth 3 rfl
  have hE2 : (w.alloc (.cells #[.int .i64 t, .int .i64 5] 61)).ownsRow w0.heap.size 61 2 (.slice A2 x.breaks.length c2) x.breaks.length (x.breaks.flatMap pzC) := hS1.nth 4 rfl
  have HAT : Hid (∀ W, Below (w.alloc (.cells #[.int .i64 t, .int .i64 5] 61)).heap.size (w.alloc (.cells #[.int .i64 t, .int .i64 5] 61)) W → AttAt W (w.alloc (.cells #[.int .i64 t, .int .i64 5] 61)).heap.size g x A1 c1 A2 c2) := fun W hW =>
    AttAt.below ⟨hS1.nth 2 rfl, Rd.of_own hE1 (fun k hk => by have := (hE1.lt k hk).2; omega), Rd.of_own hE2 (fun k hk => by have := (hE2.lt k hk).2; omega)⟩ hW
  have HPH := Lib.hid (phase1_calls _ g n x A1 c1 A2 c2 _ (HAT.out _ (Below.refl _ _)))
  obtain ⟨ph, hph⟩ : ∃ ph, phaseQ n (some x) = ph := ⟨_, rfl⟩
  have hp3 : ph = 1 ∨ ph = 2 ∨ ph = 3 := by rcases phase_cases n x with ⟨h, _⟩ | ⟨h, _⟩ | ⟨h, _⟩ <;> omega
  rw [hph] at HPH
  have HP := Lib.hid hph
  have hc1 := own_cap hE1
  have hc2 := own_cap hE2
  clear hS hph hE1 hE2
  go_enter Tryd.func51, Tryd.ntmps51
  go_wp2_with fail
  refine HPH.out.mono ?_
  rintro e w1 ⟨rfl, hb1⟩
  have hS2 := hS1.callB hb1
  have hz1 : w.heap.size + 1 ≤ w1.heap.size := by have := hb1.size; simpa using this
  clear q0 q1 z0 zf
  obtain ⟨q0, q1, _, _⟩ := Blk.two (hS2.nth 0 rfl)
  obtain ⟨z0, zf⟩ := Blk.one (show Blk _ ga 69 #[.pointer (some ⟨g, 0, none⟩)] from hS2.nth 1 rfl)
  have kG : Blk w1 g 82 (attC x A1 c1 A2 c2) := hS2.nth 2 rfl
  obtain ⟨g0, g1, g2, _, j1, j2⟩ := kG.three
  clear hS1 HPH kG
  obtain ⟨wm2, wm3, r5, r6, hbm, l5, l6⟩ := map56 w1
  have hmm := @run_makeMap Tryd.prog
  have hS2' := hS2.callB hbm
  have hzm := hbm.size
  clear hS2
  have hS2 := hS2'
  have q2 := below_cell hbm q0
  have q3 := below_cell hbm q1
  have gg0 := below_cell hbm g0
  have gg1 := below_cell hbm g1
  have gg2 := below_cell hbm g2
  have jj2 : wm3.frozen? ⟨g, 2, none⟩ = false := Blk.frozen (show Blk wm3 g 82 (attC x A1 c1 A2 c2) from hS2.nth 2 rfl) 2
  clear g0 g1 g2 hS2' j1 j2
  by_cases h0 : ph = 1
  · subst h0
    obtain ⟨i0, hi, hi0, hi1, hi2⟩ := info_parts info_press
    have hS3 := (hS2.front 4 rfl rfl).drew
    have hw0 := hS2.size
    have hgl1 : g < wm3.heap.size := by omega
    have hpl1 : w.heap.size < wm3.heap.size := by omega
    have hgn1 : ¬ g = wm3.heap.size := by omega
    have hpn1 : ¬ w.heap.size = wm3.heap.size := by omega
    obtain ⟨m, hm⟩ : ∃ m, x.breaks.length = m := ⟨_, rfl⟩
    have HM := Lib.hid hm
    have hm2 : m ≤ 100000 := by omega
    have h63 : m + 1 ≤ maxLen := by unfold maxLen; omega
    have hby : (m + 1) * 16 ≤ 140737488355328 := by omega
    rw [hm] at hS3 gg2
    have HCL : Hid (∀ W L, Sq w0 W (rOwn w0.heap.size 61 2 L (m + 1) (x.breaks.flatMap pzC ++ [.int .i64 t, .int .i64 5]) :: rBlk w.heap.size 61 #[.int .i64 t, .int .i64 5] :: rBlk ga 69 #[.pointer (some ⟨g, 0, none⟩)] :: rBlk g 82 (attC x A1 c1 A2 c2) :: rOwn w0.heap.size 61 2 (.slice A1 x.ended.length c1) x.ended.length (x.ended.flatMap pzC) :: l) → W.cell? ⟨g, 2, none⟩ = some (.slice A2 m c2) ∧ W.frozen? ⟨g, 2, none⟩ = false) := fun W L h => ⟨by rw [← HM.out]; exact Blk.cell (h.nth 3 rfl) 2, Blk.frozen (h.nth 3 rfl) 2⟩
    clear hm
    go_upto_region 25 with (fail)
    go_region_law (first
      | (refine step_append_lies _ (by rfl) _ _ _ (by rfl) w0.heap.size 61 i0 (.agg #[.int .i64 0, .int .i64 0]) 2 16 Tryd.underlying27 hi hi0 hi1 hi2 rfl (by omega) (.slice A2 m c2) m (x.breaks.flatMap pzC) (by rfl) ((hS3.alloc _).head) ⟨wm3.heap.size, 0, none⟩ 1 1 [.int .i64 t, .int .i64 5] (by rfl) (by rfl) (news_new _ _ _ _ rfl) (one2p rfl rfl) (by omega) h63 hby (by simp; omega) _ rfl ?_; intro g9 cap9 w5 hown' hgrow hblk hlt5; have hV := (hS3.alloc _).append hown' hgrow (own_lies hblk); obtain ⟨k9, f9⟩ := HCL.out _ _ hV; clear hown' hgrow hblk))
    all_goals
      have hV2 := (hV.front 3 rfl rfl).set_ 2 (.slice (some ⟨g9, 0, none⟩) (m + 1) cap9)
      have hV3 := ((((hV2.drop 2 rfl rfl).front 1 rfl rfl).front 3 rfl rfl).front 2 rfl rfl).front 3 rfl rfl
      have hln : (x.breaks ++ [(t, (5 : Int))]).length = m + 1 := by rw [List.length_append, HM.out]; rfl
      have HLN := Lib.hid hln
      clear hV hV2 hln
      go_wp2_with fail
      go_ret
      refine qr_yes (g := g) (a' := some ⟨x.start, x.ended, x.breaks ++ [(t, 5)]⟩) (A1 := A1) (c1 := c1) (A2 := some ⟨g9, 0, none⟩) (c2 := cap9) (by unfold refQ; rw [HP.out]; rfl) rfl ?_
      unfold attL attC
      simp only
      rw [HLN.out, flat_pz]
      exact hV3
  · have e0 : (ph != 1) = true := by simpa using h0
    go_wp2_with fail
    go_ret
    exact qr_no (by unfold refQ; rw [HP.out]; simpa using h0) (hS2.drop 0 rfl rfl)

set_option maxRecDepth 100000 in
set_option maxHeartbeats 2000000 in
theorem qpress1_6 (w0 : World) (ga g n : Nat) (x : Att) (A1 : Option Addr) (c1 : Nat) (A2 : Option Addr) (c2 : Nat) (t : Int) (l : List Rsc) (w : World)
    (hS : Sq w0 w (rBlk ga 69 #[.pointer (some ⟨g, 0, none⟩)] :: rBlk g 82 (attC x A1 c1 A2 c2) :: rOwn w0.heap.size 61 2 (.slice A1 x.ended.length c1) x.ended.length (x.ended.flatMap pzC) :: rOwn w0.heap.size 61 2 (.slice A2 x.breaks.length c2) x.breaks.length (x.breaks.flatMap pzC) :: l)) (_he : x.ended.length ≤ 100000) (_hbk : x.breaks.length ≤ 100000) (_hn : n ≤ 100000) :
    Calls Tryd.prog 51 #[.pointer (some ⟨ga, 0, none⟩), .int .i64 n, .agg #[.int .i64 t, .int .i64 6]] w (QrG w0 ga n (some x) (t, 6) l) := by
  have hS1 := hS.add #[.int .i64 t, .int .i64 6] 61
  have hltg : g < w.heap.size := Blk.lt (show Blk w g 82 (attC x A1 c1 A2 c2) from hS.nth 1 rfl)
  have hlta : ga < w.heap.size := Blk.lt (hS.nth 0 rfl)
  obtain ⟨q0, q1, _, _⟩ := Blk.two (hS1.nth 0 rfl)
  obtain ⟨z0, zf⟩ := Blk.one (show Blk _ ga 69 #[.pointer (some ⟨g, 0, none⟩)] from hS1.nth 1 rfl)
  have hE1 : (w.alloc (.cells #[.int .i64 t, .int .i64 6] 61)).ownsRow w0.heap.size 61 2 (.slice A1 x.ended.length c1) x.ended.length (x.ended.flatMap pzC) := hS1.nth 3 rfl
  have hE2 : (w.alloc (.cells #[.int .i64 t, .int .i64 6] 61)).ownsRow w0.heap.size 61 2 (.slice A2 x.breaks.length c2) x.breaks.length (x.breaks.flatMap pzC) := hS1.nth 4 rfl
  have HAT : Hid (∀ W, Below (w.alloc (.cells #[.int .i64 t, .int .i64 6] 61)).heap.size (w.alloc (.cells #[.int .i64 t, .int .i64 6] 61)) W → AttAt W (w.alloc (.cells #[.int .i64 t, .int .i64 6] 61)).heap.size g x A1 c1 A2 c2) := fun W hW =>
    AttAt.below ⟨hS1.nth 2 rfl, Rd.of_own hE1 (fun k hk => by have := (hE1.lt k hk).2; omega), Rd.of_own hE2 (fun k hk => by have := (hE2.lt k hk).2; omega)⟩ hW
  have HPH := Lib.hid (phase1_calls _ g n x A1 c1 A2 c2 _ (HAT.out _ (Below.refl _ _)))
  obtain ⟨ph, hph⟩ : ∃ ph, phaseQ n (some x) = ph := ⟨_, rfl⟩
  have hp3 : ph = 1 ∨ ph = 2 ∨ ph = 3 := by rcases phase_cases n x with ⟨h, _⟩ | ⟨h, _⟩ | ⟨h, _⟩ <;> omega
  rw [hph] at HPH
  have HP := Lib.hid hph
  have hc1 := own_cap hE1
  have hc2 := own_cap hE2
  clear hS hph hE1 hE2
  go_enter Tryd.func51, Tryd.ntmps51
  go_wp2_with fail
  refine HPH.out.mono ?_
  rintro e w1 ⟨rfl, hb1⟩
  have hS2 := hS1.callB hb1
  have hz1 : w.heap.size + 1 ≤ w1.heap.size := by have := hb1.size; simpa using this
  clear q0 q1 z0 zf
  obtain ⟨q0, q1, _, _⟩ := Blk.two (hS2.nth 0 rfl)
  obtain ⟨z0, zf⟩ := Blk.one (show Blk _ ga 69 #[.pointer (some ⟨g, 0, none⟩)] from hS2.nth 1 rfl)
  have kG : Blk w1 g 82 (attC x A1 c1 A2 c2) := hS2.nth 2 rfl
  obtain ⟨g0, g1, g2, _, j1, j2⟩ := kG.three
  clear hS1 HPH kG
  obtain ⟨wm2, wm3, r5, r6, hbm, l5, l6⟩ := map56 w1
  have hmm := @run_makeMap Tryd.prog
  have hS2' := hS2.callB hbm
  have hzm := hbm.size
  clear hS2
  have hS2 := hS2'
  have q2 := below_cell hbm q0
  have q3 := below_cell hbm q1
  have gg0 := below_cell hbm g0
  have gg1 := below_cell hbm g1
  have gg2 := below_cell hbm g2
  have jj2 : wm3.frozen? ⟨g, 2, none⟩ = false := Blk.frozen (show Blk wm3 g 82 (attC x A1 c1 A2 c2) from hS2.nth 2 rfl) 2
  clear g0 g1 g2 hS2' j1 j2
  by_cases h0 : ph = 2
  · subst h0
    obtain ⟨i0, hi, hi0, hi1, hi2⟩ := info_parts info_press
    have hS3 := (hS2.front 4 rfl rfl).drew
    have hw0 := hS2.size
    have hgl1 : g < wm3.heap.size := by omega
    have hpl1 : w.heap.size < wm3.heap.size := by omega
    have hgn1 : ¬ g = wm3.heap.size := by omega
    have hpn1 : ¬ w.heap.size = wm3.heap.size := by omega
    obtain ⟨m, hm⟩ : ∃ m, x.breaks.length = m := ⟨_, rfl⟩
    have HM := Lib.hid hm
    have hm2 : m ≤ 100000 := by omega
    have h63 : m + 1 ≤ maxLen := by unfold maxLen; omega
    have hby : (m + 1) * 16 ≤ 140737488355328 := by omega
    rw [hm] at hS3 gg2
    have HCL : Hid (∀ W L, Sq w0 W (rOwn w0.heap.size 61 2 L (m + 1) (x.breaks.flatMap pzC ++ [.int .i64 t, .int .i64 6]) :: rBlk w.heap.size 61 #[.int .i64 t, .int .i64 6] :: rBlk ga 69 #[.pointer (some ⟨g, 0, none⟩)] :: rBlk g 82 (attC x A1 c1 A2 c2) :: rOwn w0.heap.size 61 2 (.slice A1 x.ended.length c1) x.ended.length (x.ended.flatMap pzC) :: l) → W.cell? ⟨g, 2, none⟩ = some (.slice A2 m c2) ∧ W.frozen? ⟨g, 2, none⟩ = false) := fun W L h => ⟨by rw [← HM.out]; exact Blk.cell (h.nth 3 rfl) 2, Blk.frozen (h.nth 3 rfl) 2⟩
    clear hm
    go_upto_region 25 with (fail)
    go_region_law (first
      | (refine step_append_lies _ (by rfl) _ _ _ (by rfl) w0.heap.size 61 i0 (.agg #[.int .i64 0, .int .i64 0]) 2 16 Tryd.underlying27 hi hi0 hi1 hi2 rfl (by omega) (.slice A2 m c2) m (x.breaks.flatMap pzC) (by rfl) ((hS3.alloc _).head) ⟨wm3.heap.size, 0, none⟩ 1 1 [.int .i64 t, .int .i64 6] (by rfl) (by rfl) (news_new _ _ _ _ rfl) (one2p rfl rfl) (by omega) h63 hby (by simp; omega) _ rfl ?_; intro g9 cap9 w5 hown' hgrow hblk hlt5; have hV := (hS3.alloc _).append hown' hgrow (own_lies hblk); obtain ⟨k9, f9⟩ := HCL.out _ _ hV; clear hown' hgrow hblk))
    all_goals
      have hV2 := (hV.front 3 rfl rfl).set_ 2 (.slice (some ⟨g9, 0, none⟩) (m + 1) cap9)
      have hV3 := ((((hV2.drop 2 rfl rfl).front 1 rfl rfl).front 3 rfl rfl).front 2 rfl rfl).front 3 rfl rfl
      have hln : (x.breaks ++ [(t, (6 : Int))]).length = m + 1 := by rw [List.length_append, HM.out]; rfl
      have HLN := Lib.hid hln
      clear hV hV2 hln
      go_wp2_with fail
      go_ret
      refine qr_yes (g := g) (a' := some ⟨x.start, x.ended, x.breaks ++ [(t, 6)]⟩) (A1 := A1) (c1 := c1) (A2 := some ⟨g9, 0, none⟩) (c2 := cap9) (by unfold refQ; rw [HP.out]; rfl) rfl ?_
      unfold attL attC
      simp only
      rw [HLN.out, flat_pz]
      exact hV3
  · have e0 : (ph != 2) = true := by simpa using h0
    go_wp2_with fail
    go_ret
    exact qr_no (by unfold refQ; rw [HP.out]; simpa using h0) (hS2.drop 0 rfl rfl)
end Go.Proofs.YtedfieopmjpibaaDoor
/-
  The reference's press: an attempt is on; load, loaded. (Printed by gen_prs10.py.)
-/
namespace Go.Proofs.YtedfieopmjpibaaDoor
open Go Go.RowKit
attribute [local go_sem ↓] Go.wp_at_zero Go.wp_at_succ


set_option maxRecDepth 100000 in
set_option maxHeartbeats 2000000 in
theorem qpress1_7 (w0 : World) (ga g n : Nat) (x : Att) (A1 : Option Addr) (c1 : Nat) (A2 : Option Addr) (c2 : Nat) (t : Int) (l : List Rsc) (w : World)
    (hS : Sq w0 w (rBlk ga 69 #[.pointer (some ⟨g, 0, none⟩)] :: rBlk g 82 (attC x A1 c1 A2 c2) :: rOwn w0.heap.size 61 2 (.slice A1 x.ended.length c1) x.ended.length (x.ended.flatMap pzC) :: rOwn w0.heap.size 61 2 (.slice A2 x.breaks.length c2) x.breaks.length (x.breaks.flatMap pzC) :: l)) (_he : x.ended.length ≤ 100000) (_hbk : x.breaks.length ≤ 100000) (_hn : n ≤ 100000) :
    Calls Tryd.prog 51 #[.pointer (some ⟨ga, 0, none⟩), .int .i64 n, .agg #[.int .i64 t, .int .i64 7]] w (QrG w0 ga n (some x) (t, 7) l) := by
  have hS1 := hS.add #[.int .i64 t, .int .i64 7] 61
  have hltg : g < w.heap.size := Blk.lt (show Blk w g 82 (attC x A1 c1 A2 c2) from hS.nth 1 rfl)
  have hlta : ga < w.heap.size := Blk.lt (hS.nth 0 rfl)
  obtain ⟨q0, q1, _, _⟩ := Blk.two (hS1.nth 0 rfl)
  obtain ⟨z0, zf⟩ := Blk.one (show Blk _ ga 69 #[.pointer (some ⟨g, 0, none⟩)] from hS1.nth 1 rfl)
  have hE1 : (w.alloc (.cells #[.int .i64 t, .int .i64 7] 61)).ownsRow w0.heap.size 61 2 (.slice A1 x.ended.length c1) x.ended.length (x.ended.flatMap pzC) := hS1.nth 3 rfl
  have hE2 : (w.alloc (.cells #[.int .i64 t, .int .i64 7] 61)).ownsRow w0.heap.size 61 2 (.slice A2 x.breaks.length c2) x.breaks.length (x.breaks.flatMap pzC) := hS1.nth 4 rfl
  have HAT : Hid (∀ W, Below (w.alloc (.cells #[.int .i64 t, .int .i64 7] 61)).heap.size (w.alloc (.cells #[.int .i64 t, .int .i64 7] 61)) W → AttAt W (w.alloc (.cells #[.int .i64 t, .int .i64 7] 61)).heap.size g x A1 c1 A2 c2) := fun W hW =>
    AttAt.below ⟨hS1.nth 2 rfl, Rd.of_own hE1 (fun k hk => by have := (hE1.lt k hk).2; omega), Rd.of_own hE2 (fun k hk => by have := (hE2.lt k hk).2; omega)⟩ hW
  have HPH := Lib.hid (phase1_calls _ g n x A1 c1 A2 c2 _ (HAT.out _ (Below.refl _ _)))
  obtain ⟨ph, hph⟩ : ∃ ph, phaseQ n (some x) = ph := ⟨_, rfl⟩
  have hp3 : ph = 1 ∨ ph = 2 ∨ ph = 3 := by rcases phase_cases n x with ⟨h, _⟩ | ⟨h, _⟩ | ⟨h, _⟩ <;> omega
  rw [hph] at HPH
  have HP := Lib.hid hph
  have hc1 := own_cap hE1
  have hc2 := own_cap hE2
  clear hS hph hE1 hE2
  go_enter Tryd.func51, Tryd.ntmps51
  go_wp2_with fail
  refine HPH.out.mono ?_
  rintro e w1 ⟨rfl, hb1⟩
  have hS2 := hS1.callB hb1
  have hz1 : w.heap.size + 1 ≤ w1.heap.size := by have := hb1.size; simpa using this
  clear q0 q1 z0 zf
  obtain ⟨q0, q1, _, _⟩ := Blk.two (hS2.nth 0 rfl)
  obtain ⟨z0, zf⟩ := Blk.one (show Blk _ ga 69 #[.pointer (some ⟨g, 0, none⟩)] from hS2.nth 1 rfl)
  have kG : Blk w1 g 82 (attC x A1 c1 A2 c2) := hS2.nth 2 rfl
  obtain ⟨g0, g1, g2, _, j1, j2⟩ := kG.three
  clear hS1 HPH kG
  obtain ⟨B, hB⟩ : ∃ B, loadsQ x.breaks = B := ⟨_, rfl⟩
  have hbw : Below (w.alloc (.cells #[.int .i64 t, .int .i64 7] 61)).heap.size (w.alloc (.cells #[.int .i64 t, .int .i64 7] 61)) w1.drew := below_drewN hb1 1
  have HLD := Lib.hid (loads_calls _ g x A1 c1 A2 c2 _ (HAT.out _ hbw))
  rw [hB] at HLD
  have HBB := Lib.hid hB
  clear hB
  by_cases h0 : ph = 1
  · subst h0
    have HCL : Hid (∀ W, Below w1.heap.size w1 W → W.cell? ⟨w.heap.size, 1, none⟩ = some (.int .i64 7)) := fun W h => below_cell h q1
    have hdr : Below w1.heap.size w1 w1.drew := below_drewN (Below.refl _ _) 1
    go_upto_region 28 with (fail)
    go_region_held3 (fun W => W.cell? ⟨w.heap.size, 1, none⟩ = some (.int .i64 7))
      (first | exact HCL.out _ hdr | exact HCL.out _ hB2)
      (first | (go_at_call 45; ((with_reducible refine HLD.out.mono ?_); rintro e w2 ⟨rfl, hb2⟩; have hB2 := below_call hdr hb2 (Nat.le_refl _))))
    have hS2' := hS2.callB hB2
    have q2 := below_cell hB2 q0
    have q3 := below_cell hB2 q1
    have gg0 := below_cell hB2 g0
    have gg1 := below_cell hB2 g1
    have gg2 := below_cell hB2 g2
    have jj2 : w2.frozen? ⟨g, 2, none⟩ = false := Blk.frozen (show Blk w2 g 82 (attC x A1 c1 A2 c2) from hS2'.nth 2 rfl) 2
    have hz2 := hB2.size
    clear g0 g1 g2 j1 j2 hS2 q0 q1 z0 zf hb1 hbw hb2 hdr
    have hS2 := hS2'
    clear hS2' hB2
    cases B
    · have HR : Hid (refQ n (some x) 7 = false) := by
        unfold refQ
        rw [if_neg (by decide), if_neg (by decide), if_neg (by decide), if_neg (by decide), if_neg (by decide), if_neg (by decide), if_pos rfl, HP.out]
        show (decide ((1 : Int) ≠ 1) || loadsQ x.breaks) = false
        rw [HBB.out]
        exact Lib.hid rfl
      obtain ⟨i0, hi, hi0, hi1, hi2⟩ := info_parts info_press
      have hS3 := (hS2.front 4 rfl rfl).drew
      have hw0 := hS2.size
      have hgl1 : g < w2.heap.size := by omega
      have hpl1 : w.heap.size < w2.heap.size := by omega
      have hgn1 : ¬ g = w2.heap.size := by omega
      have hpn1 : ¬ w.heap.size = w2.heap.size := by omega
      obtain ⟨m, hm⟩ : ∃ m, x.breaks.length = m := ⟨_, rfl⟩
      have HM := Lib.hid hm
      have hm2 : m ≤ 100000 := by omega
      have h63 : m + 1 ≤ maxLen := by unfold maxLen; omega
      have hby : (m + 1) * 16 ≤ 140737488355328 := by omega
      rw [hm] at hS3 gg2
      have HCL : Hid (∀ W L, Sq w0 W (rOwn w0.heap.size 61 2 L (m + 1) (x.breaks.flatMap pzC ++ [.int .i64 t, .int .i64 7]) :: rBlk w.heap.size 61 #[.int .i64 t, .int .i64 7] :: rBlk ga 69 #[.pointer (some ⟨g, 0, none⟩)] :: rBlk g 82 (attC x A1 c1 A2 c2) :: rOwn w0.heap.size 61 2 (.slice A1 x.ended.length c1) x.ended.length (x.ended.flatMap pzC) :: l) → W.cell? ⟨g, 2, none⟩ = some (.slice A2 m c2) ∧ W.frozen? ⟨g, 2, none⟩ = false) := fun W L h => ⟨by rw [← HM.out]; exact Blk.cell (h.nth 3 rfl) 2, Blk.frozen (h.nth 3 rfl) 2⟩
      clear hm
      go_upto_region 30 with (fail)
      go_region_law (first
        | (refine step_append_lies _ (by rfl) _ _ _ (by rfl) w0.heap.size 61 i0 (.agg #[.int .i64 0, .int .i64 0]) 2 16 Tryd.underlying27 hi hi0 hi1 hi2 rfl (by omega) (.slice A2 m c2) m (x.breaks.flatMap pzC) (by rfl) ((hS3.alloc _).head) ⟨w2.heap.size, 0, none⟩ 1 1 [.int .i64 t, .int .i64 7] (by rfl) (by rfl) (news_new _ _ _ _ rfl) (one2p rfl rfl) (by omega) h63 hby (by simp; omega) _ rfl ?_; intro g9 cap9 w5 hown' hgrow hblk hlt5; have hV := (hS3.alloc _).append hown' hgrow (own_lies hblk); obtain ⟨k9, f9⟩ := HCL.out _ _ hV; clear hown' hgrow hblk))
      all_goals
        have hV2 := (hV.front 3 rfl rfl).set_ 2 (.slice (some ⟨g9, 0, none⟩) (m + 1) cap9)
        have hV3 := ((((hV2.drop 2 rfl rfl).front 1 rfl rfl).front 3 rfl rfl).front 2 rfl rfl).front 3 rfl rfl
        have hln : (x.breaks ++ [(t, (7 : Int))]).length = m + 1 := by rw [List.length_append, HM.out]; rfl
        have HLN := Lib.hid hln
        clear hV hV2 hln
        go_wp2_with fail
        go_ret
        refine qr_yes (g := g) (a' := some ⟨x.start, x.ended, x.breaks ++ [(t, 7)]⟩) (A1 := A1) (c1 := c1) (A2 := some ⟨g9, 0, none⟩) (c2 := cap9) HR.out rfl ?_
        unfold attL attC
        simp only
        rw [HLN.out, flat_pz]
        exact hV3
    · have HR : Hid (refQ n (some x) 7 = true) := by
        unfold refQ
        rw [if_neg (by decide), if_neg (by decide), if_neg (by decide), if_neg (by decide), if_neg (by decide), if_neg (by decide), if_pos rfl, HP.out]
        show (decide ((1 : Int) ≠ 1) || loadsQ x.breaks) = true
        rw [HBB.out]
        exact Lib.hid rfl
      go_wp2_with fail
      go_ret
      exact qr_no HR.out (hS2.drop 0 rfl rfl)
  · have e0 : (ph == 1) = false := by simpa using h0
    go_wp2_with fail
    go_quiet (fail)
    go_wp2_with fail
    go_ret
    exact qr_no (by unfold refQ; rw [HP.out]; simp [h0]) ((hS2.drop 0 rfl rfl).drewN _)

set_option maxRecDepth 100000 in
set_option maxHeartbeats 2000000 in
theorem qpress1_8 (w0 : World) (ga g n : Nat) (x : Att) (A1 : Option Addr) (c1 : Nat) (A2 : Option Addr) (c2 : Nat) (t : Int) (l : List Rsc) (w : World)
    (hS : Sq w0 w (rBlk ga 69 #[.pointer (some ⟨g, 0, none⟩)] :: rBlk g 82 (attC x A1 c1 A2 c2) :: rOwn w0.heap.size 61 2 (.slice A1 x.ended.length c1) x.ended.length (x.ended.flatMap pzC) :: rOwn w0.heap.size 61 2 (.slice A2 x.breaks.length c2) x.breaks.length (x.breaks.flatMap pzC) :: l)) (_he : x.ended.length ≤ 100000) (_hbk : x.breaks.length ≤ 100000) (_hn : n ≤ 100000) :
    Calls Tryd.prog 51 #[.pointer (some ⟨ga, 0, none⟩), .int .i64 n, .agg #[.int .i64 t, .int .i64 8]] w (QrG w0 ga n (some x) (t, 8) l) := by
  have hS1 := hS.add #[.int .i64 t, .int .i64 8] 61
  have hltg : g < w.heap.size := Blk.lt (show Blk w g 82 (attC x A1 c1 A2 c2) from hS.nth 1 rfl)
  have hlta : ga < w.heap.size := Blk.lt (hS.nth 0 rfl)
  obtain ⟨q0, q1, _, _⟩ := Blk.two (hS1.nth 0 rfl)
  obtain ⟨z0, zf⟩ := Blk.one (show Blk _ ga 69 #[.pointer (some ⟨g, 0, none⟩)] from hS1.nth 1 rfl)
  have hE1 : (w.alloc (.cells #[.int .i64 t, .int .i64 8] 61)).ownsRow w0.heap.size 61 2 (.slice A1 x.ended.length c1) x.ended.length (x.ended.flatMap pzC) := hS1.nth 3 rfl
  have hE2 : (w.alloc (.cells #[.int .i64 t, .int .i64 8] 61)).ownsRow w0.heap.size 61 2 (.slice A2 x.breaks.length c2) x.breaks.length (x.breaks.flatMap pzC) := hS1.nth 4 rfl
  have HAT : Hid (∀ W, Below (w.alloc (.cells #[.int .i64 t, .int .i64 8] 61)).heap.size (w.alloc (.cells #[.int .i64 t, .int .i64 8] 61)) W → AttAt W (w.alloc (.cells #[.int .i64 t, .int .i64 8] 61)).heap.size g x A1 c1 A2 c2) := fun W hW =>
    AttAt.below ⟨hS1.nth 2 rfl, Rd.of_own hE1 (fun k hk => by have := (hE1.lt k hk).2; omega), Rd.of_own hE2 (fun k hk => by have := (hE2.lt k hk).2; omega)⟩ hW
  have HPH := Lib.hid (phase1_calls _ g n x A1 c1 A2 c2 _ (HAT.out _ (Below.refl _ _)))
  obtain ⟨ph, hph⟩ : ∃ ph, phaseQ n (some x) = ph := ⟨_, rfl⟩
  have hp3 : ph = 1 ∨ ph = 2 ∨ ph = 3 := by rcases phase_cases n x with ⟨h, _⟩ | ⟨h, _⟩ | ⟨h, _⟩ <;> omega
  rw [hph] at HPH
  have HP := Lib.hid hph
  have hc1 := own_cap hE1
  have hc2 := own_cap hE2
  clear hS hph hE1 hE2
  go_enter Tryd.func51, Tryd.ntmps51
  go_wp2_with fail
  refine HPH.out.mono ?_
  rintro e w1 ⟨rfl, hb1⟩
  have hS2 := hS1.callB hb1
  have hz1 : w.heap.size + 1 ≤ w1.heap.size := by have := hb1.size; simpa using this
  clear q0 q1 z0 zf
  obtain ⟨q0, q1, _, _⟩ := Blk.two (hS2.nth 0 rfl)
  obtain ⟨z0, zf⟩ := Blk.one (show Blk _ ga 69 #[.pointer (some ⟨g, 0, none⟩)] from hS2.nth 1 rfl)
  have kG : Blk w1 g 82 (attC x A1 c1 A2 c2) := hS2.nth 2 rfl
  obtain ⟨g0, g1, g2, _, j1, j2⟩ := kG.three
  clear hS1 HPH kG
  obtain ⟨B, hB⟩ : ∃ B, loadsQ x.breaks = B := ⟨_, rfl⟩
  have hbw : Below (w.alloc (.cells #[.int .i64 t, .int .i64 8] 61)).heap.size (w.alloc (.cells #[.int .i64 t, .int .i64 8] 61)) w1.drew := below_drewN hb1 1
  have HLD := Lib.hid (loads_calls _ g x A1 c1 A2 c2 _ (HAT.out _ hbw))
  rw [hB] at HLD
  have HBB := Lib.hid hB
  clear hB
  by_cases h0 : ph = 1
  · subst h0
    have HCL : Hid (∀ W, Below w1.heap.size w1 W → W.cell? ⟨w.heap.size, 1, none⟩ = some (.int .i64 8)) := fun W h => below_cell h q1
    have hdr : Below w1.heap.size w1 w1.drew := below_drewN (Below.refl _ _) 1
    go_upto_region 28 with (fail)
    go_region_held3 (fun W => W.cell? ⟨w.heap.size, 1, none⟩ = some (.int .i64 8))
      (first | exact HCL.out _ hdr | exact HCL.out _ hB2)
      (first | (go_at_call 45; ((with_reducible refine HLD.out.mono ?_); rintro e w2 ⟨rfl, hb2⟩; have hB2 := below_call hdr hb2 (Nat.le_refl _))))
    have hS2' := hS2.callB hB2
    have q2 := below_cell hB2 q0
    have q3 := below_cell hB2 q1
    have gg0 := below_cell hB2 g0
    have gg1 := below_cell hB2 g1
    have gg2 := below_cell hB2 g2
    have jj2 : w2.frozen? ⟨g, 2, none⟩ = false := Blk.frozen (show Blk w2 g 82 (attC x A1 c1 A2 c2) from hS2'.nth 2 rfl) 2
    have hz2 := hB2.size
    clear g0 g1 g2 j1 j2 hS2 q0 q1 z0 zf hb1 hbw hb2 hdr
    have hS2 := hS2'
    clear hS2' hB2
    cases B
    · have HR : Hid (refQ n (some x) 8 = true) := by
        unfold refQ
        rw [if_neg (by decide), if_neg (by decide), if_neg (by decide), if_neg (by decide), if_neg (by decide), if_neg (by decide), if_neg (by decide), if_pos rfl, HP.out]
        show (decide ((1 : Int) ≠ 1) || !loadsQ x.breaks) = true
        rw [HBB.out]
        exact Lib.hid rfl
      go_wp2_with fail
      go_ret
      exact qr_no HR.out (hS2.drop 0 rfl rfl)
    · have HR : Hid (refQ n (some x) 8 = false) := by
        unfold refQ
        rw [if_neg (by decide), if_neg (by decide), if_neg (by decide), if_neg (by decide), if_neg (by decide), if_neg (by decide), if_neg (by decide), if_pos rfl, HP.out]
        show (decide ((1 : Int) ≠ 1) || !loadsQ x.breaks) = false
        rw [HBB.out]
        exact Lib.hid rfl
      obtain ⟨i0, hi, hi0, hi1, hi2⟩ := info_parts info_press
      have hS3 := (hS2.front 4 rfl rfl).drew
      have hw0 := hS2.size
      have hgl1 : g < w2.heap.size := by omega
      have hpl1 : w.heap.size < w2.heap.size := by omega
      have hgn1 : ¬ g = w2.heap.size := by omega
      have hpn1 : ¬ w.heap.size = w2.heap.size := by omega
      obtain ⟨m, hm⟩ : ∃ m, x.breaks.length = m := ⟨_, rfl⟩
      have HM := Lib.hid hm
      have hm2 : m ≤ 100000 := by omega
      have h63 : m + 1 ≤ maxLen := by unfold maxLen; omega
      have hby : (m + 1) * 16 ≤ 140737488355328 := by omega
      rw [hm] at hS3 gg2
      have HCL : Hid (∀ W L, Sq w0 W (rOwn w0.heap.size 61 2 L (m + 1) (x.breaks.flatMap pzC ++ [.int .i64 t, .int .i64 8]) :: rBlk w.heap.size 61 #[.int .i64 t, .int .i64 8] :: rBlk ga 69 #[.pointer (some ⟨g, 0, none⟩)] :: rBlk g 82 (attC x A1 c1 A2 c2) :: rOwn w0.heap.size 61 2 (.slice A1 x.ended.length c1) x.ended.length (x.ended.flatMap pzC) :: l) → W.cell? ⟨g, 2, none⟩ = some (.slice A2 m c2) ∧ W.frozen? ⟨g, 2, none⟩ = false) := fun W L h => ⟨by rw [← HM.out]; exact Blk.cell (h.nth 3 rfl) 2, Blk.frozen (h.nth 3 rfl) 2⟩
      clear hm
      go_upto_region 30 with (fail)
      go_region_law (first
        | (refine step_append_lies _ (by rfl) _ _ _ (by rfl) w0.heap.size 61 i0 (.agg #[.int .i64 0, .int .i64 0]) 2 16 Tryd.underlying27 hi hi0 hi1 hi2 rfl (by omega) (.slice A2 m c2) m (x.breaks.flatMap pzC) (by rfl) ((hS3.alloc _).head) ⟨w2.heap.size, 0, none⟩ 1 1 [.int .i64 t, .int .i64 8] (by rfl) (by rfl) (news_new _ _ _ _ rfl) (one2p rfl rfl) (by omega) h63 hby (by simp; omega) _ rfl ?_; intro g9 cap9 w5 hown' hgrow hblk hlt5; have hV := (hS3.alloc _).append hown' hgrow (own_lies hblk); obtain ⟨k9, f9⟩ := HCL.out _ _ hV; clear hown' hgrow hblk))
      all_goals
        have hV2 := (hV.front 3 rfl rfl).set_ 2 (.slice (some ⟨g9, 0, none⟩) (m + 1) cap9)
        have hV3 := ((((hV2.drop 2 rfl rfl).front 1 rfl rfl).front 3 rfl rfl).front 2 rfl rfl).front 3 rfl rfl
        have hln : (x.breaks ++ [(t, (8 : Int))]).length = m + 1 := by rw [List.length_append, HM.out]; rfl
        have HLN := Lib.hid hln
        clear hV hV2 hln
        go_wp2_with fail
        go_ret
        refine qr_yes (g := g) (a' := some ⟨x.start, x.ended, x.breaks ++ [(t, 8)]⟩) (A1 := A1) (c1 := c1) (A2 := some ⟨g9, 0, none⟩) (c2 := cap9) HR.out rfl ?_
        unfold attL attC
        simp only
        rw [HLN.out, flat_pz]
        exact hV3
  · have e0 : (ph == 1) = false := by simpa using h0
    go_wp2_with fail
    go_quiet (fail)
    go_wp2_with fail
    go_ret
    exact qr_no (by unfold refQ; rw [HP.out]; simp [h0]) ((hS2.drop 0 rfl rfl).drewN _)
end Go.Proofs.YtedfieopmjpibaaDoor
