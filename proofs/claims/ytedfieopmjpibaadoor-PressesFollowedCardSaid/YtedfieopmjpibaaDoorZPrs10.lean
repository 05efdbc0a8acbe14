/-
  The reference's press: no attempt is on. (Printed by gen_prs10.py.)
-/
import Derived.Test.YtedfieopmjpibaaDoorZPrs9
import Derived.Test.YtedfieopmjpibaaDoorZMap
import Derived.Maps.OwnOps
namespace Go.Proofs.YtedfieopmjpibaaDoor
open Go Go.RowKit
attribute [local go_sem ↓] Go.wp_at_zero Go.wp_at_succ

/-- where the attempt stands, and what a press has answered -/
def QrS (w0 : World) (ga : Nat) (a : Option Att) (l : List Rsc) (r : Value) (e : Ending) (w' : World) : Prop :=
  e = .returned r ∧ ∃ (g : Nat) (A1 : Option Addr) (c1 : Nat) (A2 : Option Addr) (c2 : Nat), Sq w0 w' (rBlk ga 69 #[attV a g] :: attL w0.heap.size a g A1 c1 A2 c2 l)
def QrG (w0 : World) (ga n : Nat) (a : Option Att) (p : Pz) (l : List Rsc) (e : Ending) (w' : World) : Prop :=
  QrS w0 ga (pressQ n a p) l (.bool (!refQ n a p.2)) e w'
theorem qr_no {w0 W : World} {ga n g : Nat} {a : Option Att} {p : Pz} {A1 A2 : Option Addr} {c1 c2 : Nat} {l : List Rsc} (h : refQ n a p.2 = true)
    (hS : Sq w0 W (rBlk ga 69 #[attV a g] :: attL w0.heap.size a g A1 c1 A2 c2 l)) : QrG w0 ga n a p l (.returned (.bool false)) W := by
  unfold QrG pressQ
  rw [h]
  exact ⟨rfl, g, A1, c1, A2, c2, hS⟩
theorem qr_yes {w0 W : World} {ga n g : Nat} {a a' : Option Att} {p : Pz} {A1 A2 : Option Addr} {c1 c2 : Nat} {l : List Rsc} (h : refQ n a p.2 = false) (h2 : doneQ a p = a')
    (hS : Sq w0 W (rBlk ga 69 #[attV a' g] :: attL w0.heap.size a' g A1 c1 A2 c2 l)) : QrG w0 ga n a p l (.returned (.bool true)) W := by
  unfold QrG pressQ
  rw [h, if_neg (by simp), h2]
  exact ⟨rfl, g, A1, c1, A2, c2, hS⟩
theorem info_press : (Tryd.prog.info? 61).map (fun i => (i.zero, i.size, i.bytes)) = some (some (.agg #[.int .i64 0, .int .i64 0]), 2, 16) := by kernel_rfl
theorem one2p {x y : Value} (hx : x.oneCell' = true) (hy : y.oneCell' = true) : ∀ u ∈ [x, y], u.oneCell' = true := by
  intro u hu
  simp at hu
  rcases hu with rfl | rfl <;> assumption
theorem flat_pz (l : List Pz) (p : Pz) : (l ++ [p]).flatMap pzC = l.flatMap pzC ++ pzC p := flat_snoc pzC l p

/-- the literal that says in which phase a pause and its end are followed -/
theorem map56 (w : World) : ∃ w2 w3 : World, (Instr.mapUpdate 94 (.map (some w.heap.size)) (.int .i64 5) (.int .i64 1)).run Tryd.prog (w.alloc (.map #[] 0)) = .ok () w2 ∧ (Instr.mapUpdate 94 (.map (some w.heap.size)) (.int .i64 6) (.int .i64 2)).run Tryd.prog w2 = .ok () w3 ∧ Below w.heap.size w w3 ∧
    (Instr.lookup 94 (.map (some w.heap.size)) (.int .i64 5) false).run Tryd.prog w3 = .ok (.int .i64 1) w3 ∧ (Instr.lookup 94 (.map (some w.heap.size)) (.int .i64 6) false).run Tryd.prog w3 = .ok (.int .i64 2) w3 := by
  have h0 := World.ownsMap_made w Tryd.prog 3 (plainElem (H := Unit) Tryd.prog 3)
  have K := Maps.int_keyed (P := Tryd.prog) (k := 3) Tryd.underlying3
  obtain ⟨w2, r1, h1, g1⟩ := h0.update (t := 94) (e := 3) K Tryd.underlying94 (by decide) (key := .int .i64 5) (val := .int .i64 1) (kl := .int .i64 5) (by kernel_rfl) (plainElem_int Tryd.underlying3 (by decide))
  obtain ⟨w3, r2, h2, g2⟩ := h1.update (t := 94) (e := 3) K Tryd.underlying94 (by decide) (key := .int .i64 6) (val := .int .i64 2) (kl := .int .i64 6) (by kernel_rfl) (plainElem_int Tryd.underlying3 (by decide))
  obtain ⟨c5, l5, e5, _⟩ := h2.lookup_int (t := 94) (e := 3) K Tryd.underlying94 Tryd.underlying3 (by kernel_rfl) (key := .int .i64 5) (kl := .int .i64 5) (by kernel_rfl)
  obtain ⟨c6, l6, e6, _⟩ := h2.lookup_int (t := 94) (e := 3) K Tryd.underlying94 Tryd.underlying3 (by kernel_rfl) (key := .int .i64 6) (kl := .int .i64 6) (by kernel_rfl)
  have hB := ((((Below.refl w.heap.size w).alloc (Nat.le_refl _) (.map #[] 0)).grown g1 (by simp) (fun k hk => by injection hk with hk; omega))).grown g2 (by have := g1.size; simp at this; omega) (fun k hk => by injection hk with hk; omega)
  refine ⟨w2, w3, r1, r2, hB, ?_, ?_⟩
  · have : c5 = 1 := by
      have f5 : (((DataW.map [] : DataW Unit).put (.int .i64 5) (.lit (.int .i64 1))).put (.int .i64 6) (.lit (.int .i64 2))).atKey (.int .i64 5) (.lit (.int .i64 0)) = .lit (.int .i64 1) := by kernel_rfl
      have g5 := f5.symm.trans e5
      exact (Lit.int.inj (DataW.lit.inj g5)).2.symm
    rw [← this]
    exact l5
  · have : c6 = 2 := by
      have f6 : (((DataW.map [] : DataW Unit).put (.int .i64 5) (.lit (.int .i64 1))).put (.int .i64 6) (.lit (.int .i64 2))).atKey (.int .i64 6) (.lit (.int .i64 0)) = .lit (.int .i64 2) := by kernel_rfl
      have g6 := f6.symm.trans e6
      exact (Lit.int.inj (DataW.lit.inj g6)).2.symm
    rw [← this]
    exact l6

set_option maxRecDepth 100000 in
set_option maxHeartbeats 1000000 in
theorem qpress0_1 (w0 : World) (ga n : Nat) (t : Int) (l : List Rsc) (w : World) (hS : Sq w0 w (rBlk ga 69 #[.pointer none] :: l)) :
    Calls Tryd.prog 51 #[.pointer (some ⟨ga, 0, none⟩), .int .i64 n, .agg #[.int .i64 t, .int .i64 1]] w (QrG w0 ga n none (t, 1) l) := by
  have hS1 := hS.add #[.int .i64 t, .int .i64 1] 61
  obtain ⟨q0, q1, _, _⟩ := Blk.two (hS1.nth 0 rfl)
  obtain ⟨z0, zf⟩ := Blk.one (show Blk _ ga 69 #[.pointer none] from hS1.nth 1 rfl)
  have HPH := Lib.hid (phase0_calls n (w.alloc (.cells #[.int .i64 t, .int .i64 1] 61)))
  clear hS
  go_enter Tryd.func51, Tryd.ntmps51
  go_wp2_with fail
  refine HPH.out.mono ?_
  rintro e w1 ⟨rfl, hb1⟩
  have hS2 := hS1.callB hb1
  clear q0 q1 z0 zf
  obtain ⟨q0, q1, _, _⟩ := Blk.two (hS2.nth 0 rfl)
  obtain ⟨z0, zf⟩ := Blk.one (show Blk _ ga 69 #[.pointer none] from hS2.nth 1 rfl)
  clear hS1 hb1 HPH
  have hltg : ga < w1.heap.size := Blk.lt (show Blk _ ga 69 #[.pointer none] from hS2.nth 1 rfl)
  have hS3 := ((hS2.drop 0 rfl rfl).set_ 0 (.pointer (some ⟨w1.heap.size, 0, none⟩))).add #[.int .i64 t, .slice none 0 0, .slice none 0 0] 82
  rw [show (w1.setCell ⟨ga, 0, none⟩ (.pointer (some ⟨w1.heap.size, 0, none⟩))).heap.size = w1.heap.size from by simp [World.setCell]] at hS3
  have hS4 := (hS3.nil w0.heap.size 61 2).nil w0.heap.size 61 2
  have hS5 := (hS4.front 2 rfl rfl).front 3 rfl rfl
  clear hS3 hS4
  go_wp2_with fail
  go_ret
  exact qr_yes (a' := some ⟨t, [], []⟩) (A1 := none) (c1 := 0) (A2 := none) (c2 := 0) rfl rfl hS5

set_option maxRecDepth 100000 in
set_option maxHeartbeats 1000000 in
theorem qpress0_2 (w0 : World) (ga n : Nat) (t : Int) (l : List Rsc) (w : World) (hS : Sq w0 w (rBlk ga 69 #[.pointer none] :: l)) :
    Calls Tryd.prog 51 #[.pointer (some ⟨ga, 0, none⟩), .int .i64 n, .agg #[.int .i64 t, .int .i64 2]] w (QrG w0 ga n none (t, 2) l) := by
  have hS1 := hS.add #[.int .i64 t, .int .i64 2] 61
  obtain ⟨q0, q1, _, _⟩ := Blk.two (hS1.nth 0 rfl)
  obtain ⟨z0, zf⟩ := Blk.one (show Blk _ ga 69 #[.pointer none] from hS1.nth 1 rfl)
  have HPH := Lib.hid (phase0_calls n (w.alloc (.cells #[.int .i64 t, .int .i64 2] 61)))
  clear hS
  go_enter Tryd.func51, Tryd.ntmps51
  go_wp2_with fail
  refine HPH.out.mono ?_
  rintro e w1 ⟨rfl, hb1⟩
  have hS2 := hS1.callB hb1
  clear q0 q1 z0 zf
  obtain ⟨q0, q1, _, _⟩ := Blk.two (hS2.nth 0 rfl)
  obtain ⟨z0, zf⟩ := Blk.one (show Blk _ ga 69 #[.pointer none] from hS2.nth 1 rfl)
  clear hS1 hb1 HPH
  go_wp2_with fail
  go_ret
  exact qr_no (g := 0) (A1 := none) (c1 := 0) (A2 := none) (c2 := 0) rfl (hS2.drop 0 rfl rfl)

set_option maxRecDepth 100000 in
set_option maxHeartbeats 1000000 in
theorem qpress0_3 (w0 : World) (ga n : Nat) (t : Int) (l : List Rsc) (w : World) (hS : Sq w0 w (rBlk ga 69 #[.pointer none] :: l)) :
    Calls Tryd.prog 51 #[.pointer (some ⟨ga, 0, none⟩), .int .i64 n, .agg #[.int .i64 t, .int .i64 3]] w (QrG w0 ga n none (t, 3) l) := by
  have hS1 := hS.add #[.int .i64 t, .int .i64 3] 61
  obtain ⟨q0, q1, _, _⟩ := Blk.two (hS1.nth 0 rfl)
  obtain ⟨z0, zf⟩ := Blk.one (show Blk _ ga 69 #[.pointer none] from hS1.nth 1 rfl)
  have HPH := Lib.hid (phase0_calls n (w.alloc (.cells #[.int .i64 t, .int .i64 3] 61)))
  clear hS
  go_enter Tryd.func51, Tryd.ntmps51
  go_wp2_with fail
  refine HPH.out.mono ?_
  rintro e w1 ⟨rfl, hb1⟩
  have hS2 := hS1.callB hb1
  clear q0 q1 z0 zf
  obtain ⟨q0, q1, _, _⟩ := Blk.two (hS2.nth 0 rfl)
  obtain ⟨z0, zf⟩ := Blk.one (show Blk _ ga 69 #[.pointer none] from hS2.nth 1 rfl)
  clear hS1 hb1 HPH
  go_wp2_with fail
  go_ret
  exact qr_no (g := 0) (A1 := none) (c1 := 0) (A2 := none) (c2 := 0) rfl (hS2.drop 0 rfl rfl)

set_option maxRecDepth 100000 in
set_option maxHeartbeats 1000000 in
theorem qpress0_4 (w0 : World) (ga n : Nat) (t : Int) (l : List Rsc) (w : World) (hS : Sq w0 w (rBlk ga 69 #[.pointer none] :: l)) :
    Calls Tryd.prog 51 #[.pointer (some ⟨ga, 0, none⟩), .int .i64 n, .agg #[.int .i64 t, .int .i64 4]] w (QrG w0 ga n none (t, 4) l) := by
  have hS1 := hS.add #[.int .i64 t, .int .i64 4] 61
  obtain ⟨q0, q1, _, _⟩ := Blk.two (hS1.nth 0 rfl)
  obtain ⟨z0, zf⟩ := Blk.one (show Blk _ ga 69 #[.pointer none] from hS1.nth 1 rfl)
  have HPH := Lib.hid (phase0_calls n (w.alloc (.cells #[.int .i64 t, .int .i64 4] 61)))
  clear hS
  go_enter Tryd.func51, Tryd.ntmps51
  go_wp2_with fail
  refine HPH.out.mono ?_
  rintro e w1 ⟨rfl, hb1⟩
  have hS2 := hS1.callB hb1
  clear q0 q1 z0 zf
  obtain ⟨q0, q1, _, _⟩ := Blk.two (hS2.nth 0 rfl)
  obtain ⟨z0, zf⟩ := Blk.one (show Blk _ ga 69 #[.pointer none] from hS2.nth 1 rfl)
  clear hS1 hb1 HPH
  go_wp2_with fail
  go_ret
  exact qr_no (g := 0) (A1 := none) (c1 := 0) (A2 := none) (c2 := 0) rfl (hS2.drop 0 rfl rfl)

set_option maxRecDepth 100000 in
set_option maxHeartbeats 1000000 in
theorem qpress0_5 (w0 : World) (ga n : Nat) (t : Int) (l : List Rsc) (w : World) (hS : Sq w0 w (rBlk ga 69 #[.pointer none] :: l)) :
    Calls Tryd.prog 51 #[.pointer (some ⟨ga, 0, none⟩), .int .i64 n, .agg #[.int .i64 t, .int .i64 5]] w (QrG w0 ga n none (t, 5) l) := by
  have hS1 := hS.add #[.int .i64 t, .int .i64 5] 61
  obtain ⟨q0, q1, _, _⟩ := Blk.two (hS1.nth 0 rfl)
  obtain ⟨z0, zf⟩ := Blk.one (show Blk _ ga 69 #[.pointer none] from hS1.nth 1 rfl)
  have HPH := Lib.hid (phase0_calls n (w.alloc (.cells #[.int .i64 t, .int .i64 5] 61)))
  clear hS
  go_enter Tryd.func51, Tryd.ntmps51
  go_wp2_with fail
  refine HPH.out.mono ?_
  rintro e w1 ⟨rfl, hb1⟩
  have hS2 := hS1.callB hb1
  clear q0 q1 z0 zf
  obtain ⟨q0, q1, _, _⟩ := Blk.two (hS2.nth 0 rfl)
  obtain ⟨z0, zf⟩ := Blk.one (show Blk _ ga 69 #[.pointer none] from hS2.nth 1 rfl)
  clear hS1 hb1 HPH
  obtain ⟨wm2, wm3, r5, r6, hbm, l5, l6⟩ := map56 w1
  have hmm := @run_makeMap Tryd.prog
  have hS3 := (hS2.callB hbm).drop 0 rfl rfl
  have q2 := below_cell hbm q1
  clear hS2 hbm
  go_wp2_with fail
  go_ret
  exact qr_no (g := 0) (A1 := none) (c1 := 0) (A2 := none) (c2 := 0) rfl hS3

set_option maxRecDepth 100000 in
set_option maxHeartbeats 1000000 in
theorem qpress0_6 (w0 : World) (ga n : Nat) (t : Int) (l : List Rsc) (w : World) (hS : Sq w0 w (rBlk ga 69 #[.pointer none] :: l)) :
    Calls Tryd.prog 51 #[.pointer (some ⟨ga, 0, none⟩), .int .i64 n, .agg #[.int .i64 t, .int .i64 6]] w (QrG w0 ga n none (t, 6) l) := by
  have hS1 := hS.add #[.int .i64 t, .int .i64 6] 61
  obtain ⟨q0, q1, _, _⟩ := Blk.two (hS1.nth 0 rfl)
  obtain ⟨z0, zf⟩ := Blk.one (show Blk _ ga 69 #[.pointer none] from hS1.nth 1 rfl)
  have HPH := Lib.hid (phase0_calls n (w.alloc (.cells #[.int .i64 t, .int .i64 6] 61)))
  clear hS
  go_enter Tryd.func51, Tryd.ntmps51
  go_wp2_with fail
  refine HPH.out.mono ?_
  rintro e w1 ⟨rfl, hb1⟩
  have hS2 := hS1.callB hb1
  clear q0 q1 z0 zf
  obtain ⟨q0, q1, _, _⟩ := Blk.two (hS2.nth 0 rfl)
  obtain ⟨z0, zf⟩ := Blk.one (show Blk _ ga 69 #[.pointer none] from hS2.nth 1 rfl)
  clear hS1 hb1 HPH
  obtain ⟨wm2, wm3, r5, r6, hbm, l5, l6⟩ := map56 w1
  have hmm := @run_makeMap Tryd.prog
  have hS3 := (hS2.callB hbm).drop 0 rfl rfl
  have q2 := below_cell hbm q1
  clear hS2 hbm
  go_wp2_with fail
  go_ret
  exact qr_no (g := 0) (A1 := none) (c1 := 0) (A2 := none) (c2 := 0) rfl hS3

set_option maxRecDepth 100000 in
set_option maxHeartbeats 1000000 in
theorem qpress0_7 (w0 : World) (ga n : Nat) (t : Int) (l : List Rsc) (w : World) (hS : Sq w0 w (rBlk ga 69 #[.pointer none] :: l)) :
    Calls Tryd.prog 51 #[.pointer (some ⟨ga, 0, none⟩), .int .i64 n, .agg #[.int .i64 t, .int .i64 7]] w (QrG w0 ga n none (t, 7) l) := by
  have hS1 := hS.add #[.int .i64 t, .int .i64 7] 61
  obtain ⟨q0, q1, _, _⟩ := Blk.two (hS1.nth 0 rfl)
  obtain ⟨z0, zf⟩ := Blk.one (show Blk _ ga 69 #[.pointer none] from hS1.nth 1 rfl)
  have HPH := Lib.hid (phase0_calls n (w.alloc (.cells #[.int .i64 t, .int .i64 7] 61)))
  clear hS
  go_enter Tryd.func51, Tryd.ntmps51
  go_wp2_with fail
  refine HPH.out.mono ?_
  rintro e w1 ⟨rfl, hb1⟩
  have hS2 := hS1.callB hb1
  clear q0 q1 z0 zf
  obtain ⟨q0, q1, _, _⟩ := Blk.two (hS2.nth 0 rfl)
  obtain ⟨z0, zf⟩ := Blk.one (show Blk _ ga 69 #[.pointer none] from hS2.nth 1 rfl)
  clear hS1 hb1 HPH
  go_wp2_with fail
  go_quiet (fail)
  go_wp2_with fail
  go_ret
  exact qr_no (g := 0) (A1 := none) (c1 := 0) (A2 := none) (c2 := 0) rfl ((hS2.drop 0 rfl rfl).drewN _)

set_option maxRecDepth 100000 in
set_option maxHeartbeats 1000000 in
theorem qpress0_8 (w0 : World) (ga n : Nat) (t : Int) (l : List Rsc) (w : World) (hS : Sq w0 w (rBlk ga 69 #[.pointer none] :: l)) :
    Calls Tryd.prog 51 #[.pointer (some ⟨ga, 0, none⟩), .int .i64 n, .agg #[.int .i64 t, .int .i64 8]] w (QrG w0 ga n none (t, 8) l) := by
  have hS1 := hS.add #[.int .i64 t, .int .i64 8] 61
  obtain ⟨q0, q1, _, _⟩ := Blk.two (hS1.nth 0 rfl)
  obtain ⟨z0, zf⟩ := Blk.one (show Blk _ ga 69 #[.pointer none] from hS1.nth 1 rfl)
  have HPH := Lib.hid (phase0_calls n (w.alloc (.cells #[.int .i64 t, .int .i64 8] 61)))
  clear hS
  go_enter Tryd.func51, Tryd.ntmps51
  go_wp2_with fail
  refine HPH.out.mono ?_
  rintro e w1 ⟨rfl, hb1⟩
  have hS2 := hS1.callB hb1
  clear q0 q1 z0 zf
  obtain ⟨q0, q1, _, _⟩ := Blk.two (hS2.nth 0 rfl)
  obtain ⟨z0, zf⟩ := Blk.one (show Blk _ ga 69 #[.pointer none] from hS2.nth 1 rfl)
  clear hS1 hb1 HPH
  go_wp2_with fail
  go_quiet (fail)
  go_wp2_with fail
  go_ret
  exact qr_no (g := 0) (A1 := none) (c1 := 0) (A2 := none) (c2 := 0) rfl ((hS2.drop 0 rfl rfl).drewN _)

set_option maxRecDepth 100000 in
set_option maxHeartbeats 1000000 in
theorem qpress0_9 (w0 : World) (ga n : Nat) (t : Int) (l : List Rsc) (w : World) (hS : Sq w0 w (rBlk ga 69 #[.pointer none] :: l)) :
    Calls Tryd.prog 51 #[.pointer (some ⟨ga, 0, none⟩), .int .i64 n, .agg #[.int .i64 t, .int .i64 9]] w (QrG w0 ga n none (t, 9) l) := by
  have hS1 := hS.add #[.int .i64 t, .int .i64 9] 61
  obtain ⟨q0, q1, _, _⟩ := Blk.two (hS1.nth 0 rfl)
  obtain ⟨z0, zf⟩ := Blk.one (show Blk _ ga 69 #[.pointer none] from hS1.nth 1 rfl)
  have HPH := Lib.hid (phase0_calls n (w.alloc (.cells #[.int .i64 t, .int .i64 9] 61)))
  clear hS
  go_enter Tryd.func51, Tryd.ntmps51
  go_wp2_with fail
  refine HPH.out.mono ?_
  rintro e w1 ⟨rfl, hb1⟩
  have hS2 := hS1.callB hb1
  clear q0 q1 z0 zf
  obtain ⟨q0, q1, _, _⟩ := Blk.two (hS2.nth 0 rfl)
  obtain ⟨z0, zf⟩ := Blk.one (show Blk _ ga 69 #[.pointer none] from hS2.nth 1 rfl)
  clear hS1 hb1 HPH
  go_wp2_with fail
  go_ret
  exact qr_no (g := 0) (A1 := none) (c1 := 0) (A2 := none) (c2 := 0) rfl (hS2.drop 0 rfl rfl)
end Go.Proofs.YtedfieopmjpibaaDoor
