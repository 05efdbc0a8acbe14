/-
  byGift and giftOrder by contracts.
-/
import Derived.Test.YtapgnaimbgjcnaaGreatDoorZScmp
import Derived.Deep.DeepCutAuto
import Derived.Test.YtapgnaimbgjcnaaGreatDoorZSlotPure
import Derived.IntWalk
import Derived.Deep.RegionHeld3
import Derived.Sort.Walk0
namespace Go.Proofs.YtapgnaimbgjcnaaGreatDoor
open Go Go.RowKit
theorem strCmp_calls (a b : ByteArray) (w : World) : Calls Tryz.prog 92 #[.string a, .string b] w fun e w' => e = .returned (.int .i64 (cmpS a b)) ∧ w = w' :=
 (Tryz.strings_Compare a b w).mono (fun _ _ h => ⟨h.1, h.2.symm⟩)
end Go.Proofs.YtapgnaimbgjcnaaGreatDoor
/-
  What marathon.Drop chooses, in plain words. No Go text is named here.
-/
namespace Go.Proofs.YtapgnaimbgjcnaaGreatDoor
open Go Go.RowKit
def cmpLI : List Int → List Int → Int
 | [], [] => 0
 | [], _ :: _ => -1
 | _ :: _, [] => 1
 | a :: p, b :: q => if cmpI a b = 0 then cmpLI p q else cmpI a b
end Go.Proofs.YtapgnaimbgjcnaaGreatDoor
/-
  cmp.Or of a list; slices.Compare of ints.
-/
namespace Go.Proofs.YtapgnaimbgjcnaaGreatDoor
open Go Go.RowKit
set_option maxRecDepth 100000 in
theorem orN_calls (b : Nat) (A : Option Addr) (n c : Nat) (l : List Int) (w : World) (hr : Rd w b 1 (.slice A n c) n (l.map (Value.int .i64))) :
 Calls Tryz.prog 115 #[.slice A n c] w (QRet (.int .i64 (firstE l)) w) := by
 obtain ⟨A', c', e1, e2, e3, e4, e5, e6⟩ := hr
 injection e1 with ea eb ec
 subst ea ec
 unfold maxLen at e3
 have hl : l.length = n := by simpa using e4
 have HL := Lib.hid hl
 have HC := Lib.hid e6
 clear e4 e5 e6 hl
 go_enter Tryz.func115, Tryz.ntmps115
 go_wp2_with fail
 go_loop [8] (fun i => ∃ k : Nat, k ≤ n ∧ i = .int .i64 k ∧ Hid (firstE l = firstE (l.drop k))) (fun i => n - (intOf i).toNat)
 case atStart => exact ⟨0, Nat.zero_le _, rfl, rfl⟩
 case round =>
  obtain ⟨k, hk, rfl, HF⟩ := hrel
  by_cases hlt : k < n
  · have hkr : k < l.length := by rw [HL.out]; exact hlt
    obtain ⟨g, o, hA, _, hcs⟩ := HC.out (by omega)
    subst hA
    have hst := HF.out.trans (firstE_step l k hkr)
    have c0 := hcs k _ (by rw [List.getElem?_map, List.getElem?_eq_getElem hkr]; rfl)
    clear hcs
    obtain ⟨z, hz⟩ : ∃ z, l[k] = z := ⟨_, rfl⟩
    rw [hz] at c0 hst
    clear hz
    by_cases h0 : z = 0
    · subst h0
      rw [if_pos rfl] at hst
      have HS := Lib.hid hst
      clear hst
      go_wp2_with fail
      go_round
      case rel => exact ⟨k + 1, by omega, by go_num, HS⟩
      case measure => simp [intOf]; omega
    · rw [if_neg h0] at hst
      have HS := Lib.hid hst
      have hne : (z != 0) = true := by rw [bne_iff_ne]; exact h0
      clear hst
      go_wp2_with fail
      go_ret
      exact ⟨ret_int HS.out.symm, 0, rfl⟩
  · obtain rfl : k = n := by omega
    have HS := Lib.hid (HF.out.trans (by rw [List.drop_of_length_le (by rw [HL.out]; exact Nat.le_refl _)]; rfl : _ = (0 : Int)))
    go_wp2_with fail
    go_ret
    exact ⟨ret_int HS.out.symm, 0, rfl⟩
theorem cmpLI_step {xs ys : List Int} {k : Nat} (hk : k < xs.length) (hk2 : k < ys.length) : cmpLI (xs.drop k) (ys.drop k) = if cmpI xs[k] ys[k] = 0 then cmpLI (xs.drop (k + 1)) (ys.drop (k + 1)) else cmpI xs[k] ys[k] := by
 rw [List.drop_eq_getElem_cons hk, List.drop_eq_getElem_cons hk2, cmpLI]
set_option maxRecDepth 100000 in
theorem compareI_calls (b : Nat) (A A2 : Option Addr) (n c n2 c2 : Nat) (xs ys : List Int) (w : World) (hr : Rd w b 1 (.slice A n c) n (xs.map (Value.int .i64))) (hr2 : Rd w b 1 (.slice A2 n2 c2) n2 (ys.map (Value.int .i64))) :
 Calls Tryz.prog 108 #[.slice A n c, .slice A2 n2 c2] w fun e w' => e = .returned (.int .i64 (cmpLI xs ys)) ∧ w = w' := by
 obtain ⟨A', c', e1, e2, e3, e4, e5, e6⟩ := hr
 injection e1 with ea eb ec
 subst ea ec
 obtain ⟨B', d', q1, q2, q3, q4, q5, q6⟩ := hr2
 injection q1 with qa qb qc
 subst qa qc
 unfold maxLen at e3 q3
 have HL := Lib.hid (show xs.length = n by simpa using e4)
 have HL2 := Lib.hid (show ys.length = n2 by simpa using q4)
 have HC := Lib.hid e6
 have HC2 := Lib.hid q6
 have HI := Lib.hid (fun x y W => cmpInt_calls x y W)
 have H0 : Hid (cmpLI xs ys = cmpLI (xs.drop 0) (ys.drop 0)) := Lib.hid rfl
 clear e4 e5 e6 q4 q5 q6
 go_enter Tryz.func108, Tryz.ntmps108
 go_wp2_with fail
 go_loop [11] (fun i => ∃ k : Nat, k ≤ n ∧ k ≤ n2 ∧ i = .int .i64 k ∧ Hid (cmpLI xs ys = cmpLI (xs.drop k) (ys.drop k))) (fun i => n - (intOf i).toNat)
 case atStart => exact ⟨0, Nat.zero_le _, Nat.zero_le _, rfl, H0⟩
 case round =>
  clear H0
  obtain ⟨k, hk, hk2, rfl, HF⟩ := hrel
  by_cases hlt : k < n
  · have hkr : k < xs.length := by rw [HL.out]; exact hlt
    obtain ⟨g, o, hA, _, hcs⟩ := HC.out (by omega)
    subst hA
    have c0 := hcs k _ (by rw [List.getElem?_map, List.getElem?_eq_getElem hkr]; rfl)
    clear hcs
    by_cases hlt2 : k < n2
    · have hkr2 : k < ys.length := by rw [HL2.out]; exact hlt2
      obtain ⟨g2, o2, hA2, _, hcs2⟩ := HC2.out (by omega)
      subst hA2
      have d0 := hcs2 k _ (by rw [List.getElem?_map, List.getElem?_eq_getElem hkr2]; rfl)
      clear hcs2
      have hst := HF.out.trans (cmpLI_step hkr hkr2)
      obtain ⟨x, hx⟩ : ∃ z, xs[k] = z := ⟨_, rfl⟩
      obtain ⟨y, hy⟩ : ∃ z, ys[k] = z := ⟨_, rfl⟩
      rw [hx] at c0 hst
      rw [hy] at d0 hst
      obtain ⟨C, hC⟩ : ∃ C, cmpI x y = C := ⟨_, rfl⟩
      have HK := Lib.hid (HI.out x y w)
      rw [hC] at hst HK
      have hkl : ¬ n2 ≤ k := by omega
      have hk0 : (0 : Int) ≤ (k : Int) := by omega
      have hk1 : (k : Int) < (n : Int) := by omega
      have hk3 : (k : Int) < (n2 : Int) := by omega
      clear hx hy hC
      by_cases h0 : C = 0
      · subst h0
        have HS := Lib.hid (hst.trans (if_pos rfl))
        clear hst
        go_wp2_with fail
        refine HK.out.mono ?_
        rintro e w1 ⟨rfl, rfl⟩
        go_wp2_with fail
        go_round
        case rel => exact ⟨k + 1, by omega, by omega, by go_num, HS⟩
        case measure => simp [intOf]; omega
      · have HS := Lib.hid (hst.trans (if_neg h0))
        have hne : (C != 0) = true := by rw [bne_iff_ne]; exact h0
        clear hst h0
        go_wp2_with fail
        refine HK.out.mono ?_
        rintro e w1 ⟨rfl, rfl⟩
        go_wp2_with fail
        go_ret
        exact ⟨ret_int HS.out.symm, rfl⟩
    · have hkl : n2 ≤ k := by omega
      have HS : Hid (cmpLI xs ys = 1) := Lib.hid (by
       have e : ys.drop k = [] := List.drop_of_length_le (by rw [HL2.out]; omega)
       rw [HF.out, e, List.drop_eq_getElem_cons hkr]
       rfl)
      have hk0 : (0 : Int) ≤ (k : Int) := by omega
      have hk1 : (k : Int) < (n : Int) := by omega
      go_wp2_with fail
      go_ret
      exact ⟨ret_int HS.out.symm, rfl⟩
  · obtain rfl : k = n := by omega
    by_cases hlt2 : k < n2
    · have HS : Hid (cmpLI xs ys = -1) := Lib.hid (by
       rw [HF.out, List.drop_of_length_le (by rw [HL.out]; exact Nat.le_refl _), List.drop_eq_getElem_cons (by rw [HL2.out]; exact hlt2)]
       rfl)
      go_wp2_with fail
      go_ret
      exact ⟨ret_int HS.out.symm, rfl⟩
    · have hkl : ¬ k < n2 := hlt2
      have HS : Hid (cmpLI xs ys = 0) := Lib.hid (by
       rw [HF.out, List.drop_of_length_le (by rw [HL.out]; exact Nat.le_refl _), List.drop_of_length_le (by rw [HL2.out]; omega)]
       rfl)
      go_wp2_with fail
      go_ret
      exact ⟨ret_int HS.out.symm, rfl⟩
end Go.Proofs.YtapgnaimbgjcnaaGreatDoor
/-
  The order of events, and what is wrong with a list of them: board.byMoment, board.CheckEvents by contracts. (Printed by gen_ev2.py.)
-/
namespace Go.Proofs.YtapgnaimbgjcnaaGreatDoor
open Go Go.RowKit
theorem orL_calls (l : List Int) (E : Int) (n : Nat) (hl : l.length = n) (hE : firstE l = E) (hn : n ≤ 10) (W : World) (g : Nat) (hB : Blk W g 3 (l.map (Value.int .i64)).toArray) : Calls Tryz.prog 115 #[.slice (some ⟨g, 0, none⟩) n n] W (fun e w' => e = .returned (.int .i64 E) ∧ Below W.heap.size W w') := by
 subst hl hE
 have hr := blkRd 1 l.length hB (Nat.ne_of_lt (Nat.lt_succ_self g)) (by unfold maxLen; omega) (by simp)
 have h := orN_calls (g + 1) _ l.length l.length l W (by simpa using hr)
 refine h.mono ?_
 rintro e w' ⟨he, nq, rfl⟩
 exact ⟨he, below_drewN (Below.refl _ _) nq⟩
set_option maxRecDepth 100000 in
set_option maxHeartbeats 4000000 in
theorem byMoment_calls (a1 k1 t1 d1 a2 k2 t2 d2 : Int) (i1 w1 b1 c1 i2 w2 b2 c2 : ByteArray) (w : World) :
 Calls Tryz.prog 135 #[.agg #[.int .i64 a1, .int .i64 k1, .string i1, .string w1, .string b1, .string c1, .int .i64 t1, .int .i64 d1], .agg #[.int .i64 a2, .int .i64 k2, .string i2, .string w2, .string b2, .string c2, .int .i64 t2, .int .i64 d2]] w (BRet (.int .i64 (ordBev ⟨a1, k1, i1, w1, b1, c1, t1, d1⟩ ⟨a2, k2, i2, w2, b2, c2, t2, d2⟩)) w) := by
 have hS := ((Sq.start w).add #[.int .i64 a1, .int .i64 k1, .string i1, .string w1, .string b1, .string c1, .int .i64 t1, .int .i64 d1] 78).add #[.int .i64 a2, .int .i64 k2, .string i2, .string w2, .string b2, .string c2, .int .i64 t2, .int .i64 d2] 78
 have H1 := Lib.hid (fun W => cmpInt_calls a1 a2 W)
 have H2 := Lib.hid (fun W => cmpInt_calls k1 k2 W)
 have H3 := Lib.hid (fun W => strCmp_calls i1 i2 W)
 have H4 := Lib.hid (fun W => strCmp_calls w1 w2 W)
 have H5 := Lib.hid (fun W => strCmp_calls b1 b2 W)
 have HO := Lib.hid (fun W g h => orL_calls [cmpI a1 a2, cmpI k1 k2, cmpS i1 i2, cmpS w1 w2, cmpS b1 b2] (ordBev ⟨a1, k1, i1, w1, b1, c1, t1, d1⟩ ⟨a2, k2, i2, w2, b2, c2, t2, d2⟩) 5 rfl rfl (by omega) W g h)
 obtain ⟨O, hO⟩ : ∃ z, ordBev ⟨a1, k1, i1, w1, b1, c1, t1, d1⟩ ⟨a2, k2, i2, w2, b2, c2, t2, d2⟩ = z := ⟨_, rfl⟩
 rw [hO] at HO ⊢
 obtain ⟨x1, hx1⟩ : ∃ z, cmpI a1 a2 = z := ⟨_, rfl⟩
 obtain ⟨x2, hx2⟩ : ∃ z, cmpI k1 k2 = z := ⟨_, rfl⟩
 obtain ⟨x3, hx3⟩ : ∃ z, cmpS i1 i2 = z := ⟨_, rfl⟩
 obtain ⟨x4, hx4⟩ : ∃ z, cmpS w1 w2 = z := ⟨_, rfl⟩
 obtain ⟨x5, hx5⟩ : ∃ z, cmpS b1 b2 = z := ⟨_, rfl⟩
 rw [hx1] at H1
 rw [hx2] at H2
 rw [hx3] at H3
 rw [hx4] at H4
 rw [hx5] at H5
 rw [hx1, hx2, hx3, hx4, hx5] at HO
 simp only [List.map_cons, List.map_nil] at HO
 rw [World.size_alloc] at hS
 obtain ⟨W0, hW0⟩ : ∃ W0, (w.alloc (.cells #[.int .i64 a1, .int .i64 k1, .string i1, .string w1, .string b1, .string c1, .int .i64 t1, .int .i64 d1] 78)).alloc (.cells #[.int .i64 a2, .int .i64 k2, .string i2, .string w2, .string b2, .string c2, .int .i64 t2, .int .i64 d2] 78) = W0 := ⟨_, rfl⟩
 have HW0 := Lib.hid hW0
 rw [hW0] at hS
 have hb1 : Blk W0 w.heap.size _ _ := hS.nth 1 rfl
 have hb2 : Blk W0 (w.heap.size + 1) _ _ := hS.head
 have HB := Lib.hid hS.below
 have HC : Hid (∀ V, Below W0.heap.size W0 V → V.cell? ⟨w.heap.size, 0, none⟩ = some (.int .i64 a1) ∧ V.cell? ⟨w.heap.size, 1, none⟩ = some (.int .i64 k1) ∧ V.cell? ⟨w.heap.size, 2, none⟩ = some (.string i1) ∧ V.cell? ⟨w.heap.size, 3, none⟩ = some (.string w1) ∧ V.cell? ⟨w.heap.size, 4, none⟩ = some (.string b1) ∧ V.cell? ⟨w.heap.size + 1, 0, none⟩ = some (.int .i64 a2) ∧ V.cell? ⟨w.heap.size + 1, 1, none⟩ = some (.int .i64 k2) ∧ V.cell? ⟨w.heap.size + 1, 2, none⟩ = some (.string i2) ∧ V.cell? ⟨w.heap.size + 1, 3, none⟩ = some (.string w2) ∧ V.cell? ⟨w.heap.size + 1, 4, none⟩ = some (.string b2)) := Lib.hid (fun V h => by
  have g1 := hb1.below h
  have g2 := hb2.below h
  exact ⟨g1.cell 0, g1.cell 1, g1.cell 2, g1.cell 3, g1.cell 4, g2.cell 0, g2.cell 1, g2.cell 2, g2.cell 3, g2.cell 4⟩)
 have S0 : Below W0.heap.size W0 W0 := Below.refl _ _
 have S1 : Below W0.heap.size W0 W0.drew := below_drewN S0 1
 have HAL : Hid (∀ W o, Below W0.heap.size W0 W → Below W0.heap.size W0 (W.alloc o)) := Lib.hid (fun W o h => h.alloc h.size o)
 have HBO : Blk (W0.alloc (.cells #[.int .i64 x1, .int .i64 x2, .int .i64 x3, .int .i64 x4, .int .i64 x5] 3)).drew W0.heap.size 3 #[.int .i64 x1, .int .i64 x2, .int .i64 x3, .int .i64 x4, .int .i64 x5] := Blk.new W0 _ _
 have SA : Below W0.heap.size W0 (W0.alloc (.cells #[.int .i64 x1, .int .i64 x2, .int .i64 x3, .int .i64 x4, .int .i64 x5] 3)).drew := below_drewN ((Below.refl _ _).alloc (Nat.le_refl _) _) 1
 have HO2 := Lib.hid ((HO.out _ _ HBO).mono (fun e w' h2 => (⟨h2.1, below_call SA h2.2 (Nat.le_refl _)⟩ : e = .returned (.int .i64 O) ∧ Below W0.heap.size W0 w')))
 clear HBO
 clear hO hx1 hx2 hx3 hx4 hx5 hb1 hb2 hS hW0 HO
 go_enter Tryz.func135, Tryz.ntmps135
 go_upto_region 1 with (fail)
 rw [HW0.out]
 obtain ⟨k0, k1', k2', k3, k4, k5, k6, k7, k8, k9⟩ := HC.out _ S0
 go_region_held3 (fun V => V.cell? ⟨w.heap.size, 0, none⟩ = some (.int .i64 a1) ∧ V.cell? ⟨w.heap.size, 1, none⟩ = some (.int .i64 k1) ∧ V.cell? ⟨w.heap.size, 2, none⟩ = some (.string i1) ∧ V.cell? ⟨w.heap.size, 3, none⟩ = some (.string w1) ∧ V.cell? ⟨w.heap.size, 4, none⟩ = some (.string b1) ∧ V.cell? ⟨w.heap.size + 1, 0, none⟩ = some (.int .i64 a2) ∧ V.cell? ⟨w.heap.size + 1, 1, none⟩ = some (.int .i64 k2) ∧ V.cell? ⟨w.heap.size + 1, 2, none⟩ = some (.string i2) ∧ V.cell? ⟨w.heap.size + 1, 3, none⟩ = some (.string w2) ∧ V.cell? ⟨w.heap.size + 1, 4, none⟩ = some (.string b2))
  (first | with_reducible exact HC.out _ S1 | with_reducible exact HC.out _ SA | exact HC.out _ SA | with_reducible exact HC.out _ S9)
  (first
   | (go_at_call 62; ((with_reducible refine (H1.out _).mono ?_); rintro e w4 ⟨rfl, rfl⟩))
   | (go_at_call 62; ((with_reducible refine (H2.out _).mono ?_); rintro e w4 ⟨rfl, rfl⟩))
   | (go_at_call 92; ((with_reducible refine (H3.out _).mono ?_); rintro e w5 ⟨rfl, rfl⟩))
   | (go_at_call 92; ((with_reducible refine (H4.out _).mono ?_); rintro e w5 ⟨rfl, rfl⟩))
   | (go_at_call 92; ((with_reducible refine (H5.out _).mono ?_); rintro e w5 ⟨rfl, rfl⟩))
   | (go_at_call 115; ((with_reducible refine HO2.out.mono ?_); rintro e w9 ⟨rfl, S9⟩)))
 all_goals
  go_wp2_with fail
  go_ret
  exact ⟨rfl, below_call HB.out S9 (Nat.le_refl _)⟩
end Go.Proofs.YtapgnaimbgjcnaaGreatDoor
/-
  The order of events, as the reference says it: cmp.Compare and slices.Compare of strings, splitref2.EventOrder by contracts. (Printed by gen_ev4.py.)
-/
namespace Go.Proofs.YtapgnaimbgjcnaaGreatDoor
open Go Go.RowKit
theorem cmpL_val : ∀ a b : List UInt8, Lib.compareBytes a b = if Op.bytesLess a b = true then -1 else if Op.bytesLess b a = true then 1 else 0
 | [], [] => rfl
 | [], _ :: _ => rfl
 | _ :: _, [] => rfl
 | a :: p, b :: q => by
   have ih := cmpL_val p q
   unfold Lib.compareBytes Op.bytesLess
   by_cases h1 : a < b
   · have h2 : ¬ b < a := fun h2 => UInt8.lt_irrefl _ (UInt8.lt_trans h1 h2)
     simp [h1]
   · by_cases h2 : b < a
     · have hne : ¬ a = b := fun e => by subst e; exact h1 h2
       simp [h1, h2, hne]
     · have he : a = b := UInt8.le_antisymm (UInt8.not_lt.1 h2) (UInt8.not_lt.1 h1)
       subst he
       rw [if_neg h1, if_neg h1, ih]
       simp [h1]
theorem bl_tri3 (a b : ByteArray) : (Op.bytesLess a.toList b.toList = true ∧ (a.toList == b.toList) = false ∧ Op.bytesLess b.toList a.toList = false) ∨
 (Op.bytesLess a.toList b.toList = false ∧ (a.toList == b.toList) = true ∧ Op.bytesLess b.toList a.toList = false) ∨
 (Op.bytesLess a.toList b.toList = false ∧ (a.toList == b.toList) = false ∧ Op.bytesLess b.toList a.toList = true) := by
 simp only [bytesLess_eq, decide_eq_true_eq, decide_eq_false_iff_not, beq_eq_false_iff_ne, beq_iff_eq]
 by_cases h : a.toList = b.toList
 · rw [h]
   exact .inr (.inl ⟨List.lt_irrefl _, rfl, List.lt_irrefl _⟩)
 · by_cases h1 : a.toList < b.toList
   · exact .inl ⟨h1, h, fun h2 => List.lt_irrefl _ (List.lt_trans h1 h2)⟩
   · exact .inr (.inr ⟨h1, h, Decidable.byContradiction fun h2 => h (List.le_antisymm (List.not_lt.1 h2) (List.not_lt.1 h1))⟩)
theorem cmpS_val (a b : ByteArray) : cmpS a b = if Op.bytesLess a.toList b.toList = true then -1 else if Op.bytesLess b.toList a.toList = true then 1 else 0 := by
 unfold cmpS
 rw [cmpL_val, Lib.toList_data, Lib.toList_data]
set_option maxRecDepth 100000 in
theorem isNaNS_calls (x : ByteArray) (w : World) : Calls Tryz.prog 205 #[.string x] w fun e w' => e = .returned (.bool false) ∧ w = w' := by
 go_enter Tryz.func205, Tryz.ntmps205
 go_wp2_with fail
 go_ret
 exact ⟨ret_bool (by simp), rfl⟩
set_option maxRecDepth 100000 in
theorem cmpStrG_calls (x y : ByteArray) (w : World) : Calls Tryz.prog 157 #[.string x, .string y] w fun e w' => e = .returned (.int .i64 (cmpS x y)) ∧ w = w' := by
 have hv := cmpS_val x y
 obtain ⟨C, hC⟩ : ∃ z, cmpS x y = z := ⟨_, rfl⟩
 rw [hC] at hv ⊢
 clear hC
 rcases bl_tri3 x y with ⟨h1, h2, h3⟩ | ⟨h1, h2, h3⟩ | ⟨h1, h2, h3⟩
 all_goals
  rw [h1, h3] at hv
  have HS := Lib.hid hv
  clear hv
  go_enter Tryz.func157, Tryz.ntmps157
  go_wp2_with fail
  refine (isNaNS_calls _ _).mono ?_
  rintro e w1 ⟨rfl, rfl⟩
  go_wp2_with fail
  refine (isNaNS_calls _ _).mono ?_
  rintro e w1 ⟨rfl, rfl⟩
  go_wp2_with fail
  go_ret
  exact ⟨by rw [HS.out]; rfl, rfl⟩
def cmpLS : List ByteArray → List ByteArray → Int
 | [], [] => 0
 | [], _ :: _ => -1
 | _ :: _, [] => 1
 | a :: p, b :: q => if cmpS a b = 0 then cmpLS p q else cmpS a b
theorem cmpLS_step {xs ys : List ByteArray} {k : Nat} (hk : k < xs.length) (hk2 : k < ys.length) : cmpLS (xs.drop k) (ys.drop k) = if cmpS xs[k] ys[k] = 0 then cmpLS (xs.drop (k + 1)) (ys.drop (k + 1)) else cmpS xs[k] ys[k] := by
 rw [List.drop_eq_getElem_cons hk, List.drop_eq_getElem_cons hk2, cmpLS]
set_option maxRecDepth 100000 in
theorem compareS_calls (b : Nat) (A A2 : Option Addr) (n c n2 c2 : Nat) (xs ys : List ByteArray) (w : World) (hr : Rd w b 1 (.slice A n c) n (xs.map (Value.string))) (hr2 : Rd w b 1 (.slice A2 n2 c2) n2 (ys.map (Value.string))) :
 Calls Tryz.prog 109 #[.slice A n c, .slice A2 n2 c2] w fun e w' => e = .returned (.int .i64 (cmpLS xs ys)) ∧ w = w' := by
 obtain ⟨A', c', e1, e2, e3, e4, e5, e6⟩ := hr
 injection e1 with ea eb ec
 subst ea ec
 obtain ⟨B', d', q1, q2, q3, q4, q5, q6⟩ := hr2
 injection q1 with qa qb qc
 subst qa qc
 unfold maxLen at e3 q3
 have HL := Lib.hid (show xs.length = n by simpa using e4)
 have HL2 := Lib.hid (show ys.length = n2 by simpa using q4)
 have HC := Lib.hid e6
 have HC2 := Lib.hid q6
 have HI := Lib.hid (fun x y W => cmpStrG_calls x y W)
 have H0 : Hid (cmpLS xs ys = cmpLS (xs.drop 0) (ys.drop 0)) := Lib.hid rfl
 clear e4 e5 e6 q4 q5 q6
 go_enter Tryz.func109, Tryz.ntmps109
 go_wp2_with fail
 go_loop [11] (fun i => ∃ k : Nat, k ≤ n ∧ k ≤ n2 ∧ i = .int .i64 k ∧ Hid (cmpLS xs ys = cmpLS (xs.drop k) (ys.drop k))) (fun i => n - (intOf i).toNat)
 case atStart => exact ⟨0, Nat.zero_le _, Nat.zero_le _, rfl, H0⟩
 case round =>
  clear H0
  obtain ⟨k, hk, hk2, rfl, HF⟩ := hrel
  by_cases hlt : k < n
  · have hkr : k < xs.length := by rw [HL.out]; exact hlt
    obtain ⟨g, o, hA, _, hcs⟩ := HC.out (by omega)
    subst hA
    have c0 := hcs k _ (by rw [List.getElem?_map, List.getElem?_eq_getElem hkr]; rfl)
    clear hcs
    by_cases hlt2 : k < n2
    · have hkr2 : k < ys.length := by rw [HL2.out]; exact hlt2
      obtain ⟨g2, o2, hA2, _, hcs2⟩ := HC2.out (by omega)
      subst hA2
      have d0 := hcs2 k _ (by rw [List.getElem?_map, List.getElem?_eq_getElem hkr2]; rfl)
      clear hcs2
      have hst := HF.out.trans (cmpLS_step hkr hkr2)
      obtain ⟨x, hx⟩ : ∃ z, xs[k] = z := ⟨_, rfl⟩
      obtain ⟨y, hy⟩ : ∃ z, ys[k] = z := ⟨_, rfl⟩
      rw [hx] at c0 hst
      rw [hy] at d0 hst
      obtain ⟨C, hC⟩ : ∃ C, cmpS x y = C := ⟨_, rfl⟩
      have HK := Lib.hid (HI.out x y w)
      rw [hC] at hst HK
      have hkl : ¬ n2 ≤ k := by omega
      have hk0 : (0 : Int) ≤ (k : Int) := by omega
      have hk1 : (k : Int) < (n : Int) := by omega
      have hk3 : (k : Int) < (n2 : Int) := by omega
      clear hx hy hC
      by_cases h0 : C = 0
      · subst h0
        have HS := Lib.hid (hst.trans (if_pos rfl))
        clear hst
        go_wp2_with fail
        refine HK.out.mono ?_
        rintro e w1 ⟨rfl, rfl⟩
        go_wp2_with fail
        go_round
        case rel => exact ⟨k + 1, by omega, by omega, by go_num, HS⟩
        case measure => simp [intOf]; omega
      · have HS := Lib.hid (hst.trans (if_neg h0))
        have hne : (C != 0) = true := by rw [bne_iff_ne]; exact h0
        clear hst h0
        go_wp2_with fail
        refine HK.out.mono ?_
        rintro e w1 ⟨rfl, rfl⟩
        go_wp2_with fail
        go_ret
        exact ⟨ret_int HS.out.symm, rfl⟩
    · have hkl : n2 ≤ k := by omega
      have HS : Hid (cmpLS xs ys = 1) := Lib.hid (by
       have e : ys.drop k = [] := List.drop_of_length_le (by rw [HL2.out]; omega)
       rw [HF.out, e, List.drop_eq_getElem_cons hkr]
       rfl)
      have hk0 : (0 : Int) ≤ (k : Int) := by omega
      have hk1 : (k : Int) < (n : Int) := by omega
      go_wp2_with fail
      go_ret
      exact ⟨ret_int HS.out.symm, rfl⟩
  · obtain rfl : k = n := by omega
    by_cases hlt2 : k < n2
    · have HS : Hid (cmpLS xs ys = -1) := Lib.hid (by
       rw [HF.out, List.drop_of_length_le (by rw [HL.out]; exact Nat.le_refl _), List.drop_eq_getElem_cons (by rw [HL2.out]; exact hlt2)]
       rfl)
      go_wp2_with fail
      go_ret
      exact ⟨ret_int HS.out.symm, rfl⟩
    · have hkl : ¬ k < n2 := hlt2
      have HS : Hid (cmpLS xs ys = 0) := Lib.hid (by
       rw [HF.out, List.drop_of_length_le (by rw [HL.out]; exact Nat.le_refl _), List.drop_of_length_le (by rw [HL2.out]; omega)]
       rfl)
      go_wp2_with fail
      go_ret
      exact ⟨ret_int HS.out.symm, rfl⟩
theorem ordBev_ref (x y : Bev) : (if cmpLI [x.at_, x.kind] [y.at_, y.kind] = 0 then cmpLS [x.id, x.who, x.by_] [y.id, y.who, y.by_] else cmpLI [x.at_, x.kind] [y.at_, y.kind]) = ordBev x y := by
 unfold ordBev
 simp only [cmpLI, cmpLS, firstE]
 by_cases h1 : cmpI x.at_ y.at_ = 0
 · by_cases h2 : cmpI x.kind y.kind = 0
   · simp only [h1, h2, if_true]
   · simp only [h1, if_true, h2, if_false]
 · simp only [h1, if_false]
set_option maxRecDepth 100000 in
set_option maxHeartbeats 4000000 in
theorem eventOrder_calls (a1 k1 t1 d1 a2 k2 t2 d2 : Int) (i1 w1 b1 c1 i2 w2 b2 c2 : ByteArray) (w : World) :
 Calls Tryz.prog 53 #[.agg #[.int .i64 a1, .int .i64 k1, .string i1, .string w1, .string b1, .string c1, .int .i64 t1, .int .i64 d1], .agg #[.int .i64 a2, .int .i64 k2, .string i2, .string w2, .string b2, .string c2, .int .i64 t2, .int .i64 d2]] w (BRet (.int .i64 (ordBev ⟨a1, k1, i1, w1, b1, c1, t1, d1⟩ ⟨a2, k2, i2, w2, b2, c2, t2, d2⟩)) w) := by
 have hS := ((Sq.start w).add #[.int .i64 a1, .int .i64 k1, .string i1, .string w1, .string b1, .string c1, .int .i64 t1, .int .i64 d1] 78).add #[.int .i64 a2, .int .i64 k2, .string i2, .string w2, .string b2, .string c2, .int .i64 t2, .int .i64 d2] 78
 have HE := ordBev_ref ⟨a1, k1, i1, w1, b1, c1, t1, d1⟩ ⟨a2, k2, i2, w2, b2, c2, t2, d2⟩
 simp only at HE
 rw [World.size_alloc] at hS
 obtain ⟨W0, hW0⟩ : ∃ W0, (w.alloc (.cells #[.int .i64 a1, .int .i64 k1, .string i1, .string w1, .string b1, .string c1, .int .i64 t1, .int .i64 d1] 78)).alloc (.cells #[.int .i64 a2, .int .i64 k2, .string i2, .string w2, .string b2, .string c2, .int .i64 t2, .int .i64 d2] 78) = W0 := ⟨_, rfl⟩
 have HW0 := Lib.hid hW0
 rw [hW0] at hS
 have hb1 : Blk W0 w.heap.size _ _ := hS.nth 1 rfl
 have hb2 : Blk W0 (w.heap.size + 1) _ _ := hS.head
 have HB := Lib.hid hS.below
 have k0 := hb1.cell 0
 have k1' := hb1.cell 1
 have BA1 : Below W0.heap.size W0 (W0.alloc (.cells #[.int .i64 a1, .int .i64 k1] 3)) := (Below.refl _ _).alloc (Nat.le_refl _) _
 have l0 := (hb2.below BA1).cell 0
 have l1 := (hb2.below BA1).cell 1
 obtain ⟨WA, hWA⟩ : ∃ z, (W0.alloc (.cells #[.int .i64 a1, .int .i64 k1] 3)).alloc (.cells #[.int .i64 a2, .int .i64 k2] 3) = z := ⟨_, rfl⟩
 have hT := ((Sq.start W0).add #[.int .i64 a1, .int .i64 k1] 3).add #[.int .i64 a2, .int .i64 k2] 3
 rw [World.size_alloc] at hT
 rw [hWA] at hT
 have HWA := Lib.hid hWA
 have hr1 := blkRd (b := W0.heap.size + 5) 1 2 (show Blk WA W0.heap.size _ _ from hT.nth 1 rfl) (by omega) (by unfold maxLen; omega) rfl
 have hr2 := blkRd (b := W0.heap.size + 5) 1 2 (show Blk WA (W0.heap.size + 1) _ _ from hT.head) (by omega) (by unfold maxLen; omega) rfl
 have HCI := Lib.hid (compareI_calls (W0.heap.size + 5) _ _ 2 2 2 2 [a1, k1] [a2, k2] WA hr1 hr2)
 have HBA := Lib.hid hT.below
 have HC : Hid (∀ V, Below W0.heap.size W0 V → V.cell? ⟨w.heap.size, 2, none⟩ = some (.string i1) ∧ V.cell? ⟨w.heap.size, 3, none⟩ = some (.string w1) ∧ V.cell? ⟨w.heap.size, 4, none⟩ = some (.string b1) ∧ V.cell? ⟨w.heap.size + 1, 2, none⟩ = some (.string i2) ∧ V.cell? ⟨w.heap.size + 1, 3, none⟩ = some (.string w2) ∧ V.cell? ⟨w.heap.size + 1, 4, none⟩ = some (.string b2)) := Lib.hid (fun V h => by
  have g1 := hb1.below h
  have g2 := hb2.below h
  exact ⟨g1.cell 2, g1.cell 3, g1.cell 4, g2.cell 2, g2.cell 3, g2.cell 4⟩)
 have HCS : Hid (Calls Tryz.prog 109 #[.slice (some ⟨WA.heap.size, 0, none⟩) 3 3, .slice (some ⟨WA.heap.size + 1, 0, none⟩) 3 3] ((WA.alloc (.cells #[.string i1, .string w1, .string b1] 9)).alloc (.cells #[.string i2, .string w2, .string b2] 9)) fun e w' => e = .returned (.int .i64 (cmpLS [i1, w1, b1] [i2, w2, b2])) ∧ Below WA.heap.size WA w') := Lib.hid (by
  have hU := ((Sq.start WA).add #[.string i1, .string w1, .string b1] 9).add #[.string i2, .string w2, .string b2] 9
  rw [World.size_alloc] at hU
  have hr1 := blkRd (b := WA.heap.size + 5) 1 3 (show Blk _ WA.heap.size _ _ from hU.nth 1 rfl) (by omega) (by unfold maxLen; omega) rfl
  have hr2 := blkRd (b := WA.heap.size + 5) 1 3 (show Blk _ (WA.heap.size + 1) _ _ from hU.head) (by omega) (by unfold maxLen; omega) rfl
  refine (compareS_calls (WA.heap.size + 5) _ _ 3 3 3 3 [i1, w1, b1] [i2, w2, b2] _ hr1 hr2).mono ?_
  rintro e w' ⟨he, rfl⟩
  exact ⟨he, hU.below⟩)
 obtain ⟨O, hO⟩ : ∃ z, ordBev ⟨a1, k1, i1, w1, b1, c1, t1, d1⟩ ⟨a2, k2, i2, w2, b2, c2, t2, d2⟩ = z := ⟨_, rfl⟩
 rw [hO] at HE ⊢
 obtain ⟨L1, hL1⟩ : ∃ z, cmpLI [a1, k1] [a2, k2] = z := ⟨_, rfl⟩
 obtain ⟨L2, hL2⟩ : ∃ z, cmpLS [i1, w1, b1] [i2, w2, b2] = z := ⟨_, rfl⟩
 rw [hL1] at HE HCI
 rw [hL2] at HE HCS
 clear BA1 hO hL1 hL2 hr1 hr2 hT hWA hW0 hb1 hb2 hS
 by_cases h0 : L1 = 0
 · rw [if_pos h0] at HE
   subst h0 HE
   go_enter Tryz.func53, Tryz.ntmps53
   go_upto_region 1 with (fail)
   rw [HW0.out]
   go_wp2_with fail
   rw [HWA.out]
   refine HCI.out.mono ?_
   rintro e w5 ⟨rfl, hw5⟩
   subst hw5
   obtain ⟨m0, m1, m2, _, _, _⟩ := HC.out _ HBA.out
   have BA2 : Below WA.heap.size WA (WA.alloc (.cells #[.string i1, .string w1, .string b1] 9)) := (Below.refl _ _).alloc (Nat.le_refl _) _
   obtain ⟨_, _, _, m3, m4, m5⟩ := HC.out _ (below_call HBA.out BA2 (Nat.le_refl _))
   clear k0 k1' l0 l1
   go_wp2_with fail
   refine HCS.out.mono ?_
   rintro e w6 ⟨rfl, hb6⟩
   go_wp2_with fail
   go_ret
   exact ⟨rfl, below_call (below_call HB.out HBA.out (Nat.le_refl _)) hb6 (Nat.le_refl _)⟩
 · rw [if_neg h0] at HE
   subst HE
   have hne : (L1 != 0) = true := by rw [bne_iff_ne]; exact h0
   clear h0
   go_enter Tryz.func53, Tryz.ntmps53
   go_upto_region 1 with (fail)
   rw [HW0.out]
   go_wp2_with fail
   rw [HWA.out]
   refine HCI.out.mono ?_
   rintro e w5 ⟨rfl, rfl⟩
   go_wp2_with fail
   go_ret
   exact ⟨rfl, below_call HB.out HBA.out (Nat.le_refl _)⟩
end Go.Proofs.YtapgnaimbgjcnaaGreatDoor
