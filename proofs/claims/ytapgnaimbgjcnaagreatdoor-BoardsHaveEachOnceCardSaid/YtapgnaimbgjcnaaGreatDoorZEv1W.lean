/-
  What is wrong with an event: board.eventFault by a contract. (Printed by gen_ev1.py.)
-/
import Derived.Test.YtapgnaimbgjcnaaGreatDoorZEv1A
import Derived.Test.YtapgnaimbgjcnaaGreatDoorZEv1B
import Derived.Test.YtapgnaimbgjcnaaGreatDoorZEv1C
import Derived.Test.YtapgnaimbgjcnaaGreatDoorZEv1D
import Derived.Test.YtapgnaimbgjcnaaGreatDoorZTk
import Derived.Test.YtapgnaimbgjcnaaGreatDoorZBid3
import Derived.Test.YtapgnaimbgjcnaaGreatDoorZSlot1
import Derived.Deep.RegionHeld
import Derived.Test.YtapgnaimbgjcnaaGreatDoorZSlot3
import Derived.Deep.DeepCutAuto
namespace Go.Proofs.YtapgnaimbgjcnaaGreatDoor
open Go Go.RowKit
set_option maxRecDepth 100000 in
set_option maxHeartbeats 4000000 in
theorem eventFault_calls (at_ kd : Int) (id who by_ cat : ByteArray) (ti da : Int) (w : World) (hx : BevW ⟨at_, kd, id, who, by_, cat, ti, da⟩) :
 Calls Tryz.prog 134 #[.agg #[.int .i64 at_, .int .i64 kd, .string id, .string who, .string by_, .string cat, .int .i64 ti, .int .i64 da]] w (BRet (.int .i64 (bevF ⟨at_, kd, id, who, by_, cat, ti, da⟩)) w) := by
 have HMO := Lib.hid (fun W => moment_calls at_ W)
 have HOU := Lib.hid (fun W => out_calls kd 1 6 W)
 have hS := (Sq.start w).add #[.int .i64 at_, .int .i64 kd, .string id, .string who, .string by_, .string cat, .int .i64 ti, .int .i64 da] 78
 have hk0 : Blk _ w.heap.size _ _ := hS.head
 have HB := Lib.hid hS.below
 by_cases ha : momB at_ = true
 · by_cases ho : outB kd 1 6 = true
   · have hE : bevF ⟨at_, kd, id, who, by_, cat, ti, da⟩ = 4 := by unfold bevF; rw [if_pos ha, if_pos ho]
     rw [hE]
     rw [ha] at HMO
     rw [ho] at HOU
     have c0 := hk0.cell 0
     have c1 := hk0.cell 1
     clear hE ha ho hS hk0 hx
     go_enter Tryz.func134, Tryz.ntmps134
     go_wp2_with (first | (go_at_call 105; refine (HMO.out _).mono ?_; rintro e w1 ⟨rfl, rfl⟩) | (go_at_call 104; refine (HOU.out _).mono ?_; rintro e w2 ⟨rfl, rfl⟩))
     go_ret
     exact ⟨rfl, HB.out⟩
   · have ho : outB kd 1 6 = false := by simpa using ho
     have hb := of_outB ho
     clear HMO HOU hS hk0 HB
     rcases (show kd = 1 ∨ kd = 2 ∨ kd = 3 ∨ kd = 4 ∨ kd = 5 ∨ kd = 6 by omega) with rfl | rfl | rfl | rfl | rfl | rfl
     · exact bbevF1_calls at_ id who by_ cat ti da w hx ha
     · exact bbevF2_calls at_ id who by_ cat ti da w hx ha
     · exact bbevF3_calls at_ id who by_ cat ti da w hx ha
     · exact bbevF4_calls at_ id who by_ cat ti da w hx ha
     · exact bbevF5_calls at_ id who by_ cat ti da w hx ha
     · exact bbevF6_calls at_ id who by_ cat ti da w hx ha
 · have hE : bevF ⟨at_, kd, id, who, by_, cat, ti, da⟩ = 1 := by unfold bevF; rw [if_neg ha]
   rw [hE]
   have ha : momB at_ = false := by simpa using ha
   rw [ha] at HMO
   have c0 := hk0.cell 0
   clear hE ha hS hk0 hx HOU
   go_enter Tryz.func134, Tryz.ntmps134
   go_wp2_with (first | (go_at_call 105; refine (HMO.out _).mono ?_; rintro e w1 ⟨rfl, rfl⟩))
   go_ret
   exact ⟨rfl, HB.out⟩
end Go.Proofs.YtapgnaimbgjcnaaGreatDoor
/-
  What is wrong with events: board.CheckEvents by a contract. (Printed by gen_ev3.py.)
-/
namespace Go.Proofs.YtapgnaimbgjcnaaGreatDoor
open Go Go.RowKit
attribute [local go_sem ↓] Go.wp_at_zero Go.wp_at_succ
set_option maxRecDepth 100000 in
set_option maxHeartbeats 4000000 in
theorem checkEvents_calls (b : Nat) (A : Option Addr) (n c : Nat) (xs : List Bev) (w : World) (hr : Bevs w b A n c xs) :
 Calls Tryz.prog 81 #[.slice A n c] w (BRet (.int .i64 (bevsF xs)) w) := by
 obtain ⟨hl, hnc, hcm, hcells⟩ := hr.rd.cells bevC_len (by omega)
 unfold maxLen at hcm
 have HL := Lib.hid hl
 have HCL := Lib.hid hcells
 have HOK := Lib.hid hr.ok
 by_cases hbig : 2000 < n
 · have hE : bevsF xs = 2 := by unfold bevsF; rw [if_pos (by omega)]
   rw [hE]
   have hgt : (2000 : Int) < (n : Int) := by omega
   clear hcells hl hr hE hbig
   go_enter Tryz.func81, Tryz.ntmps81
   go_wp2_with fail
   go_ret
   exact ⟨rfl, Below.refl _ _⟩
 have hn : n ≤ 2000 := by omega
 have hngt : ¬ (2000 : Int) < (n : Int) := by omega
 have HG0 : Hid (bevsF xs = bevsG (lastBev xs 0) (xs.drop 0)) := Lib.hid (by unfold bevsF; rw [if_neg (by omega)]; rfl)
 have HST := Lib.hid (fun k hk => bevsG_step xs k hk)
 obtain ⟨E, hE⟩ : ∃ z, bevsF xs = z := ⟨_, rfl⟩
 rw [hE] at HG0 ⊢
 clear hcells hl hr hE hbig
 go_enter Tryz.func81, Tryz.ntmps81
 go_wp2_with fail
 go_loopw [11] (fun i wr => ∃ k : Nat, k ≤ n ∧ i = .int .i64 k ∧ Hid (E = bevsG (lastBev xs k) (xs.drop k)) ∧ Below w.heap.size w wr) (fun i _ => n - (intOf i).toNat)
 case atStart => exact ⟨0, Nat.zero_le _, rfl, HG0, Below.refl _ _⟩
 case round =>
  clear HG0
  obtain ⟨k, hk, rfl, HG, hbr⟩ := hrel
  by_cases hlt : k < n
  · have hkr : k < xs.length := by rw [HL.out]; exact hlt
    obtain ⟨g, o, hA, _, hcs⟩ := HCL.out (by omega)
    subst hA
    have hst := HG.out.trans (HST.out k hkr)
    have hk0 : (0 : Int) ≤ (k : Int) := by omega
    have hkn : (k : Int) < (n : Int) := by omega
    have hx := HOK.out _ (List.getElem_mem hkr)
    have q0 := below_cell hbr (hcs k hkr 0 (by omega))
    have q1 := below_cell hbr (hcs k hkr 1 (by omega))
    have q2 := below_cell hbr (hcs k hkr 2 (by omega))
    have q3 := below_cell hbr (hcs k hkr 3 (by omega))
    have q4 := below_cell hbr (hcs k hkr 4 (by omega))
    have q5 := below_cell hbr (hcs k hkr 5 (by omega))
    have q6 := below_cell hbr (hcs k hkr 6 (by omega))
    have q7 := below_cell hbr (hcs k hkr 7 (by omega))
    have HPV : Hid (∀ j, k = j + 1 → ∃ p : Bev, lastBev xs k = some p ∧ (∀ W, Below wr.heap.size wr W → W.cell? ⟨g, o + j * 8, none⟩ = some (.int .i64 p.at_) ∧ W.cell? ⟨g, o + j * 8 + 1, none⟩ = some (.int .i64 p.kind) ∧ W.cell? ⟨g, o + j * 8 + 2, none⟩ = some (.string p.id) ∧ W.cell? ⟨g, o + j * 8 + 3, none⟩ = some (.string p.who) ∧ W.cell? ⟨g, o + j * 8 + 4, none⟩ = some (.string p.by_) ∧ W.cell? ⟨g, o + j * 8 + 5, none⟩ = some (.string p.cat) ∧ W.cell? ⟨g, o + j * 8 + 6, none⟩ = some (.int .i64 p.time) ∧ W.cell? ⟨g, o + j * 8 + 7, none⟩ = some (.int .i64 p.date))) := Lib.hid (fun j hj => by
     have hjr : j < xs.length := by omega
     refine ⟨xs[j], by subst hj; simp [lastBev, hjr], fun W hW => ?_⟩
     have hb := below_call hbr hW (Nat.le_refl _)
     exact ⟨below_cell hb (hcs j hjr 0 (by omega)), below_cell hb (hcs j hjr 1 (by omega)), below_cell hb (hcs j hjr 2 (by omega)), below_cell hb (hcs j hjr 3 (by omega)), below_cell hb (hcs j hjr 4 (by omega)), below_cell hb (hcs j hjr 5 (by omega)), below_cell hb (hcs j hjr 6 (by omega)), below_cell hb (hcs j hjr 7 (by omega))⟩)
    have HL0 : Hid (k = 0 → lastBev xs k = none) := Lib.hid (fun h => by subst h; rfl)
    obtain ⟨LE, hLE⟩ : ∃ z, lastBev xs k = z := ⟨_, rfl⟩
    rw [hLE] at hst HPV HL0
    obtain ⟨x, hxk⟩ : ∃ x, xs[k] = x := ⟨_, rfl⟩
    rw [hxk] at hst hx q0 q1 q2 q3 q4 q5 q6 q7
    clear hcs hxk hLE HG
    obtain ⟨a1, k1, i1, w1, b1, c1, t1, d1⟩ := x
    replace q0 : wr.cell? ⟨g, o + k * 8, none⟩ = some (.int .i64 a1) := q0
    replace q1 : wr.cell? ⟨g, o + k * 8 + 1, none⟩ = some (.int .i64 k1) := q1
    replace q2 : wr.cell? ⟨g, o + k * 8 + 2, none⟩ = some (.string i1) := q2
    replace q3 : wr.cell? ⟨g, o + k * 8 + 3, none⟩ = some (.string w1) := q3
    replace q4 : wr.cell? ⟨g, o + k * 8 + 4, none⟩ = some (.string b1) := q4
    replace q5 : wr.cell? ⟨g, o + k * 8 + 5, none⟩ = some (.string c1) := q5
    replace q6 : wr.cell? ⟨g, o + k * 8 + 6, none⟩ = some (.int .i64 t1) := q6
    replace q7 : wr.cell? ⟨g, o + k * 8 + 7, none⟩ = some (.int .i64 d1) := q7
    have HEF := Lib.hid (fun W => eventFault_calls a1 k1 i1 w1 b1 c1 t1 d1 W hx)
    obtain ⟨FE, hFE⟩ : ∃ z, bevF ⟨a1, k1, i1, w1, b1, c1, t1, d1⟩ = z := ⟨_, rfl⟩
    rw [hFE] at hst HEF
    clear hFE hx
    have hT := (Sq.start wr).add #[.int .i64 a1, .int .i64 k1, .string i1, .string w1, .string b1, .string c1, .int .i64 t1, .int .i64 d1] 78
    go_upto_region 6 with (fail)
    obtain ⟨H, hH⟩ : ∃ H, wr.heap.size = H := ⟨_, rfl⟩
    obtain ⟨W1, hW1⟩ : ∃ W, wr.alloc (.cells #[.int .i64 a1, .int .i64 k1, .string i1, .string w1, .string b1, .string c1, .int .i64 t1, .int .i64 d1] 78) = W := ⟨_, rfl⟩
    have hbT := hT.below
    have hbk : Blk _ wr.heap.size 78 _ := hT.head
    rw [hW1] at hbT
    rw [hH, hW1] at hbk
    have hb1 := below_call hbr hbT (Nat.le_refl _)
    have HWR := Lib.hid hbT
    rw [hH, hW1]
    clear q0 q1 q2 q3 q4 q5 q6 q7 hH hW1 hT hbT hbr
    have HC0 : Hid (∀ V, Below W1.heap.size W1 V → V.cell? ⟨H, 0, none⟩ = some (.int .i64 a1) ∧ V.cell? ⟨H, 1, none⟩ = some (.int .i64 k1) ∧ V.cell? ⟨H, 2, none⟩ = some (.string i1) ∧ V.cell? ⟨H, 3, none⟩ = some (.string w1) ∧ V.cell? ⟨H, 4, none⟩ = some (.string b1) ∧ V.cell? ⟨H, 5, none⟩ = some (.string c1) ∧ V.cell? ⟨H, 6, none⟩ = some (.int .i64 t1) ∧ V.cell? ⟨H, 7, none⟩ = some (.int .i64 d1)) := Lib.hid (fun V h => by
     have g1 := hbk.below h
     exact ⟨g1.cell 0, g1.cell 1, g1.cell 2, g1.cell 3, g1.cell 4, g1.cell 5, g1.cell 6, g1.cell 7⟩)
    obtain ⟨z0, z1, z2, z3, z4, z5, z6, z7⟩ := HC0.out _ (Below.refl _ _)
    clear hbk
    go_wp2_with fail
    refine (HEF.out _).mono ?_
    rintro e W2 ⟨rfl, hb2⟩
    clear z0 z1 z2 z3 z4 z5 z6 z7 HEF
    by_cases hF : FE = 0
    case neg =>
     rw [if_neg hF] at hst
     have hne : (FE != 0) = true := by rw [bne_iff_ne]; exact hF
     have HS := Lib.hid hst
     clear hst hF
     go_wp2_with fail
     go_ret
     rw [HS.out]
     exact ⟨rfl, below_call hb1 hb2 (Nat.le_refl _)⟩
    subst hF
    rw [if_pos rfl] at hst
    obtain ⟨GL, hGL⟩ : ∃ z : Bool, befBev LE ⟨a1, k1, i1, w1, b1, c1, t1, d1⟩ = z := ⟨_, rfl⟩
    rw [hGL] at hst
    have HC1 : Hid (∀ V, Below W2.heap.size W2 V → V.cell? ⟨H, 0, none⟩ = some (.int .i64 a1) ∧ V.cell? ⟨H, 1, none⟩ = some (.int .i64 k1) ∧ V.cell? ⟨H, 2, none⟩ = some (.string i1) ∧ V.cell? ⟨H, 3, none⟩ = some (.string w1) ∧ V.cell? ⟨H, 4, none⟩ = some (.string b1) ∧ V.cell? ⟨H, 5, none⟩ = some (.string c1) ∧ V.cell? ⟨H, 6, none⟩ = some (.int .i64 t1) ∧ V.cell? ⟨H, 7, none⟩ = some (.int .i64 d1)) := Lib.hid (fun V h => HC0.out V (below_call hb2 h (Nat.le_refl _)))
    have S0 : Below W2.heap.size W2 W2 := Below.refl _ _
    have HBW := Lib.hid (below_call hb1 hb2 (Nat.le_refl _))
    have HWR2 := Lib.hid (below_call HWR.out hb2 (Nat.le_refl _))
    have HST2 := Lib.hid hst
    clear hst hb1 hb2 HC0 HWR
    go_upto_region 9 with (fail)
    go_cut [32] (fun s V => s = .bool GL ∧ Below w.heap.size w V)
    case first =>
     have S1 : Below W2.heap.size W2 W2.drew := below_drewN S0 1
     by_cases hk00 : k = 0
     · have hL := HL0.out hk00
       subst hL
       have HGL : Hid (GL = false) := Lib.hid hGL.symm
       have hg0 : ¬ (0 : Int) < (k : Int) := by omega
       have hgd : decide ((0 : Int) < (k : Int)) = false := decide_eq_false hg0
       clear hGL HPV HL0 hk00 HST2
       refine wp_region_held_drew (S := fun V => V.cell? ⟨H, 0, none⟩ = some (.int .i64 a1) ∧ V.cell? ⟨H, 1, none⟩ = some (.int .i64 k1) ∧ V.cell? ⟨H, 2, none⟩ = some (.string i1) ∧ V.cell? ⟨H, 3, none⟩ = some (.string w1) ∧ V.cell? ⟨H, 4, none⟩ = some (.string b1) ∧ V.cell? ⟨H, 5, none⟩ = some (.string c1) ∧ V.cell? ⟨H, 6, none⟩ = some (.int .i64 t1) ∧ V.cell? ⟨H, 7, none⟩ = some (.int .i64 d1)) (by kernel_rfl) (HC1.out _ S1) (fun hHeld => ?_)
       refine tkY 0 (.int .i64 k) rfl hHeld ?_
       refine tkY 1 (.bool false) rfl hHeld ?_
       refine tkY 2 (.bool false) rfl hHeld ?_
       refine tkN 3 rfl hHeld ?_
       refine tkN 4 rfl hHeld ?_
       refine tkN 5 rfl hHeld ?_
       refine tkN 6 rfl hHeld ?_
       refine tkN 7 rfl hHeld ?_
       refine tkN 8 rfl hHeld ?_
       refine tkN 9 rfl hHeld ?_
       refine tkN 10 rfl hHeld ?_
       refine tkY 11 (.bool false) rfl hHeld ?_
       refine wpAnyH_done (by kernel_rfl) ?_ _
       go_wp2_with fail
       go_meet
       exact ⟨by rw [HGL.out], below_call HBW.out S1 (Nat.le_refl _)⟩
     · obtain ⟨j, hkj⟩ : ∃ j, k = j + 1 := ⟨k - 1, by omega⟩
       obtain ⟨p, hL, hpc⟩ := HPV.out j hkj
       subst hL
       obtain ⟨a2, k2, i2, w2, b2, c2, t2, d2⟩ := p
       replace hGL : decide (ordBev ⟨a1, k1, i1, w1, b1, c1, t1, d1⟩ ⟨a2, k2, i2, w2, b2, c2, t2, d2⟩ ≤ 0) = GL := hGL
       simp only at hpc
       have HC2 : Hid (∀ V, Below W2.heap.size W2 V → V.cell? ⟨H, 0, none⟩ = some (.int .i64 a1) ∧ V.cell? ⟨H, 1, none⟩ = some (.int .i64 k1) ∧ V.cell? ⟨H, 2, none⟩ = some (.string i1) ∧ V.cell? ⟨H, 3, none⟩ = some (.string w1) ∧ V.cell? ⟨H, 4, none⟩ = some (.string b1) ∧ V.cell? ⟨H, 5, none⟩ = some (.string c1) ∧ V.cell? ⟨H, 6, none⟩ = some (.int .i64 t1) ∧ V.cell? ⟨H, 7, none⟩ = some (.int .i64 d1) ∧ V.cell? ⟨g, o + j * 8, none⟩ = some (.int .i64 a2) ∧ V.cell? ⟨g, o + j * 8 + 1, none⟩ = some (.int .i64 k2) ∧ V.cell? ⟨g, o + j * 8 + 2, none⟩ = some (.string i2) ∧ V.cell? ⟨g, o + j * 8 + 3, none⟩ = some (.string w2) ∧ V.cell? ⟨g, o + j * 8 + 4, none⟩ = some (.string b2) ∧ V.cell? ⟨g, o + j * 8 + 5, none⟩ = some (.string c2) ∧ V.cell? ⟨g, o + j * 8 + 6, none⟩ = some (.int .i64 t2) ∧ V.cell? ⟨g, o + j * 8 + 7, none⟩ = some (.int .i64 d2)) := Lib.hid (fun V h => by
        obtain ⟨x0, x1, x2, x3, x4, x5, x6, x7⟩ := HC1.out V h
        obtain ⟨y0, y1, y2, y3, y4, y5, y6, y7⟩ := hpc V (below_call HWR2.out h (Nat.le_refl _))
        exact ⟨x0, x1, x2, x3, x4, x5, x6, x7, y0, y1, y2, y3, y4, y5, y6, y7⟩)
       have hj0 : (0 : Int) ≤ (j : Int) := by omega
       have hjn : (j : Int) < (n : Int) := by omega
       have hj1 : (k : Int) - 1 = (j : Int) := by omega
       have hw3 : IntKind.i64.wrap (j : Int) = (j : Int) := IntWalk.i64_in _ (by omega)
       have hg0 : (0 : Int) < (k : Int) := by omega
       have hgd : decide ((0 : Int) < (k : Int)) = true := decide_eq_true hg0
       clear HPV HL0 hk00 HST2 hpc HC1 hkj
       refine wp_region_held_drew (S := fun V => V.cell? ⟨H, 0, none⟩ = some (.int .i64 a1) ∧ V.cell? ⟨H, 1, none⟩ = some (.int .i64 k1) ∧ V.cell? ⟨H, 2, none⟩ = some (.string i1) ∧ V.cell? ⟨H, 3, none⟩ = some (.string w1) ∧ V.cell? ⟨H, 4, none⟩ = some (.string b1) ∧ V.cell? ⟨H, 5, none⟩ = some (.string c1) ∧ V.cell? ⟨H, 6, none⟩ = some (.int .i64 t1) ∧ V.cell? ⟨H, 7, none⟩ = some (.int .i64 d1) ∧ V.cell? ⟨g, o + j * 8, none⟩ = some (.int .i64 a2) ∧ V.cell? ⟨g, o + j * 8 + 1, none⟩ = some (.int .i64 k2) ∧ V.cell? ⟨g, o + j * 8 + 2, none⟩ = some (.string i2) ∧ V.cell? ⟨g, o + j * 8 + 3, none⟩ = some (.string w2) ∧ V.cell? ⟨g, o + j * 8 + 4, none⟩ = some (.string b2) ∧ V.cell? ⟨g, o + j * 8 + 5, none⟩ = some (.string c2) ∧ V.cell? ⟨g, o + j * 8 + 6, none⟩ = some (.int .i64 t2) ∧ V.cell? ⟨g, o + j * 8 + 7, none⟩ = some (.int .i64 d2)) (by kernel_rfl) (HC2.out _ S1) (fun hHeld => ?_)
       refine tkY 0 (.int .i64 k) rfl hHeld ?_
       refine tkY 1 (.bool true) rfl hHeld ?_
       refine tkY 2 (.bool true) rfl hHeld ?_
       refine tkY 3 (.agg #[.int .i64 a1, .int .i64 k1, .string i1, .string w1, .string b1, .string c1, .int .i64 t1, .int .i64 d1]) rfl hHeld ?_
       refine tkY 4 (.slice (some ⟨g, o, none⟩) n c) rfl hHeld ?_
       refine tkY 5 (.int .i64 k) rfl hHeld ?_
       refine tkY 6 (.int .i64 j) rfl hHeld ?_
       refine tkY 7 (.pointer (some ⟨g, o + j * 8, none⟩)) rfl hHeld ?_
       refine tkY 8 (.agg #[.int .i64 a2, .int .i64 k2, .string i2, .string w2, .string b2, .string c2, .int .i64 t2, .int .i64 d2]) rfl hHeld ?_
       refine tkC 9 rfl (fun K hK => ?_)
       go_simp
       go_at_call 135
       refine (byMoment_calls a1 k1 t1 d1 a2 k2 t2 d2 i1 w1 b1 c1 i2 w2 b2 c2 _).mono ?_
       rintro e w5 ⟨rfl, hb5⟩
       have S5 := below_call S1 hb5 (Nat.le_refl _)
       refine hK.out _ _ (HC2.out _ S5) (fun hHeld => ?_)
       clear hK K
       try simp only [Act.put, List.getElem_toArray, List.getElem_cons_zero, List.getElem_cons_succ, List.setIfInBounds_toArray, List.set_cons_zero, List.set_cons_succ]
       refine tkY 10 (.bool GL) rfl hHeld ?_
       refine tkY 11 (.bool GL) rfl hHeld ?_
       refine wpAnyH_done (by kernel_rfl) ?_ _
       go_wp2_with fail
       go_meet
       exact ⟨rfl, below_call HBW.out S5 (Nat.le_refl _)⟩
    obtain ⟨rfl, hbE⟩ := hcut
    clear HPV HL0 hGL HBW HWR2 S0 HC1
    cases GL
    · have HS := Lib.hid (HST2.out.trans (if_neg (by decide)))
      clear HST2
      go_wp2_with fail
      go_roundw
      case rel => exact ⟨k + 1, by omega, by go_num, HS, hbE⟩
      case measure => simp [intOf]; omega
    · have HS := Lib.hid (HST2.out.trans (if_pos rfl))
      clear HST2
      go_wp2_with fail
      go_ret
      rw [HS.out]
      exact ⟨rfl, hbE⟩
  · obtain rfl : n = k := by omega
    have HS : Hid (E = 0) := Lib.hid (by rw [HG.out, List.drop_of_length_le (by rw [HL.out]; exact Nat.le_refl _), bevsG])
    clear HG
    go_wp2_with fail
    go_ret
    rw [HS.out]
    exact ⟨rfl, hbr⟩
end Go.Proofs.YtapgnaimbgjcnaaGreatDoor
/-
  board.categoryFault by its contract.
-/
namespace Go.Proofs.YtapgnaimbgjcnaaGreatDoor
open Go Go.RowKit
def catF (l : List Bev) (ks : List ByteArray) (u : Int) : Int := if bevsF l = 0 then (if ks.any (fun s => !keyBv s) = true then 5 else if momB u = true then 0 else 1) else bevsF l
set_option maxRecDepth 100000 in
theorem badKey1_calls (s : ByteArray) (w : World) (hs : s.size ≤ maxLen) :
 Calls Tryz.prog 111 #[.string s] w fun e w' => e = .returned (.bool (!keyBv s)) ∧ w = w' := by
 have HK := Lib.hid (key_calls s w hs)
 go_enter Tryz.func111, Tryz.ntmps111
 go_wp2_with fail
 refine HK.out.mono ?_
 rintro e w1 ⟨rfl, rfl⟩
 go_wp2_with fail
 go_ret
 exact ⟨rfl, rfl⟩
set_option maxRecDepth 100000 in
theorem badKey_calls (b : Nat) (A : Option Addr) (n c : Nat) (hs : List ByteArray) (w : World) (hr : Rd w b 1 (.slice A n c) n (strsV hs)) (hsz : ∀ s ∈ hs, s.size ≤ 1000000) :
 Calls Tryz.prog 110 #[.slice A n c, .func (.func 111) #[] #[]] w (BRet (.bool (hs.any (fun s => !keyBv s))) w) := by
 obtain ⟨hl, hnc, hcm, hcells⟩ := strs_cells hr
 unfold maxLen at hcm
 obtain ⟨p, hpp⟩ : ∃ p : ByteArray → Bool, (fun s => !keyBv s) = p := ⟨_, rfl⟩
 have HCC : Hid (∀ W (s : ByteArray), s ∈ hs → Calls Tryz.prog 111 #[.string s] W (fun e w' => e = .returned (.bool (p s)) ∧ W = w')) := fun W s hs => by
  rw [← hpp]
  exact badKey1_calls s W (by have := hsz s hs; unfold maxLen; omega)
 have HL := Lib.hid hl
 have HCL := Lib.hid hcells
 rw [hpp]
 have HM := Lib.hid (ixOf_mem p hs)
 clear hcells hl hr hpp hsz
 go_enter Tryz.func110, Tryz.ntmps110
 go_wp2
 go_loopw [8] (fun i wr => ∃ k : Nat, k ≤ n ∧ i = .int .i64 k ∧ Hid (∀ i (_ : i < k) (hi' : i < hs.length), p hs[i] = false) ∧ Below w.heap.size w wr) (fun i _ => n - (intOf i).toNat)
 case atStart => exact ⟨0, Nat.zero_le _, rfl, (fun i hi => absurd hi (by omega)), Below.refl _ _⟩
 case round =>
  obtain ⟨k, hk, rfl, HF, hbr⟩ := hrel
  by_cases hlt : k < n
  · have hkr : k < hs.length := by rw [HL.out]; exact hlt
    obtain ⟨g, o, hA, _, hcs⟩ := HCL.out (by omega)
    subst hA
    have c0 := below_cell hbr (hcs k hkr)
    have HK := Lib.hid (HCC.out wr hs[k] (List.getElem_mem hkr))
    obtain ⟨s, hs'⟩ : ∃ s, hs[k] = s := ⟨_, rfl⟩
    rw [hs'] at c0 HK
    clear hcs
    cases hp : p s
    · rw [hp] at HK
      have HF2 : Hid (∀ i (_ : i < k + 1) (hi' : i < hs.length), p hs[i] = false) := by
       intro i hi hi'
       by_cases hik : i = k
       · subst hik; rw [hs']; exact hp
       · exact HF.out i (by omega) hi'
      clear hp hs'
      go_wp2_with (go_at_call 111; refine HK.out.mono ?_; rintro e w2 ⟨rfl, rfl⟩)
      go_roundw
      case rel => exact ⟨k + 1, by omega, by go_num, HF2, hbr⟩
      case measure => simp [intOf]; omega
    · rw [hp] at HK
      have HR : Hid (ixOf p hs = k) := ixOf_at _ hs k hkr (fun i hi => HF.out i hi (by omega)) (by rw [hs']; exact hp)
      have HA : Hid (hs.any p = true) := by
       have := HM.out
       rw [HR.out] at this
       rw [← this]
       exact Lib.hid (decide_eq_true (by omega))
      clear hp hs'
      go_wp2_with (go_at_call 111; refine HK.out.mono ?_; rintro e w2 ⟨rfl, rfl⟩)
      go_ret
      exact ⟨ret_bool HA.out.symm, hbr⟩
  · obtain rfl : k = n := by omega
    have HR : Hid (ixOf p hs = -1) := ixOf_no _ hs (fun i hi => HF.out i (by rw [← HL.out]; exact hi) hi)
    have HA : Hid (hs.any p = false) := by
     have := HM.out
     rw [HR.out] at this
     rw [← this]
     exact Lib.hid rfl
    go_wp2
    go_ret
    exact ⟨ret_bool HA.out.symm, hbr⟩
set_option maxRecDepth 100000 in
theorem categoryFault_calls (b : Nat) (A A2 : Option Addr) (n c n2 c2 : Nat) (l : List Bev) (ks : List ByteArray) (u : Int) (w : World) (hr : Bevs w b A n c l) (hr2 : Rd w b 1 (.slice A2 n2 c2) n2 (strsV ks)) (hsz : ∀ s ∈ ks, s.size ≤ 1000000) :
 Calls Tryz.prog 56 #[.slice A n c, .int .i64 u, .slice A2 n2 c2] w (BRet (.int .i64 (catF l ks u)) w) := by
 have HA := Lib.hid (checkEvents_calls b A n c l w hr)
 have HB : Hid (∀ W, Below w.heap.size w W → Calls Tryz.prog 110 #[.slice A2 n2 c2, .func (.func 111) #[] #[]] W (BRet (.bool (ks.any (fun s => !keyBv s))) W)) := fun W hW => badKey_calls b A2 n2 c2 ks W (hr2.below hW) hsz
 obtain ⟨E, hE⟩ : ∃ E, bevsF l = E := ⟨_, rfl⟩
 obtain ⟨B, hB⟩ : ∃ B, ks.any (fun s => !keyBv s) = B := ⟨_, rfl⟩
 obtain ⟨M, hM⟩ : ∃ M, momB u = M := ⟨_, rfl⟩
 have HM := Lib.hid (fun W => moment_calls u W)
 rw [hM] at HM
 have hF : catF l ks u = if E = 0 then (if B = true then 5 else if M = true then 0 else 1) else E := by unfold catF; rw [hE, hB, hM]
 rw [hE] at HA
 rw [hB] at HB
 rw [hF]
 clear hr hr2 hsz hE hB hM hF
 by_cases h0 : E = 0
 · subst h0
   rw [if_pos rfl]
   cases B
   · rw [if_neg (by decide)]
     cases M
     · rw [if_neg (by decide)]
       go_enter Tryz.func56, Tryz.ntmps56
       go_wp2_with fail
       refine HA.out.mono ?_
       rintro e w1 ⟨rfl, h1⟩
       go_wp2_with fail
       refine (HB.out w1 h1).mono ?_
       rintro e w2 ⟨rfl, h2⟩
       go_wp2_with fail
       refine (HM.out w2).mono ?_
       rintro e w3 ⟨rfl, rfl⟩
       go_wp2_with fail
       go_ret
       exact ⟨rfl, below_call h1 h2 (Nat.le_refl _)⟩
     · rw [if_pos rfl]
       go_enter Tryz.func56, Tryz.ntmps56
       go_wp2_with fail
       refine HA.out.mono ?_
       rintro e w1 ⟨rfl, h1⟩
       go_wp2_with fail
       refine (HB.out w1 h1).mono ?_
       rintro e w2 ⟨rfl, h2⟩
       go_wp2_with fail
       refine (HM.out w2).mono ?_
       rintro e w3 ⟨rfl, rfl⟩
       go_wp2_with fail
       go_ret
       exact ⟨rfl, below_call h1 h2 (Nat.le_refl _)⟩
   · rw [if_pos rfl]
     go_enter Tryz.func56, Tryz.ntmps56
     go_wp2_with fail
     refine HA.out.mono ?_
     rintro e w1 ⟨rfl, h1⟩
     go_wp2_with fail
     refine (HB.out w1 h1).mono ?_
     rintro e w2 ⟨rfl, h2⟩
     go_wp2_with fail
     go_ret
     exact ⟨rfl, below_call h1 h2 (Nat.le_refl _)⟩
 · rw [if_neg h0]
   have hne : (E != 0) = true := by rw [bne_iff_ne]; exact h0
   clear h0
   go_enter Tryz.func56, Tryz.ntmps56
   go_wp2_with fail
   refine HA.out.mono ?_
   rintro e w1 ⟨rfl, h1⟩
   go_wp2_with fail
   go_ret
   exact ⟨rfl, h1⟩
end Go.Proofs.YtapgnaimbgjcnaaGreatDoor
