/-
  DroppedFits: the law's own walk.
-/
import Derived.Test.YtohhbkodfidfkaaGreatDoorZStream
import Derived.Test.YtohhbkodfidfkaaGreatDoorZDrpPure
import Derived.Test.YtohhbkodfidfkaaGreatDoorZDrp2
import Derived.Test.YtohhbkodfidfkaaGreatDoorZReady
import Derived.Deep.DeepCutAuto
namespace Go.Proofs.YtohhbkodfidfkaaGreatDoor
open Go Go.RowKit

theorem slts_ofD {w W : World} {b K n c h : Nat} {A : Option Addr} {xs : List Slt} {l : List Rsc} (hS : Sp w b K W (rOwn w.heap.size 34 5 (.slice A n c) n (xs.flatMap sltC) :: rAll (hostR w.heap.size) xs :: l)) (hz : SltZs h xs) (hh : h ≤ 1000) : Slts W b A n c xs := by
  have h0 : W.ownsRow w.heap.size 34 5 (.slice A n c) n (xs.flatMap sltC) := hS.head
  have h1 : ∀ x ∈ xs, (hostR w.heap.size x).P W := hS.tail.head
  exact ⟨Rd.own h0 hS.hb, fun x hx => ⟨Rd.own (h1 x hx) hS.hb, (hz x hx).hk, (hz x hx).hw, (hz x hx).hh, Nat.le_trans (hz x hx).hn hh, (hz x hx).hs, (hz x hx).hl⟩⟩

set_option maxRecDepth 100000 in
set_option maxHeartbeats 4000000 in
theorem drp_walk (a0 : Option Addr) (len0 cap0 : Nat) (z0 : List Int) (w : World) (w0 : InRow w a0 len0 cap0 z0) (ht : Tab w) :
    Calls Tryz.prog 3 #[.slice a0 len0 cap0] w fun e w' => e = .returned (.bool true) ∧ Below w.heap.size w w' := by
  have hs0 := strm_start w0 25
  have hb0 : Bx w.heap.size w.heap.size w (w.alloc (.cells #[.slice a0 len0 cap0, .int .i64 0] 25)) := (Bx.refl _ _ _).alloc (Nat.le_refl _) _
  clear w0
  go_enter Tryz.func3, Tryz.ntmps3
  go_wp2_with fail
  refine (rightSlotsR_calls w.heap.size 0 5 _ hs0 (by omega) (by omega)).mono ?_
  rintro e w1 ⟨v, xs, rfl, hx5, hz, hR, hS⟩
  obtain ⟨n, hn⟩ : ∃ n, xs.length = n := ⟨_, rfl⟩
  rw [hn] at hS hx5
  obtain ⟨A, c, hv⟩ := own_form (show w1.ownsRow _ _ _ v n _ from hS.head)
  subst hv
  have hr1 := slts_ofD hS hz (by omega)
  have hs1 := hS.strm
  have hb1 := hb0.call hS.bx (Nat.le_refl _)
  have HR := Lib.hid hR
  have HN := Lib.hid hn
  clear hS hs0 hb0 hz hn hR
  go_wp2_with fail
  refine (range_calls w.heap.size _ 0 900 _ (by omega) (by omega) (by omega) hs1 (by omega)).mono ?_
  rintro e w2 ⟨f, rfl, f0, f1, hs2, hc2⟩
  have hr2 := hr1.bx hc2
  have hb2 := hb1.call hc2 (Nat.le_refl _)
  have hlt2 := hs2.lt
  obtain ⟨q, hq1, hq2, hq3, hq4, hq5⟩ := drp_all HR.out f0 f1
  have HD := Lib.hid (drop1_calls w.heap.size A n c xs 0 f w2 hr2 hlt2 (drp_zero HR.out f0 f1))
  rw [hq1] at HD
  obtain ⟨L, hL⟩ : ∃ L, keysS xs (idxS q xs.length) = L := ⟨_, rfl⟩
  rw [hL] at HD hq2 hq4
  rw [HN.out] at hq2 hq3
  have HQ5 : Hid (∀ i (hi : i < xs.length), bitS q i = true → f < atS xs q 0 n + xs[i].setup + xs[i].long) := Lib.hid (fun i hi hb => by have := hq5 i hi hb; rw [HN.out] at this; exact this)
  have HQ4 := Lib.hid hq4
  clear hs1 hr1 hc2 hb1 hq1 hq4 hq5 hL
  go_wp2_with fail
  refine HD.out.mono ?_
  rintro e w3 ⟨v3, rfl, ho3, hb3⟩
  obtain ⟨A3, c3, hv3⟩ := own_form ho3
  subst hv3
  obtain ⟨m, hm⟩ : ∃ m, L.length = m := ⟨_, rfl⟩
  rw [hm] at ho3 hq2 ⊢
  have hm5 : m ≤ n := by rw [hq2]; exact idxS_len q n
  have hr3 := hr2.below hb3
  have HB3 := Lib.hid ((hb2.callB hb3 (Nat.le_refl _)).below (Nat.le_refl _))
  have hlt3 : w.heap.size < w3.heap.size := by have := hb3.size; omega
  have HP := Lib.hid (Rd.own ho3 hlt2)
  have HSM := Lib.hid hr3.sml
  have hS := Sq.start w3
  have hcx := (hr3.rd.cells sltC_len (by omega))
  have hcap := hcx.2.2.1
  have hncap := hcx.2.1
  unfold maxLen at hcap
  have HC := Lib.hid hcx.2.2.2
  have HQ2 := Lib.hid hq2
  have HQ3 := Lib.hid hq3
  have HA0 : Hid (Value.int .i64 0 = .int .i64 (atS xs q 0 0)) := Lib.hid rfl
  have HI0 : Hid (Value.int .i64 0 = .int .i64 ((idxS q 0).length : Nat)) := Lib.hid rfl
  clear HD hr2 hs2 hb2 hb3 ho3 hr3 hcx hm hq2 hq3
  go_wp2_with fail
  go_loopw [8, 9, 31] (fun a l i wr => ∃ k : Nat, k ≤ n ∧ i = .int .i64 k ∧ a = .int .i64 (atS xs q 0 k) ∧ l = .int .i64 ((idxS q k).length : Nat) ∧ Sq w3 wr []) (fun _ _ i _ => n - (intOf i).toNat)
  case atStart => exact ⟨0, Nat.zero_le _, rfl, HA0.out, HI0.out, hS⟩
  case round =>
    clear hS HA0 HI0
    obtain ⟨k, hk, rfl, rfl, rfl, hS⟩ := hrel
    by_cases hlt : k < n
    · have hkx : k < xs.length := by rw [HN.out]; exact hlt
      obtain ⟨g, o, hA, hgb, hcs⟩ := HC.out (by omega)
      subst hA
      have hbd := atS_bd HSM.out q 0 k (by omega)
      have hil := idxS_len q k
      have x0 := hcs k hkx 0 (by omega)
      have x1 := hcs k hkx 1 (by omega)
      have x2 := hcs k hkx 2 (by omega)
      have x3 := hcs k hkx 3 (by omega)
      have x4 := hcs k hkx 4 (by omega)
      have has := atS_step xs q 0 k hkx
      have his := idxS_succ q k
      have hme := HQ4.out k hkx
      have hxs := HSM.out _ (List.getElem_mem hkx)
      obtain ⟨x, hx⟩ : ∃ x, xs[k] = x := ⟨_, rfl⟩
      rw [hx] at x0 x1 x2 x3 x4 has hme hxs
      obtain ⟨key, who, ha, hc, hh, sp, lg⟩ := x
      simp only at has hme hxs
      obtain ⟨⟨u1, u2⟩, u3', u4'⟩ := hxs
      obtain ⟨hl, hhl⟩ : ∃ m, hh.length = m := ⟨_, rfl⟩
      replace x0 := below_cell hS.below (show w3.cell? ⟨g, o + k * 5 + 0, none⟩ = some (.string key) from x0)
      replace x1 := below_cell hS.below (show w3.cell? ⟨g, o + k * 5 + 1, none⟩ = some (.string who) from x1)
      replace x2 := below_cell hS.below (show w3.cell? ⟨g, o + k * 5 + 2, none⟩ = some (.slice ha hl hc) by rw [← hhl]; exact x2)
      replace x3 := below_cell hS.below (show w3.cell? ⟨g, o + k * 5 + 3, none⟩ = some (.int .i64 sp) from x3)
      replace x4 := below_cell hS.below (show w3.cell? ⟨g, o + k * 5 + 4, none⟩ = some (.int .i64 lg) from x4)
      rw [Nat.add_zero] at x0
      have hsz := hS.size
      obtain ⟨bd0, bd1⟩ := hbd
      have hS2 := hS.add #[.string key, .string who, .slice ha hl hc, .int .i64 sp, .int .i64 lg] 34
      have HCT := Lib.hid (containsS_calls w.heap.size A3 m c3 L key _ (HP.out.below hS2.below))
      rw [hme] at HCT
      clear hcs hx hme hgb
      cases hbit : bitS q k
      · rw [hbit] at HCT has his
        have HAS : Hid (atS xs q 0 (k + 1) = atS xs q 0 k + (sp + lg)) := Lib.hid (by rw [has]; rfl)
        have HIS : Hid (idxS q (k + 1) = idxS q k) := Lib.hid (by rw [his]; rfl)
        clear has his hbit
        obtain ⟨at_, hat⟩ : ∃ a, atS xs q 0 k = a := ⟨_, rfl⟩
        rw [hat] at bd0 bd1 HAS ⊢
        obtain ⟨il, hild⟩ : ∃ a, (idxS q k).length = a := ⟨_, rfl⟩
        rw [hild] at hil ⊢
        clear hat
        go_wp2_with fail
        refine HCT.out.mono ?_
        rintro e w5 ⟨rfl, nq, rfl⟩
        have hS3 := hS2.drewN nq
        obtain ⟨W, hW⟩ : ∃ W, (wr.alloc (.cells #[.string key, .string who, .slice ha hl hc, .int .i64 sp, .int .i64 lg] 34)).drewN nq = W := ⟨_, rfl⟩
        rw [hW] at hS3 ⊢
        have bx : Blk W wr.heap.size 34 #[.string key, .string who, .slice ha hl hc, .int .i64 sp, .int .i64 lg] := hS3.head
        have z3 := bx.cell 3
        have z4 := bx.cell 4
        replace z3 : W.cell? ⟨wr.heap.size, 3, none⟩ = some (.int .i64 sp) := z3
        replace z4 : W.cell? ⟨wr.heap.size, 4, none⟩ = some (.int .i64 lg) := z4
        have hS4 := hS3.tail
        clear hW bx hS2 hS3 HCT hS
        go_wp2_with fail
        go_roundw
        case rel => exact ⟨k + 1, by omega, by go_num, by rw [HAS.out], by rw [HIS.out, hild], hS4⟩
        case measure => simp [intOf]; omega
      · rw [hbit] at HCT has his
        have HAS : Hid (atS xs q 0 (k + 1) = atS xs q 0 k) := Lib.hid (by rw [has]; rfl)
        have HIS : Hid ((idxS q (k + 1)).length = (idxS q k).length + 1) := Lib.hid (by rw [his]; simp)
        clear has his hbit
        obtain ⟨at_, hat⟩ : ∃ a, atS xs q 0 k = a := ⟨_, rfl⟩
        rw [hat] at bd0 bd1 HAS ⊢
        obtain ⟨il, hild⟩ : ∃ a, (idxS q k).length = a := ⟨_, rfl⟩
        rw [hild] at hil HIS ⊢
        clear hat
        go_wp2_with fail
        refine HCT.out.mono ?_
        rintro e w5 ⟨rfl, nq, rfl⟩
        have hS4 := (hS2.drewN nq).tail
        clear hS2 HCT hS
        go_wp2_with fail
        go_roundw
        case rel => exact ⟨k + 1, by omega, by go_num, by rw [HAS.out], by rw [HIS.out]; go_num, hS4⟩
        case measure => simp [intOf]; omega
    · obtain rfl : k = n := by omega
      have hS0 := hS
      have HAT := Lib.hid (atS_bd HSM.out q 0 k (by rw [HN.out]; exact Nat.le_refl _))
      clear hS
      obtain ⟨T, hT⟩ : ∃ T, atS xs q 0 k = T := ⟨_, rfl⟩
      obtain ⟨il, hild⟩ : ∃ a, (idxS q k).length = a := ⟨_, rfl⟩
      rw [hT] at HAT HQ3 HQ5 ⊢
      rw [hild] at HQ2 ⊢
      obtain rfl : m = il := HQ2.out
      clear hT hild
      go_wp2_with fail
      go_loopw [51] (fun i w2 => ∃ j : Nat, j ≤ k ∧ i = .int .i64 j ∧ Sq w3 w2 []) (fun i _ => k - (intOf i).toNat)
      case atStart => exact ⟨0, Nat.zero_le _, rfl, hS0⟩
      case round =>
        clear hS0
        obtain ⟨j, hj, rfl, hS⟩ := hrel
        by_cases hlt : j < k
        · have hkx : j < xs.length := by rw [HN.out]; exact hlt
          obtain ⟨g, o, hA, hgb, hcs⟩ := HC.out (by omega)
          subst hA
          have x0 := hcs j hkx 0 (by omega)
          have x1 := hcs j hkx 1 (by omega)
          have x2 := hcs j hkx 2 (by omega)
          have x3 := hcs j hkx 3 (by omega)
          have x4 := hcs j hkx 4 (by omega)
          have hme := HQ4.out j hkx
          have hlate := HQ5.out j hkx
          have hxs := HSM.out _ (List.getElem_mem hkx)
          obtain ⟨x, hx⟩ : ∃ x, xs[j] = x := ⟨_, rfl⟩
          rw [hx] at x0 x1 x2 x3 x4 hme hxs hlate
          obtain ⟨key, who, ha, hc, hh, sp, lg⟩ := x
          simp only at hme hxs hlate
          obtain ⟨⟨u1, u2⟩, u3', u4'⟩ := hxs
          obtain ⟨hl, hhl⟩ : ∃ m, hh.length = m := ⟨_, rfl⟩
          replace x0 := below_cell hS.below (show w3.cell? ⟨g, o + j * 5 + 0, none⟩ = some (.string key) from x0)
          replace x1 := below_cell hS.below (show w3.cell? ⟨g, o + j * 5 + 1, none⟩ = some (.string who) from x1)
          replace x2 := below_cell hS.below (show w3.cell? ⟨g, o + j * 5 + 2, none⟩ = some (.slice ha hl hc) by rw [← hhl]; exact x2)
          replace x3 := below_cell hS.below (show w3.cell? ⟨g, o + j * 5 + 3, none⟩ = some (.int .i64 sp) from x3)
          replace x4 := below_cell hS.below (show w3.cell? ⟨g, o + j * 5 + 4, none⟩ = some (.int .i64 lg) from x4)
          rw [Nat.add_zero] at x0
          have hsz := hS.size
          obtain ⟨bd0, bd1⟩ := HAT.out
          have hS2 := hS.add #[.string key, .string who, .slice ha hl hc, .int .i64 sp, .int .i64 lg] 34
          have HCT := Lib.hid (containsS_calls w.heap.size A3 m c3 L key _ (HP.out.below hS2.below))
          rw [hme] at HCT
          clear hcs hx hme hgb
          cases hbit : bitS q j
          · rw [hbit] at HCT
            clear hlate hbit
            go_wp2_with fail
            refine HCT.out.mono ?_
            rintro e w5 ⟨rfl, nq, rfl⟩
            have hS4 := (hS2.drewN nq).tail
            clear hS2 HCT hS
            go_wp2_with fail
            go_roundw
            case rel => exact ⟨j + 1, by omega, by go_num, hS4⟩
            case measure => simp [intOf]; omega
          · rw [hbit] at HCT
            have hlt2 := hlate hbit
            clear hlate hbit
            go_wp2_with fail
            refine HCT.out.mono ?_
            rintro e w5 ⟨rfl, nq, rfl⟩
            have hS3 := hS2.drewN nq
            obtain ⟨W, hW⟩ : ∃ W, (wr.alloc (.cells #[.string key, .string who, .slice ha hl hc, .int .i64 sp, .int .i64 lg] 34)).drewN nq = W := ⟨_, rfl⟩
            rw [hW] at hS3 ⊢
            have bx : Blk W wr.heap.size 34 #[.string key, .string who, .slice ha hl hc, .int .i64 sp, .int .i64 lg] := hS3.head
            have z3 := bx.cell 3
            have z4 := bx.cell 4
            replace z3 : W.cell? ⟨wr.heap.size, 3, none⟩ = some (.int .i64 sp) := z3
            replace z4 : W.cell? ⟨wr.heap.size, 4, none⟩ = some (.int .i64 lg) := z4
            have hS4 := hS3.tail
            have hnle : ¬ (T + sp + lg ≤ f) := by omega
            clear hW bx hS2 hS3 HCT hS
            go_wp2_with fail
            go_roundw
            case rel => exact ⟨j + 1, by omega, by go_num, hS4⟩
            case measure => simp [intOf]; omega
        · obtain rfl : j = k := by omega
          have hle : T ≤ f := HQ3.out
          have hRD := Lib.hid (ready_calls w.heap.size wr (by have := hS.size; omega) (ht.below (below_call HB3.out hS.below (Nat.le_refl _))))
          go_wp2_with fail
          refine hRD.out.mono ?_
          rintro e w11 ⟨rfl, hb11⟩
          have hfin := below_call (below_call HB3.out hS.below (Nat.le_refl _)) hb11 (Nat.le_refl _)
          go_wp2_with fail
          go_ret
          exact ⟨rfl, hfin⟩
end Go.Proofs.YtohhbkodfidfkaaGreatDoor
