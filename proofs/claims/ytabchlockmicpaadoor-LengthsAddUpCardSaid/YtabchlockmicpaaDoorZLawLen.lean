/-
  LengthsAddUp: the law's own walk.
-/
import Derived.Test.YtabchlockmicpaaDoorZStream
import Derived.Test.YtabchlockmicpaaDoorZCutLens
import Derived.Test.YtabchlockmicpaaDoorZReady
import Derived.Deep.DeepCutAuto
namespace Go.Proofs.YtabchlockmicpaaDoor
open Go Go.RowKit

theorem lensTo_at (l : List Cut) (n k : Nat) (hk : k < l.length) (h : k < (lensTo l n).length) : (lensTo l n)[k] = cutL (cutS l k) l[k] := by
  simp only [lensTo, List.getElem_map, List.getElem_range, List.getD_eq_getElem?_getD, List.getElem?_eq_getElem hk]
  rfl
set_option maxRecDepth 100000 in
set_option maxHeartbeats 2000000 in
theorem lens_walk (a0 : Option Addr) (len0 cap0 : Nat) (z0 : List Int) (w : World) (w0 : InRow w a0 len0 cap0 z0) (ht : Tab w) :
    Calls Tryd.prog 5 #[.slice a0 len0 cap0] w fun e w' => e = .returned (.bool true) ∧ Below w.heap.size w w' := by
  have hs0 := strm_start w0 25
  have hb0 : Bx w.heap.size w.heap.size w (w.alloc (.cells #[.slice a0 len0 cap0, .int .i64 0] 25)) := (Bx.refl _ _ _).alloc (Nat.le_refl _) _
  clear w0
  go_enter Tryd.func5, Tryd.ntmps5
  go_wp2_with fail
  refine (range_calls w.heap.size 0 _ _ _ (by omega) (by omega) (by omega) hs0 (by omega)).mono ?_
  rintro e w1 ⟨m, rfl, m1, m2, hs1, hc1⟩
  obtain ⟨m, rfl⟩ : ∃ q : Nat, m = (q : Int) := ⟨m.toNat, by omega⟩
  have hb1 := hb0.call hc1 (Nat.le_refl _)
  clear hs0 hb0 hc1
  go_wp2_with fail
  refine (rightCuts_calls w.heap.size _ m _ hs1 (by omega) (by omega)).mono ?_
  rintro e w2 ⟨v, l, rfl, ho2, hlm, hF, hs2, hc2⟩
  have hlt := hs1.lt
  have hB := (hb1.call hc2 (Nat.le_refl _)).below (Nat.le_refl _)
  have hr2 := Rd.own (b := w.heap.size) ho2 hlt
  obtain ⟨A, c, hv⟩ := own_form ho2
  subst hv
  have hlt2 := hs2.lt
  have hF : cutF l = 0 := hF
  obtain ⟨n, hn⟩ : ∃ n, l.length = n := ⟨_, rfl⟩
  rw [hn] at hr2 hlm
  obtain ⟨hl, hnc, hcm, hcells⟩ := hr2.cells cutC_len (by omega)
  unfold maxLen at hcm
  have hLL : lensL l = lensTo l n := by unfold lensL; rw [if_pos hF, hn]
  have hT := Lib.hid (lengths_calls w.heap.size A n c l w2 hr2 (CutI.of_ok hF))
  unfold LensE at hT
  rw [hF, hLL, lensTo_len] at hT
  have HC := Lib.hid hcells
  have HA := Lib.hid (cutF_all hF)
  have HBD := Lib.hid (cutS_bd hF)
  have HL := Lib.hid hl
  rw [hn]
  clear ho2 hs1 hs2 hb1 hc2 hcells hF hLL hl hr2 hn
  go_wp2_with fail
  refine hT.out.mono ?_
  rintro e w3 ⟨v, rfl, ho3, hb3⟩
  obtain ⟨A3, c3, hv⟩ := own_form ho3
  subst hv
  have hB3 := below_call hB hb3 (Nat.le_refl _)
  have hS0 := (Sq.start w3).add #[.int .i64 0, .int .i64 0, .bool false] 52
  have h00 : Hid (cutS l 0 = (0, 0)) := rfl
  have hcap3 := own_cap ho3
  have HO3 := Lib.hid ho3
  have HB3 := Lib.hid hb3
  have HBB := Lib.hid hB3
  clear ho3 hb3 hB hB3 hT
  go_wp2_with fail
  go_loopw [7, 8, 35] (fun s7 s8 i wr => ∃ (k : Nat) (lr lg : Int), k ≤ n ∧ i = .int .i64 k ∧ Hid (cutS l k = (lr, lg)) ∧ s7 = .int .i64 lr ∧ s8 = .int .i64 lg ∧ Sq w3 wr [rBlk w3.heap.size 52 #[.int .i64 lr, .int .i64 lg, .bool false]]) (fun _ _ i _ => n - (intOf i).toNat)
  case atStart => exact ⟨0, 0, 0, Nat.zero_le _, rfl, h00, rfl, rfl, hS0⟩
  case round =>
    clear hS0 h00
    obtain ⟨k, lr, lg, hk, rfl, HS, rfl, rfl, hS⟩ := hrel
    by_cases hlt : k < n
    · have hkr : k < l.length := by rw [HL.out]; exact hlt
      obtain ⟨g, o, hA, _, hcs⟩ := HC.out (by omega)
      have hok := cutE_ok (HA.out k hkr)
      have hbd := HBD.out k (by omega)
      have hsn := cutS_step l k hkr
      rw [HS.out] at hok hbd hsn
      have hbW : Below w2.heap.size w2 wr := below_call HB3.out hS.below (Nat.le_refl _)
      have c0 := below_cell hbW (hcs k hkr 0 (by omega))
      have c1 := below_cell hbW (hcs k hkr 1 (by omega))
      have c2 := below_cell hbW (hcs k hkr 2 (by omega))
      obtain ⟨g3, cp3, hv3, _⟩ := HO3.out.form (by omega)
      injection hv3 with hA3 _ hc3
      subst hA3 hc3
      have hkl : k < (lensTo l n).length := by rw [lensTo_len]; exact hlt
      have hle := lensTo_at l n k hkr hkl
      have y0 := below_cell hS.below (own_cell cutC 3 cutC_len HO3.out k 0 hkl hlt (by omega))
      have y1 := below_cell hS.below (own_cell cutC 3 cutC_len HO3.out k 1 hkl hlt (by omega))
      have y2 := below_cell hS.below (own_cell cutC 3 cutC_len HO3.out k 2 hkl hlt (by omega))
      rw [hle, HS.out] at y0 y1 y2
      obtain ⟨⟨r, gm, sk⟩, hx⟩ : ∃ x, l[k] = x := ⟨_, rfl⟩
      rw [hx] at c0 c1 c2 hsn hok y0 y1 y2
      simp only [Nat.add_zero] at c0 y0
      simp only at hok hbd
      obtain ⟨hok1, hok2⟩ := hok
      obtain ⟨bd1, bd2, bd3, bd4⟩ := hbd
      subst hA
      have hz : Blk wr w3.heap.size _ _ := hS.head
      have z0 := hz.cell 0
      have z1 := hz.cell 1
      have z2 := hz.cell 2
      have f0 := hz.frozen 0
      have f1 := hz.frozen 1
      have f2 := hz.frozen 2
      have hlw := hz.lt
      replace c0 : wr.cell? ⟨g, o + k * 3, none⟩ = some (.int .i64 r) := c0
      replace c1 : wr.cell? ⟨g, o + k * 3 + 1, none⟩ = some (.int .i64 gm) := c1
      replace c2 : wr.cell? ⟨g, o + k * 3 + 2, none⟩ = some (.bool sk) := c2
      clear hcs hx hle hz
      cases sk
      · obtain ⟨q1, q2, q3, q4, q5, q6⟩ := hok2 rfl
        obtain ⟨d1, hd1⟩ : ∃ d, r - lr = d := ⟨_, rfl⟩
        obtain ⟨d2, hd2⟩ : ∃ d, gm - lg = d := ⟨_, rfl⟩
        have e1 : lr + d1 = r := by omega
        have e2 : lg + d2 = gm := by omega
        replace y0 : wr.cell? ⟨g3, k * 3, none⟩ = some (.int .i64 d1) := by rw [← hd1]; exact y0
        replace y1 : wr.cell? ⟨g3, k * 3 + 1, none⟩ = some (.int .i64 d2) := by rw [← hd2]; exact y1
        replace y2 : wr.cell? ⟨g3, k * 3 + 2, none⟩ = some (.bool false) := y2
        have HN : Hid (cutS l (k + 1) = (r, gm)) := hsn
        have E1 := Lib.hid e1
        have E2 := Lib.hid e2
        have b1 : -864000000 ≤ d1 ∧ d1 ≤ 864000000 := by omega
        have b2 : -864000000 ≤ d2 ∧ d2 ≤ 864000000 := by omega
        obtain ⟨b1a, b1b⟩ := b1
        obtain ⟨b2a, b2b⟩ := b2
        have hgne : g ≠ w3.heap.size := fun e => by
          have h1 := World.block_lt_of_cell? wr _ c0
          have h2 := HC.out (by omega)
          obtain ⟨g', o', hg', _, hcs'⟩ := h2
          injection hg' with hg'
          injection hg' with hg' _
          have h3 := World.block_lt_of_cell? w2 _ (show w2.cell? ⟨g', o' + k * 3 + 0, none⟩ = some _ from (hcs' k hkr 0 (by omega)).trans (List.getElem?_eq_getElem (by rw [cutC_len]; omega)))
          have h4 := HB3.out.size
          simp only at h3
          omega
        have hg3ne : g3 ≠ w3.heap.size := by have := (HO3.out.lt g3 rfl).2; omega
        have hS2 := ((hS.set_ 0 (.int .i64 r)).set_ 1 (.int .i64 gm)).set_ 2 (.bool false)
        clear hsn hok1 hok2 hd1 hd2 e1 e2 hS
        go_wp2_with fail
        go_quiet (fail)
        go_wp2_with fail
        go_roundw
        case rel => exact ⟨k + 1, r, gm, by omega, by go_num, HN, by rw [E1.out], by rw [E2.out], hS2.drewN _⟩
        case measure => simp [intOf]; omega
      · obtain ⟨p1, p2⟩ := hok1 rfl
        subst p1 p2
        replace y0 : wr.cell? ⟨g3, k * 3, none⟩ = some (.int .i64 0) := y0
        replace y1 : wr.cell? ⟨g3, k * 3 + 1, none⟩ = some (.int .i64 0) := y1
        replace y2 : wr.cell? ⟨g3, k * 3 + 2, none⟩ = some (.bool true) := y2
        have HN : Hid (cutS l (k + 1) = (lr, lg)) := hsn
        clear hsn hok1 hok2
        go_wp2_with fail
        go_quiet (fail)
        go_wp2_with fail
        go_roundw
        case rel => exact ⟨k + 1, lr, lg, by omega, by go_num, HN, by first | rfl | simp, by first | rfl | simp, hS.drewN _⟩
        case measure => simp [intOf]; omega
    · obtain rfl : k = n := by omega
      have hz : Blk wr w3.heap.size _ _ := hS.head
      have z0 := hz.cell 0
      have z1 := hz.cell 1
      have hbW := below_call HBB.out hS.below (Nat.le_refl _)
      have hRD := Lib.hid (ready_calls w2.heap.size wr (by have := HB3.out.size; have := hS.size; have := hz.lt; omega) (ht.below hbW))
      clear hz
      go_wp2_with fail
      refine hRD.out.mono ?_
      rintro e w4 ⟨rfl, hb4⟩
      have hfin := below_call hbW hb4 (Nat.le_refl _)
      go_wp2_with fail
      go_ret
      exact ⟨rfl, hfin⟩
end Go.Proofs.YtabchlockmicpaaDoor
