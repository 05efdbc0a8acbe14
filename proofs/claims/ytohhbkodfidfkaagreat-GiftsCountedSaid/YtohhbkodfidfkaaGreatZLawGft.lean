/-
  GiftsCounted: the law's own walk. (Printed by gen_lawgft.py.)
-/
import Derived.Test.YtohhbkodfidfkaaGreatZStream
import Derived.Test.YtohhbkodfidfkaaGreatZLawSlt
import Derived.Test.YtohhbkodfidfkaaGreatZGft10
import Derived.Test.YtohhbkodfidfkaaGreatZBid1
import Derived.Test.YtohhbkodfidfkaaGreatZBid7
import Derived.Test.YtohhbkodfidfkaaGreatZBid8
import Derived.Test.YtohhbkodfidfkaaGreatZBid16
import Derived.Deep.DeepCutAuto
import Derived.Deep.RegionHeld3
import Derived.Deep.DeepFit
namespace Go.Proofs.YtohhbkodfidfkaaGreat
open Go Go.RowKit

theorem bds_ofG {w W : World} {b K n c : Nat} {A : Option Addr} {xs : List Bd} {l : List Rsc} (hS : Sp w b K W (rOwn w.heap.size 53 4 (.slice A n c) n (xs.flatMap bdC) :: rAll (bidR w.heap.size) xs :: l)) (hz : BdZs xs) : Bds W b A n c xs := by
  have h0 : W.ownsRow w.heap.size 53 4 (.slice A n c) n (xs.flatMap bdC) := hS.head
  have h1 : ∀ x ∈ xs, (bidR w.heap.size x).P W := hS.tail.head
  exact ⟨Rd.own h0 hS.hb, fun x hx => ⟨Rd.own (h1 x hx) hS.hb, (hz x hx).hk, (hz x hx).hb, (hz x hx).hh, Nat.le_trans (hz x hx).hn (by omega), (hz x hx).hg⟩⟩
/-- what a bid of a right list is -/
def BdG (x : Bd) : Prop := keyB x.key.data.toList = true ∧ ∀ s ∈ x.opts, s.toList.isEmpty = false
theorem bds_good {xs : List Slt} {bs : List Bd} (h : bidsF xs bs = 0) : ∀ x ∈ bs, BdG x := fun x hx => ⟨((bids_right h).1 x hx).key, ((bids_right h).1 x hx).opts⟩

set_option maxRecDepth 100000 in
set_option maxHeartbeats 20000000 in
theorem gft_walk (a0 : Option Addr) (len0 cap0 : Nat) (z0 : List Int) (w : World) (w0 : InRow w a0 len0 cap0 z0) :
    Calls Tryz.prog 3 #[.slice a0 len0 cap0] w fun e w' => e = .returned (.bool true) ∧ Below w.heap.size w w' := by
  have hs00 := strm_start w0 25
  have hb00 : Bx w.heap.size w.heap.size w (w.alloc (.cells #[.slice a0 len0 cap0, .int .i64 0] 25)) := (Bx.refl _ _ _).alloc (Nat.le_refl _) _
  have hs0 := hs00.alloc (.cells #[.pointer (some ⟨w.heap.size, 0, none⟩)] 23)
  have hb0 := hb00.alloc (Nat.le_refl _) (.cells #[.pointer (some ⟨w.heap.size, 0, none⟩)] 23)
  have hx0 : Blk ((w.alloc (.cells #[.slice a0 len0 cap0, .int .i64 0] 25)).alloc (.cells #[.pointer (some ⟨w.heap.size, 0, none⟩)] 23)) (w.heap.size + 1) 23 #[.pointer (some ⟨w.heap.size, 0, none⟩)] := heap_new2 _ _ _
  obtain ⟨wA, hwA⟩ : ∃ W, (w.alloc (.cells #[.slice a0 len0 cap0, .int .i64 0] 25)).alloc (.cells #[.pointer (some ⟨w.heap.size, 0, none⟩)] 23) = W := ⟨_, rfl⟩
  rw [hwA] at hs0 hb0 hx0
  obtain ⟨b, hbb⟩ : ∃ b, w.heap.size = b := ⟨_, rfl⟩
  have HBB := Lib.hid hbb
  obtain ⟨gx, hgx⟩ : ∃ g, b + 1 = g := ⟨_, rfl⟩
  rw [hbb] at hs0 hx0 hb0 hwA
  rw [hgx] at hx0
  have hnx : gx ≠ b := by omega
  have hbe : b ≤ w.heap.size := by omega
  have hk0 : wA.cell? ⟨gx, 0, none⟩ = some (.pointer (some ⟨b, 0, none⟩)) := hx0.cell 0
  clear w0 hs00 hb00
  go_enter Tryz.func3, Tryz.ntmps3
  go_wp2_with fail
  clear hwA hbb hgx
  refine (slots_calls b 0 4 _ hs0 (by omega) (by omega)).mono ?_
  rintro e w1 ⟨v, xs, rfl, hx5, hz, hS⟩
  obtain ⟨n, hn⟩ : ∃ n, xs.length = n := ⟨_, rfl⟩
  rw [hn] at hS hx5
  obtain ⟨A, c, hv⟩ := own_form (show w1.ownsRow _ _ _ v n _ from hS.head)
  subst hv
  have hr1 := slts_of hS hz (by omega)
  have hs1 := hS.strm
  have hb1 := hb0.call hS.bx (by omega)
  have hx1 := hx0.bx hS.bx hnx
  have hk1 : w1.cell? ⟨gx, 0, none⟩ = some (.pointer (some ⟨b, 0, none⟩)) := hx1.cell 0
  clear hS hs0 hb0 hz hn hx0 hk0
  go_wp2_with fail
  refine (bids_calls b _ A n c xs _ hs1 (by omega) hr1 (by omega)).mono ?_
  rintro e w3 ⟨v, bs, rfl, hbn, hbz, hS⟩
  obtain ⟨m2, hm2⟩ : ∃ n, bs.length = n := ⟨_, rfl⟩
  rw [hm2] at hS hbn
  obtain ⟨A2, c2, hv⟩ := own_form (show w3.ownsRow _ _ _ v m2 _ from hS.head)
  subst hv
  have hd3 := bds_ofG hS hbz
  have hr3 := hr1.bx hS.bx
  have hs3 := hS.strm
  have hb3 := hb1.call hS.bx (by omega)
  have hx3 := hx1.bx hS.bx hnx
  have hk3 : w3.cell? ⟨gx, 0, none⟩ = some (.pointer (some ⟨b, 0, none⟩)) := hx3.cell 0
  clear hS hs1 hr1 hb1 hbz hm2 hx1 hk1
  obtain ⟨E2, hE2⟩ : ∃ E, bidsF xs bs = E := ⟨_, rfl⟩
  have HCB := Lib.hid (checkBids_calls b A A2 n c m2 c2 xs bs w3 hr3 hd3 hs3.lt)
  have HQB : Hid (∀ W, Below w3.heap.size w3 W → Calls Tryz.prog 7 #[.slice A n c, .slice A2 m2 c2] W (BRet (.int .i64 E2) W)) := fun W hW => by
    have := bidsFaultQ_calls b A A2 n c m2 c2 xs bs W (hr3.below hW) (hd3.below hW) (by have := hW.size; have := hs3.lt; omega)
    rw [hE2] at this
    exact this
  rw [hE2] at HCB
  have HGD : Hid (E2 = 0 → ∀ x ∈ bs, BdG x) := fun h => bds_good (hE2.trans h)
  have HD3 := Lib.hid hd3
  clear hE2 hr3 hd3
  go_wp2_with fail
  refine HCB.out.mono ?_
  rintro e w4 ⟨rfl, hb4⟩
  go_wp2_with fail
  refine (HQB.out _ hb4).mono ?_
  rintro e w5 ⟨rfl, hb5⟩
  have hb45 := below_call hb4 hb5 (Nat.le_refl _)
  have hne : (E2 != E2) = false := by simp
  clear hb4 hb5
  go_wp2_with fail
  refine (HQB.out _ hb45).mono ?_
  rintro e w6 ⟨rfl, hb6⟩
  have hb36 := below_call hb45 hb6 (Nat.le_refl _)
  clear hb45 hb6 hne
  go_upto_if 46 with (fail)
  have hd6 := HD3.out.below hb36
  have hs6 := hs3.below hb36
  have hB6 := hb3.callB hb36 (by omega)
  have hx6 := hx3.below hb36
  clear hb36 hs3 hb3 hx3 hk3
  go_cut [5] (fun s5 W => ∃ (B2 : Option Addr) (l2 d2 : Nat) (ds : List Bd), s5 = .slice B2 l2 d2 ∧ w6 = W ∧ l2 ≤ 1000 ∧ Bds w6 b B2 l2 d2 ds ∧ ∀ x ∈ ds, BdG x)
  case first =>
    by_cases h0 : E2 = 0
    · subst h0
      go_wp2_with fail
      go_meet
      exact ⟨A2, m2, c2, bs, rfl, rfl, by omega, hd6, HGD.out (by first | rfl | trivial)⟩
    · have hx : (E2 != 0) = true := by rw [bne_iff_ne]; exact h0
      go_wp2_with fail
      go_meet
      exact ⟨none, 0, 0, [], rfl, rfl, by omega, ⟨Rd.nil _ _ _, (by intro x hx; cases hx)⟩, (by intro x hx; cases hx)⟩
  case rest =>
    obtain ⟨B2, l2, d2, ds, rfl, rfl, hl2, hd, hgood⟩ := hcut
    have HGOOD := Lib.hid hgood
    clear hd6 hgood HCB HQB HGD HD3
    have hk6 : w6.cell? ⟨gx, 0, none⟩ = some (.pointer (some ⟨b, 0, none⟩)) := hx6.cell 0
    have HD6 := Lib.hid hd
    have hST := Spm.start (m := 20) hs6 (by omega)
    have HBX : Hid (∀ m W l, Spm w6 b m W l → W.cell? ⟨gx, 0, none⟩ = some (.pointer (some ⟨b, 0, none⟩))) := fun m W l h => (hx6.bx h.bx hnx).cell 0
    have HRG : Hid (∀ m W l, Spm w6 b (m + 1) W l → Calls Tryz.prog 9 #[.pointer (some ⟨b, 0, none⟩), .int .i64 0, .int .i64 10] W (SpmS (IsInt 0 10) w6 b m l)) := fun m W l h => spm_range h 0 10 (by omega) (by omega) (by omega)
    have HR4 : Hid (∀ m W l, Spm w6 b (m + 1) W l → Calls Tryz.prog 9 #[.pointer (some ⟨b, 0, none⟩), .int .i64 0, .int .i64 4] W (SpmS (IsInt 0 4) w6 b m l)) := fun m W l h => spm_range h 0 4 (by omega) (by omega) (by omega)
    have HGF : Hid (∀ m (many : Nat) W l, (many : Int) ≤ 10 → Spm w6 b (m + 1) W l → Calls Tryz.prog 8 #[.pointer (some ⟨b, 0, none⟩), .slice B2 l2 d2, .int .i64 many] W (GiftsM w6 b m l)) := fun m many W l hm h => spm_gifts h B2 l2 d2 many ds HD6.out hl2 hm
    have HPK : Hid (∀ m W l G (i : Nat), Spm w6 b (m + 1) W l → l[i]? = some (rBlk G 3 #[.int .i64 0, .int .i64 10, .int .i64 50, .int .i64 100, .int .i64 500, .int .i64 (-1)]) → Calls Tryz.prog 10 #[.pointer (some ⟨b, 0, none⟩), .slice (some ⟨G, 0, none⟩) 6 6] W (SpmS (IsInt (-1) 500) w6 b m l)) := fun m W l G i h hi => spm_pick h i (-1) 500 hi (by decide) (by decide) rfl rfl
    clear hs6 hd
    go_upto_region 8 with (fail)
    have hT : Spm w6 b (17 + 1 + 1 + 1) w6.drew [] := hST.drew
    have hTa := (hST.add #[.int .i64 0, .int .i64 10, .int .i64 50, .int .i64 100, .int .i64 500, .int .i64 (-1)] 3).drew
    replace hTa : Spm w6 b (17 + 1 + 1 + 1) (w6.alloc (.cells #[.int .i64 0, .int .i64 10, .int .i64 50, .int .i64 100, .int .i64 500, .int .i64 (-1)] 3)).drew [rBlk w6.heap.size 3 #[.int .i64 0, .int .i64 10, .int .i64 50, .int .i64 100, .int .i64 500, .int .i64 (-1)]] := hTa
    have hlt6 := hST.hb
    go_cut [6, 7] (fun s6 s7 W => ∃ (A3 : Option Addr) (c3 : Nat) (gs : List Gf) (at_ : Int), s6 = .slice A3 gs.length c3 ∧ s7 = .int .i64 at_ ∧ -1 ≤ at_ ∧ at_ ≤ 500 ∧ gs.length ≤ 10 ∧ GfOks gs ∧ Spm w6 b 17 W [rGf w6.heap.size A3 c3 gs])
    case first =>
      go_region_held3 (fun W => W.cell? ⟨gx, 0, none⟩ = some (.pointer (some ⟨b, 0, none⟩)))
        (first | (with_reducible exact HBX.out _ _ _ hT) | (with_reducible exact HBX.out _ _ _ hTa) | (with_reducible exact HBX.out _ _ _ (hT.add _ _)) | go_keep)
        (first
          | (go_at_call 9; ((with_reducible refine (HRG.out _ _ _ hT).mono ?_); rintro e w5 ⟨_, rfl, ⟨mv, rfl, mv0, mv1⟩, hT⟩; obtain ⟨many, rfl⟩ := Int.eq_ofNat_of_zero_le mv0))
          | (go_at_call 9; ((with_reducible refine (HRG.out _ _ _ hTa).mono ?_); rintro e w5 ⟨_, rfl, ⟨mv, rfl, mv0, mv1⟩, hT⟩; obtain ⟨many, rfl⟩ := Int.eq_ofNat_of_zero_le mv0))
          | (go_at_call 8; ((with_reducible refine (HGF.out _ _ _ _ mv1 hT).mono ?_); rintro e w5 ⟨A3, c3, gs, rfl, hgn, hgs, hT⟩))
          | (go_at_call 8; ((with_reducible refine (HGF.out _ _ _ _ mv1 (hT.add #[.int .i64 0, .int .i64 10, .int .i64 50, .int .i64 100, .int .i64 500, .int .i64 (-1)] 3)).mono ?_); rintro e w5 ⟨A3, c3, gs, rfl, hgn, hgs, hT⟩))
          | (go_at_call 10; ((with_reducible refine (HPK.out _ _ _ _ 0 hT rfl).mono ?_); rintro e w5 ⟨_, rfl, ⟨at_, rfl, at0, at1⟩, hT⟩))
          | (go_at_call 10; ((with_reducible refine (HPK.out _ _ _ _ 1 hT rfl).mono ?_); rintro e w5 ⟨_, rfl, ⟨at_, rfl, at0, at1⟩, hT⟩))
          | (go_at_call 10; ((with_reducible refine (HPK.out _ _ _ _ 0 hTa rfl).mono ?_); rintro e w5 ⟨_, rfl, ⟨at_, rfl, at0, at1⟩, hT⟩))
          | (go_at_call 10; ((with_reducible refine (HPK.out _ _ _ _ 0 (hT.add #[.int .i64 0, .int .i64 10, .int .i64 50, .int .i64 100, .int .i64 500, .int .i64 (-1)] 3) rfl).mono ?_); rintro e w5 ⟨_, rfl, ⟨at_, rfl, at0, at1⟩, hT⟩)))
      all_goals
        have hTB : Spm w6 b 17 w5 [rGf w6.heap.size A3 c3 gs] := by first | exact hT.drop 1 rfl rfl | exact hT.drop 0 rfl rfl
        go_wp2_with fail
        go_meet
        exact ⟨A3, c3, gs, at_, rfl, rfl, by omega, by omega, hgn, hgs, hTB⟩
    case rest =>
      obtain ⟨A3, c3, gs, at_, rfl, rfl, at0, at1, hgn, hgs, hST9⟩ := hcut
      clear hT hTa hST HPK
      as_aux_lemma =>
        go_upto_region 9 with (fail)
        have hT : Spm w6 b (15 + 1 + 1) _ [rGf w6.heap.size A3 c3 gs] := hST9.drew
        clear hST9
        go_region_held3 (fun W => W.cell? ⟨gx, 0, none⟩ = some (.pointer (some ⟨b, 0, none⟩)))
          (first | (with_reducible exact HBX.out _ _ _ hT) | go_keep)
          (first
            | (go_at_call 9; ((with_reducible refine (HR4.out _ _ _ hT).mono ?_); rintro e w5 ⟨_, rfl, ⟨mv, rfl, mv0, mv1⟩, hT⟩; obtain ⟨many, rfl⟩ := Int.eq_ofNat_of_zero_le mv0))
            | (go_at_call 8; ((with_reducible refine (HGF.out _ _ _ _ (Int.le_trans mv1 (by decide)) hT).mono ?_); rintro e w10 ⟨A8, c8, hs, rfl, hhn, hhs, hT⟩)))
        have HFL : Hid (∀ (k : Int) m W l, 1 ≤ k → k ≤ 100 → Spm w6 b (m + 1) W l → Calls Tryz.prog 11 #[.pointer (some ⟨b, 0, none⟩), .int .i64 k] W (SpmS IsBool w6 b m l)) := fun k m W l h1 h2 h => spm_flip h k h1 (by omega)
        have HNX : Hid (∀ (k : Int) m W l, 1 ≤ k → k ≤ 1000 → Spm w6 b (m + 1) W l → Calls Tryz.prog 13 #[.pointer (some ⟨b, 0, none⟩), .int .i64 k] W (SpmS (IsInt 0 (k - 1)) w6 b m l)) := fun k m W l h1 h2 h => spm_next h k h1 (by omega)
        clear HRG HGF HR4
        obtain ⟨n3, hn3⟩ : ∃ q, gs.length = q := ⟨_, rfl⟩
        obtain ⟨n8, hn8⟩ : ∃ q, hs.length = q := ⟨_, rfl⟩
        have hT : Spm w6 b (14 + 1) w10 [rGf w6.heap.size A8 c8 hs, rGf w6.heap.size A3 c3 gs] := hT
        have HN3 := Lib.hid hn3
        have HN8 := Lib.hid hn8
        have HGS := Lib.hid hgs
        have HHS := Lib.hid hhs
        have hgn3 : n3 ≤ 10 := by omega
        have hhn8 : n8 ≤ 10 := by omega
        have k10 := HBX.out _ _ _ hT
        clear hn3 hn8 hgn hhn hgs hhs
        go_upto_region 10 with (fail)
        go_cut [66] (fun s66 W => ∃ fl : Bool, s66 = .bool fl ∧ (fl = true → 0 < gs.length) ∧ Spm w6 b 14 W [rGf w6.heap.size A8 c8 hs, rGf w6.heap.size A3 c3 gs])
        case first =>
          by_cases h0 : 0 < gs.length
          · have h0i : (0 : Int) < (gs.length : Int) := by omega
            go_wp2_with fail
            refine (HFL.out 2 _ _ _ (by decide) (by decide) hT).mono ?_
            rintro e w11 ⟨_, rfl, ⟨fl, rfl⟩, hT1⟩
            go_wp2_with fail
            go_meet
            exact ⟨fl, rfl, fun _ => h0, hT1⟩
          · have h0i : ¬ (0 : Int) < (gs.length : Int) := by omega
            have hT1 : Spm w6 b 14 w10 [rGf w6.heap.size A8 c8 hs, rGf w6.heap.size A3 c3 gs] := hT.less
            go_wp2_with fail
            go_meet
            exact ⟨false, rfl, (fun h => by cases h), hT1⟩
        case rest =>
          obtain ⟨fl, rfl, hfl, hT2⟩ := hcut
          have HFLG := Lib.hid hfl
          clear hT hfl k10
          go_upto_if 66 with (fail)
          go_cut [8] (fun s8 W => ∃ (A8' : Option Addr) (c8' : Nat) (hs' : List Gf), s8 = .slice A8' hs'.length c8' ∧ hs'.length ≤ 10 ∧ (∀ x ∈ hs', GfOk x) ∧ Spm w6 b 12 W [rGf w6.heap.size A8' c8' hs', rGf w6.heap.size A3 c3 gs])
          case first =>
            cases fl
            · go_wp2_with fail
              go_meet
              exact ⟨A8, c8, hs, rfl, by rw [HN8.out]; exact hhn8, HHS.out.ok, hT2.to (by omega)⟩
            · have hg0 := HFLG.out rfl
              have hg1 : (1 : Int) ≤ (gs.length : Int) := by omega
              have hg2 : (gs.length : Int) ≤ 1000 := by rw [HN3.out]; omega
              have hT2 : Spm w6 b (13 + 1) _ [rGf w6.heap.size A8 c8 hs, rGf w6.heap.size A3 c3 gs] := hT2
              have k11 := HBX.out _ _ _ hT2
              have hrd0 := hT2.gf 1 rfl
              obtain ⟨g3, hg3⟩ : ∃ g, A3 = some ⟨g, 0, none⟩ := by
                have ho : World.ownsRow _ w6.heap.size 39 5 (.slice A3 gs.length c3) gs.length (gs.flatMap gfC) := hT2.nth 1 rfl
                rcases ho.2 with ⟨_, h0⟩ | ⟨g, cap, cur, he, _⟩
                · omega
                · injection he with he _ _
                  exact ⟨g, he⟩
              subst hg3
              have hcap : gs.length ≤ c3 ∧ c3 ≤ maxLen := by
                have ho : World.ownsRow _ w6.heap.size 39 5 (.slice (some ⟨g3, 0, none⟩) gs.length c3) gs.length (gs.flatMap gfC) := hT2.nth 1 rfl
                exact own_cap ho
              unfold maxLen at hcap
              go_wp2_with fail
              refine (HNX.out _ _ _ _ hg1 hg2 hT2).mono ?_
              rintro e w12 ⟨_, rfl, ⟨kv, rfl, kv0, kv1⟩, hT3⟩
              obtain ⟨k, rfl⟩ := Int.eq_ofNat_of_zero_le kv0
              have hkl : k < gs.length := by omega
              have hki : (k : Int) ≤ (gs.length : Int) := by omega
              have hck : ¬ c3 = k := by omega
              have hrd3 := gf_behind (hT3.gf 1 rfl) hkl
              rw [Nat.zero_add] at hrd3
              have HCLN := Lib.hid (cloneGf_calls b _ _ _ _ _ hrd3 (gfC_one _) (by omega))
              clear hrd0 hT2 k11 hrd3
              go_wp2_with fail
              refine HCLN.out.mono ?_
              rintro e w13 ⟨v, rfl, ho, hb13⟩
              obtain ⟨A9, c9, rfl⟩ := own_form ho
              obtain ⟨h2, hh2⟩ : ∃ l, gs.drop k = l := ⟨_, rfl⟩
              have hl2 : h2.length = gs.length - k := by rw [← hh2, List.length_drop]
              have hT4 : Spm w6 b (12 + 1) w13 [rGf w6.heap.size A9 c9 h2, rGf w6.heap.size (some ⟨g3, 0, none⟩) c3 gs] := by
                have h := hT3.ownB hb13 ho
                rw [hh2, ← hl2] at h
                exact h.drop 1 rfl rfl
              have hh2m : ∀ x ∈ h2, GfO x := fun x hx => by
                rw [← hh2] at hx
                exact HGS.out x (List.mem_of_mem_drop hx)
              have HHM := Lib.hid hh2m
              have HL2 := Lib.hid hl2
              have k13 := HBX.out _ _ _ hT4
              have h20 : 0 < h2.length := by omega
              have h210 : h2.length ≤ 10 := by rw [hl2, HN3.out]; omega
              clear hT3 ho hb13 HCLN hh2 hh2m hl2
              go_wp2_with fail
              refine (HFL.out 4 _ _ _ (by decide) (by decide) hT4).mono ?_
              rintro e w14 ⟨_, rfl, ⟨f2, rfl⟩, hT5⟩
              cases f2
              · go_wp2_with fail
                go_meet
                exact ⟨A9, c9, h2, by rw [HL2.out], h210, fun x hx => (HHM.out x hx).1, hT5⟩
              · have ho : w14.ownsRow w6.heap.size 39 5 (.slice A9 h2.length c9) h2.length (h2.flatMap gfC) := hT5.nth 0 rfl
                obtain ⟨g9, hg9⟩ : ∃ g, A9 = some ⟨g, 0, none⟩ := by
                  rcases ho.2 with ⟨_, h0⟩ | ⟨g, cap, cur, he, _⟩
                  · omega
                  · injection he with he _ _
                    exact ⟨g, he⟩
                subst hg9
                have d2 : w14.cell? ⟨g9, 2, none⟩ = some (.int .i64 h2[0].cents) := own_cell gfC 5 gfC_len ho 0 2 h20 h20 (by omega)
                have f2 : w14.frozen? ⟨g9, 2, none⟩ = false := ho.frozenAt _
                have hm0 := HHM.out _ (List.getElem_mem h20)
                obtain ⟨hm1, hm2⟩ := hm0
                have hm3 := hm1.hc
                have hT6 := hT5.cents h20 (h2[0].cents + 1)
                have hlen : (h2.set 0 ⟨h2[0].id, h2[0].at_, h2[0].cents + 1, h2[0].bid, h2[0].option⟩).length = gs.length - k := by rw [List.length_set]; exact HL2.out
                have hok2 : ∀ x ∈ h2.set 0 ⟨h2[0].id, h2[0].at_, h2[0].cents + 1, h2[0].bid, h2[0].option⟩, GfOk x := fun x hx => by
                  rcases List.mem_or_eq_of_mem_set hx with h | h
                  · exact (HHM.out x h).1
                  · rw [h]
                    exact ⟨hm1.hi, hm1.hb, hm1.ho, hm1.ha, by show _ ≤ h2[0].cents + 1; omega, by show h2[0].cents + 1 ≤ _; omega⟩
                have HLEN := Lib.hid hlen
                have HOK2 := Lib.hid hok2
                obtain ⟨q1, q2⟩ := hm3
                have hpos : (0 : Int) < ((gs.length - k : Nat) : Int) := by omega
                have hposn : 0 < gs.length - k := by omega
                clear ho hlen hok2 hm1
                go_wp2_with fail
                go_meet
                exact ⟨some ⟨g9, 0, none⟩, c9, _, by rw [HLEN.out], by rw [List.length_set]; exact h210, HOK2.out, hT6⟩
          case rest =>
            obtain ⟨A8', c8', hs', rfl, hl8, hok8, hT⟩ := hcut
            clear hT2 HFLG HN8 HHS hhn8
            as_aux_lemma =>
              have hlt := hT.hb
              have hgl : gs.length ≤ 10 := by rw [HN3.out]; exact hgn3
              obtain ⟨G1, hG1⟩ : ∃ G, giftsF keysT gs = G := ⟨_, rfl⟩
              obtain ⟨G2, hG2⟩ : ∃ G, giftsF keysT hs' = G := ⟨_, rfl⟩
              obtain ⟨E0, hE0⟩ : ∃ E, mergeE gs hs' = E := ⟨_, rfl⟩
              obtain ⟨F1, hF1⟩ : ∃ F, firstE [G1, G2] = F := ⟨_, rfl⟩
              obtain ⟨M, hM⟩ : ∃ M : Int, (if momB at_ = true then 0 else 1) = M := ⟨_, rfl⟩
              obtain ⟨F2, hF2⟩ : ∃ F, totalE gs at_ = F := ⟨_, rfl⟩
              obtain ⟨TL, hTL⟩ : ∃ T, totalL gs at_ = T := ⟨_, rfl⟩
              have hF2e : firstE [G1, M] = F2 := by
                rw [← hF2, ← hM]
                unfold totalE
                rw [hG1]
                by_cases h1 : G1 = 0
                · rw [if_pos h1, h1]
                  cases momB at_ <;> rfl
                · rw [if_neg h1]
                  simp [firstE, h1]
              have HSZ : Hid (∀ m W, Spm w6 b m W [rGf w6.heap.size A8' c8' hs', rGf w6.heap.size A3 c3 gs] → b < W.heap.size) := fun m W h => Nat.lt_of_lt_of_le hlt h.size
              have HMG : Hid (∀ m W, Spm w6 b m W [rGf w6.heap.size A8' c8' hs', rGf w6.heap.size A3 c3 gs] → Calls Tryz.prog 14 #[.slice A3 gs.length c3, .slice A8' hs'.length c8'] W (MrgOut W b E0 (mrgF [] (gs ++ hs')))) := fun m W h => by
                have := mergeGifts_calls b A3 A8' gs.length c3 hs'.length c8' gs hs' W (h.gf 1 rfl) (h.gf 0 rfl) HGS.out.ok hok8 (by omega) (by omega) (HSZ.out _ _ h)
                rw [hE0] at this
                exact this
              have HGO : Hid (∀ m W, Spm w6 b m W [rGf w6.heap.size A8' c8' hs', rGf w6.heap.size A3 c3 gs] → Calls Tryz.prog 19 #[.slice A3 gs.length c3, .slice A8' hs'.length c8'] W (MrgOut W b (mrgE (mrgF gs hs')) (mrgF gs hs'))) := fun m W h => giftsOf_calls b A3 A8' gs.length c3 hs'.length c8' gs hs' W (h.gf 1 rfl) (h.gf 0 rfl) HGS.out.ok hok8 (by omega) (by omega) (HSZ.out _ _ h)
              have HTO : Hid (∀ m W, Spm w6 b m W [rGf w6.heap.size A8' c8' hs', rGf w6.heap.size A3 c3 gs] → Calls Tryz.prog 15 #[.slice A3 gs.length c3, .int .i64 at_] W (BRet (.tuple #[.int .i64 TL, .int .i64 F2]) W)) := fun m W h => by
                have := total_calls b A3 gs.length c3 gs at_ W (h.gf 1 rfl) HGS.out.ok (by omega)
                rw [hTL, hF2] at this
                exact this
              have HTQ : Hid (∀ m W, Spm w6 b m W [rGf w6.heap.size A8' c8' hs', rGf w6.heap.size A3 c3 gs] → Calls Tryz.prog 20 #[.slice A3 gs.length c3, .int .i64 at_] W (BRet (.int .i64 (totTo gs at_ gs.length)) W)) := fun m W h => totalOf_calls b A3 gs.length c3 gs at_ W (h.gf 1 rfl) HGS.out.ok (by omega)
              have HL1 : Hid (∀ m W, Spm w6 b m W [rGf w6.heap.size A8' c8' hs', rGf w6.heap.size A3 c3 gs] → Calls Tryz.prog 16 #[.slice A3 gs.length c3] W (BRet (.int .i64 G1) W)) := fun m W h => by
                have := giftListFault_calls b A3 gs.length c3 gs W (h.gf 1 rfl) HGS.out.ok
                rw [hG1] at this
                exact this
              have HL2 : Hid (∀ m W, Spm w6 b m W [rGf w6.heap.size A8' c8' hs', rGf w6.heap.size A3 c3 gs] → Calls Tryz.prog 16 #[.slice A8' hs'.length c8'] W (BRet (.int .i64 G2) W)) := fun m W h => by
                have := giftListFault_calls b A8' hs'.length c8' hs' W (h.gf 0 rfl) hok8
                rw [hG2] at this
                exact this
              have HER : Hid (∀ (x y z : Int) (W : World), firstE [x, y] = z → Calls Tryz.prog 17 #[.slice (some ⟨W.heap.size, 0, none⟩) 2 2] (W.alloc (.cells #[.int .i64 x, .int .i64 y] 30)) (QRet (.int .i64 z) (W.alloc (.cells #[.int .i64 x, .int .i64 y] 30)))) := fun x y z W hz => by
                have hr : Rd (W.alloc (.cells #[.int .i64 x, .int .i64 y] 30)) (W.heap.size + 5) 1 (.slice (some ⟨W.heap.size, 0, none⟩) 2 2) 2 ([x, y].map (Value.int .i64)) := Rd.lit W _ 1 2 #[.int .i64 x, .int .i64 y] _ (by omega) (by decide) rfl
                have := errs_calls (W.heap.size + 5) _ 2 2 [x, y] _ hr
                rw [hz] at this
                exact this
              have HMF : Hid (∀ W, Calls Tryz.prog 18 #[.int .i64 at_] W fun e w' => e = .returned (.int .i64 M) ∧ W = w') := fun W => by
                have := momentFaultG_calls at_ W
                rw [hM] at this
                exact this
              have HF1 := Lib.hid hF1
              have HF2 := Lib.hid hF2e
              -- what the mergings say
              have HSAME : Hid (F1 = 0 → E0 = mrgE (mrgF gs hs') ∧ mrgF [] (gs ++ hs') = mrgF gs hs' ∧ giftsF keysT gs = 0) := fun h => by
                have h' : firstE [giftsF keysT gs, giftsF keysT hs'] = 0 := by rw [hG1, hG2, hF1]; exact h
                obtain ⟨s1, s2⟩ := merge_same h'
                refine ⟨by rw [← hE0]; exact s1, s2, ?_⟩
                by_cases h1 : giftsF keysT gs = 0
                · exact h1
                · simp [firstE, h1] at h'
              have HDIFF : Hid (F1 ≠ 0 → E0 = F1) := fun h => by
                rw [← hE0]
                unfold mergeE
                rw [hG1, hG2, hF1, if_neg h]
              have HTL : Hid (TL = if F2 = 0 then totTo gs at_ gs.length else 0) := by
                rw [← hTL, ← hF2]
                exact Lib.hid rfl
              have HOK8 := Lib.hid hok8
              have HMM := Lib.hid hM
              clear hG1 hG2 hE0 hF1 hM hF2 hTL hF2e hok8
              go_wp2_with fail
              refine (HMG.out _ _ hT).mono ?_
              rintro e w20 ⟨Am, nm, cm, L1, rfl, hrm, hb20, hm0, hm1⟩
              have hT20 := hT.callB hb20
              have HM0 := Lib.hid hm0
              have HM1 := Lib.hid hm1
              clear hT hb20 hm0 hm1 HMG
              go_wp2_with fail
              refine (HTO.out _ _ hT20).mono ?_
              rintro e w21 ⟨rfl, hb21⟩
              have hT21 := hT20.callB hb21
              have hrm21 := hrm.below hb21
              clear hT20 hb21 hrm HTO
              go_wp2_with fail
              refine (HL1.out _ _ hT21).mono ?_
              rintro e w22 ⟨rfl, hb22⟩
              have hT22 := hT21.callB hb22
              have hrm22 := hrm21.below hb22
              clear hT21 hb22 hrm21
              go_wp2_with fail
              refine (HL2.out _ _ hT22).mono ?_
              rintro e w23 ⟨rfl, hb23⟩
              have hT23 := hT22.callB hb23
              have hrm23 := hrm22.below hb23
              clear hT22 hb23 hrm22
              go_wp2_with fail
              refine (HER.out _ _ _ _ HF1.out).mono ?_
              rintro e w24 ⟨rfl, nq, rfl⟩
              have hb24 := below_drewN ((Below.refl w23.heap.size w23).alloc (Nat.le_refl _) (.cells #[.int .i64 G1, .int .i64 G2] 30)) nq
              have hT24 := hT23.callB hb24
              have hrm24 := hrm23.below hb24
              obtain ⟨w24, hw24⟩ : ∃ W, (w23.alloc (.cells #[.int .i64 G1, .int .i64 G2] 30)).drewN nq = W := ⟨_, rfl⟩
              rw [hw24] at hT24 hrm24 ⊢
              clear hT23 hrm23 hb24 hw24
              go_wp2_with fail
              refine (HMF.out _).mono ?_
              rintro e w25 ⟨rfl, rfl⟩
              go_wp2_with fail
              refine (HER.out _ _ _ _ HF2.out).mono ?_
              rintro e w25 ⟨rfl, nq2, rfl⟩
              have hb25 := below_drewN ((Below.refl w24.heap.size w24).alloc (Nat.le_refl _) (.cells #[.int .i64 G1, .int .i64 M] 30)) nq2
              have hT25 := hT24.callB hb25
              have hrm25 := hrm24.below hb25
              obtain ⟨w25, hw25⟩ : ∃ W, (w24.alloc (.cells #[.int .i64 G1, .int .i64 M] 30)).drewN nq2 = W := ⟨_, rfl⟩
              rw [hw25] at hT25 hrm25 ⊢
              clear hT24 hrm24 hb25 hw25
              go_upto_if 108 with (fail)
              have hln := gf_list hrm25
              go_cut [14, 16] (fun s14 s16 W => ∃ (Aq : Option Addr) (cq : Nat), s14 = .int .i64 E0 ∧ s16 = .slice Aq nm cq ∧ Spm w6 b 12 W [rGf w6.heap.size A8' c8' hs', rGf w6.heap.size A3 c3 gs] ∧ Rd W b 5 (.slice Am nm cm) nm (L1.flatMap gfC) ∧ Rd W b 5 (.slice Aq nm cq) nm (L1.flatMap gfC))
              case first =>
                by_cases h0 : F1 = 0
                · obtain ⟨s1, s2, s3⟩ := HSAME.out h0
                  have HS1 := Lib.hid s1
                  have HS2 := Lib.hid s2
                  have HS3 := Lib.hid s3
                  have HLN := Lib.hid hln
                  have hx : (F1 == 0) = true := by simpa using h0
                  clear s1 s2 s3 hln h0
                  go_wp2_with fail
                  refine (HGO.out _ _ hT25).mono ?_
                  rintro e w26 ⟨Aq, nq3, cq, L2, rfl, hrq, hb26, q0, q1⟩
                  have hT26 := hT25.callB hb26
                  have hrm26 := hrm25.below hb26
                  have hLL : L2 = L1 := by
                    by_cases hE : E0 = 0
                    · have p0 := HM0.out hE
                      rw [HS2.out] at p0
                      exact merge_lists HS3.out (q0 (HS1.out.symm.trans hE)) p0
                    · rw [HM1.out hE, q1 (by rw [← HS1.out]; exact hE)]
                  subst hLL
                  have hnq : nq3 = nm := (gf_list hrq).symm.trans HLN.out
                  subst hnq
                  clear q0 q1 hb26
                  go_wp2_with fail
                  go_meet
                  exact ⟨Aq, cq, by rw [← HS1.out], rfl, hT26, hrm26, hrq⟩
                · have h1 := HDIFF.out h0
                  have hx : (F1 == 0) = false := by simpa using h0
                  have hE : E0 ≠ 0 := by rw [h1]; exact h0
                  have hL := HM1.out hE
                  have hn0 : nm = 0 := by rw [← hln, hL]; rfl
                  have H1 := Lib.hid h1
                  have HN0 := Lib.hid hn0
                  have hnil : Rd w25 b 5 (.slice none nm 0) nm (L1.flatMap gfC) := by rw [hL, hn0]; exact Rd.nil _ _ _
                  have HNIL := Lib.hid hnil
                  clear h0 h1 hE hL hn0 hnil hln
                  go_wp2_with fail
                  go_meet
                  exact ⟨none, 0, by rw [H1.out], by rw [HN0.out], hT25, hrm25, HNIL.out⟩
              case rest =>
                obtain ⟨Aq, cq, rfl, rfl, hT27, hrm27, hrq27⟩ := hcut
                clear hT25 hrm25 hln HM0 HM1 HSAME HDIFF HGO HL1 HL2
                go_upto_if 116 with (fail)
                go_cut [17] (fun s17 W => s17 = .int .i64 TL ∧ Spm w6 b 12 W [rGf w6.heap.size A8' c8' hs', rGf w6.heap.size A3 c3 gs] ∧ Rd W b 5 (.slice Am nm cm) nm (L1.flatMap gfC) ∧ Rd W b 5 (.slice Aq nm cq) nm (L1.flatMap gfC))
                case first =>
                  by_cases h0 : F2 = 0
                  · have hx : (F2 == 0) = true := by simpa using h0
                    have H1 := Lib.hid (HTL.out.trans (if_pos h0))
                    clear h0
                    go_wp2_with fail
                    refine (HTQ.out _ _ hT27).mono ?_
                    rintro e w28 ⟨rfl, hb28⟩
                    have hT28 := hT27.callB hb28
                    have hrm28 := hrm27.below hb28
                    have hrq28 := hrq27.below hb28
                    go_wp2_with fail
                    go_meet
                    exact ⟨by rw [H1.out], hT28, hrm28, hrq28⟩
                  · have hx : (F2 == 0) = false := by simpa using h0
                    have H1 := Lib.hid (HTL.out.trans (if_neg h0))
                    clear h0
                    go_wp2_with fail
                    go_meet
                    exact ⟨by rw [H1.out], hT27, hrm27, hrq27⟩
                case rest =>
                  obtain ⟨rfl, hT28, hrm28, hrq28⟩ := hcut
                  clear hT27 hrm27 hrq27 HTL HTQ
                  obtain ⟨GB, hGB⟩ : ∃ G, giftsF (namedF ds) gs = G := ⟨_, rfl⟩
                  have HCG : Hid (∀ m W, Spm w6 b m W [rGf w6.heap.size A8' c8' hs', rGf w6.heap.size A3 c3 gs] → Calls Tryz.prog 21 #[.slice B2 l2 d2, .slice A3 gs.length c3] W (BRet (.int .i64 GB) W)) := fun m W h => by
                    have := checkGifts_calls b A3 B2 gs.length c3 l2 d2 ds gs W (HD6.out.bx h.bx) (h.gf 1 rfl) HGS.out.ok
                    rw [hGB] at this
                    exact this
                  have HQG : Hid (∀ m W, Spm w6 b m W [rGf w6.heap.size A8' c8' hs', rGf w6.heap.size A3 c3 gs] → Calls Tryz.prog 22 #[.slice B2 l2 d2, .slice A3 gs.length c3] W (BRet (.int .i64 GB) W)) := fun m W h => by
                    have := giftsFaultB_calls b A3 B2 gs.length c3 l2 d2 ds gs W (HD6.out.bx h.bx) (h.gf 1 rfl) HGS.out.ok (HSZ.out _ _ h)
                    rw [hGB] at this
                    exact this
                  clear hGB
                  have hgg : (GB != GB) = false := by simp
                  have hee : (E0 != E0) = false := by simp
                  have hff : (F2 != F2) = false := by simp
                  have htt : (TL != TL) = false := by simp
                  go_wp2_with fail
                  refine (HCG.out _ _ hT28).mono ?_
                  rintro e w29 ⟨rfl, hb29⟩
                  have hT29 := hT28.callB hb29
                  have hrm29 := hrm28.below hb29
                  have hrq29 := hrq28.below hb29
                  clear hT28 hrm28 hrq28 hb29
                  go_wp2_with fail
                  refine (HQG.out _ _ hT29).mono ?_
                  rintro e w30 ⟨rfl, hb30⟩
                  have hT30 := hT29.callB hb30
                  have hrm30 := hrm29.below hb30
                  have hrq30 := hrq29.below hb30
                  clear hT29 hrm29 hrq29 hb30 HCG
                  go_wp2_with fail
                  refine (equalGf_calls b Am Aq nm cm cq L1 _ hrm30 hrq30).mono ?_
                  rintro e w31 ⟨rfl, nq3, rfl⟩
                  have hT31 := hT30.drewN nq3
                  clear hT30 hrm30 hrq30
                  go_upto_if 152 with (fail)
                  have hT32 := ((hT31.add #[.string ⟨#[120]⟩, .string ⟨#[121]⟩] 9).add #[.string ⟨#[98, 97]⟩, .string ⟨#[115, 97]⟩, .int .i64 0, .slice (some ⟨w30.heap.size, 0, none⟩) 2 2] 53)
                  obtain ⟨g18, hg18⟩ : ∃ g, w30.heap.size + 1 = g := ⟨_, rfl⟩
                  obtain ⟨gs0, hgs0⟩ : ∃ g, w30.heap.size = g := ⟨_, rfl⟩
                  have hne1 : g18 ≠ b := by have := hT31.size; have h3 : (w30.drewN nq3).heap.size = w30.heap.size := rfl; omega
                  have hne2 : gs0 ≠ b := by have := hT31.size; have h3 : (w30.drewN nq3).heap.size = w30.heap.size := rfl; omega
                  have hsz31 : ((w30.drewN nq3).alloc (.cells #[.string ⟨#[120]⟩, .string ⟨#[121]⟩] 9)).heap.size = g18 := by rw [← hg18]; simp
                  have hsz30 : (w30.drewN nq3).heap.size = gs0 := hgs0
                  rw [hsz31, hsz30, hgs0] at hT32
                  obtain ⟨w32, hw32⟩ : ∃ W, ((w30.drewN nq3).alloc (.cells #[.string ⟨#[120]⟩, .string ⟨#[121]⟩] 9)).alloc (.cells #[.string ⟨#[98, 97]⟩, .string ⟨#[115, 97]⟩, .int .i64 0, .slice (some ⟨gs0, 0, none⟩) 2 2] 53) = W := ⟨_, rfl⟩
                  rw [hw32] at hT32
                  rw [hg18, hgs0, hw32]
                  clear hT31 hsz31 hsz30 hw32 hg18 hgs0
                  go_cut [] (fun W => ∃ (w33 : World) (x : Bd), w33 = W ∧ Spm w6 b 10 w33 [rBlk g18 53 #[.string x.key, .string x.before, .int .i64 x.goal, .slice x.oa x.opts.length x.oc], rGf w6.heap.size A3 c3 gs] ∧ BdOk w33 b x ∧ BdG x)
                  case first =>
                    as_aux_lemma =>
                      by_cases h0 : 0 < l2
                      · have hq1 : (1 : Int) ≤ (l2 : Int) := by omega
                        have hq2 : (l2 : Int) ≤ 1000 := by omega
                        have h0i : (0 : Int) < (l2 : Int) := by omega
                        have hT33 : Spm w6 b (11 + 1) w32 [rBlk g18 53 #[.string ⟨#[98, 97]⟩, .string ⟨#[115, 97]⟩, .int .i64 0, .slice (some ⟨gs0, 0, none⟩) 2 2], rGf w6.heap.size A3 c3 gs] := (hT32.drop 1 rfl rfl).drop 1 rfl rfl
                        have k33 := HBX.out _ _ _ hT33
                        clear hT32
                        go_wp2_with fail
                        refine (HNX.out _ _ _ _ hq1 hq2 hT33).mono ?_
                        rintro e w34 ⟨_, rfl, ⟨jv, rfl, jv0, jv1⟩, hT34⟩
                        obtain ⟨j, rfl⟩ := Int.eq_ofNat_of_zero_le jv0
                        have hjn : j < l2 := by omega
                        obtain ⟨hdl, _, _, hdc⟩ := HD6.out.rd.cells bdC_len (by omega)
                        have hjr : j < ds.length := by omega
                        obtain ⟨g, o, hA, hgb, hcs⟩ := hdc (by omega)
                        subst hA
                        have x0 := hcs j hjr 0 (by omega)
                        have x1 := hcs j hjr 1 (by omega)
                        have x2 := hcs j hjr 2 (by omega)
                        have x3 := hcs j hjr 3 (by omega)
                        have hok := HD6.out.ok _ (List.getElem_mem hjr)
                        have hgd := HGOOD.out _ (List.getElem_mem hjr)
                        obtain ⟨x, hx⟩ : ∃ x, ds[j] = x := ⟨_, rfl⟩
                        rw [hx] at x0 x1 x2 x3 hok hgd
                        obtain ⟨m, hm⟩ : ∃ m, x.opts.length = m := ⟨_, rfl⟩
                        have y0 : w34.cell? ⟨g, o + j * 4, none⟩ = some (.string x.key) := hT34.bx.cell x0 hgb
                        have y1 : w34.cell? ⟨g, o + j * 4 + 1, none⟩ = some (.string x.before) := hT34.bx.cell x1 hgb
                        have y2 : w34.cell? ⟨g, o + j * 4 + 2, none⟩ = some (.int .i64 x.goal) := hT34.bx.cell x2 hgb
                        have y3 : w34.cell? ⟨g, o + j * 4 + 3, none⟩ = some (.slice x.oa m x.oc) := by rw [← hm]; exact hT34.bx.cell x3 hgb
                        have hb18 : Blk w34 g18 53 #[.string ⟨#[98, 97]⟩, .string ⟨#[115, 97]⟩, .int .i64 0, .slice (some ⟨gs0, 0, none⟩) 2 2] := hT34.nth 0 rfl
                        have z0 := hb18.cell 0
                        have z1 := hb18.cell 1
                        have z2 := hb18.cell 2
                        have z3 := hb18.cell 3
                        have f0 := hb18.frozen 0
                        have f1 := hb18.frozen 1
                        have f2 := hb18.frozen 2
                        have f3 := hb18.frozen 3
                        have hT35 := (hT34.set4 (.string x.key) (.string x.before) (.int .i64 x.goal) (.slice x.oa m x.oc)).less
                        have hoks := hok.bx hT35.bx
                        have hj0 : (0 : Int) ≤ (j : Int) := by omega
                        have hj1 : (j : Int) < (l2 : Int) := by omega
                        have HM := Lib.hid hm
                        clear hcs hdc hT33 hT34 hb18 hx hok hm k33
                        go_wp2_with fail
                        go_meet
                        exact ⟨_, x, rfl, by rw [HM.out]; exact hT35, hoks, hgd⟩
                      · have h0i : ¬ (0 : Int) < (l2 : Int) := by omega
                        have hT33 : Spm w6 b 10 w32 [rBlk g18 53 #[.string ⟨#[98, 97]⟩, .string ⟨#[115, 97]⟩, .int .i64 0, .slice (some ⟨gs0, 0, none⟩) 2 2], rGf w6.heap.size A3 c3 gs] := by
                          have h : Spm w6 b 12 w32 [rBlk g18 53 #[.string ⟨#[98, 97]⟩, .string ⟨#[115, 97]⟩, .int .i64 0, .slice (some ⟨gs0, 0, none⟩) 2 2], rGf w6.heap.size A3 c3 gs] := (hT32.drop 1 rfl rfl).drop 1 rfl rfl
                          exact h.to (by omega)
                        have hok := ownBid_ok (hT32.nth 1 rfl) hne2
                        go_wp2_with fail
                        go_meet
                        exact ⟨w32, ownBid gs0, rfl, hT33, hok, ownBid_good gs0⟩
                  case rest =>
                    obtain ⟨w33, x, rfl, hT33, hbd, hgood⟩ := hcut
                    have HGD := Lib.hid hgood
                    as_aux_lemma =>
                      have hg33 := hT33.gf 1 rfl
                      have hcap : Cap w33 b g18 gx x.key x.before x.goal x.oa x.opts.length x.oc := ⟨hT33.nth 0 rfl, hx6.bx hT33.bx hnx, hne1, hnx⟩
                      obtain ⟨K, hK, hst⟩ := hT33.strm
                      have hB33 := hB6.call hT33.bx hbe
                      have hlt33 : b < w33.heap.size := hst.lt
                      have hbn33 : b ≤ w33.heap.size := by omega
                      have HCLN := Lib.hid (cloneGf_calls b _ _ _ _ _ hg33 (gfC_one gs) (by omega))
                      clear hT32 hT33 hgood hg33
                      go_wp2_with fail
                      refine HCLN.out.mono ?_
                      rintro e w34 ⟨v, rfl, ho, hb34⟩
                      obtain ⟨A9, c9, rfl⟩ := own_form ho
                      have hS34 := (Sp.start hst).ownB hb34 ho
                      have HDEL := Lib.hid (deleteC_calls b K g18 gx x.key x.before x.goal x.oa x.opts.length x.oc A9 gs.length c9 gs w33 w34 hS34 hcap (by omega) (by omega))
                      clear ho hb34 hS34 HCLN hst
                      go_wp2_with fail
                      refine HDEL.out.mono ?_
                      rintro e w35 ⟨A', c', l, rfl, hsub, hlen, hrd, hstr, hbx⟩
                      have hcap35 := hcap.bx hbx
                      have hbd35 := hbd.bx hbx
                      have hB35 := hB33.call hbx hbe
                      have hlok : ∀ y ∈ l, GfOk y := fun y hy => HGS.out.ok y (hsub y hy)
                      have hll : l.length ≤ 10 := by omega
                      have hlt35 := hstr.lt
                      have HB35 := Lib.hid hB35
                      obtain ⟨E3, hE3⟩ : ∃ E, wonE x l at_ = E := ⟨_, rfl⟩
                      obtain ⟨⟨r1, r2, r3⟩, hR⟩ : ∃ R, wonR x l at_ = R := ⟨_, rfl⟩
                      obtain ⟨⟨q1, q2, q3⟩, hQ⟩ : ∃ R, wonQ x l at_ = R := ⟨_, rfl⟩
                      obtain ⟨GF, hGF⟩ : ∃ G, giftsF (namedF [x]) l = G := ⟨_, rfl⟩
                      obtain ⟨mo, hmo⟩ : ∃ m, x.opts.length = m := ⟨_, rfl⟩
                      have HWON : Hid (Calls Tryz.prog 26 #[.agg #[.string x.key, .string x.before, .int .i64 x.goal, .slice x.oa mo x.oc], .slice A' l.length c', .int .i64 at_] w35 (BRet (.tuple #[.string r1, .int .i64 r2, .bool r3, .int .i64 E3]) w35)) := by
                        have := wonX_calls b x A' l.length c' l at_ w35 hbd35 hrd hlok (by omega) hlt35
                        rw [hE3, hR, hmo] at this
                        exact this
                      have HWB : Hid (∀ W, Below w35.heap.size w35 W → Calls Tryz.prog 27 #[.agg #[.string x.key, .string x.before, .int .i64 x.goal, .slice x.oa mo x.oc], .slice A' l.length c', .int .i64 at_] W (BRet (.tuple #[.string q1, .int .i64 q2, .bool q3]) W)) := fun W hW => by
                        have := wonBy_calls b x A' l.length c' l at_ W (hbd35.below hW) (hrd.below hW) hlok (by omega) (Nat.lt_of_lt_of_le hlt35 hW.size)
                        rw [hQ, hmo] at this
                        exact this
                      have HGQ : Hid (∀ W, Below w35.heap.size w35 W → Calls Tryz.prog 22 #[.slice (some ⟨W.heap.size, 0, none⟩) 1 1, .slice A' l.length c'] (W.alloc (.cells #[.string x.key, .string x.before, .int .i64 x.goal, .slice x.oa mo x.oc] 53)) (BRet (.int .i64 GF) (W.alloc (.cells #[.string x.key, .string x.before, .int .i64 x.goal, .slice x.oa mo x.oc] 53)))) := fun W hW => by
                        have hW2 := hW.alloc hW.size (.cells #[.string x.key, .string x.before, .int .i64 x.goal, .slice x.oa mo x.oc] 53)
                        have hBs : Bds (W.alloc (.cells #[.string x.key, .string x.before, .int .i64 x.goal, .slice x.oa mo x.oc] 53)) b (some ⟨W.heap.size, 0, none⟩) 1 1 [x] := by
                          refine ⟨?_, fun y hy => ?_⟩
                          · have h := Rd.lit0 (w := W) (b := b) (size := 4) (n := 1) (cs := #[.string x.key, .string x.before, .int .i64 x.goal, .slice x.oa mo x.oc]) (t := 53) (Nat.lt_of_lt_of_le hlt35 hW.size) (by decide) rfl
                            have e : [x].flatMap bdC = [.string x.key, .string x.before, .int .i64 x.goal, .slice x.oa mo x.oc] := by simp [bdC, hmo]
                            rw [e]
                            exact h
                          · simp at hy
                            subst hy
                            exact hbd35.below hW2
                        have := giftsFaultB_calls b A' _ l.length c' 1 1 [x] l _ hBs (hrd.below hW2) hlok (by have := hW2.size; omega)
                        rw [hGF] at this
                        exact this
                      have HE3 : Hid (firstE [GF, M] = E3) := Lib.hid (by rw [← hGF, ← HMM.out, wonE_first, hE3])
                      have HRQ : Hid (E3 = 0 → r1 = q1 ∧ r2 = q2 ∧ r3 = q3) := Lib.hid (fun h => by
                        have := won_law HGD.out.1 HGD.out.2 (hE3.trans h)
                        rw [hR, hQ] at this
                        injection this with t1 t2
                        injection t2 with t2 t3
                        exact ⟨t1, t2, t3⟩)
                      have HRN : Hid (E3 ≠ 0 → r1 = ⟨#[]⟩ ∧ r2 = 0 ∧ r3 = false) := Lib.hid (fun h => by
                        have := wonR_no (x := x) (l := l) (at_ := at_) (by rw [hE3]; exact h)
                        rw [hR] at this
                        injection this with t1 t2
                        injection t2 with t2 t3
                        exact ⟨t1, t2, t3⟩)
                      have hb180 := hcap35.bid
                      rw [hmo] at hb180
                      have y0 := hb180.cell 0
                      have y1 := hb180.cell 1
                      have y2 := hb180.cell 2
                      have y3 := hb180.cell 3
                      have HB18 := Lib.hid hb180
                      clear hE3 hR hQ hGF hmo hbd35 hrd hlok hcap35 hbx hstr hsub hcap hbd hb180 HDEL hB35 hB33
                      go_wp2_with fail
                      refine HWON.out.mono ?_
                      rintro e w36 ⟨rfl, hb36⟩
                      have B36 := HB18.out.below hb36
                      have y0 := B36.cell 0
                      have y1 := B36.cell 1
                      have y2 := B36.cell 2
                      have y3 := B36.cell 3
                      have HG3 := Lib.hid (HGQ.out w36 hb36)
                      have hb36a := hb36.alloc hb36.size (.cells #[.string x.key, .string x.before, .int .i64 x.goal, .slice x.oa mo x.oc] 53)
                      clear B36 HWON HGQ
                      go_wp2_with fail
                      refine HG3.out.mono ?_
                      rintro e w37 ⟨rfl, hb37⟩
                      have hb37t := below_call hb36a hb37 (Nat.le_refl _)
                      clear hb36 hb36a hb37 HG3
                      go_wp2_with fail
                      refine (HMF.out _).mono ?_
                      rintro e w38 ⟨rfl, rfl⟩
                      go_wp2_with fail
                      refine (HER.out _ _ _ _ HE3.out).mono ?_
                      rintro e w38 ⟨rfl, nq4, rfl⟩
                      have hb38 := below_call hb37t (below_drewN ((Below.refl w37.heap.size w37).alloc (Nat.le_refl _) (.cells #[.int .i64 GF, .int .i64 M] 30)) nq4) (Nat.le_refl _)
                      obtain ⟨w38, hw38⟩ : ∃ W, (w37.alloc (.cells #[.int .i64 GF, .int .i64 M] 30)).drewN nq4 = W := ⟨_, rfl⟩
                      rw [hw38] at hb38 ⊢
                      clear hb37t hw38
                      go_upto_if 182 with (fail)
                      go_cut [25, 26, 27] (fun s25 s26 s27 W => s25 = .string r1 ∧ s26 = .int .i64 r2 ∧ s27 = .bool r3 ∧ Below w35.heap.size w35 W)
                      case first =>
                        by_cases h0 : E3 = 0
                        · have hxx : (E3 == 0) = true := by simpa using h0
                          obtain ⟨t1, t2, t3⟩ := HRQ.out h0
                          have HT := Lib.hid (And.intro t1 (And.intro t2 t3))
                          have B38 := HB18.out.below hb38
                          have z0 := B38.cell 0
                          have z1 := B38.cell 1
                          have z2 := B38.cell 2
                          have z3 := B38.cell 3
                          have HW3 := Lib.hid (HWB.out w38 hb38)
                          clear t1 t2 t3 h0 B38
                          go_wp2_with fail
                          refine HW3.out.mono ?_
                          rintro e w39 ⟨rfl, hb39⟩
                          have hb39t := below_call hb38 hb39 (Nat.le_refl _)
                          clear hb39
                          go_wp2_with fail
                          go_meet
                          exact ⟨by rw [HT.out.1], by rw [HT.out.2.1], by rw [HT.out.2.2], hb39t⟩
                        · have hxx : (E3 == 0) = false := by simpa using h0
                          obtain ⟨t1, t2, t3⟩ := HRN.out h0
                          have HT := Lib.hid (And.intro t1 (And.intro t2 t3))
                          clear t1 t2 t3 h0
                          go_wp2_with fail
                          go_meet
                          exact ⟨by rw [HT.out.1], by rw [HT.out.2.1], by rw [HT.out.2.2], hb38⟩
                      case rest =>
                        obtain ⟨rfl, rfl, rfl, hb40⟩ := hcut
                        have hb41 := Nat.lt_of_lt_of_le hlt35 hb40.size
                        clear hb38 HRQ HRN HWB
                        go_wp2_with fail
                        refine (shown_calls b _ hb41).mono ?_
                        rintro e w41 ⟨rfl, hb42⟩
                        have hfin := (HB35.out.callB (below_call hb40 hb42 (Nat.le_refl _)) hbe).below (Nat.le_refl _)
                        clear hb40 hb42
                        go_wp2_with fail
                        go_ret
                        refine ⟨rfl, ?_⟩
                        rw [HBB.out]
                        exact hfin
end Go.Proofs.YtohhbkodfidfkaaGreat
