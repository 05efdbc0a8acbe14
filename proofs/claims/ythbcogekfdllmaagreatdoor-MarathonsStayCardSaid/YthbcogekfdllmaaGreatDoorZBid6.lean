/-
  marathon.giftsFault, CheckGifts by contracts. (Printed by gen_bid6.py.)
-/
import Derived.Test.YthbcogekfdllmaaGreatDoorZSortSl
import Derived.Test.YthbcogekfdllmaaGreatDoorZBid4
import Derived.Test.YthbcogekfdllmaaGreatDoorZSlot5
import Derived.Test.YthbcogekfdllmaaGreatDoorZMap
import Derived.Deep.RegionHeld3
import Derived.Deep.DeepCutAuto
import Derived.IntWalk
namespace Go.Proofs.YthbcogekfdllmaaGreatDoor
open Go Go.RowKit
attribute [local go_sem ↓] Go.wp_at_zero Go.wp_at_succ

theorem dupTo_mono (gs : List Gf) {k : Nat} (h : dupTo gs k = true) : ∀ n, k ≤ n → dupTo gs n = true
  | 0, hn => by rw [show k = 0 by omega] at h; exact h
  | n + 1, hn => by
    rcases Nat.lt_or_ge n k with hlt | hge
    · rw [show n + 1 = k by omega]; exact h
    · have := dupTo_mono gs h n hge
      unfold dupTo
      split
      · exact this
      · rw [this]; rfl
def anyId (gs : List Gf) (k : Nat) (s : ByteArray) : Bool := (gs.take k).any (fun o => eqS o.id s)
def seenM (gs : List Gf) (k : Nat) (s : ByteArray) : Option Value := if anyId gs k s = true then some (.bool true) else none
theorem seenM_zero (gs : List Gf) : seenM gs 0 = fun _ => none := by
  funext s
  simp [seenM, anyId]
theorem seenM_get (gs : List Gf) (k : Nat) (s : ByteArray) : (seenM gs k s).getD (.bool false) = .bool (anyId gs k s) := by
  unfold seenM
  cases anyId gs k s <;> rfl
theorem anyId_step (gs : List Gf) (k : Nat) (hk : k < gs.length) (s : ByteArray) : anyId gs (k + 1) s = (anyId gs k s || eqS gs[k].id s) := by
  unfold anyId
  rw [List.take_succ_eq_append_getElem hk, List.any_append]
  simp
theorem seenM_upd (gs : List Gf) (k : Nat) (hk : k < gs.length) : upd (seenM gs k) gs[k].id (.bool true) = seenM gs (k + 1) := by
  funext s
  unfold upd seenM
  rw [anyId_step gs k hk]
  by_cases h : s = gs[k].id
  · rw [if_pos h, (eqS_iff gs[k].id s).2 h.symm]
    simp
  · have : eqS gs[k].id s = false := by
      cases he : eqS gs[k].id s
      · rfl
      · exact absurd ((eqS_iff _ _).1 he).symm h
    rw [if_neg h, this, Bool.or_false]
theorem zero_bool (w : World) : (zeroValue 4).run Tryz.prog w = .ok (.bool false) w := by kernel_rfl
theorem seen_look {W : World} {g N : Nat} {gs : List Gf} {k : Nat} (h : MapS W 9 g N (seenM gs k)) {s : ByteArray} (hs : s.size ≤ 1000) :
    (Instr.lookup 271 (.map (some g)) (.string s) false).run Tryz.prog W = .ok (.bool (anyId gs k s)) W := by
  have := h.look Tryz.underlying9 Tryz.underlying271 (zero_bool W) (s := s) (by unfold maxLen; omega)
  rw [seenM_get] at this
  exact this
theorem seen_put {w W : World} {l : List Rsc} {g N : Nat} {gs : List Gf} {k : Nat} (hS : Sq w W (rMap 9 g N (seenM gs k) :: l)) (hN : N ≤ 100000) {s : ByteArray} (hs : s.size ≤ 1000) (hk : k < gs.length) (he : gs[k].id = s) :
    ∃ W', (Instr.mapUpdate 271 (.map (some g)) (.string s) (.bool true)).run Tryz.prog W = .ok () W' ∧ Sq w W' (rMap 9 g (N + 1) (seenM gs (k + 1)) :: l) := by
  have h : MapS W 9 g N (seenM gs k) := hS.head
  obtain ⟨W', h1, h2, h3⟩ := h.update Tryz.underlying9 Tryz.underlying271 (by unfold maxLen; omega) (s := s) (by unfold maxLen; omega) (.bool true)
  subst he
  rw [seenM_upd gs k hk] at h2
  exact ⟨W', h1, hS.mapSet h2 h3⟩
theorem lateG_zero (gs : List Gf) (x : Gf) : lateG (prevG gs 0) x = false := rfl
theorem lateG_succ (gs : List Gf) (q : Nat) (hq : q < gs.length) (x : Gf) : lateG (prevG gs (q + 1)) x = behG gs[q] x := by
  simp [lateG, prevG, List.getElem?_eq_getElem hq]

set_option maxRecDepth 100000 in
set_option maxHeartbeats 4000000 in
theorem giftsFault_calls (b gb : Nat) (t : Gf → Int) (A : Option Addr) (n c : Nat) (gs : List Gf) (w : World) (hr : Rd w b 5 (.slice A n c) n (gs.flatMap gfC)) (hgs : ∀ x ∈ gs, GfOk x)
    (HT : ∀ W (x : Gf), Below w.heap.size w W → Calls Tryz.prog 142 #[.agg #[.string x.id, .int .i64 x.at_, .int .i64 x.cents, .string x.bid, .string x.option], .pointer (some ⟨gb, 0, none⟩)] W (BRet (.int .i64 (t x)) W)) :
    Calls Tryz.prog 141 #[.slice A n c, .func (.func 142) #[] #[.pointer (some ⟨gb, 0, none⟩)]] w (BRet (.int .i64 (giftsF t gs)) w) := by
  obtain ⟨hl, hnc, hcm, hcells⟩ := hr.cells gfC_len (by omega)
  unfold maxLen at hcm
  by_cases hbig : 2000 < n
  · have HF := Lib.hid (show giftsF t gs = 2 by unfold giftsF; rw [if_pos (by omega)])
    clear hcells hl hr HT
    go_enter Tryz.func141, Tryz.ntmps141
    go_wp2_with fail
    go_ret
    exact ⟨ret_int HF.out.symm, Below.refl _ _⟩
  have HF0 := Lib.hid (show giftsF t gs = if giftsG t none gs = 0 then (if dupTo gs gs.length = true then 6 else 0) else giftsG t none gs by unfold giftsF; rw [if_neg (by omega)])
  have HF := Lib.hid (show giftsG t none gs = giftsG t (prevG gs 0) (gs.drop 0) from rfl)
  have HL := Lib.hid hl
  have HC := Lib.hid hcells
  have HTT := Lib.hid HT
  have HGS := Lib.hid hgs
  clear hcells hl hr HT hgs
  go_enter Tryz.func141, Tryz.ntmps141
  go_wp2_with fail
  go_loopw [16] (fun i wr => ∃ k : Nat, k ≤ n ∧ i = .int .i64 k ∧ Hid (giftsG t none gs = giftsG t (prevG gs k) (gs.drop k)) ∧ Below w.heap.size w wr) (fun i _ => n - (intOf i).toNat)
  case atStart => exact ⟨0, Nat.zero_le _, rfl, HF, Below.refl _ _⟩
  case round =>
    clear HF
    obtain ⟨k, hk, rfl, HF, hbr⟩ := hrel
    by_cases hlt : k < n
    · have hkr : k < gs.length := by rw [HL.out]; exact hlt
      obtain ⟨g, o, hA, _, hcs⟩ := HC.out (by omega)
      subst hA
      have hst := HF.out.trans (giftsG_step t gs k hkr)
      have hok := HGS.out _ (List.getElem_mem hkr)
      have HCS := Lib.hid hcs
      have c0 := below_cell hbr (hcs k hkr 0 (by omega))
      have c1 := below_cell hbr (hcs k hkr 1 (by omega))
      have c2 := below_cell hbr (hcs k hkr 2 (by omega))
      have c3 := below_cell hbr (hcs k hkr 3 (by omega))
      have c4 := below_cell hbr (hcs k hkr 4 (by omega))
      obtain ⟨x, hx⟩ : ∃ x, gs[k] = x := ⟨_, rfl⟩
      rw [hx] at c0 c1 c2 c3 c4 hst hok
      have hsz : x.id.size ≤ 1000 := hok.hi
      have ht1 := HTT.out
      obtain ⟨xi, xa, xc, xb, xo⟩ := x
      simp only at hsz
      replace c0 : wr.cell? ⟨g, o + k * 5, none⟩ = some (.string xi) := c0
      replace c1 : wr.cell? ⟨g, o + k * 5 + 1, none⟩ = some (.int .i64 xa) := c1
      replace c2 : wr.cell? ⟨g, o + k * 5 + 2, none⟩ = some (.int .i64 xc) := c2
      replace c3 : wr.cell? ⟨g, o + k * 5 + 3, none⟩ = some (.string xb) := c3
      replace c4 : wr.cell? ⟨g, o + k * 5 + 4, none⟩ = some (.string xo) := c4
      obtain ⟨KS, hKS⟩ : ∃ B, keyB xi.data.toList = B := ⟨_, rfl⟩
      obtain ⟨MS, hMS⟩ : ∃ B, momB xa = B := ⟨_, rfl⟩
      obtain ⟨OS, hOS⟩ : ∃ B, outB xc 1 1000000000 = B := ⟨_, rfl⟩
      obtain ⟨TS, hTS⟩ : ∃ B, t ⟨xi, xa, xc, xb, xo⟩ = B := ⟨_, rfl⟩
      have HK := Lib.hid hKS
      have HM := Lib.hid hMS
      have HO := Lib.hid hOS
      have HTS := Lib.hid hTS
      have HX : Hid (∀ z : Int, giftE t (prevG gs k) ⟨xi, xa, xc, xb, xo⟩ = z → z ≠ 0 → giftsF t gs = z) := fun z hz h0 => by
        have h1 : giftsG t none gs = z := hst.trans (by rw [if_neg (by rw [hz]; exact h0), hz])
        rw [HF0.out, h1, if_neg h0]
      have HX0 : Hid (giftE t (prevG gs k) ⟨xi, xa, xc, xb, xo⟩ = 0 → giftsG t none gs = giftsG t (prevG gs (k + 1)) (gs.drop (k + 1))) := fun hz => hst.trans (if_pos hz)
      have HE : Hid (giftsF t gs = giftsF t gs) := rfl
      have hba0 : Below w.heap.size w (wr.alloc (.cells #[.string xi, .int .i64 xa, .int .i64 xc, .string xb, .string xo] 88)) := hbr.alloc hbr.size _
      have hwa0 : Below wr.heap.size wr (wr.alloc (.cells #[.string xi, .int .i64 xa, .int .i64 xc, .string xb, .string xo] 88)) := (Below.refl _ _).alloc (Nat.le_refl _) _
      have HBX0 := Blk.new wr 88 #[.string xi, .int .i64 xa, .int .i64 xc, .string xb, .string xo]
      obtain ⟨gx, hgx⟩ : ∃ gx, wr.heap.size = gx := ⟨_, rfl⟩
      obtain ⟨wa, hwa⟩ : ∃ wa, wr.alloc (.cells #[.string xi, .int .i64 xa, .int .i64 xc, .string xb, .string xo] 88) = wa := ⟨_, rfl⟩
      rw [hwa] at hba0 HBX0
      rw [hgx] at HBX0
      have hba := hba0
      have HBX := Lib.hid HBX0
      obtain ⟨y0, y1, y2, y3, y4⟩ := blk5 HBX0
      have HT1 := Lib.hid (ht1 wa ⟨xi, xa, xc, xb, xo⟩ hba)
      simp only [hTS] at HT1
      clear hcs hst hok hx ht1 hKS hMS hOS hTS hba0 hwa0 HBX0
      by_cases h0 : k = 0
      · subst h0
        simp only [Nat.zero_mul, Nat.add_zero] at c0 c1 c2 c3 c4
        have HLZ := Lib.hid (lateG_zero gs ⟨xi, xa, xc, xb, xo⟩)
        cases KS
        · have HSS := Lib.hid (id (HX.out 5 (by simp [giftE, HK.out]) (by decide)))
          clear HX
          go_wp2_with fail
          refine (key_calls xi _ (by unfold maxLen; omega)).mono ?_
          rintro e w1 ⟨rfl, rfl⟩
          rw [HK.out]
          go_wp2_with fail
          go_ret
          exact ⟨ret_int HSS.out.symm, hba⟩
        cases MS
        · have HSS := Lib.hid (id (HX.out 1 (by simp [giftE, HK.out, HM.out]) (by decide)))
          clear HX
          go_wp2_with fail
          refine (key_calls xi _ (by unfold maxLen; omega)).mono ?_
          rintro e w1 ⟨rfl, rfl⟩
          rw [HK.out]
          go_wp2_with fail
          refine (moment_calls xa _).mono ?_
          rintro e w1 ⟨rfl, rfl⟩
          rw [HM.out]
          go_wp2_with fail
          go_ret
          exact ⟨ret_int HSS.out.symm, hba⟩
        cases OS
        · by_cases ht : TS = 0
          · subst ht
            have HSS := Lib.hid (id (HX0.out (by simp [giftE, HK.out, HM.out, HO.out, HTS.out, HLZ.out])))
            clear HX HX0
            go_wp2_with fail
            refine (key_calls xi _ (by unfold maxLen; omega)).mono ?_
            rintro e w1 ⟨rfl, rfl⟩
            rw [HK.out]
            go_wp2_with fail
            refine (moment_calls xa _).mono ?_
            rintro e w1 ⟨rfl, rfl⟩
            rw [HM.out]
            go_wp2_with fail
            refine (out_calls _ _ _ _).mono ?_
            rintro e w1 ⟨rfl, rfl⟩
            rw [HO.out]
            go_wp2_with fail
            refine HT1.out.mono ?_
            rintro e w2 ⟨rfl, hb2⟩
            have hbb := below_call hba hb2 (Nat.le_refl _)
            obtain ⟨d0, d1, d2, d3, d4⟩ := blk5 (HBX.out.below hb2)
            go_wp2_with fail
            first | go_quiet (fail) | go_region_law (fail) | go_region
            go_wp2_with fail
            go_roundw
            case rel => exact ⟨1, by omega, by go_num, HSS, (below_drewN hbb _)⟩
            case measure => simp [intOf]; omega
          · have HSS := Lib.hid (id (HX.out TS (by simp [giftE, HK.out, HM.out, HO.out, HTS.out, ht]) ht))
            have htn : (TS != 0) = true := by simpa using ht
            clear HX HX0 ht
            go_wp2_with fail
            refine (key_calls xi _ (by unfold maxLen; omega)).mono ?_
            rintro e w1 ⟨rfl, rfl⟩
            rw [HK.out]
            go_wp2_with fail
            refine (moment_calls xa _).mono ?_
            rintro e w1 ⟨rfl, rfl⟩
            rw [HM.out]
            go_wp2_with fail
            refine (out_calls _ _ _ _).mono ?_
            rintro e w1 ⟨rfl, rfl⟩
            rw [HO.out]
            go_wp2_with fail
            refine HT1.out.mono ?_
            rintro e w2 ⟨rfl, hb2⟩
            have hbb := below_call hba hb2 (Nat.le_refl _)
            go_wp2_with fail
            go_ret
            exact ⟨ret_int HSS.out.symm, hbb⟩
        · have HSS := Lib.hid (id (HX.out 1 (by simp [giftE, HK.out, HM.out, HO.out]) (by decide)))
          clear HX HX0
          go_wp2_with fail
          refine (key_calls xi _ (by unfold maxLen; omega)).mono ?_
          rintro e w1 ⟨rfl, rfl⟩
          rw [HK.out]
          go_wp2_with fail
          refine (moment_calls xa _).mono ?_
          rintro e w1 ⟨rfl, rfl⟩
          rw [HM.out]
          go_wp2_with fail
          refine (out_calls _ _ _ _).mono ?_
          rintro e w1 ⟨rfl, rfl⟩
          rw [HO.out]
          go_wp2_with fail
          go_ret
          exact ⟨ret_int HSS.out.symm, hba⟩
      · obtain ⟨q, rfl⟩ : ∃ q, k = q + 1 := ⟨k - 1, by omega⟩
        have hqr : q < gs.length := by omega
        have hlz := lateG_succ gs q hqr ⟨xi, xa, xc, xb, xo⟩
        have hpv := fun W (h : Below w.heap.size w W) => (⟨below_cell h (HCS.out q hqr 0 (by omega)), below_cell h (HCS.out q hqr 1 (by omega)), below_cell h (HCS.out q hqr 2 (by omega)), below_cell h (HCS.out q hqr 3 (by omega)), below_cell h (HCS.out q hqr 4 (by omega))⟩ : W.cell? ⟨g, o + q * 5 + 0, none⟩ = (gfC gs[q])[0]? ∧ W.cell? ⟨g, o + q * 5 + 1, none⟩ = (gfC gs[q])[1]? ∧ W.cell? ⟨g, o + q * 5 + 2, none⟩ = (gfC gs[q])[2]? ∧ W.cell? ⟨g, o + q * 5 + 3, none⟩ = (gfC gs[q])[3]? ∧ W.cell? ⟨g, o + q * 5 + 4, none⟩ = (gfC gs[q])[4]?)
        obtain ⟨y, hy⟩ : ∃ y, gs[q] = y := ⟨_, rfl⟩
        rw [hy] at hlz hpv
        obtain ⟨pi, pa, pc, pb, po⟩ := y
        have HPV : Hid (∀ W, Below w.heap.size w W → W.cell? ⟨g, o + q * 5, none⟩ = some (.string pi) ∧ W.cell? ⟨g, o + q * 5 + 1, none⟩ = some (.int .i64 pa) ∧ W.cell? ⟨g, o + q * 5 + 2, none⟩ = some (.int .i64 pc) ∧ W.cell? ⟨g, o + q * 5 + 3, none⟩ = some (.string pb) ∧ W.cell? ⟨g, o + q * 5 + 4, none⟩ = some (.string po)) := hpv
        have HLZ := Lib.hid hlz
        have hg0 : 0 < q + 1 := by omega
        have hg1 : (0 : Int) < (((q + 1 : Nat)) : Int) := by omega
        have hq0 : (0 : Int) ≤ (q : Int) := by omega
        have hqn : (q : Int) < (n : Int) := by omega
        clear hy hlz hpv
        cases KS
        · have HSS := Lib.hid (id (HX.out 5 (by simp [giftE, HK.out]) (by decide)))
          clear HX
          go_wp2_with fail
          refine (key_calls xi _ (by unfold maxLen; omega)).mono ?_
          rintro e w1 ⟨rfl, rfl⟩
          rw [HK.out]
          go_wp2_with fail
          go_ret
          exact ⟨ret_int HSS.out.symm, hba⟩
        cases MS
        · have HSS := Lib.hid (id (HX.out 1 (by simp [giftE, HK.out, HM.out]) (by decide)))
          clear HX
          go_wp2_with fail
          refine (key_calls xi _ (by unfold maxLen; omega)).mono ?_
          rintro e w1 ⟨rfl, rfl⟩
          rw [HK.out]
          go_wp2_with fail
          refine (moment_calls xa _).mono ?_
          rintro e w1 ⟨rfl, rfl⟩
          rw [HM.out]
          go_wp2_with fail
          go_ret
          exact ⟨ret_int HSS.out.symm, hba⟩
        cases OS
        · by_cases ht : TS = 0
          · subst ht
            cases hl : behG ⟨pi, pa, pc, pb, po⟩ ⟨xi, xa, xc, xb, xo⟩
            · have HSS := Lib.hid (id (HX0.out (by simp [giftE, HK.out, HM.out, HO.out, HTS.out, HLZ.out, hl])))
              have HLE : Hid (decide (ordP ⟨xi, xa, xc, xb, xo⟩ ⟨pi, pa, pc, pb, po⟩ ≤ 0) = false) := (ordP_beh _ _).trans hl
              clear HX HX0 hl
              go_wp2_with fail
              refine (key_calls xi _ (by unfold maxLen; omega)).mono ?_
              rintro e w1 ⟨rfl, rfl⟩
              rw [HK.out]
              go_wp2_with fail
              refine (moment_calls xa _).mono ?_
              rintro e w1 ⟨rfl, rfl⟩
              rw [HM.out]
              go_wp2_with fail
              refine (out_calls _ _ _ _).mono ?_
              rintro e w1 ⟨rfl, rfl⟩
              rw [HO.out]
              go_wp2_with fail
              refine HT1.out.mono ?_
              rintro e w2 ⟨rfl, hb2⟩
              have hbb := below_call hba hb2 (Nat.le_refl _)
              obtain ⟨d0, d1, d2, d3, d4⟩ := blk5 (HBX.out.below hb2)
              obtain ⟨e0, e1, e2, e3, e4⟩ := HPV.out _ hbb
              have HBG := Lib.hid (byGift_calls ⟨xi, xa, xc, xb, xo⟩ ⟨pi, pa, pc, pb, po⟩ w2.drew)
              obtain ⟨Z, hZ⟩ : ∃ Z, ordP ⟨xi, xa, xc, xb, xo⟩ ⟨pi, pa, pc, pb, po⟩ = Z := ⟨_, rfl⟩
              have hle := HLE.out
              rw [hZ] at HBG hle
              have HLZ2 := Lib.hid (of_decide_eq_false hle)
              have hbd := below_drewN hbb 1
              clear hZ hle HLE
              have HKP : Hid (∀ W, Below w.heap.size w W → Below wa.heap.size wa W → W.cell? ⟨gx, 0, none⟩ = some (.string xi) ∧ W.cell? ⟨gx, 1, none⟩ = some (.int .i64 xa) ∧ W.cell? ⟨gx, 2, none⟩ = some (.int .i64 xc) ∧ W.cell? ⟨gx, 3, none⟩ = some (.string xb) ∧ W.cell? ⟨gx, 4, none⟩ = some (.string xo) ∧ W.cell? ⟨g, o + q * 5, none⟩ = some (.string pi) ∧ W.cell? ⟨g, o + q * 5 + 1, none⟩ = some (.int .i64 pa) ∧ W.cell? ⟨g, o + q * 5 + 2, none⟩ = some (.int .i64 pc) ∧ W.cell? ⟨g, o + q * 5 + 3, none⟩ = some (.string pb) ∧ W.cell? ⟨g, o + q * 5 + 4, none⟩ = some (.string po)) := fun W h1 h2 => by
                obtain ⟨a0, a1, a2, a3, a4⟩ := blk5 (HBX.out.below h2)
                obtain ⟨b0, b1, b2, b3, b4⟩ := HPV.out _ h1
                exact ⟨a0, a1, a2, a3, a4, b0, b1, b2, b3, b4⟩
              have HKD := Lib.hid (HKP.out _ hbd (below_drewN hb2 1))
              go_wp2_with fail
              have hw1 : IntKind.i64.wrap ((((q + 1 : Nat)) : Int) - 1) = (q : Int) := (IntWalk.i64_in _ (by omega)).trans (by omega)
              have hw2 : IntKind.i64.wrap ((q : Int) + 1 - 1) = (q : Int) := (IntWalk.i64_in _ (by omega)).trans (by omega)
              have hw3 : IntKind.i64.wrap (q : Int) = (q : Int) := IntWalk.i64_in _ (by omega)
              go_region_held3 (fun W => W.cell? ⟨gx, 0, none⟩ = some (.string xi) ∧ W.cell? ⟨gx, 1, none⟩ = some (.int .i64 xa) ∧ W.cell? ⟨gx, 2, none⟩ = some (.int .i64 xc) ∧ W.cell? ⟨gx, 3, none⟩ = some (.string xb) ∧ W.cell? ⟨gx, 4, none⟩ = some (.string xo) ∧ W.cell? ⟨g, o + q * 5, none⟩ = some (.string pi) ∧ W.cell? ⟨g, o + q * 5 + 1, none⟩ = some (.int .i64 pa) ∧ W.cell? ⟨g, o + q * 5 + 2, none⟩ = some (.int .i64 pc) ∧ W.cell? ⟨g, o + q * 5 + 3, none⟩ = some (.string pb) ∧ W.cell? ⟨g, o + q * 5 + 4, none⟩ = some (.string po))
                (first | exact HKD.out | exact HKP.out _ (below_call hbd hb5 (Nat.le_refl _)) (below_call (below_drewN hb2 1) hb5 (Nat.le_refl _)) | go_keep)
                (first | (go_at_call 184; ((with_reducible refine HBG.out.mono ?_); rintro e w5 ⟨rfl, hb5⟩)))
              have hle := HLZ2.out
              clear hw1 hw2 hw3
              go_wp2_with fail
              go_roundw
              case rel => exact ⟨q + 1 + 1, by omega, by go_num, HSS, (below_call hbd hb5 (Nat.le_refl _))⟩
              case measure => simp [intOf]; omega
            · have HSS := Lib.hid (id (HX.out 7 (by simp [giftE, HK.out, HM.out, HO.out, HTS.out, HLZ.out, hl]) (by decide)))
              have HLE : Hid (decide (ordP ⟨xi, xa, xc, xb, xo⟩ ⟨pi, pa, pc, pb, po⟩ ≤ 0) = true) := (ordP_beh _ _).trans hl
              clear HX HX0 hl
              go_wp2_with fail
              refine (key_calls xi _ (by unfold maxLen; omega)).mono ?_
              rintro e w1 ⟨rfl, rfl⟩
              rw [HK.out]
              go_wp2_with fail
              refine (moment_calls xa _).mono ?_
              rintro e w1 ⟨rfl, rfl⟩
              rw [HM.out]
              go_wp2_with fail
              refine (out_calls _ _ _ _).mono ?_
              rintro e w1 ⟨rfl, rfl⟩
              rw [HO.out]
              go_wp2_with fail
              refine HT1.out.mono ?_
              rintro e w2 ⟨rfl, hb2⟩
              have hbb := below_call hba hb2 (Nat.le_refl _)
              obtain ⟨d0, d1, d2, d3, d4⟩ := blk5 (HBX.out.below hb2)
              obtain ⟨e0, e1, e2, e3, e4⟩ := HPV.out _ hbb
              have HBG := Lib.hid (byGift_calls ⟨xi, xa, xc, xb, xo⟩ ⟨pi, pa, pc, pb, po⟩ w2.drew)
              obtain ⟨Z, hZ⟩ : ∃ Z, ordP ⟨xi, xa, xc, xb, xo⟩ ⟨pi, pa, pc, pb, po⟩ = Z := ⟨_, rfl⟩
              have hle := HLE.out
              rw [hZ] at HBG hle
              have HLZ2 := Lib.hid (of_decide_eq_true hle)
              have hbd := below_drewN hbb 1
              clear hZ hle HLE
              have HKP : Hid (∀ W, Below w.heap.size w W → Below wa.heap.size wa W → W.cell? ⟨gx, 0, none⟩ = some (.string xi) ∧ W.cell? ⟨gx, 1, none⟩ = some (.int .i64 xa) ∧ W.cell? ⟨gx, 2, none⟩ = some (.int .i64 xc) ∧ W.cell? ⟨gx, 3, none⟩ = some (.string xb) ∧ W.cell? ⟨gx, 4, none⟩ = some (.string xo) ∧ W.cell? ⟨g, o + q * 5, none⟩ = some (.string pi) ∧ W.cell? ⟨g, o + q * 5 + 1, none⟩ = some (.int .i64 pa) ∧ W.cell? ⟨g, o + q * 5 + 2, none⟩ = some (.int .i64 pc) ∧ W.cell? ⟨g, o + q * 5 + 3, none⟩ = some (.string pb) ∧ W.cell? ⟨g, o + q * 5 + 4, none⟩ = some (.string po)) := fun W h1 h2 => by
                obtain ⟨a0, a1, a2, a3, a4⟩ := blk5 (HBX.out.below h2)
                obtain ⟨b0, b1, b2, b3, b4⟩ := HPV.out _ h1
                exact ⟨a0, a1, a2, a3, a4, b0, b1, b2, b3, b4⟩
              have HKD := Lib.hid (HKP.out _ hbd (below_drewN hb2 1))
              go_wp2_with fail
              have hw1 : IntKind.i64.wrap ((((q + 1 : Nat)) : Int) - 1) = (q : Int) := (IntWalk.i64_in _ (by omega)).trans (by omega)
              have hw2 : IntKind.i64.wrap ((q : Int) + 1 - 1) = (q : Int) := (IntWalk.i64_in _ (by omega)).trans (by omega)
              have hw3 : IntKind.i64.wrap (q : Int) = (q : Int) := IntWalk.i64_in _ (by omega)
              go_region_held3 (fun W => W.cell? ⟨gx, 0, none⟩ = some (.string xi) ∧ W.cell? ⟨gx, 1, none⟩ = some (.int .i64 xa) ∧ W.cell? ⟨gx, 2, none⟩ = some (.int .i64 xc) ∧ W.cell? ⟨gx, 3, none⟩ = some (.string xb) ∧ W.cell? ⟨gx, 4, none⟩ = some (.string xo) ∧ W.cell? ⟨g, o + q * 5, none⟩ = some (.string pi) ∧ W.cell? ⟨g, o + q * 5 + 1, none⟩ = some (.int .i64 pa) ∧ W.cell? ⟨g, o + q * 5 + 2, none⟩ = some (.int .i64 pc) ∧ W.cell? ⟨g, o + q * 5 + 3, none⟩ = some (.string pb) ∧ W.cell? ⟨g, o + q * 5 + 4, none⟩ = some (.string po))
                (first | exact HKD.out | exact HKP.out _ (below_call hbd hb5 (Nat.le_refl _)) (below_call (below_drewN hb2 1) hb5 (Nat.le_refl _)) | go_keep)
                (first | (go_at_call 184; ((with_reducible refine HBG.out.mono ?_); rintro e w5 ⟨rfl, hb5⟩)))
              have hle := HLZ2.out
              clear hw1 hw2 hw3
              go_wp2_with fail
              go_ret
              exact ⟨ret_int HSS.out.symm, (below_call hbd hb5 (Nat.le_refl _))⟩
          · have HSS := Lib.hid (id (HX.out TS (by simp [giftE, HK.out, HM.out, HO.out, HTS.out, ht]) ht))
            have htn : (TS != 0) = true := by simpa using ht
            clear HX HX0 ht
            go_wp2_with fail
            refine (key_calls xi _ (by unfold maxLen; omega)).mono ?_
            rintro e w1 ⟨rfl, rfl⟩
            rw [HK.out]
            go_wp2_with fail
            refine (moment_calls xa _).mono ?_
            rintro e w1 ⟨rfl, rfl⟩
            rw [HM.out]
            go_wp2_with fail
            refine (out_calls _ _ _ _).mono ?_
            rintro e w1 ⟨rfl, rfl⟩
            rw [HO.out]
            go_wp2_with fail
            refine HT1.out.mono ?_
            rintro e w2 ⟨rfl, hb2⟩
            have hbb := below_call hba hb2 (Nat.le_refl _)
            go_wp2_with fail
            go_ret
            exact ⟨ret_int HSS.out.symm, hbb⟩
        · have HSS := Lib.hid (id (HX.out 1 (by simp [giftE, HK.out, HM.out, HO.out]) (by decide)))
          clear HX HX0
          go_wp2_with fail
          refine (key_calls xi _ (by unfold maxLen; omega)).mono ?_
          rintro e w1 ⟨rfl, rfl⟩
          rw [HK.out]
          go_wp2_with fail
          refine (moment_calls xa _).mono ?_
          rintro e w1 ⟨rfl, rfl⟩
          rw [HM.out]
          go_wp2_with fail
          refine (out_calls _ _ _ _).mono ?_
          rintro e w1 ⟨rfl, rfl⟩
          rw [HO.out]
          go_wp2_with fail
          go_ret
          exact ⟨ret_int HSS.out.symm, hba⟩
    · obtain rfl : k = n := by omega
      have h1 : giftsG t none gs = 0 := HF.out.trans (by rw [List.drop_of_length_le (by rw [HL.out]; exact Nat.le_refl _)]; rfl)
      have HF1 := Lib.hid (HF0.out.trans (if_pos h1))
      obtain ⟨wq, rfl⟩ : ∃ wq, wq = wr := ⟨wr, rfl⟩
      have hS0 : Sq wq (wq.alloc (.map #[] 0)) [rMap 9 wq.heap.size 0 (seenM gs 0)] := by rw [seenM_zero]; exact (Sq.start wq).addMap 9
      have HD0 : Hid (dupTo gs 0 = false) := rfl
      have hmm := @run_makeMap Tryz.prog
      clear h1 HF HF0
      go_wp2_with fail
      clear hmm
      go_loopw [58] (fun i w3 => ∃ j : Nat, j ≤ k ∧ i = .int .i64 j ∧ Hid (dupTo gs j = false) ∧ Sq wq w3 [rMap 9 wq.heap.size j (seenM gs j)]) (fun i _ => k - (intOf i).toNat)
      case atStart => exact ⟨0, Nat.zero_le _, rfl, HD0, hS0⟩
      case round =>
        clear hS0 HD0
        obtain ⟨j, hj, rfl, HD, hS⟩ := hrel
        by_cases hlt2 : j < k
        · have hkr : j < gs.length := by rw [HL.out]; exact hlt2
          obtain ⟨g, o, hA, _, hcs⟩ := HC.out (by omega)
          subst hA
          have hok := HGS.out _ (List.getElem_mem hkr)
          have hbw := below_call hbr hS.below (Nat.le_refl _)
          have c0 := below_cell hbw (hcs j hkr 0 (by omega))
          have c1 := below_cell hbw (hcs j hkr 1 (by omega))
          have c2 := below_cell hbw (hcs j hkr 2 (by omega))
          have c3 := below_cell hbw (hcs j hkr 3 (by omega))
          have c4 := below_cell hbw (hcs j hkr 4 (by omega))
          have hds := dupTo_step gs j hkr
          have hdn : (gs.take j).any (fun o => eqS o.id gs[j].id) = anyId gs j gs[j].id := rfl
          rw [HD.out, Bool.false_or, hdn] at hds
          obtain ⟨x, hx⟩ : ∃ x, gs[j] = x := ⟨_, rfl⟩
          have HX := Lib.hid hx
          rw [hx] at c0 c1 c2 c3 c4 hok hds
          have hsz : x.id.size ≤ 1000 := hok.hi
          obtain ⟨xi, xa, xc, xb, xo⟩ := x
          simp only at hsz hds
          replace c0 : wr.cell? ⟨g, o + j * 5, none⟩ = some (.string xi) := c0
          replace c1 : wr.cell? ⟨g, o + j * 5 + 1, none⟩ = some (.int .i64 xa) := c1
          replace c2 : wr.cell? ⟨g, o + j * 5 + 2, none⟩ = some (.int .i64 xc) := c2
          replace c3 : wr.cell? ⟨g, o + j * 5 + 3, none⟩ = some (.string xb) := c3
          replace c4 : wr.cell? ⟨g, o + j * 5 + 4, none⟩ = some (.string xo) := c4
          have hSa := (hS.add #[.string xi, .int .i64 xa, .int .i64 xc, .string xb, .string xo] 88).front 1 rfl rfl
          obtain ⟨gx, hgx⟩ : ∃ gx, wr.heap.size = gx := ⟨_, rfl⟩
          obtain ⟨wa, hwa⟩ : ∃ wa, wr.alloc (.cells #[.string xi, .int .i64 xa, .int .i64 xc, .string xb, .string xo] 88) = wa := ⟨_, rfl⟩
          rw [hwa, hgx] at hSa
          obtain ⟨y0, y1, y2, y3, y4⟩ := blk5 (show Blk wa gx 88 #[.string xi, .int .i64 xa, .int .i64 xc, .string xb, .string xo] from hSa.nth 1 rfl)
          have hlk := seen_look (show MapS wa 9 wq.heap.size j (seenM gs j) from hSa.head) hsz
          obtain ⟨w5, hput, hS5⟩ := seen_put hSa (by omega) hsz hkr (by rw [HX.out])
          obtain ⟨B, hB⟩ : ∃ B, anyId gs j xi = B := ⟨_, rfl⟩
          rw [hB] at hlk hds
          have HDS := Lib.hid hds
          clear hcs hok hdn hx hB hds hS
          cases B
          · clear hbw
            go_wp2_with fail
            go_roundw
            case rel => exact ⟨j + 1, by omega, by go_num, HDS, hS5.drop 1 rfl rfl⟩
            case measure => simp [intOf]; omega
          · have HSS := Lib.hid (HF1.out.trans (if_pos (dupTo_mono gs HDS.out _ hkr)))
            have hfin := below_call hbr hSa.below (Nat.le_refl _)
            clear hput hS5 hSa
            go_wp2_with fail
            go_ret
            exact ⟨ret_int HSS.out.symm, hfin⟩
        · obtain rfl : j = k := by omega
          have HSS := Lib.hid (HF1.out.trans (if_neg (by rw [HL.out, HD.out]; decide)))
          have hfin := below_call hbr hS.below (Nat.le_refl _)
          go_wp2_with fail
          go_ret
          exact ⟨ret_int HSS.out.symm, hfin⟩

set_option maxRecDepth 100000 in
theorem checkGifts_calls (b : Nat) (A A2 : Option Addr) (n c m2 c2 : Nat) (bs : List Bd) (gs : List Gf) (w : World) (hr : Bds w b A2 m2 c2 bs) (hr2 : Rd w b 5 (.slice A n c) n (gs.flatMap gfC)) (hgs : ∀ x ∈ gs, GfOk x) :
    Calls Tryz.prog 80 #[.slice A2 m2 c2, .slice A n c] w (BRet (.int .i64 (giftsF (namedF bs) gs)) w) := by
  have hb : Below w.heap.size w (w.alloc (.cells #[.slice A2 m2 c2] 53)) := (Below.refl _ _).alloc (Nat.le_refl _) _
  have HG := Lib.hid (giftsFault_calls b w.heap.size (namedF bs) A n c gs _ (hr2.below hb) hgs (fun W x hW => named_calls b w.heap.size A2 m2 c2 bs x W ((Blk.new w _ _).below hW) ((hr.below hb).below hW)))
  clear hr hr2 hgs
  go_enter Tryz.func80, Tryz.ntmps80
  go_wp2_with fail
  refine HG.out.mono ?_
  rintro e w1 ⟨rfl, hb1⟩
  go_wp2_with fail
  go_ret
  exact ⟨rfl, below_call hb hb1 (Nat.le_refl _)⟩
end Go.Proofs.YthbcogekfdllmaaGreatDoor
