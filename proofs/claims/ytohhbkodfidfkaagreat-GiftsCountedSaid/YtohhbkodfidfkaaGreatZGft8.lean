/-
  The reference's GiftsOf by a contract. (Printed by gen_gft8.py; the walk lies in gft8_walk.txt.)
-/
import Derived.Test.YtohhbkodfidfkaaGreatZGft7
namespace Go.Proofs.YtohhbkodfidfkaaGreat
open Go Go.RowKit
attribute [local go_sem ↓] Go.wp_at_zero Go.wp_at_succ

set_option maxRecDepth 100000 in
theorem gfidM_calls (g7 : Nat) (gi : ByteArray) (ga gc : Int) (gb go : ByteArray) (x : Gf) (w : World) (hg : Blk w g7 39 #[.string gi, .int .i64 ga, .int .i64 gc, .string gb, .string go]) :
    Calls Tryz.prog 53 #[.agg #[.string x.id, .int .i64 x.at_, .int .i64 x.cents, .string x.bid, .string x.option], .pointer (some ⟨g7, 0, none⟩)] w (BRet (.bool (eqS x.id gi)) w) := by
  have hb : Below w.heap.size w (w.alloc (.cells #[.string x.id, .int .i64 x.at_, .int .i64 x.cents, .string x.bid, .string x.option] 39)) := (Below.refl _ _).alloc (Nat.le_refl _) _
  have g0 := hg.cell 0
  have gl := hg.lt
  obtain ⟨xi, xa, xc, xb, xo⟩ := x
  simp only at hb ⊢
  have HE : Hid (eqS xi gi = (xi.toList == gi.toList)) := rfl
  rw [HE.out]
  clear hg
  go_enter Tryz.func53, Tryz.ntmps53
  go_wp2_with fail
  go_ret
  exact ⟨rfl, hb⟩
set_option maxRecDepth 100000 in
theorem indexGfM_calls (b g7 : Nat) (gi : ByteArray) (ga gc : Int) (gb go : ByteArray) (A2 : Option Addr) (n c2 : Nat) (hs : List Gf) (w : World) (hg7 : Blk w g7 39 #[.string gi, .int .i64 ga, .int .i64 gc, .string gb, .string go]) (hr2 : Rd w b 5 (.slice A2 n c2) n (hs.flatMap gfC)) :
    Calls Tryz.prog 52 #[.slice A2 n c2, .func (.func 53) #[] #[.pointer (some ⟨g7, 0, none⟩)]] w (BRet (.int .i64 (idIx hs gi)) w) := by
  obtain ⟨hl, hnc, hcm, hcells⟩ := hr2.cells gfC_len (by omega)
  unfold maxLen at hcm
  obtain ⟨p, hpp⟩ : ∃ p : Gf → Bool, (fun o : Gf => eqS o.id gi) = p := ⟨_, rfl⟩
  have HCC : Hid (∀ W (x : Gf), Below w.heap.size w W → Calls Tryz.prog 53 #[.agg #[.string x.id, .int .i64 x.at_, .int .i64 x.cents, .string x.bid, .string x.option], .pointer (some ⟨g7, 0, none⟩)] W (BRet (.bool (p x)) W)) := fun W x hW => by
    rw [← hpp]
    exact gfidM_calls g7 gi ga gc gb go x W (hg7.below hW)
  have HL := Lib.hid hl
  have HCL := Lib.hid hcells
  unfold idIx
  rw [hpp]
  clear hcells hl hr2 hg7 hpp
  go_enter Tryz.func52, Tryz.ntmps52
  go_wp2
  go_loopw [8] (fun i wr => ∃ k : Nat, k ≤ n ∧ i = .int .i64 k ∧ Hid (∀ i (_ : i < k) (hi' : i < hs.length), p hs[i] = false) ∧ Below w.heap.size w wr) (fun i _ => n - (intOf i).toNat)
  case atStart => exact ⟨0, Nat.zero_le _, rfl, (fun i hi => absurd hi (by omega)), Below.refl _ _⟩
  case round =>
    obtain ⟨k, hk, rfl, HF, hbr⟩ := hrel
    by_cases hlt : k < n
    · have hkr : k < hs.length := by rw [HL.out]; exact hlt
      obtain ⟨g, o, hA, _, hcs⟩ := HCL.out (by omega)
      subst hA
      have c0 := below_cell hbr (hcs k hkr 0 (by omega))
      have c1 := below_cell hbr (hcs k hkr 1 (by omega))
      have c2 := below_cell hbr (hcs k hkr 2 (by omega))
      have c3 := below_cell hbr (hcs k hkr 3 (by omega))
      have c4 := below_cell hbr (hcs k hkr 4 (by omega))
      obtain ⟨s, hs'⟩ : ∃ s, hs[k] = s := ⟨_, rfl⟩
      rw [hs'] at c0 c1 c2 c3 c4
      replace c0 : wr.cell? ⟨g, o + k * 5, none⟩ = some (.string s.id) := c0
      replace c1 : wr.cell? ⟨g, o + k * 5 + 1, none⟩ = some (.int .i64 s.at_) := c1
      replace c2 : wr.cell? ⟨g, o + k * 5 + 2, none⟩ = some (.int .i64 s.cents) := c2
      replace c3 : wr.cell? ⟨g, o + k * 5 + 3, none⟩ = some (.string s.bid) := c3
      replace c4 : wr.cell? ⟨g, o + k * 5 + 4, none⟩ = some (.string s.option) := c4
      have HK := Lib.hid (HCC.out wr s hbr)
      clear hcs
      cases hp : p s
      · rw [hp] at HK
        have HF2 : Hid (∀ i (_ : i < k + 1) (hi' : i < hs.length), p hs[i] = false) := by
          intro i hi hi'
          by_cases hik : i = k
          · subst hik; rw [hs']; exact hp
          · exact HF.out i (by omega) hi'
        clear hp hs'
        go_wp2_with (go_at_call 53; refine HK.out.mono ?_; rintro e w2 ⟨rfl, hb2⟩)
        have hb3 := below_call hbr hb2 (Nat.le_refl _)
        go_roundw
        case rel => exact ⟨k + 1, by omega, by go_num, HF2, hb3⟩
        case measure => simp [intOf]; omega
      · rw [hp] at HK
        have HR : Hid (ixOf p hs = k) := ixOf_at _ hs k hkr (fun i hi => HF.out i hi (by omega)) (by rw [hs']; exact hp)
        clear hp hs'
        go_wp2_with (go_at_call 53; refine HK.out.mono ?_; rintro e w2 ⟨rfl, hb2⟩)
        have hb3 := below_call hbr hb2 (Nat.le_refl _)
        go_ret
        exact ⟨ret_int HR.out.symm, hb3⟩
    · obtain rfl : k = n := by omega
      have HR : Hid (ixOf p hs = -1) := ixOf_no _ hs (fun i hi => HF.out i (by rw [← HL.out]; exact hi) hi)
      go_wp2
      go_ret
      exact ⟨ret_int HR.out.symm, hbr⟩
theorem neq_gf (a b d e f g : ByteArray) (x y x' y' : Int) (w : World) : (binOp .neq 39 (.agg #[.string a, .int .i64 x, .int .i64 y, .string b, .string d]) (.agg #[.string e, .int .i64 x', .int .i64 y', .string f, .string g])).run Tryz.prog w = .ok (.bool (!sameGf ⟨a, x, y, b, d⟩ ⟨e, x', y', f, g⟩)) w := by
  simp only [sameGf, eqS]
  simp [go_sem]
  by_cases h1 : a.toList = e.toList <;> by_cases h2 : x = x' <;> by_cases h3 : y = y' <;> by_cases h4 : b.toList = f.toList <;> by_cases h5 : d.toList = g.toList <;> simp [h1, h2, h3, h4, h5]
attribute [local go_sem ↓ high] neq_gf

set_option maxRecDepth 100000 in
set_option maxHeartbeats 4000000 in
theorem giftsOf_calls (b : Nat) (A1 A2 : Option Addr) (n1 c1 n2 c2 : Nat) (gs hs : List Gf) (w : World) (h1 : Rd w b 5 (.slice A1 n1 c1) n1 (gs.flatMap gfC)) (h2 : Rd w b 5 (.slice A2 n2 c2) n2 (hs.flatMap gfC))
    (hgs : ∀ x ∈ gs, GfOk x) (hhs : ∀ x ∈ hs, GfOk x) (hn1 : n1 ≤ 10000) (hn2 : n2 ≤ 10000) (hbw : b < w.heap.size) :
    Calls Tryz.prog 19 #[.slice A1 n1 c1, .slice A2 n2 c2] w (MrgOut w b (mrgE (mrgF gs hs)) (mrgF gs hs)) := by
  obtain ⟨i0, hi, hz0, hz1, hz2⟩ := info_parts info_gf
  have hl1 := gf_list h1
  obtain ⟨hl, hnc, hcm, hcells⟩ := h2.cells gfC_len (by omega)
  unfold maxLen at hcm
  have HCL := Lib.hid (cloneGf_calls b A1 n1 c1 (gs.flatMap gfC) w h1 (gfC_one gs) (by omega))
  have HIX : Hid (∀ (g7 : Nat) (x : Gf) (A : Option Addr) (n c : Nat) (l : List Gf) (W : World), Blk W g7 39 #[.string x.id, .int .i64 x.at_, .int .i64 x.cents, .string x.bid, .string x.option] → Rd W b 5 (.slice A n c) n (l.flatMap gfC) → Calls Tryz.prog 52 #[.slice A n c, .func (.func 53) #[] #[.pointer (some ⟨g7, 0, none⟩)]] W (BRet (.int .i64 (idIx l x.id)) W)) := fun g7 x A n c l W hB hR => indexGfM_calls b g7 x.id x.at_ x.cents x.bid x.option A n c l W hB hR
  have HSORT := Lib.hid (fun (W : World) (g n c : Nat) (l : List Gf) (h1 : ∀ x ∈ l, GfOk x) (h2 : n ≤ 100000) h3 => sortQ_calls w W g n c l h1 h2 h3)
  have HL := Lib.hid hl
  have HC := Lib.hid hcells
  have HGS := Lib.hid hgs
  have HHS := Lib.hid hhs
  obtain ⟨R, hR⟩ : ∃ R, mrgF gs hs = R := ⟨_, rfl⟩
  have HR := Lib.hid hR
  rw [hR]
  have H0 : Hid (mrgF gs (hs.take 0) = some gs) := Lib.hid rfl
  have HL1 := Lib.hid hl1
  clear hl hl1 hcells h1 h2 hgs hhs hR
  go_enter Tryz.func19, Tryz.ntmps19
  go_wp2_with fail
  refine HCL.out.mono ?_
  rintro e w1 ⟨v1, rfl, hown1, hb1⟩
  have hS1 := (Sq.start w).ownB hb1 hown1
  rw [← HL1.out] at hS1
  have hg1 : gs.length ≤ 10000 := by rw [HL1.out]; exact hn1
  clear hb1 hown1
  go_wp2_with fail
  go_loopw [6, 14] (fun s i wr => ∃ (k : Nat) (acc : List Gf), k ≤ n2 ∧ i = .int .i64 k ∧ acc.length ≤ 10000 + k ∧ Hid (mrgF gs (hs.take k) = some acc) ∧ Sq w wr [rOwn w.heap.size 39 5 s acc.length (acc.flatMap gfC)]) (fun _ i _ => n2 - (intOf i).toNat)
  case atStart => exact ⟨0, gs, by omega, rfl, by omega, H0, hS1⟩
  case round =>
    clear hS1 H0
    obtain ⟨k, acc, hk, rfl, hak, HA, hS⟩ := hrel
    by_cases hlt : k < n2
    · have hkx : k < hs.length := by rw [HL.out]; exact hlt
      obtain ⟨g, o, hA, _, hcs⟩ := HC.out (by omega)
      subst hA
      have c0 := below_cell hS.below (hcs k hkx 0 (by omega))
      have c1 := below_cell hS.below (hcs k hkx 1 (by omega))
      have c2 := below_cell hS.below (hcs k hkx 2 (by omega))
      have c3 := below_cell hS.below (hcs k hkx 3 (by omega))
      have c4 := below_cell hS.below (hcs k hkx 4 (by omega))
      have hst := mrgF_step hkx HA.out
      have hokx := HHS.out _ (List.getElem_mem hkx)
      obtain ⟨x, hx⟩ : ∃ x, hs[k] = x := ⟨_, rfl⟩
      rw [hx] at c0 c1 c2 c3 c4 hst hokx
      obtain ⟨xi, xa, xc, xb, xo⟩ := x
      replace c0 : wr.cell? ⟨g, o + k * 5, none⟩ = some (.string xi) := c0
      replace c1 : wr.cell? ⟨g, o + k * 5 + 1, none⟩ = some (.int .i64 xa) := c1
      replace c2 : wr.cell? ⟨g, o + k * 5 + 2, none⟩ = some (.int .i64 xc) := c2
      replace c3 : wr.cell? ⟨g, o + k * 5 + 3, none⟩ = some (.string xb) := c3
      replace c4 : wr.cell? ⟨g, o + k * 5 + 4, none⟩ = some (.string xo) := c4
      have hSa := hS.add #[.string xi, .int .i64 xa, .int .i64 xc, .string xb, .string xo] 39
      obtain ⟨gx, hgx⟩ : ∃ gx, wr.heap.size = gx := ⟨_, rfl⟩
      obtain ⟨wa, hwa⟩ : ∃ wa, wr.alloc (.cells #[.string xi, .int .i64 xa, .int .i64 xc, .string xb, .string xo] 39) = wa := ⟨_, rfl⟩
      rw [hwa, hgx] at hSa
      obtain ⟨uA, uc, rfl⟩ := own_form hS.head
      have hown0 : wa.ownsRow w.heap.size 39 5 (.slice uA acc.length uc) acc.length (acc.flatMap gfC) := hSa.nth 1 rfl
      have HK := Lib.hid (HIX.out gx ⟨xi, xa, xc, xb, xo⟩ uA acc.length uc acc wa (hSa.nth 0 rfl) (Rd.own hown0 hbw))
      have hcap := own_cap hown0
      clear hcs hx hS hown0
      rcases idIx_split acc xi with ⟨h1, h2⟩ | ⟨q, hq, h1, h2⟩
      · have HST : Hid (mrgF gs (hs.take (k + 1)) = some (acc ++ [⟨xi, xa, xc, xb, xo⟩])) := Lib.hid (by rw [hst]; unfold mrgG; rw [h2])
        replace HK : Hid (Calls Tryz.prog 52 #[.slice uA acc.length uc, .func (.func 53) #[] #[.pointer (some ⟨gx, 0, none⟩)]] wa (BRet (.int .i64 (-1)) wa)) := by rw [← h1]; exact HK
        clear h1 h2 hst
        go_wp2_with fail
        refine HK.out.mono ?_
        rintro e w3 ⟨rfl, hb3⟩
        have hS3 := hSa.callB hb3
        obtain ⟨z0, z1, z2, z3, z4⟩ := blk5 (show Blk w3 gx 39 #[.string xi, .int .i64 xa, .int .i64 xc, .string xb, .string xo] from hS3.nth 0 rfl)
        have hS4 := (hS3.add #[.string xi, .int .i64 xa, .int .i64 xc, .string xb, .string xo] 39).front 2 rfl rfl
        have hown : (w3.alloc (.cells #[.string xi, .int .i64 xa, .int .i64 xc, .string xb, .string xo] 39)).ownsRow w.heap.size 39 5 (.slice uA acc.length uc) acc.length (acc.flatMap gfC) := hS4.head
        have hs6 := hS3.size
        clear hb3 hS3 hSa
        go_wp2_with (first
          | (at_builtin; refine wpList_append_own_at _ rfl (.tmp 23) (.tmp 25) 32 rfl w.heap.size 39 i0 (.agg #[.string ⟨#[]⟩, .int .i64 0, .int .i64 0, .string ⟨#[]⟩, .string ⟨#[]⟩]) 5 64 Tryz.underlying32 hi hz0 hz1 hz2 rfl (by decide) (.slice uA acc.length uc) _ _ rfl hown ⟨w3.heap.size, 0, none⟩ 1 1 [.string xi, .int .i64 xa, .int .i64 xc, .string xb, .string xo] rfl rfl (World.news_of_block (heap_alloc_new _ _)) (by simp [Value.oneCell']) (by unfold maxLen; omega) (by omega) (by simp; omega) ?_; intro v' w7 hown' hgrow hnil hat))
        have hS8 := ((hS4.append hown' hgrow hat).drop 1 rfl rfl).drop 1 rfl rfl
        have e1 : acc.length + 1 = (acc ++ [(⟨xi, xa, xc, xb, xo⟩ : Gf)]).length := by simp
        have e2 : acc.flatMap gfC ++ [.string xi, .int .i64 xa, .int .i64 xc, .string xb, .string xo] = (acc ++ [(⟨xi, xa, xc, xb, xo⟩ : Gf)]).flatMap gfC := by simp [gfC]
        rw [e1, e2] at hS8
        go_roundw
        case rel => exact ⟨k + 1, _, by omega, by go_num, by simp; omega, HST, hS8⟩
        case measure => simp [intOf]; omega
      · replace HK : Hid (Calls Tryz.prog 52 #[.slice uA acc.length uc, .func (.func 53) #[] #[.pointer (some ⟨gx, 0, none⟩)]] wa (BRet (.int .i64 q) wa)) := by rw [← h1]; exact HK
        have hid := findG_id h2
        have HST0 : Hid (mrgF gs (hs.take (k + 1)) = if sameGf acc[q] ⟨xi, xa, xc, xb, xo⟩ = true then some acc else none) := Lib.hid (by rw [hst]; unfold mrgG; rw [h2])
        obtain ⟨y, hy⟩ : ∃ y, acc[q] = y := ⟨_, rfl⟩
        have HY := Lib.hid hy
        rw [hy] at hid HST0
        obtain ⟨yi, ya, yc, yb, yo⟩ := y
        simp only at hid
        subst hid
        clear h1 h2 hst hy
        go_wp2_with fail
        refine HK.out.mono ?_
        rintro e w3 ⟨rfl, hb3⟩
        have hS3 := hSa.callB hb3
        obtain ⟨z0, z1, z2, z3, z4⟩ := blk5 (show Blk w3 gx 39 #[.string yi, .int .i64 xa, .int .i64 xc, .string xb, .string xo] from hS3.nth 0 rfl)
        have hown : w3.ownsRow w.heap.size 39 5 (.slice uA acc.length uc) acc.length (acc.flatMap gfC) := hS3.nth 1 rfl
        obtain ⟨g, hg⟩ : ∃ g, uA = some ⟨g, 0, none⟩ := by
          rcases hown.2 with ⟨_, h0⟩ | ⟨g, cap, cur, he, _⟩
          · omega
          · injection he with he _ _
            exact ⟨g, he⟩
        subst hg
        have d0 := own_cell gfC 5 gfC_len hown q 0 hq hq (by omega)
        have d1 := own_cell gfC 5 gfC_len hown q 1 hq hq (by omega)
        have d2 := own_cell gfC 5 gfC_len hown q 2 hq hq (by omega)
        have d3 := own_cell gfC 5 gfC_len hown q 3 hq hq (by omega)
        have d4 := own_cell gfC 5 gfC_len hown q 4 hq hq (by omega)
        rw [HY.out] at d0 d1 d2 d3 d4
        replace d0 : w3.cell? ⟨g, q * 5, none⟩ = some (.string yi) := d0
        replace d1 : w3.cell? ⟨g, q * 5 + 1, none⟩ = some (.int .i64 ya) := d1
        replace d2 : w3.cell? ⟨g, q * 5 + 2, none⟩ = some (.int .i64 yc) := d2
        replace d3 : w3.cell? ⟨g, q * 5 + 3, none⟩ = some (.string yb) := d3
        replace d4 : w3.cell? ⟨g, q * 5 + 4, none⟩ = some (.string yo) := d4
        have hq0 : (0 : Int) ≤ (q : Int) := by omega
        have hq1 : (q : Int) < (acc.length : Int) := by omega
        have hS4 := hS3.tail
        have hfin := hS4.below
        clear hb3 hS3 hSa hown
        cases hsm : sameGf ⟨yi, ya, yc, yb, yo⟩ ⟨yi, xa, xc, xb, xo⟩
        · have HRN := Lib.hid (HR.out.symm.trans (mrgF_no (HST0.out.trans (if_neg (by rw [hsm]; decide)))))
          clear HST0 hS4
          go_wp2_with fail
          go_quiet (fail)
          go_wp2_with fail
          have hRN := HRN.out
          subst hRN
          refine bodyPost_ret (v := .tuple #[.slice none 0 0, .int .i64 13]) (by simp [results, Tryz.results19, go_sem]) rfl ?_
          exact MrgOut.bad (E := 13) (by decide) (below_drewN hfin _)
        · have he := (sameGf_iff _ _).1 hsm
          injection he with _ he1 he2 he3 he4
          subst he1 he2 he3 he4
          have HST := Lib.hid (HST0.out.trans (if_pos hsm))
          clear HST0
          go_wp2_with fail
          go_quiet (fail)
          go_wp2_with fail
          go_roundw
          case rel => exact ⟨k + 1, acc, by omega, by go_num, by omega, HST, hS4.drewN _⟩
          case measure => simp [intOf]; omega
    · obtain rfl : k = n2 := by omega
      have hall : mrgF gs hs = some acc := by
        have := HA.out
        rw [List.take_of_length_le (by rw [HL.out]; exact Nat.le_refl _)] at this
        exact this
      have hRa := HR.out.symm.trans hall
      subst hRa
      have HU := Lib.hid (mrgF_mem hs gs acc hall)
      have hoka : ∀ x ∈ acc, GfOk x := fun x hx => by
        rcases HU.out.1 x hx with h | h
        · exact HGS.out x h
        · exact HHS.out x h
      have hown : wr.ownsRow w.heap.size 39 5 u6 acc.length (acc.flatMap gfC) := hS.head
      have HOKA := Lib.hid hoka
      have hfin := hS.below
      have HFI0 := Lib.hid hown.2
      clear hall hoka
      rcases HFI0.out with ⟨rfl, h0⟩ | ⟨g, cap, cur, rfl, hgw, _⟩
      · have ha0 : acc = [] := List.eq_nil_of_length_eq_zero h0
        subst ha0
        clear HFI0 hS hown h0 HU HA HOKA
        go_wp2_with fail
        refine (sort_nil _ _ _ _).mono ?_
        rintro e w6 ⟨rfl, rfl⟩
        go_wp2_with fail
        refine bodyPost_ret (v := .tuple #[.slice none 0 0, .int .i64 0]) (by simp [results, Tryz.results19, go_sem]) rfl ?_
        exact ⟨none, 0, 0, [], rfl, Rd.nil _ _ _, hfin, fun _ => ⟨[], rfl, List.Perm.refl _, List.Pairwise.nil⟩, fun _ => rfl⟩
      · have HSO := Lib.hid (HSORT.out wr g acc.length cap acc HOKA.out (by omega) hS)
        have hcap2 := own_cap hown
        unfold maxLen at hcap2
        clear HFI0 hS hown HU HA HOKA
        by_cases hbig : 2000 < acc.length
        · have HE2 := Lib.hid (show mrgE (some acc) = 2 from if_pos hbig)
          go_wp2_with fail
          refine HSO.out.mono ?_
          rintro e w6 ⟨rfl, l, hp, hs, hS6⟩
          have hfin2 := hS6.below
          clear hp hs hS6
          go_wp2_with fail
          refine bodyPost_ret (v := .tuple #[.slice none 0 0, .int .i64 2]) (by simp [results, Tryz.results19, go_sem]) rfl (by rw [HE2.out]; exact MrgOut.bad (E := 2) (by decide) hfin2)
        · have HE2 := Lib.hid (show mrgE (some acc) = 0 from if_neg hbig)
          go_wp2_with fail
          refine HSO.out.mono ?_
          rintro e w6 ⟨rfl, l, hp, hs, hS6⟩
          have HP := Lib.hid hp
          have HSS := Lib.hid hs
          have hrd := Rd.own (b := b) hS6.head hbw
          have hfin2 := hS6.below
          clear hp hs hS6
          go_wp2_with fail
          refine bodyPost_ret (v := .tuple #[.slice (some ⟨g, 0, none⟩) acc.length cap, .int .i64 0]) (by simp [results, Tryz.results19, go_sem]) rfl ?_
          rw [HE2.out]
          exact ⟨_, _, _, l, rfl, hrd, hfin2, fun _ => ⟨acc, rfl, HP.out, HSS.out⟩, fun h => absurd rfl h⟩
end Go.Proofs.YtohhbkodfidfkaaGreat
