/-
  Gifts of the stream by a contract. (Printed by gen_bid17.py.)
-/
import Derived.Test.YtohhbkodfidfkaaGreatDoorZBidPure
import Derived.Test.YtohhbkodfidfkaaGreatDoorZSlot12
import Derived.Deep.DeepCutAuto
import Derived.Deep.CutBlock
import Derived.Laws.Cover4
import Derived.Laws.Concat
namespace Go.Proofs.YtohhbkodfidfkaaGreatDoor
open Go Go.RowKit
attribute [local go_sem ↓] Go.wp_at_zero Go.wp_at_succ

theorem info_gift : (Tryz.prog.info? 61).map (fun i => (i.zero, i.size, i.bytes)) = some (some (.agg #[.string ⟨#[]⟩, .int .i64 0, .int .i64 0, .string ⟨#[]⟩, .string ⟨#[]⟩]), 5, 64) := by kernel_rfl
/-- the name of a gift -/
def gStr (r : Int) : ByteArray := ⟨#[103]⟩ ++ Utf8.encode r
theorem gStr_size (r : Int) : (gStr r).size ≤ 1000 := by
  have h := Go.encode_size_le r
  unfold gStr
  rw [ByteArray.size_append]
  have : (⟨#[103]⟩ : ByteArray).size = 1 := rfl
  omega
theorem run_add_g {P : Program} {w : World} (r : Int) : (Op.stringOp .add ⟨#[103]⟩ (Utf8.encode r)).run P w = .ok (.string (gStr r)) w := by
  refine run_string_add_sum _ _ _ ?_
  have h := Go.encode_size_le r
  have : (⟨#[103]⟩ : ByteArray).size = 1 := rfl
  omega
attribute [local go_sem ↓ high] run_add_g
def GfO (x : Gf) : Prop := GfOk x ∧ x.cents ≤ 1099511627776
def GfOks (gs : List Gf) : Prop := ∀ x ∈ gs, GfO x
theorem GfOks.ok {gs : List Gf} (h : GfOks gs) : ∀ x ∈ gs, GfOk x := fun x hx => (h x hx).1
theorem GfOks.snoc {gs : List Gf} {x : Gf} (h : GfOks gs) (hx : GfO x) : GfOks (gs ++ [x]) := by
  intro y hy
  rcases List.mem_append.1 hy with hy | hy
  · exact h y hy
  · simp at hy; subst hy; exact hx
theorem gfZ {i o d : ByteArray} {a c : Int} (h1 : i.size ≤ 1000) (h2 : d.size ≤ 1000) (h3 : o.size ≤ 1000) (h4 : -2199023255552 ≤ a ∧ a ≤ 2199023255552) (h5 : -2199023255552 ≤ c ∧ c ≤ 1099511627776) : GfO ⟨i, a, c, d, o⟩ := ⟨⟨h1, h2, h3, h4, h5.1, Int.le_trans h5.2 (by decide)⟩, h5.2⟩
theorem one5g {a b c d e : Value} (ha : a.oneCell' = true) (hb : b.oneCell' = true) (hc : c.oneCell' = true) (hd : d.oneCell' = true) (he : e.oneCell' = true) : ∀ v ∈ [a, b, c, d, e], v.oneCell' = true := by
  intro v hv
  simp at hv
  rcases hv with rfl | rfl | rfl | rfl | rfl <;> assumption
/-- gifts in new memory, drawn -/
def GiftsS (b K m : Nat) (w : World) (e : Ending) (w' : World) : Prop :=
  ∃ (v : Value) (gs : List Gf), e = .returned v ∧ gs.length ≤ m ∧ GfOks gs ∧ Sp w b K w' [rOwn w.heap.size 61 5 v gs.length (gs.flatMap gfC)]

set_option maxRecDepth 100000 in
set_option maxHeartbeats 4000000 in
theorem gifts_calls (b K : Nat) (A : Option Addr) (n c many : Nat) (bs : List Bd) (w : World) (hs : Strm w b K) (hK : K ≤ 900000) (hr : Bds w b A n c bs) (hn : n ≤ 1000) (hmany : many ≤ 20) :
    Calls Tryz.prog 19 #[.pointer (some ⟨b, 0, none⟩), .slice A n c, .int .i64 many] w (GiftsS b (K + 240) many w) := by
  obtain ⟨hl, hnc, hcm, hcells⟩ := hr.rd.cells bdC_len (by omega)
  obtain ⟨i0, hi, hz0, hz1, hz2⟩ := info_parts info_gift
  unfold maxLen at hcm
  have hS0 := (Sp.start hs).nil w.heap.size 61 5
  have HL := Lib.hid hl
  have HC := Lib.hid hcells
  have HR := Lib.hid hr
  have hm0 : (0 : Int) ≤ (many : Int) := by omega
  have hm20 : (many : Int) ≤ 20 := by omega
  clear hcells hl hr
  go_enter Tryz.func19, Tryz.ntmps19
  go_wp2_with fail
  go_loopw [7, 8, 13] (fun v s8 i wr => ∃ (k : Nat) (gs : List Gf) (a : Int), k ≤ many ∧ i = .int .i64 k ∧ s8 = .int .i64 a ∧ 0 ≤ a ∧ a ≤ 50 * (k : Int) ∧ gs.length ≤ k ∧ GfOks gs ∧ Sp w b (K + 12 * k) wr [rOwn w.heap.size 61 5 v gs.length (gs.flatMap gfC)]) (fun _ _ i _ => many - (intOf i).toNat)
  case atStart => exact ⟨0, [], 0, Nat.zero_le _, rfl, rfl, by omega, by simp, Nat.le_refl _, (by intro x hx; cases hx), hS0⟩
  case round =>
    clear hS0
    obtain ⟨k, gs, a, hk, rfl, rfl, ha0, ha1, hgk, hz, hS⟩ := hrel
    by_cases hlt : k < many
    · have hk0 : (0 : Int) ≤ (k : Int) := by omega
      have hk5 : (k : Int) < (many : Int) := by omega
      go_wp2_with fail
      refine (sp_pickL hS #[.int .i64 1, .int .i64 10, .int .i64 50] 3 3 1 50 (by decide) (by decide) rfl rfl (by omega)).mono ?_
      rintro e w1 ⟨_, rfl, ⟨d, rfl, hd0, hd1⟩, hS1⟩
      clear hS
      go_wp2_with fail
      refine (sp_pickL hS1 #[.int .i64 5, .int .i64 10, .int .i64 10, .int .i64 50] 3 4 5 50 (by decide) (by decide) rfl rfl (by omega)).mono ?_
      rintro e w2 ⟨_, rfl, ⟨ct, rfl, hc0, hc1⟩, hS2⟩
      clear hS1
      go_upto_region 8 with (fail)
      have hS3 := hS2.add #[.string (gStr (97 + (k : Int))), .int .i64 (a + d), .int .i64 ct, .string ⟨#[]⟩, .string ⟨#[]⟩] 61
      clear hS2
      obtain ⟨gG, hgG⟩ : ∃ g, w2.heap.size = g := ⟨_, rfl⟩
      rw [hgG] at hS3 ⊢
      obtain ⟨gn, hgn⟩ : ∃ g, gStr (97 + (k : Int)) = g := ⟨_, rfl⟩
      have hgs : gn.size ≤ 1000 := by rw [← hgn]; exact gStr_size _
      rw [hgn] at hS3 ⊢
      clear hgn
      go_cut [38] (fun s38 W => ∃ fl : Bool, s38 = .bool fl ∧ (fl = true → 0 < n) ∧ Sp w b (K + 12 * k + 3) W [rBlk gG 61 #[.string gn, .int .i64 (a + d), .int .i64 ct, .string ⟨#[]⟩, .string ⟨#[]⟩], rOwn w.heap.size 61 5 u7 gs.length (gs.flatMap gfC)])
      case first =>
        by_cases h0 : n = 0
        · subst h0
          go_wp2_with fail
          go_meet
          exact ⟨false, rfl, (fun h => by cases h), hS3.more (by omega)⟩
        · have hn0 : (0 : Int) < (n : Int) := by omega
          go_wp2_with fail
          refine (sp_flip hS3 4 (by omega) (by omega) (by omega)).mono ?_
          rintro e w4 ⟨_, rfl, ⟨fv, rfl⟩, hS4⟩
          go_wp2_with fail
          go_meet
          exact ⟨!fv, rfl, fun _ => by omega, hS4.more (by omega)⟩
      case rest =>
        obtain ⟨fl, rfl, HFL, hS⟩ := hcut
        have HF := Lib.hid HFL
        clear HFL hS3 hgG
        go_upto_if 38 with (fail)
        go_cut [] (fun W => ∃ d1 o1 : ByteArray, d1.size ≤ 1000 ∧ o1.size ≤ 1000 ∧ Sp w b (K + 12 * k + 6) W [rBlk gG 61 #[.string gn, .int .i64 (a + d), .int .i64 ct, .string d1, .string o1], rOwn w.heap.size 61 5 u7 gs.length (gs.flatMap gfC)])
        case first =>
          cases fl
          · go_wp2_with fail
            go_meet
            exact ⟨⟨#[]⟩, ⟨#[]⟩, by decide, by decide, hS.more (by omega)⟩
          · have hn0 := HF.out rfl
            have hn1 : (0 : Int) < (n : Int) := by omega
            go_wp2_with fail
            refine (sp_next hS n (by omega) (by omega) (by omega)).mono ?_
            rintro e w4 ⟨_, rfl, ⟨jv, rfl, jv0, jv1⟩, hS4⟩
            obtain ⟨j, rfl⟩ := Int.eq_ofNat_of_zero_le jv0
            have hjn : j < n := by omega
            have hjr : j < bs.length := by rw [HL.out]; exact hjn
            obtain ⟨g, o, hA, hgb, hcs⟩ := HC.out (by omega)
            subst hA
            have x0 := hcs j hjr 0 (by omega)
            have x1 := hcs j hjr 1 (by omega)
            have x2 := hcs j hjr 2 (by omega)
            have x3 := hcs j hjr 3 (by omega)
            have hok := HR.out.ok _ (List.getElem_mem hjr)
            obtain ⟨x, hx⟩ : ∃ x, bs[j] = x := ⟨_, rfl⟩
            rw [hx] at x0 x1 x2 x3 hok
            obtain ⟨m, hm⟩ : ∃ m, x.opts.length = m := ⟨_, rfl⟩
            have y0 : w4.cell? ⟨g, o + j * 4, none⟩ = some (.string x.key) := hS4.bx.cell x0 hgb
            have y1 : w4.cell? ⟨g, o + j * 4 + 1, none⟩ = some (.string x.before) := hS4.bx.cell x1 hgb
            have y2 : w4.cell? ⟨g, o + j * 4 + 2, none⟩ = some (.int .i64 x.goal) := hS4.bx.cell x2 hgb
            have y3 : w4.cell? ⟨g, o + j * 4 + 3, none⟩ = some (.slice x.oa m x.oc) := by rw [← hm]; exact hS4.bx.cell x3 hgb
            have hj0 : (0 : Int) ≤ (j : Int) := by omega
            have hj1 : (j : Int) < (n : Int) := by omega
            have hbx : Blk w4 gG 61 #[.string gn, .int .i64 (a + d), .int .i64 ct, .string ⟨#[]⟩, .string ⟨#[]⟩] := hS4.nth 0 rfl
            have e3 := hbx.cell 3
            have f3 := hbx.frozen 3
            have lG := hbx.lt
            have hkz := hok.hk
            have hS5 : Sp w b (K + 12 * k + 5) ((w4.setCell ⟨gG, 3, none⟩ (.string x.key)).alloc (.cells #[.string x.key, .string x.before, .int .i64 x.goal, .slice x.oa m x.oc] 53)) [rBlk gG 61 #[.string gn, .int .i64 (a + d), .int .i64 ct, .string x.key, .string ⟨#[]⟩], rBlk w4.heap.size 53 #[.string x.key, .string x.before, .int .i64 x.goal, .slice x.oa m x.oc], rOwn w.heap.size 61 5 u7 gs.length (gs.flatMap gfC)] := by
              have h := (((hS4.set_ 3 (.string x.key)).add #[.string x.key, .string x.before, .int .i64 x.goal, .slice x.oa m x.oc] 53).front 1 rfl rfl)
              have h2 := h.more (show K + 12 * k + 3 + 1 ≤ K + 12 * k + 5 by omega)
              simpa [World.setCell] using h2
            have HOR := Lib.hid hok.rd
            have HOZ := Lib.hid hok.hh
            have HM := Lib.hid hm
            have hmz : m ≤ 1000 := by rw [← hm]; exact hok.hn
            clear hbx hcs x0 x1 x2 x3 hx hS hok hm
            by_cases hm0 : m = 0
            · subst hm0
              go_wp2_with fail
              go_meet
              have hS6 := hS5.drop 1 rfl (l' := [rBlk gG 61 #[.string gn, .int .i64 (a + d), .int .i64 ct, .string x.key, .string ⟨#[]⟩], rOwn w.heap.size 61 5 u7 gs.length (gs.flatMap gfC)]) rfl
              exact ⟨x.key, ⟨#[]⟩, hkz, by decide, hS6.more (by omega)⟩
            · have hmp : (0 : Int) < (m : Int) := by omega
              obtain ⟨_, _, _, hoc⟩ := strs_cells HOR.out
              obtain ⟨g3, o3, hA3, hg3, hoc2⟩ := hoc (by rw [HM.out]; omega)
              rw [hA3] at hS5 y3
              clear hA3
              obtain ⟨w5, hw5⟩ : ∃ W, (w4.setCell ⟨gG, 3, none⟩ (.string x.key)).alloc (.cells #[.string x.key, .string x.before, .int .i64 x.goal, .slice (some ⟨g3, o3, none⟩) m x.oc] 53) = W := ⟨_, rfl⟩
              rw [hw5] at hS5
              have HS5 := Lib.hid hS5
              have HA : Hid (Calls Tryz.prog 33 #[.pointer (some ⟨b, 0, none⟩), .int .i64 m] w5.drew (SpS (IsInt 0 (m - 1)) w b (K + 12 * k + 6) [rBlk gG 61 #[.string gn, .int .i64 (a + d), .int .i64 ct, .string x.key, .string ⟨#[]⟩], rBlk w4.heap.size 53 #[.string x.key, .string x.before, .int .i64 x.goal, .slice (some ⟨g3, o3, none⟩) m x.oc], rOwn w.heap.size 61 5 u7 gs.length (gs.flatMap gfC)])) :=
                (sp_next hS5.drew m (by omega) (by omega) (by omega)).mono (fun e w' ⟨v, he, h1, hs⟩ => ⟨v, he, h1, hs.more (by omega)⟩)
              have HX : Hid (∀ W K', Sp w b K' W [rBlk gG 61 #[.string gn, .int .i64 (a + d), .int .i64 ct, .string x.key, .string ⟨#[]⟩], rBlk w4.heap.size 53 #[.string x.key, .string x.before, .int .i64 x.goal, .slice (some ⟨g3, o3, none⟩) m x.oc], rOwn w.heap.size 61 5 u7 gs.length (gs.flatMap gfC)] → W.cell? ⟨w4.heap.size, 3, none⟩ = some (.slice (some ⟨g3, o3, none⟩) m x.oc) ∧ W.cell? ⟨gG, 4, none⟩ = some (.string ⟨#[]⟩) ∧ W.frozen? ⟨gG, 4, none⟩ = false ∧ gG < W.heap.size ∧ w4.heap.size < W.heap.size) := fun W K' h => by
                have h1 : Blk W gG 61 #[.string gn, .int .i64 (a + d), .int .i64 ct, .string x.key, .string ⟨#[]⟩] := h.nth 0 rfl
                have h2 : Blk W w4.heap.size 53 #[.string x.key, .string x.before, .int .i64 x.goal, .slice (some ⟨g3, o3, none⟩) m x.oc] := h.nth 1 rfl
                exact ⟨h2.cell 3, h1.cell 4, h1.frozen 4, h1.lt, h2.lt⟩
              have HO : Hid (∀ W K' l, Sp w b K' W l → ∀ r, r < m → ∃ s : ByteArray, s.size ≤ 1000 ∧ W.cell? ⟨g3, o3 + r, none⟩ = some (.string s)) := fun W K' l h r hr => by
                have hr2 : r < x.opts.length := by rw [HM.out]; exact hr
                exact ⟨x.opts[r], HOZ.out _ (List.getElem_mem hr2), h.bx.cell (hoc2 r hr2) hg3⟩
              clear hS5 hoc hoc2 hg3
              obtain ⟨q3, q4, u4, lG5, lX⟩ := HX.out _ _ HS5.out
              go_upto_region 12 with (fail)
              clear e3 f3 lG y0 y1 y2 y3 hw5
              have q3d : w5.drew.cell? ⟨w4.heap.size, 3, none⟩ = some (.slice (some ⟨g3, o3, none⟩) m x.oc) := q3
              go_region_law (first
                | (go_simp; go_at_call 33; ((with_reducible refine HA.out.mono ?_); rintro e w7 ⟨_, rfl, ⟨rv, rfl, rv0, rv1⟩, hT⟩; obtain ⟨r, rfl⟩ := Int.eq_ofNat_of_zero_le rv0; have hrm : r < m := (by omega); have hr0 : (0 : Int) ≤ (r : Int) := (by omega); have hr1 : (r : Int) < (m : Int) := (by omega); obtain ⟨so, hso, hsc⟩ := HO.out _ _ _ hT r hrm; obtain ⟨q3, q4, u4, lG, lX⟩ := HX.out _ _ hT)))
              all_goals
                have hU := (hT.set_ 4 (.string so)).drop 1 rfl rfl
                go_wp2_with fail
                go_meet
                exact ⟨x.key, so, hkz, hso, hU.more (by omega)⟩
        case rest =>
          obtain ⟨d1, o1, hd1z, ho1z, hS⟩ := hcut
          clear HF
          go_wp2_with fail
          refine (sp_flip hS 60 (by omega) (by omega) (by omega)).mono ?_
          rintro e w4 ⟨_, rfl, ⟨fv, rfl⟩, hS4⟩
          clear hS
          go_upto_if 64 with (fail)
          go_cut [] (fun W => ∃ (i1 d1 o1 : ByteArray) (a1 c1 : Int), GfO ⟨i1, a1, c1, d1, o1⟩ ∧ Sp w b (K + 12 * k + 12) W [rBlk gG 61 #[.string i1, .int .i64 a1, .int .i64 c1, .string d1, .string o1], rOwn w.heap.size 61 5 u7 gs.length (gs.flatMap gfC)])
          case first =>
            have hgi : GfO ⟨gn, a + d, ct, d1, o1⟩ := gfZ hgs hd1z ho1z ⟨by omega, by omega⟩ ⟨by omega, by omega⟩
            cases fv
            · go_wp2_with fail
              go_meet
              exact ⟨gn, d1, o1, a + d, ct, hgi, hS4.more (by omega)⟩
            · go_wp2_with fail
              refine (sp_next hS4 3 (by omega) (by omega) (by omega)).mono ?_
              rintro e w5 ⟨_, rfl, ⟨zv, rfl, zv0, zv1⟩, hS5⟩
              clear hS4
              have hbx : Blk w5 gG 61 #[.string gn, .int .i64 (a + d), .int .i64 ct, .string d1, .string o1] := hS5.nth 0 rfl
              have e0 := hbx.cell 0
              have e3 := hbx.cell 3
              clear hbx
              rcases (show zv = 0 ∨ zv = 1 ∨ zv = 2 by omega) with rfl | rfl | rfl
              · go_wp2_with fail
                refine (sp_someL hS5 #[.string gn, .string ⟨#[]⟩, .string ⟨#[103, 97]⟩] 9 3 (by decide) (by decide) rfl (lit_v hgs (strLit_ok (cs := #[.string ⟨#[]⟩, .string ⟨#[103, 97]⟩]) rfl)) (by omega)).mono ?_
                rintro e w6 ⟨_, rfl, ⟨i2, rfl, hi2⟩, hS6⟩
                clear hS5 e0 e3
                go_wp2_with fail
                refine (sp_odd hS6 0 100 (by omega) (by omega) (by omega) (by omega)).mono ?_
                rintro e w7 ⟨_, rfl, ⟨p, rfl, p0, p1⟩, hS7⟩
                clear hS6
                have hbx : Blk w7 gG 61 #[.string gn, .int .i64 (a + d), .int .i64 ct, .string d1, .string o1] := hS7.nth 0 rfl
                have e0 := hbx.cell 0
                have e1 := hbx.cell 1
                have f0 := hbx.frozen 0
                have f1 := hbx.frozen 1
                have lG := hbx.lt
                clear hbx
                have hS8 := (hS7.set_ 0 (.string i2)).set_ 1 (.int .i64 p)
                go_wp2_with fail
                go_meet
                exact ⟨i2, d1, o1, p, ct, gfZ hi2 hd1z ho1z ⟨by omega, by omega⟩ ⟨by omega, by omega⟩, hS8.more (by omega)⟩
              · have hL3 : ∀ z ∈ (#[.string ⟨#[122, 122]⟩, .string ⟨#[65]⟩, .string d1] : Array Value).toList, ∃ y, z = .string y ∧ y.size ≤ 1000 := by
                  have := lit_v hd1z (strLit_ok (cs := #[.string ⟨#[122, 122]⟩, .string ⟨#[65]⟩]) rfl)
                  intro z hz
                  exact this z (by simp at hz ⊢; rcases hz with h | h | h <;> simp [h])
                go_wp2_with fail
                refine (sp_someL hS5 #[.string ⟨#[122, 122]⟩, .string ⟨#[65]⟩, .string d1] 9 3 (by decide) (by decide) rfl hL3 (by omega)).mono ?_
                rintro e w6 ⟨_, rfl, ⟨d2, rfl, hd2⟩, hS6⟩
                clear hS5 e0 e3 hL3
                go_wp2_with fail
                refine (sp_someL hS6 #[.string ⟨#[120]⟩, .string ⟨#[65]⟩, .string ⟨#[]⟩] 9 3 (by decide) (by decide) rfl (strLit_ok rfl) (by omega)).mono ?_
                rintro e w7 ⟨_, rfl, ⟨o2, rfl, ho2⟩, hS7⟩
                clear hS6
                have hbx : Blk w7 gG 61 #[.string gn, .int .i64 (a + d), .int .i64 ct, .string d1, .string o1] := hS7.nth 0 rfl
                have e3 := hbx.cell 3
                have e4 := hbx.cell 4
                have f3 := hbx.frozen 3
                have f4 := hbx.frozen 4
                have lG := hbx.lt
                clear hbx
                have hS8 := (hS7.set_ 3 (.string d2)).set_ 4 (.string o2)
                go_wp2_with fail
                go_meet
                exact ⟨gn, d2, o2, a + d, ct, gfZ hgs hd2 ho2 ⟨by omega, by omega⟩ ⟨by omega, by omega⟩, hS8.more (by omega)⟩
              · go_wp2_with fail
                refine (sp_odd hS5 1 1000000000 (by omega) (by omega) (by omega) (by omega)).mono ?_
                rintro e w7 ⟨_, rfl, ⟨p, rfl, p0, p1⟩, hS7⟩
                clear hS5 e0 e3
                have hbx : Blk w7 gG 61 #[.string gn, .int .i64 (a + d), .int .i64 ct, .string d1, .string o1] := hS7.nth 0 rfl
                have e2 := hbx.cell 2
                have f2 := hbx.frozen 2
                have lG := hbx.lt
                clear hbx
                have hS8 := hS7.set_ 2 (.int .i64 p)
                go_wp2_with fail
                go_meet
                exact ⟨gn, d1, o1, a + d, p, gfZ hgs hd1z ho1z ⟨by omega, by omega⟩ ⟨by omega, by omega⟩, hS8.more (by omega)⟩
          case rest =>
            obtain ⟨i1, d2, o2, a1, c1, hgf, hS⟩ := hcut
            clear hS4
            have hbx : Blk wc gG 61 #[.string i1, .int .i64 a1, .int .i64 c1, .string d2, .string o2] := hS.nth 0 rfl
            have e0 := hbx.cell 0
            have e1 := hbx.cell 1
            have e2 := hbx.cell 2
            have e3 := hbx.cell 3
            have e4 := hbx.cell 4
            have hzC := hS.size
            have hS7 := hS.front 1 rfl rfl
            have HO5 : wc.ownsRow w.heap.size 61 5 u7 gs.length (gs.flatMap gfC) := hS7.head
            have HGF := Lib.hid hgf
            clear hbx hgf hS
            go_wp2_with (first
              | (at_builtin; refine wpList_append_own_at _ rfl _ _ 55 rfl w.heap.size 61 i0 (.agg #[.string ⟨#[]⟩, .int .i64 0, .int .i64 0, .string ⟨#[]⟩, .string ⟨#[]⟩]) 5 64 Tryz.underlying55 hi hz0 hz1 hz2 rfl (by decide) _ _ _ rfl (HO5.alloc _) ⟨wc.heap.size, 0, none⟩ 1 1 [.string i1, .int .i64 a1, .int .i64 c1, .string d2, .string o2] rfl rfl (World.news_of_block (heap_alloc_new _ _)) (one5g rfl rfl rfl rfl rfl) (by unfold maxLen; omega) (by omega) (by simp; omega) ?_; intro v' w8 hown' hgrow _ hblk; have hS8 := (hS7.alloc _).append hown' hgrow hblk; clear hown' hgrow hblk))
            have hS9 : Sp w b (K + 12 * k + 12) w8 [rOwn w.heap.size 61 5 v' (gs ++ [(⟨i1, a1, c1, d2, o2⟩ : Gf)]).length ((gs ++ [(⟨i1, a1, c1, d2, o2⟩ : Gf)]).flatMap gfC)] := by
              rw [flat_snoc, List.length_append]
              exact hS8.drop 1 rfl rfl
            clear hS8
            go_roundw
            case rel => exact ⟨k + 1, gs ++ [(⟨i1, a1, c1, d2, o2⟩ : Gf)], a + d, by omega, by go_num, rfl, by omega, by omega, by simp; omega, hz.snoc HGF.out, hS9.more (by omega)⟩
            case measure => simp [intOf]; omega
    · obtain rfl : k = many := by omega
      go_wp2_with fail
      go_ret
      exact ⟨_, gs, rfl, by omega, hz, hS.more (by omega)⟩
end Go.Proofs.YtohhbkodfidfkaaGreatDoor
