/-
  Gifts of the stream by a contract. (Printed by gen_bid17.py.)
-/
import Derived.Test.YthbcogekfdllmaaGreatDoorZBidPure
import Derived.Test.YthbcogekfdllmaaGreatDoorZBs
import Derived.Deep.DeepCutAuto
import Derived.Deep.CutBlock
import Derived.Laws.Cover4
import Derived.Laws.Concat
import Derived.Test.YthbcogekfdllmaaGreatDoorZBidX
namespace Go.Proofs.YthbcogekfdllmaaGreatDoor
open Go Go.RowKit
attribute [local go_sem ↓] Go.wp_at_zero Go.wp_at_succ

theorem info_gift : (Tryz.prog.info? 88).map (fun i => (i.zero, i.size, i.bytes)) = some (some (.agg #[.string ⟨#[]⟩, .int .i64 0, .int .i64 0, .string ⟨#[]⟩, .string ⟨#[]⟩]), 5, 64) := by kernel_rfl
/-- the name of a gift -/
def gStr (r : Int) : ByteArray := ⟨#[103]⟩ ++ Utf8.encode r
theorem gStr_size (r : Int) : (gStr r).size ≤ 1000 := by
  have h := Go.encode_size_le r
  unfold gStr
  rw [ByteArray.size_append]
  have : (⟨#[103]⟩ : ByteArray).size = 1 := rfl
  omega
theorem run_add_g {P : Program} {w : World} (r : Int) : (Op.stringOp .add ⟨#[103]⟩ (Utf8.encode r)).run P w = .ok (.string (gStr r)) w := by
  refine run_string_add_sum _ _ _ ?_
  have h := Go.encode_size_le r
  have : (⟨#[103]⟩ : ByteArray).size = 1 := rfl
  omega
attribute [local go_sem ↓ high] run_add_g
def GfO (x : Gf) : Prop := GfOk x ∧ x.cents ≤ 1099511627776
def GfOks (gs : List Gf) : Prop := ∀ x ∈ gs, GfO x
theorem GfOks.ok {gs : List Gf} (h : GfOks gs) : ∀ x ∈ gs, GfOk x := fun x hx => (h x hx).1
theorem GfOks.snoc {gs : List Gf} {x : Gf} (h : GfOks gs) (hx : GfO x) : GfOks (gs ++ [x]) := by
  intro y hy
  rcases List.mem_append.1 hy with hy | hy
  · exact h y hy
  · simp at hy; subst hy; exact hx
theorem gfZ {i o d : ByteArray} {a c : Int} (h1 : i.size ≤ 1000) (h2 : d.size ≤ 1000) (h3 : o.size ≤ 1000) (h4 : -2199023255552 ≤ a ∧ a ≤ 2199023255552) (h5 : -2199023255552 ≤ c ∧ c ≤ 1099511627776) : GfO ⟨i, a, c, d, o⟩ := ⟨⟨h1, h2, h3, h4, h5.1, Int.le_trans h5.2 (by decide)⟩, h5.2⟩
theorem one5g {a b c d e : Value} (ha : a.oneCell' = true) (hb : b.oneCell' = true) (hc : c.oneCell' = true) (hd : d.oneCell' = true) (he : e.oneCell' = true) : ∀ v ∈ [a, b, c, d, e], v.oneCell' = true := by
  intro v hv
  simp at hv
  rcases hv with rfl | rfl | rfl | rfl | rfl <;> assumption
end Go.Proofs.YthbcogekfdllmaaGreatDoor
/-
  Gifts of the stream to the letter. (Turned out of XBid17 by a program.)
-/
namespace Go.Proofs.YthbcogekfdllmaaGreatDoor
open Go Go.RowKit
attribute [local go_sem ↓] Go.wp_at_zero Go.wp_at_succ
attribute [local go_sem ↓ high] run_add_g

abbrev BdT := ByteArray × ByteArray × Int × List ByteArray
def g1X (zs : ZsT) (n r : Nat) : Nat × Bool := if n = 0 then (r, false) else (r + 1, !(nxX zs r 4 == 0))
/-- what it is given for -/
def g2X (zs : ZsT) (L : List BdT) (q : Nat × Bool) : Nat × ByteArray × ByteArray :=
  if q.2 = true then
    (if (L[(nxX zs q.1 (L.length : Int)).toNat]?.getD (⟨#[]⟩, ⟨#[]⟩, 0, [])).2.2.2.length = 0 then (q.1 + 1, (L[(nxX zs q.1 (L.length : Int)).toNat]?.getD (⟨#[]⟩, ⟨#[]⟩, 0, [])).1, ⟨#[]⟩)
    else (q.1 + 1 + 1, (L[(nxX zs q.1 (L.length : Int)).toNat]?.getD (⟨#[]⟩, ⟨#[]⟩, 0, [])).1, (L[(nxX zs q.1 (L.length : Int)).toNat]?.getD (⟨#[]⟩, ⟨#[]⟩, 0, [])).2.2.2[(nxX zs (q.1 + 1) ((L[(nxX zs q.1 (L.length : Int)).toNat]?.getD (⟨#[]⟩, ⟨#[]⟩, 0, [])).2.2.2.length : Int)).toNat]?.getD ⟨#[]⟩))
  else (q.1, ⟨#[]⟩, ⟨#[]⟩)
theorem g2X_at {zs : ZsT} {bs : List Bd} {r j : Nat} {x : Bd} (h : nxX zs r (bs.length : Int) = (j : Int)) (hj : j < bs.length) (hx : bs[j] = x) :
    (x.opts.length = 0 → g2X zs (bs.map cntB) (r, true) = (r + 1, x.key, ⟨#[]⟩)) ∧
    ∀ (m rn : Nat) (so : ByteArray), x.opts.length = m → ¬ m = 0 → nxX zs (r + 1) (m : Int) = (rn : Int) → x.opts[rn]? = some so → g2X zs (bs.map cntB) (r, true) = (r + 1 + 1, x.key, so) := by
  have hg : ((bs.map cntB)[(nxX zs r ((bs.map cntB).length : Int)).toNat]?.getD (⟨#[]⟩, ⟨#[]⟩, 0, [])) = cntB x := by
    rw [List.length_map, h, Int.toNat_natCast, List.getElem?_map, List.getElem?_eq_getElem hj, hx]
    rfl
  refine ⟨fun h0 => ?_, fun m rn so hm h0 hr hs => ?_⟩
  · unfold g2X
    simp only [hg]
    rw [if_pos trivial]
    exact if_pos h0
  · unfold g2X
    simp only [hg]
    rw [if_pos trivial, if_neg (show ¬ (cntB x).2.2.2.length = 0 by show ¬ x.opts.length = 0; omega)]
    show (r + 1 + 1, x.key, x.opts[(nxX zs (r + 1) (x.opts.length : Int)).toNat]?.getD ⟨#[]⟩) = _
    rw [hm, hr, Int.toNat_natCast, hs]
    rfl
/-- spoilt now and then -/
def g3X (zs : ZsT) (r : Nat) (g : Gf) : Nat × Gf :=
  if (nxX zs r 60 == 0) = true then
    (if nxX zs (r + 1) 3 = 0 then (r + 1 + 1 + 1 + 2, ⟨smX zs (r + 1 + 1) [g.id, ⟨#[]⟩, ⟨#[103, 97]⟩], oddX zs (r + 1 + 1 + 1) 0 100, g.cents, g.bid, g.option⟩)
    else if nxX zs (r + 1) 3 = 1 then (r + 1 + 1 + 1 + 1, ⟨g.id, g.at_, g.cents, smX zs (r + 1 + 1) [⟨#[122, 122]⟩, ⟨#[65]⟩, g.bid], smX zs (r + 1 + 1 + 1) [⟨#[120]⟩, ⟨#[65]⟩, ⟨#[]⟩]⟩)
    else (r + 1 + 1 + 2, ⟨g.id, g.at_, oddX zs (r + 1 + 1) 1 1000000000, g.bid, g.option⟩))
  else (r + 1, g)
section
variable {zs : ZsT} {r : Nat} {i d o i2 d2 o2 : ByteArray} {a c p : Int}
theorem g3X_same (h : (nxX zs r 60 == 0) = false) : g3X zs r ⟨i, a, c, d, o⟩ = (r + 1, ⟨i, a, c, d, o⟩) := by unfold g3X; rw [if_neg (by rw [h]; decide)]
theorem g3X_0 (h : (nxX zs r 60 == 0) = true) (hz : nxX zs (r + 1) 3 = 0) (hi : smX zs (r + 1 + 1) [i, ⟨#[]⟩, ⟨#[103, 97]⟩] = i2) (hp : oddX zs (r + 1 + 1 + 1) 0 100 = p) : g3X zs r ⟨i, a, c, d, o⟩ = (r + 1 + 1 + 1 + 2, ⟨i2, p, c, d, o⟩) := by
  unfold g3X
  rw [if_pos h, if_pos hz, ← hi, ← hp]
theorem g3X_1 (h : (nxX zs r 60 == 0) = true) (hz : nxX zs (r + 1) 3 = 1) (hd : smX zs (r + 1 + 1) [⟨#[122, 122]⟩, ⟨#[65]⟩, d] = d2) (ho : smX zs (r + 1 + 1 + 1) [⟨#[120]⟩, ⟨#[65]⟩, ⟨#[]⟩] = o2) : g3X zs r ⟨i, a, c, d, o⟩ = (r + 1 + 1 + 1 + 1, ⟨i, a, c, d2, o2⟩) := by
  unfold g3X
  rw [if_pos h, if_neg (by rw [hz]; decide), if_pos hz, ← hd, ← ho]
theorem g3X_2 (h : (nxX zs r 60 == 0) = true) (hz : nxX zs (r + 1) 3 = 2) (hp : oddX zs (r + 1 + 1) 1 1000000000 = p) : g3X zs r ⟨i, a, c, d, o⟩ = (r + 1 + 1 + 2, ⟨i, a, p, d, o⟩) := by
  unfold g3X
  rw [if_pos h, if_neg (by rw [hz]; decide), if_neg (by rw [hz]; decide), ← hp]
end
/-- a round's gift -/
def gfR (zs : ZsT) (L : List BdT) (k r : Nat) (a : Int) : Nat × Gf :=
  g3X zs (g2X zs L (g1X zs L.length (r + 1 + 1))).1 ⟨gStr (97 + (k : Int)), a + pkX zs r [1, 10, 50], pkX zs (r + 1) [5, 10, 10, 50], (g2X zs L (g1X zs L.length (r + 1 + 1))).2.1, (g2X zs L (g1X zs L.length (r + 1 + 1))).2.2⟩
/-- the gifts after k rounds: the position, the moment, the list -/
def gfX (zs : ZsT) (L : List BdT) (p : Nat) : Nat → Nat × Int × List Gf
  | 0 => (p, 0, [])
  | k + 1 => ((gfR zs L k (gfX zs L p k).1 (gfX zs L p k).2.1).1, (gfX zs L p k).2.1 + pkX zs (gfX zs L p k).1 [1, 10, 50], (gfX zs L p k).2.2 ++ [(gfR zs L k (gfX zs L p k).1 (gfX zs L p k).2.1).2])
theorem gfX_yes {zs : ZsT} {L : List BdT} {p k r n r3 r4 r6 : Nat} {gs : List Gf} {a d ct : Int} {gn d1 o1 : ByteArray} {fl : Bool} {g : Gf} (hn : L.length = n) (h : gfX zs L p k = (r, a, gs)) (hd : pkX zs r [1, 10, 50] = d) (hc : pkX zs (r + 1) [5, 10, 10, 50] = ct) (hg : gStr (97 + (k : Int)) = gn)
    (h1 : g1X zs n (r + 1 + 1) = (r3, fl)) (h2 : g2X zs L (r3, fl) = (r4, d1, o1)) (h3 : g3X zs r4 ⟨gn, a + d, ct, d1, o1⟩ = (r6, g)) : gfX zs L p (k + 1) = (r6, a + d, gs ++ [g]) := by
  rw [gfX, h]
  unfold gfR
  simp only [hn, hd, hc, hg, h1, h2, h3]
/-- gifts in new memory, to the letter -/
def GiftsX (zs : ZsT) (b p : Nat) (L : List BdT) (m : Nat) (w : World) (e : Ending) (w' : World) : Prop :=
  ∃ (v : Value) (gs : List Gf) (r : Nat), e = .returned v ∧ gs.length ≤ m ∧ GfOks gs ∧ (gfX zs L p m).2.2 = gs ∧ r ≤ p + 12 * m ∧ SpX zs w b r w' [rOwn w.heap.size 88 5 v gs.length (gs.flatMap gfC)]
set_option maxRecDepth 100000 in
set_option maxHeartbeats 4000000 in
theorem giftsX_calls (b p0 : Nat) (zs : ZsT) (A : Option Addr) (n c many : Nat) (bs : List Bd) (w : World) (hs : StrmX w b zs p0) (hK : p0 ≤ 800000) (hr : Bds w b A n c bs) (hn : n ≤ 1000) (hmany : many ≤ 20) :
    Calls Tryz.prog 19 #[.pointer (some ⟨b, 0, none⟩), .slice A n c, .int .i64 many] w (GiftsX zs b p0 (bs.map cntB) many w) := by
  obtain ⟨hl, hnc, hcm, hcells⟩ := hr.rd.cells bdC_len (by omega)
  obtain ⟨i0, hi, hz0, hz1, hz2⟩ := info_parts info_gift
  unfold maxLen at hcm
  have hS0 := (SpX.start hs).nil w.heap.size 88 5
  have HL := Lib.hid hl
  have HC := Lib.hid hcells
  have HR := Lib.hid hr
  have hm0 : (0 : Int) ≤ (many : Int) := by omega
  have hm20 : (many : Int) ≤ 20 := by omega
  clear hcells hl hr
  go_enter Tryz.func19, Tryz.ntmps19
  go_wp2_with fail
  go_loopw [7, 8, 13] (fun v s8 i wr => ∃ (k r : Nat) (gs : List Gf) (a : Int), k ≤ many ∧ i = .int .i64 k ∧ s8 = .int .i64 a ∧ 0 ≤ a ∧ a ≤ 50 * (k : Int) ∧ gs.length ≤ k ∧ GfOks gs ∧ r ≤ p0 + 12 * k ∧ Hid (gfX zs (bs.map cntB) p0 k = (r, a, gs)) ∧ SpX zs w b r wr [rOwn w.heap.size 88 5 v gs.length (gs.flatMap gfC)]) (fun _ _ i _ => many - (intOf i).toNat)
  case atStart => exact ⟨0, p0, [], 0, Nat.zero_le _, rfl, rfl, by omega, by simp, Nat.le_refl _, (by intro x hx; cases hx), by omega, Lib.hid rfl, hS0⟩
  case round =>
    clear hS0
    obtain ⟨k, r, gs, a, hk, rfl, rfl, ha0, ha1, hgk, hz, hrk, HP, hS⟩ := hrel
    by_cases hlt : k < many
    · have hk0 : (0 : Int) ≤ (k : Int) := by omega
      have hk5 : (k : Int) < (many : Int) := by omega
      go_wp2_with fail
      refine (spx_pickL hS [1, 10, 50] #[.int .i64 1, .int .i64 10, .int .i64 50] 3 3 rfl (by decide) (by decide) rfl (by omega)).mono ?_
      rintro e w1 ⟨rfl, hS1⟩
      obtain ⟨hd0, hd1⟩ := pkX_bd zs r [1, 10, 50] 1 50 (by decide) (by decide)
      obtain ⟨d, hde⟩ : ∃ d, pkX zs r [1, 10, 50] = d := ⟨_, rfl⟩
      rw [hde] at hd0 hd1 ⊢
      have HDE := Lib.hid hde
      clear hde
      clear hS
      go_wp2_with fail
      refine (spx_pickL hS1 [5, 10, 10, 50] #[.int .i64 5, .int .i64 10, .int .i64 10, .int .i64 50] 3 4 rfl (by decide) (by decide) rfl (by omega)).mono ?_
      rintro e w2 ⟨rfl, hS2⟩
      obtain ⟨hc0, hc1⟩ := pkX_bd zs (r + 1) [5, 10, 10, 50] 5 50 (by decide) (by decide)
      obtain ⟨ct, hce⟩ : ∃ d, pkX zs (r + 1) [5, 10, 10, 50] = d := ⟨_, rfl⟩
      rw [hce] at hc0 hc1 ⊢
      have HCE := Lib.hid hce
      clear hce
      clear hS1
      go_upto_region 8 with (fail)
      have hS3 := hS2.add #[.string (gStr (97 + (k : Int))), .int .i64 (a + d), .int .i64 ct, .string ⟨#[]⟩, .string ⟨#[]⟩] 88
      clear hS2
      obtain ⟨gG, hgG⟩ : ∃ g, w2.heap.size = g := ⟨_, rfl⟩
      rw [hgG] at hS3 ⊢
      obtain ⟨gn, hgn⟩ : ∃ g, gStr (97 + (k : Int)) = g := ⟨_, rfl⟩
      have hgs : gn.size ≤ 1000 := by rw [← hgn]; exact gStr_size _
      rw [hgn] at hS3 ⊢
      have HGN := Lib.hid hgn
      clear hgn
      go_cut [38] (fun s38 W => ∃ (r3 : Nat) (fl : Bool), s38 = .bool fl ∧ (fl = true → 0 < n) ∧ r3 ≤ r + 3 ∧ Hid (g1X zs n (r + 1 + 1) = (r3, fl)) ∧ SpX zs w b r3 W [rBlk gG 88 #[.string gn, .int .i64 (a + d), .int .i64 ct, .string ⟨#[]⟩, .string ⟨#[]⟩], rOwn w.heap.size 88 5 u7 gs.length (gs.flatMap gfC)])
      case first =>
        by_cases h0 : n = 0
        · subst h0
          go_wp2_with fail
          go_meet
          exact ⟨r + 1 + 1, false, rfl, (fun h => by cases h), by omega, Lib.hid rfl, hS3⟩
        · have hn0 : (0 : Int) < (n : Int) := by omega
          go_wp2_with fail
          refine (spx_flip hS3 4 (by omega) (by omega) (by omega)).mono ?_
          rintro e w4 ⟨rfl, hS4⟩
          obtain ⟨fv, hfv⟩ : ∃ f, (nxX zs (r + 1 + 1) 4 == 0) = f := ⟨_, rfl⟩
          rw [hfv]
          have HB1 : Hid (g1X zs n (r + 1 + 1) = (r + 1 + 1 + 1, !fv)) := Lib.hid (by unfold g1X; rw [if_neg h0, hfv])
          clear hfv
          go_wp2_with fail
          go_meet
          exact ⟨r + 1 + 1 + 1, !fv, rfl, fun _ => by omega, by omega, HB1, hS4⟩
      case rest =>
        obtain ⟨r3, fl, rfl, HFL, hr3, HB1, hS⟩ := hcut
        have HF := Lib.hid HFL
        clear HFL hS3 hgG
        go_upto_if 38 with (fail)
        go_cut [] (fun W => ∃ (r4 : Nat) (d1 o1 : ByteArray), d1.size ≤ 1000 ∧ o1.size ≤ 1000 ∧ r4 ≤ r + 5 ∧ Hid (g2X zs (bs.map cntB) (r3, fl) = (r4, d1, o1)) ∧ SpX zs w b r4 W [rBlk gG 88 #[.string gn, .int .i64 (a + d), .int .i64 ct, .string d1, .string o1], rOwn w.heap.size 88 5 u7 gs.length (gs.flatMap gfC)])
        case first =>
          cases fl
          · go_wp2_with fail
            go_meet
            exact ⟨r3, ⟨#[]⟩, ⟨#[]⟩, by decide, by decide, by omega, Lib.hid rfl, hS⟩
          · have hn0 := HF.out rfl
            have hn1 : (0 : Int) < (n : Int) := by omega
            go_wp2_with fail
            refine (spx_next hS n (by omega) (by omega) (by omega)).mono ?_
            rintro e w4 ⟨rfl, hS4⟩
            obtain ⟨jv0, jv1⟩ := nxX_bd zs r3 (n := (n : Int)) (by omega)
            obtain ⟨jv, hjv⟩ : ∃ j, nxX zs r3 (n : Int) = j := ⟨_, rfl⟩
            rw [hjv] at jv0 jv1 ⊢
            obtain ⟨j, rfl⟩ := Int.eq_ofNat_of_zero_le jv0
            have HJV := Lib.hid hjv
            clear hjv
            have hjn : j < n := by omega
            have hjr : j < bs.length := by rw [HL.out]; exact hjn
            obtain ⟨g, o, hA, hgb, hcs⟩ := HC.out (by omega)
            subst hA
            have x0 := hcs j hjr 0 (by omega)
            have x1 := hcs j hjr 1 (by omega)
            have x2 := hcs j hjr 2 (by omega)
            have x3 := hcs j hjr 3 (by omega)
            have hok := HR.out.ok _ (List.getElem_mem hjr)
            obtain ⟨x, hx⟩ : ∃ x, bs[j] = x := ⟨_, rfl⟩
            rw [hx] at x0 x1 x2 x3 hok
            have HXJ := Lib.hid (g2X_at (zs := zs) (r := r3) (by rw [HL.out]; exact HJV.out) hjr hx)
            obtain ⟨m, hm⟩ : ∃ m, x.opts.length = m := ⟨_, rfl⟩
            have y0 : w4.cell? ⟨g, o + j * 4, none⟩ = some (.string x.key) := hS4.bx.cell x0 hgb
            have y1 : w4.cell? ⟨g, o + j * 4 + 1, none⟩ = some (.string x.before) := hS4.bx.cell x1 hgb
            have y2 : w4.cell? ⟨g, o + j * 4 + 2, none⟩ = some (.int .i64 x.goal) := hS4.bx.cell x2 hgb
            have y3 : w4.cell? ⟨g, o + j * 4 + 3, none⟩ = some (.slice x.oa m x.oc) := by rw [← hm]; exact hS4.bx.cell x3 hgb
            have hj0 : (0 : Int) ≤ (j : Int) := by omega
            have hj1 : (j : Int) < (n : Int) := by omega
            have hbx : Blk w4 gG 88 #[.string gn, .int .i64 (a + d), .int .i64 ct, .string ⟨#[]⟩, .string ⟨#[]⟩] := hS4.nth 0 rfl
            have e3 := hbx.cell 3
            have f3 := hbx.frozen 3
            have lG := hbx.lt
            have hkz := hok.hk
            have hS5 : SpX zs w b (r3 + 1) ((w4.setCell ⟨gG, 3, none⟩ (.string x.key)).alloc (.cells #[.string x.key, .string x.before, .int .i64 x.goal, .slice x.oa m x.oc] 77)) [rBlk gG 88 #[.string gn, .int .i64 (a + d), .int .i64 ct, .string x.key, .string ⟨#[]⟩], rBlk w4.heap.size 77 #[.string x.key, .string x.before, .int .i64 x.goal, .slice x.oa m x.oc], rOwn w.heap.size 88 5 u7 gs.length (gs.flatMap gfC)] := by
              have h := (((hS4.set_ 3 (.string x.key)).add #[.string x.key, .string x.before, .int .i64 x.goal, .slice x.oa m x.oc] 77).front 1 rfl rfl)
              simpa [World.setCell] using h
            have HOR := Lib.hid hok.rd
            have HOZ := Lib.hid hok.hh
            have HM := Lib.hid hm
            have hmz : m ≤ 1000 := by rw [← hm]; exact hok.hn
            clear hbx hcs x0 x1 x2 x3 hx hS hok hm
            by_cases hm0 : m = 0
            · subst hm0
              go_wp2_with fail
              go_meet
              have hS6 := hS5.drop 1 rfl (l' := [rBlk gG 88 #[.string gn, .int .i64 (a + d), .int .i64 ct, .string x.key, .string ⟨#[]⟩], rOwn w.heap.size 88 5 u7 gs.length (gs.flatMap gfC)]) rfl
              exact ⟨r3 + 1, x.key, ⟨#[]⟩, hkz, by decide, by omega, Lib.hid (HXJ.out.1 HM.out), hS6⟩
            · have hmp : (0 : Int) < (m : Int) := by omega
              obtain ⟨_, _, _, hoc⟩ := strs_cells HOR.out
              obtain ⟨g3, o3, hA3, hg3, hoc2⟩ := hoc (by rw [HM.out]; omega)
              rw [hA3] at hS5 y3
              clear hA3
              obtain ⟨w5, hw5⟩ : ∃ W, (w4.setCell ⟨gG, 3, none⟩ (.string x.key)).alloc (.cells #[.string x.key, .string x.before, .int .i64 x.goal, .slice (some ⟨g3, o3, none⟩) m x.oc] 77) = W := ⟨_, rfl⟩
              rw [hw5] at hS5
              have HS5 := Lib.hid hS5
              obtain ⟨rv0, rv1⟩ := nxX_bd zs (r3 + 1) (n := (m : Int)) (by omega)
              obtain ⟨rv, hrv⟩ : ∃ j, nxX zs (r3 + 1) (m : Int) = j := ⟨_, rfl⟩
              rw [hrv] at rv0 rv1
              have HRV := Lib.hid hrv
              have HA : Hid (Calls Tryz.prog 47 #[.pointer (some ⟨b, 0, none⟩), .int .i64 m] w5.drew (SpXS zs (.int .i64 rv) w b (r3 + 1 + 1) [rBlk gG 88 #[.string gn, .int .i64 (a + d), .int .i64 ct, .string x.key, .string ⟨#[]⟩], rBlk w4.heap.size 77 #[.string x.key, .string x.before, .int .i64 x.goal, .slice (some ⟨g3, o3, none⟩) m x.oc], rOwn w.heap.size 88 5 u7 gs.length (gs.flatMap gfC)])) :=
                Lib.hid (by rw [← hrv]; exact spx_next hS5.drew m (by omega) (by omega) (by omega))
              have HX : Hid (∀ W K', SpX zs w b K' W [rBlk gG 88 #[.string gn, .int .i64 (a + d), .int .i64 ct, .string x.key, .string ⟨#[]⟩], rBlk w4.heap.size 77 #[.string x.key, .string x.before, .int .i64 x.goal, .slice (some ⟨g3, o3, none⟩) m x.oc], rOwn w.heap.size 88 5 u7 gs.length (gs.flatMap gfC)] → W.cell? ⟨w4.heap.size, 3, none⟩ = some (.slice (some ⟨g3, o3, none⟩) m x.oc) ∧ W.cell? ⟨gG, 4, none⟩ = some (.string ⟨#[]⟩) ∧ W.frozen? ⟨gG, 4, none⟩ = false ∧ gG < W.heap.size ∧ w4.heap.size < W.heap.size) := fun W K' h => by
                have h1 : Blk W gG 88 #[.string gn, .int .i64 (a + d), .int .i64 ct, .string x.key, .string ⟨#[]⟩] := h.nth 0 rfl
                have h2 : Blk W w4.heap.size 77 #[.string x.key, .string x.before, .int .i64 x.goal, .slice (some ⟨g3, o3, none⟩) m x.oc] := h.nth 1 rfl
                exact ⟨h2.cell 3, h1.cell 4, h1.frozen 4, h1.lt, h2.lt⟩
              have HO : Hid (∀ W K' l, SpX zs w b K' W l → ∀ r, r < m → ∃ s : ByteArray, s.size ≤ 1000 ∧ x.opts[r]? = some s ∧ W.cell? ⟨g3, o3 + r, none⟩ = some (.string s)) := fun W K' l h r hr => by
                have hr2 : r < x.opts.length := by rw [HM.out]; exact hr
                exact ⟨x.opts[r], HOZ.out _ (List.getElem_mem hr2), List.getElem?_eq_getElem hr2, h.bx.cell (hoc2 r hr2) hg3⟩
              clear hS5 hoc hoc2 hg3 hrv
              obtain ⟨rn, rfl⟩ := Int.eq_ofNat_of_zero_le rv0
              have hrm : rn < m := by omega
              have hr0 : (0 : Int) ≤ (rn : Int) := by omega
              have hr1 : (rn : Int) < (m : Int) := by omega
              obtain ⟨q3, q4, u4, lG5, lX⟩ := HX.out _ _ HS5.out
              go_upto_region 12 with (fail)
              clear e3 f3 lG y0 y1 y2 y3 hw5
              have q3d : w5.drew.cell? ⟨w4.heap.size, 3, none⟩ = some (.slice (some ⟨g3, o3, none⟩) m x.oc) := q3
              go_region_law (first
                | (go_simp; go_at_call 47; ((with_reducible refine HA.out.mono ?_); rintro e w7 ⟨rfl, hT⟩; obtain ⟨so, hso, hsx, hsc⟩ := HO.out _ _ _ hT rn hrm; obtain ⟨q3, q4, u4, lG, lX⟩ := HX.out _ _ hT)))
              all_goals
                have hU := (hT.set_ 4 (.string so)).drop 1 rfl rfl
                go_wp2_with fail
                go_meet
                exact ⟨r3 + 1 + 1, x.key, so, hkz, hso, by omega, Lib.hid (HXJ.out.2 m rn so HM.out hm0 HRV.out hsx), hU⟩
        case rest =>
          obtain ⟨r4, d1, o1, hd1z, ho1z, hr4, HB2, hS⟩ := hcut
          clear HF
          go_wp2_with fail
          refine (spx_flip hS 60 (by omega) (by omega) (by omega)).mono ?_
          rintro e w4 ⟨rfl, hS4⟩
          obtain ⟨fv, hfv⟩ : ∃ f, (nxX zs r4 60 == 0) = f := ⟨_, rfl⟩
          rw [hfv]
          have HF60 := Lib.hid hfv
          clear hfv
          clear hS
          go_upto_if 64 with (fail)
          go_cut [] (fun W => ∃ (r6 : Nat) (i1 d2 o2 : ByteArray) (a1 c1 : Int), GfO ⟨i1, a1, c1, d2, o2⟩ ∧ r6 ≤ r + 11 ∧ Hid (g3X zs r4 ⟨gn, a + d, ct, d1, o1⟩ = (r6, ⟨i1, a1, c1, d2, o2⟩)) ∧ SpX zs w b r6 W [rBlk gG 88 #[.string i1, .int .i64 a1, .int .i64 c1, .string d2, .string o2], rOwn w.heap.size 88 5 u7 gs.length (gs.flatMap gfC)])
          case first =>
            have hgi : GfO ⟨gn, a + d, ct, d1, o1⟩ := gfZ hgs hd1z ho1z ⟨by omega, by omega⟩ ⟨by omega, by omega⟩
            cases fv
            · go_wp2_with fail
              go_meet
              exact ⟨r4 + 1, gn, d1, o1, a + d, ct, hgi, by omega, Lib.hid (g3X_same HF60.out), hS4⟩
            · go_wp2_with fail
              refine (spx_next hS4 3 (by omega) (by omega) (by omega)).mono ?_
              rintro e w5 ⟨rfl, hS5⟩
              obtain ⟨zv0, zv1⟩ := nxX_bd zs (r4 + 1) (n := 3) (by omega)
              obtain ⟨zv, hzv⟩ : ∃ j, nxX zs (r4 + 1) 3 = j := ⟨_, rfl⟩
              rw [hzv] at zv0 zv1 ⊢
              have HZV := Lib.hid hzv
              have hzc : zv = 0 ∨ zv = 1 ∨ zv = 2 := by omega
              clear hzv zv0 zv1
              clear hS4
              have hbx : Blk w5 gG 88 #[.string gn, .int .i64 (a + d), .int .i64 ct, .string d1, .string o1] := hS5.nth 0 rfl
              have e0 := hbx.cell 0
              have e3 := hbx.cell 3
              clear hbx
              rcases hzc with rfl | rfl | rfl
              · go_wp2_with fail
                refine (spx_someL hS5 [gn, ⟨#[]⟩, ⟨#[103, 97]⟩] #[.string gn, .string ⟨#[]⟩, .string ⟨#[103, 97]⟩] 9 3 rfl (by decide) (by decide) rfl (by omega)).mono ?_
                rintro e w6 ⟨rfl, hS6⟩
                have hi2 : (smX zs (r4 + 1 + 1) [gn, ⟨#[]⟩, ⟨#[103, 97]⟩]).size ≤ 1000 := by
                  have hm := smX_mem zs (r4 + 1 + 1) [gn, ⟨#[]⟩, ⟨#[103, 97]⟩] (by simp)
                  simp only [List.mem_cons, List.not_mem_nil, or_false] at hm
                  rcases hm with hm | hm | hm <;> rw [hm]
                  · exact hgs
                  · decide
                  · decide
                obtain ⟨i2, hi2e⟩ : ∃ z, smX zs (r4 + 1 + 1) [gn, ⟨#[]⟩, ⟨#[103, 97]⟩] = z := ⟨_, rfl⟩
                rw [hi2e] at hi2 ⊢
                have Hi2 := Lib.hid hi2e
                clear hi2e
                clear hS5 e0 e3
                go_wp2_with fail
                refine (spx_odd hS6 0 100 (by omega) (by omega) (by omega) (by omega)).mono ?_
                rintro e w7 ⟨rfl, hS7⟩
                obtain ⟨q0, q1⟩ := oddX_bd zs (r4 + 1 + 1 + 1) 0 100 (by decide) (by decide) (by decide)
                obtain ⟨p, hpe⟩ : ∃ p, oddX zs (r4 + 1 + 1 + 1) 0 100 = p := ⟨_, rfl⟩
                rw [hpe] at q0 q1 ⊢
                have HPE := Lib.hid hpe
                clear hpe
                clear hS6
                have hbx : Blk w7 gG 88 #[.string gn, .int .i64 (a + d), .int .i64 ct, .string d1, .string o1] := hS7.nth 0 rfl
                have e0 := hbx.cell 0
                have e1 := hbx.cell 1
                have f0 := hbx.frozen 0
                have f1 := hbx.frozen 1
                have lG := hbx.lt
                clear hbx
                have hS8 := (hS7.set_ 0 (.string i2)).set_ 1 (.int .i64 p)
                go_wp2_with fail
                go_meet
                exact ⟨r4 + 1 + 1 + 1 + 2, i2, d1, o1, p, ct, gfZ hi2 hd1z ho1z ⟨by omega, by omega⟩ ⟨by omega, by omega⟩, by omega, Lib.hid (g3X_0 HF60.out HZV.out Hi2.out HPE.out), hS8⟩
              · skip
                go_wp2_with fail
                refine (spx_someL hS5 [⟨#[122, 122]⟩, ⟨#[65]⟩, d1] #[.string ⟨#[122, 122]⟩, .string ⟨#[65]⟩, .string d1] 9 3 rfl (by decide) (by decide) rfl (by omega)).mono ?_
                rintro e w6 ⟨rfl, hS6⟩
                have hd2 : (smX zs (r4 + 1 + 1) [⟨#[122, 122]⟩, ⟨#[65]⟩, d1]).size ≤ 1000 := by
                  have hm := smX_mem zs (r4 + 1 + 1) [⟨#[122, 122]⟩, ⟨#[65]⟩, d1] (by simp)
                  simp only [List.mem_cons, List.not_mem_nil, or_false] at hm
                  rcases hm with hm | hm | hm <;> rw [hm]
                  · decide
                  · decide
                  · exact hd1z
                obtain ⟨d2, hd2e⟩ : ∃ z, smX zs (r4 + 1 + 1) [⟨#[122, 122]⟩, ⟨#[65]⟩, d1] = z := ⟨_, rfl⟩
                rw [hd2e] at hd2 ⊢
                have Hd2 := Lib.hid hd2e
                clear hd2e
                clear hS5 e0 e3
                go_wp2_with fail
                refine (spx_someL hS6 [⟨#[120]⟩, ⟨#[65]⟩, ⟨#[]⟩] #[.string ⟨#[120]⟩, .string ⟨#[65]⟩, .string ⟨#[]⟩] 9 3 rfl (by decide) (by decide) rfl (by omega)).mono ?_
                rintro e w7 ⟨rfl, hS7⟩
                have ho2 : (smX zs (r4 + 1 + 1 + 1) [⟨#[120]⟩, ⟨#[65]⟩, ⟨#[]⟩]).size ≤ 1000 := by
                  have hm := smX_mem zs (r4 + 1 + 1 + 1) [⟨#[120]⟩, ⟨#[65]⟩, ⟨#[]⟩] (by simp)
                  simp only [List.mem_cons, List.not_mem_nil, or_false] at hm
                  rcases hm with hm | hm | hm <;> rw [hm]
                  · decide
                  · decide
                  · decide
                obtain ⟨o2, ho2e⟩ : ∃ z, smX zs (r4 + 1 + 1 + 1) [⟨#[120]⟩, ⟨#[65]⟩, ⟨#[]⟩] = z := ⟨_, rfl⟩
                rw [ho2e] at ho2 ⊢
                have Ho2 := Lib.hid ho2e
                clear ho2e
                clear hS6
                have hbx : Blk w7 gG 88 #[.string gn, .int .i64 (a + d), .int .i64 ct, .string d1, .string o1] := hS7.nth 0 rfl
                have e3 := hbx.cell 3
                have e4 := hbx.cell 4
                have f3 := hbx.frozen 3
                have f4 := hbx.frozen 4
                have lG := hbx.lt
                clear hbx
                have hS8 := (hS7.set_ 3 (.string d2)).set_ 4 (.string o2)
                go_wp2_with fail
                go_meet
                exact ⟨r4 + 1 + 1 + 1 + 1, gn, d2, o2, a + d, ct, gfZ hgs hd2 ho2 ⟨by omega, by omega⟩ ⟨by omega, by omega⟩, by omega, Lib.hid (g3X_1 HF60.out HZV.out Hd2.out Ho2.out), hS8⟩
              · go_wp2_with fail
                refine (spx_odd hS5 1 1000000000 (by omega) (by omega) (by omega) (by omega)).mono ?_
                rintro e w7 ⟨rfl, hS7⟩
                obtain ⟨q0, q1⟩ := oddX_bd zs (r4 + 1 + 1) 1 1000000000 (by decide) (by decide) (by decide)
                obtain ⟨p, hpe⟩ : ∃ p, oddX zs (r4 + 1 + 1) 1 1000000000 = p := ⟨_, rfl⟩
                rw [hpe] at q0 q1 ⊢
                have HPE := Lib.hid hpe
                clear hpe
                clear hS5 e0 e3
                have hbx : Blk w7 gG 88 #[.string gn, .int .i64 (a + d), .int .i64 ct, .string d1, .string o1] := hS7.nth 0 rfl
                have e2 := hbx.cell 2
                have f2 := hbx.frozen 2
                have lG := hbx.lt
                clear hbx
                have hS8 := hS7.set_ 2 (.int .i64 p)
                go_wp2_with fail
                go_meet
                exact ⟨r4 + 1 + 1 + 2, gn, d1, o1, a + d, p, gfZ hgs hd1z ho1z ⟨by omega, by omega⟩ ⟨by omega, by omega⟩, by omega, Lib.hid (g3X_2 HF60.out HZV.out HPE.out), hS8⟩
          case rest =>
            obtain ⟨r6, i1, d2, o2, a1, c1, hgf, hr6, HB3, hS⟩ := hcut
            clear hS4
            have hbx : Blk wc gG 88 #[.string i1, .int .i64 a1, .int .i64 c1, .string d2, .string o2] := hS.nth 0 rfl
            have e0 := hbx.cell 0
            have e1 := hbx.cell 1
            have e2 := hbx.cell 2
            have e3 := hbx.cell 3
            have e4 := hbx.cell 4
            have hzC := hS.size
            have hS7 := hS.front 1 rfl rfl
            have HO5 : wc.ownsRow w.heap.size 88 5 u7 gs.length (gs.flatMap gfC) := hS7.head
            have HGF := Lib.hid hgf
            clear hbx hgf hS
            go_wp2_with (first
              | (at_builtin; refine wpList_append_own_at _ rfl _ _ 55 rfl w.heap.size 88 i0 (.agg #[.string ⟨#[]⟩, .int .i64 0, .int .i64 0, .string ⟨#[]⟩, .string ⟨#[]⟩]) 5 64 Tryz.underlying55 hi hz0 hz1 hz2 rfl (by decide) _ _ _ rfl (HO5.alloc _) ⟨wc.heap.size, 0, none⟩ 1 1 [.string i1, .int .i64 a1, .int .i64 c1, .string d2, .string o2] rfl rfl (World.news_of_block (heap_alloc_new _ _)) (one5g rfl rfl rfl rfl rfl) (by unfold maxLen; omega) (by omega) (by simp; omega) ?_; intro v' w8 hown' hgrow _ hblk; have hS8 := (hS7.alloc _).append hown' hgrow hblk; clear hown' hgrow hblk))
            have hS9 : SpX zs w b r6 w8 [rOwn w.heap.size 88 5 v' (gs ++ [(⟨i1, a1, c1, d2, o2⟩ : Gf)]).length ((gs ++ [(⟨i1, a1, c1, d2, o2⟩ : Gf)]).flatMap gfC)] := by
              rw [flat_snoc, List.length_append]
              exact hS8.drop 1 rfl rfl
            clear hS8
            go_roundw
            case rel => exact ⟨k + 1, r6, gs ++ [(⟨i1, a1, c1, d2, o2⟩ : Gf)], a + d, by omega, by go_num, rfl, by omega, by omega, by simp; omega, hz.snoc HGF.out, by omega, Lib.hid (gfX_yes (by rw [List.length_map]; exact HL.out) HP.out HDE.out HCE.out HGN.out HB1.out HB2.out HB3.out), hS9⟩
            case measure => simp [intOf]; omega
    · obtain rfl : k = many := by omega
      go_wp2_with fail
      go_ret
      exact ⟨_, gs, r, rfl, by omega, hz, by rw [HP.out], by omega, hS⟩
end Go.Proofs.YthbcogekfdllmaaGreatDoor
