/-
  Bids of the stream by a contract.
-/
import Derived.Test.YtohhbkodfidfkaaGreatZBidPure
import Derived.Test.YtohhbkodfidfkaaGreatZSlot12
import Derived.Deep.DeepCutAuto
import Derived.Deep.CutBlock
namespace Go.Proofs.YtohhbkodfidfkaaGreat
open Go Go.RowKit
attribute [local go_sem ↓] Go.wp_at_zero Go.wp_at_succ

theorem info_bid : (Tryz.prog.info? 53).map (fun i => (i.zero, i.size, i.bytes)) = some (some (.agg #[.string ⟨#[]⟩, .string ⟨#[]⟩, .int .i64 0, .slice none 0 0]), 4, 64) := by kernel_rfl
/-- the options of a bid, in memory of the call's own -/
def bidR (base : Nat) (x : Bd) : Rsc := rOwn base 9 1 (.slice x.oa x.opts.length x.oc) x.opts.length (strsV x.opts)
theorem bidR_ok (base : Nat) (x : Bd) : (bidR base x).Ok := rOwn_ok _ _ _ _ _ _
structure BdZ (x : Bd) : Prop where
  hk : x.key.size ≤ 1000
  hb : x.before.size ≤ 1000
  hh : ∀ s ∈ x.opts, s.size ≤ 1000
  hn : x.opts.length ≤ 4
  hg : -2199023255552 ≤ x.goal ∧ x.goal ≤ 2199023255552
def BdZs (xs : List Bd) : Prop := ∀ x ∈ xs, BdZ x
theorem BdZs.snoc {xs : List Bd} {x : Bd} (h : BdZs xs) (hx : BdZ x) : BdZs (xs ++ [x]) := by
  intro y hy
  rcases List.mem_append.1 hy with hy | hy
  · exact h y hy
  · simp at hy; subst hy; exact hx
theorem one4b {x y z u : Value} (hx : x.oneCell' = true) (hy : y.oneCell' = true) (hz : z.oneCell' = true) (hu : u.oneCell' = true) : ∀ v ∈ [x, y, z, u], v.oneCell' = true := by
  intro v hv
  simp at hv
  rcases hv with rfl | rfl | rfl | rfl <;> assumption
theorem bdZ {k z : ByteArray} {go : Int} {oa : Option Addr} {oc : Nat} {opts : List ByteArray} (h1 : k.size ≤ 1000) (h2 : z.size ≤ 1000) (h3 : ∀ s ∈ opts, s.size ≤ 1000) (h4 : opts.length ≤ 4) (h5 : -2199023255552 ≤ go ∧ go ≤ 2199023255552) : BdZ ⟨k, z, go, oa, oc, opts⟩ := ⟨h1, h2, h3, h4, h5⟩
theorem strsV_snoc2 (l : List ByteArray) (k : ByteArray) : strsV (l ++ [k]) = strsV l ++ [.string k] := by simp [strsV]
/-- bids in new memory, drawn -/
def BidsS (b K m : Nat) (w : World) (e : Ending) (w' : World) : Prop :=
  ∃ (v : Value) (xs : List Bd), e = .returned v ∧ xs.length ≤ m ∧ BdZs xs ∧ Sp w b K w' [rOwn w.heap.size 53 4 v xs.length (xs.flatMap bdC), rAll (bidR w.heap.size) xs]
/-- a literal turned into a row of one's own, cut short -/
theorem blk_own {w W : World} {b K g : Nat} {t : TypeId} {cs : Array Value} {l : List Rsc} (h : Sp w b K W (rBlk g t cs :: l)) (k cap : Nat) (hk : k ≤ cap) (hc : cs.size = cap) (hm : cap ≤ maxLen) :
    Sp w b K W (rOwn w.heap.size t 1 (.slice (some ⟨g, 0, none⟩) k cap) k (cs.toList.take k) :: l) := by
  have hg := h.new _ (List.mem_cons_self ..) g rfl
  refine h.weak (fun hp => ?_) (rOwn_ok _ _ _ _ _ _) (fun j hj => by injection hj with hj; exact hj.symm)
  refine ⟨by rw [List.length_take, Array.length_toList]; omega, .inr ⟨g, cap, cs, rfl, hg.1, hp, hk, hm, by omega, by rw [Nat.mul_one]⟩⟩

set_option maxRecDepth 100000 in
set_option maxHeartbeats 4000000 in
theorem bids_calls (b K : Nat) (A : Option Addr) (n c : Nat) (xs : List Slt) (w : World) (hs : Strm w b K) (hK : K ≤ 900000) (hr : Slts w b A n c xs) (hn : n ≤ 1000) :
    Calls Tryz.prog 5 #[.pointer (some ⟨b, 0, none⟩), .slice A n c] w (BidsS b (K + 36) 3 w) := by
  obtain ⟨hl, hnc, hcm, hcells⟩ := hr.rd.cells sltC_len (by omega)
  obtain ⟨i0, hi, hz0, hz1, hz2⟩ := info_parts info_bid
  obtain ⟨j0, hj, hy0, hy1, hy2⟩ := info_parts info_str
  unfold maxLen at hcm
  have hS0 := ((((Sp.start hs).add #[.string ⟨#[98, 97]⟩, .string ⟨#[98, 98]⟩, .string ⟨#[98, 99]⟩] 9).allNil (bidR w.heap.size) (bidR_ok _)).nil w.heap.size 53 4)
  have HL := Lib.hid hl
  have HC := Lib.hid hcells
  have HR := Lib.hid hr
  clear hcells hl hr
  go_enter Tryz.func5, Tryz.ntmps5
  go_wp2_with fail
  go_loopw [5, 11] (fun v i wr => ∃ (k : Nat) (bs : List Bd), k ≤ 3 ∧ i = .int .i64 k ∧ bs.length ≤ k ∧ BdZs bs ∧ Sp w b (K + 12 * k) wr [rOwn w.heap.size 53 4 v bs.length (bs.flatMap bdC), rAll (bidR w.heap.size) bs, rBlk w.heap.size 9 #[.string ⟨#[98, 97]⟩, .string ⟨#[98, 98]⟩, .string ⟨#[98, 99]⟩]]) (fun _ i _ => 3 - (intOf i).toNat)
  case atStart => exact ⟨0, [], Nat.zero_le _, rfl, Nat.le_refl _, (by intro x hx; cases hx), hS0⟩
  case round =>
    clear hS0
    obtain ⟨k, bs, hk, rfl, hbk, hz, hS⟩ := hrel
    by_cases hlt : k < 3
    · obtain ⟨s, hcs, hss⟩ := strLit_at (cs := #[.string ⟨#[98, 97]⟩, .string ⟨#[98, 98]⟩, .string ⟨#[98, 99]⟩]) rfl k (by simp; omega)
      have hb5 : Blk wr w.heap.size 9 #[.string ⟨#[98, 97]⟩, .string ⟨#[98, 98]⟩, .string ⟨#[98, 99]⟩] := hS.nth 2 rfl
      have c0 := (hb5.cell k).trans hcs
      have hk0 : (0 : Int) ≤ (k : Int) := by omega
      have hk5 : (k : Int) < 3 := by omega
      clear hcs hb5
      go_wp2_with fail
      refine (sp_flip hS 4 (by omega) (by omega) (by omega)).mono ?_
      rintro e w1 ⟨_, rfl, ⟨fv, rfl⟩, hS1⟩
      clear c0 hS
      cases fv
      · go_wp2_with fail
        refine (sp_someL hS1 #[.string ⟨#[115, 97]⟩, .string ⟨#[115, 98]⟩, .string ⟨#[115, 99]⟩] 9 3 (by decide) (by decide) rfl (strLit_ok rfl) (by omega)).mono ?_
        rintro e w2 ⟨_, rfl, ⟨z, rfl, hzz⟩, hS2⟩
        clear hS1
        have hS3 := hS2.add #[.string s, .string z, .int .i64 0, .slice none 0 0] 53
        clear hS2
        go_upto_region 7 with (fail)
        obtain ⟨gB, hgB⟩ : ∃ g, w2.heap.size = g := ⟨_, rfl⟩
        rw [hgB] at hS3 ⊢
        go_cut [29] (fun s29 W => ∃ fl : Bool, s29 = .bool fl ∧ (fl = true → 0 < n) ∧ Sp w b (K + 12 * k + 3) W [rBlk gB 53 #[.string s, .string z, .int .i64 0, .slice none 0 0], rOwn w.heap.size 53 4 u5 bs.length (bs.flatMap bdC), rAll (bidR w.heap.size) bs, rBlk w.heap.size 9 #[.string ⟨#[98, 97]⟩, .string ⟨#[98, 98]⟩, .string ⟨#[98, 99]⟩]])
        case first =>
          by_cases h0 : n = 0
          · subst h0
            go_wp2_with fail
            go_meet
            exact ⟨false, rfl, (fun h => by cases h), hS3.more (by omega)⟩
          · have hn0 : (0 : Int) < (n : Int) := by omega
            go_wp2_with fail
            refine (sp_flip hS3 15 (by omega) (by omega) (by omega)).mono ?_
            rintro e w4 ⟨_, rfl, ⟨fv, rfl⟩, hS4⟩
            go_wp2_with fail
            go_meet
            exact ⟨!fv, rfl, fun _ => by omega, hS4.more (by omega)⟩
        case rest =>
          obtain ⟨fl, rfl, HFL, hS⟩ := hcut
          have HF := Lib.hid HFL
          clear HFL hS3 hgB
          go_upto_if 29 with (fail)
          go_cut [] (fun W => ∃ z2 : ByteArray, z2.size ≤ 1000 ∧ Sp w b (K + 12 * k + 4) W [rBlk gB 53 #[.string s, .string z2, .int .i64 0, .slice none 0 0], rOwn w.heap.size 53 4 u5 bs.length (bs.flatMap bdC), rAll (bidR w.heap.size) bs, rBlk w.heap.size 9 #[.string ⟨#[98, 97]⟩, .string ⟨#[98, 98]⟩, .string ⟨#[98, 99]⟩]])
          case first =>
            cases fl
            · go_wp2_with fail
              go_meet
              exact ⟨z, hzz, hS.more (by omega)⟩
            · have hn0 := HF.out rfl
              have hn1 : (0 : Int) < (n : Int) := by omega
              go_wp2_with fail
              refine (sp_next hS n (by omega) (by omega) (by omega)).mono ?_
              rintro e w4 ⟨_, rfl, ⟨jv, rfl, jv0, jv1⟩, hS4⟩
              obtain ⟨j, rfl⟩ := Int.eq_ofNat_of_zero_le jv0
              have hjn : j < n := by omega
              have hjr : j < xs.length := by rw [HL.out]; exact hjn
              obtain ⟨g, o, hA, hgb, hcs⟩ := HC.out (by omega)
              subst hA
              have x0 := hcs j hjr 0 (by omega)
              have xk := (HR.out.ok _ (List.getElem_mem hjr)).hk
              obtain ⟨x, hx⟩ : ∃ x, xs[j] = x := ⟨_, rfl⟩
              rw [hx] at x0 xk
              have x4 : w4.cell? ⟨g, o + j * 5, none⟩ = some (.string x.key) := hS4.bx.cell x0 hgb
              have hj0 : (0 : Int) ≤ (j : Int) := by omega
              have hj1 : (j : Int) < (n : Int) := by omega
              have hbx : Blk w4 gB 53 #[.string s, .string z, .int .i64 0, .slice none 0 0] := hS4.nth 0 rfl
              have e1 := hbx.cell 1
              have f1 := hbx.frozen 1
              have lB := hbx.lt
              clear hbx hcs x0 hx hS
              go_wp2_with fail
              go_meet
              exact ⟨x.key, xk, (hS4.set_ 1 (.string x.key)).more (by omega)⟩
          case rest =>
            obtain ⟨z2, hzb, hS⟩ := hcut
            clear HF hzz
            go_wp2_with fail
            refine (sp_flip hS 2 (by omega) (by omega) (by omega)).mono ?_
            rintro e w4 ⟨_, rfl, ⟨fv, rfl⟩, hS4⟩
            clear hS
            go_upto_if 40 with (fail)
            go_cut [] (fun W => ∃ (go : Int) (oa : Option Addr) (oc : Nat) (opts : List ByteArray), BdZ ⟨s, z2, go, oa, oc, opts⟩ ∧ opts.length ≤ 3 ∧ Sp w b (K + 12 * k + 7) W [rBlk gB 53 #[.string s, .string z2, .int .i64 go, .slice oa opts.length oc], rOwn w.heap.size 9 1 (.slice oa opts.length oc) opts.length (strsV opts), rOwn w.heap.size 53 4 u5 bs.length (bs.flatMap bdC), rAll (bidR w.heap.size) bs, rBlk w.heap.size 9 #[.string ⟨#[98, 97]⟩, .string ⟨#[98, 98]⟩, .string ⟨#[98, 99]⟩]])
            case first =>
              cases fv
              · have hS5 := hS4.add #[.string ⟨#[120]⟩, .string ⟨#[121]⟩, .string ⟨#[122]⟩] 9
                go_wp2_with fail
                refine (sp_range hS5 1 3 (by omega) (by omega) (by omega) (by omega)).mono ?_
                rintro e w5 ⟨_, rfl, ⟨rv, rfl, rv0, rv1⟩, hS6⟩
                have hbx : Blk w5 gB 53 #[.string s, .string z2, .int .i64 0, .slice none 0 0] := hS6.nth 1 rfl
                have e3 := hbx.cell 3
                have f3 := hbx.frozen 3
                have lB := hbx.lt
                clear hbx hS4 hS5
                rcases (show rv = 1 ∨ rv = 2 ∨ rv = 3 by omega) with rfl | rfl | rfl
                · have hS7 := ((blk_own hS6 1 3 (by omega) rfl (by decide)).front 1 rfl rfl).set_ 3 (.slice (some ⟨w4.heap.size, 0, none⟩) 1 3)
                  go_wp2_with fail
                  go_meet
                  exact ⟨0, some ⟨w4.heap.size, 0, none⟩, 3, [⟨#[120]⟩], bdZ hss hzb (by decide) (by decide) (by decide), by decide, hS7.more (by omega)⟩
                · have hS7 := ((blk_own hS6 2 3 (by omega) rfl (by decide)).front 1 rfl rfl).set_ 3 (.slice (some ⟨w4.heap.size, 0, none⟩) 2 3)
                  go_wp2_with fail
                  go_meet
                  exact ⟨0, some ⟨w4.heap.size, 0, none⟩, 3, [⟨#[120]⟩, ⟨#[121]⟩], bdZ hss hzb (by decide) (by decide) (by decide), by decide, hS7.more (by omega)⟩
                · have hS7 := ((blk_own hS6 3 3 (by omega) rfl (by decide)).front 1 rfl rfl).set_ 3 (.slice (some ⟨w4.heap.size, 0, none⟩) 3 3)
                  go_wp2_with fail
                  go_meet
                  exact ⟨0, some ⟨w4.heap.size, 0, none⟩, 3, [⟨#[120]⟩, ⟨#[121]⟩, ⟨#[122]⟩], bdZ hss hzb (by decide) (by decide) (by decide), by decide, hS7.more (by omega)⟩
              · go_wp2_with fail
                refine (sp_pickL hS4 #[.int .i64 10, .int .i64 50, .int .i64 100] 3 3 10 100 (by decide) (by decide) rfl rfl (by omega)).mono ?_
                rintro e w5 ⟨_, rfl, ⟨go, rfl, go0, go1⟩, hS6⟩
                have hbx : Blk w5 gB 53 #[.string s, .string z2, .int .i64 0, .slice none 0 0] := hS6.nth 0 rfl
                have e2 := hbx.cell 2
                have f2 := hbx.frozen 2
                have lB := hbx.lt
                clear hbx hS4
                have hS7 := ((hS6.set_ 2 (.int .i64 go)).nil w.heap.size 9 1).front 1 rfl rfl
                go_wp2_with fail
                go_meet
                exact ⟨go, none, 0, [], bdZ hss hzb (by intro y hy; cases hy) (by decide) ⟨by omega, by omega⟩, by decide, hS7.more (by omega)⟩
            case rest =>
              obtain ⟨go, oa, oc, opts, hbz, hol, hS⟩ := hcut
              clear hS4
              obtain ⟨m, hm⟩ : ∃ m, opts.length = m := ⟨_, rfl⟩
              have HM := Lib.hid hm
              have HBZ := Lib.hid hbz
              rw [hm] at hS hol
              clear hbz hm
              go_wp2_with fail
              refine (sp_flip hS 30 (by omega) (by omega) (by omega)).mono ?_
              rintro e w6 ⟨_, rfl, ⟨fv, rfl⟩, hS6⟩
              clear hS
              go_upto_if 51 with (fail)
              go_cut [] (fun W => ∃ (k2 z2 : ByteArray) (go : Int) (oa : Option Addr) (oc : Nat) (opts : List ByteArray), BdZ ⟨k2, z2, go, oa, oc, opts⟩ ∧ Sp w b (K + 12 * k + 12) W [rBlk gB 53 #[.string k2, .string z2, .int .i64 go, .slice oa opts.length oc], rOwn w.heap.size 9 1 (.slice oa opts.length oc) opts.length (strsV opts), rOwn w.heap.size 53 4 u5 bs.length (bs.flatMap bdC), rAll (bidR w.heap.size) bs, rBlk w.heap.size 9 #[.string ⟨#[98, 97]⟩, .string ⟨#[98, 98]⟩, .string ⟨#[98, 99]⟩]])
              case first =>
                cases fv
                · go_wp2_with fail
                  go_meet
                  exact ⟨s, z2, go, oa, oc, opts, HBZ.out, by rw [HM.out]; exact hS6.more (by omega)⟩
                · go_wp2_with fail
                  refine (sp_someL hS6 #[.string s, .string ⟨#[]⟩, .string ⟨#[98, 97]⟩] 9 3 (by decide) (by decide) rfl (lit_v hss (strLit_ok (cs := #[.string ⟨#[]⟩, .string ⟨#[98, 97]⟩]) rfl)) (by omega)).mono ?_
                  rintro e w7 ⟨_, rfl, ⟨k2, rfl, hk2⟩, hS7⟩
                  clear hS6
                  go_wp2_with fail
                  refine (sp_odd hS7 0 100 (by omega) (by omega) (by omega) (by omega)).mono ?_
                  rintro e w8 ⟨_, rfl, ⟨p, rfl, p0, p1⟩, hS8⟩
                  clear hS7
                  have hbx : Blk w8 gB 53 #[.string s, .string z2, .int .i64 go, .slice oa m oc] := hS8.nth 0 rfl
                  have e0 := hbx.cell 0
                  have e2 := hbx.cell 2
                  have e3 := hbx.cell 3
                  have f0 := hbx.frozen 0
                  have f2 := hbx.frozen 2
                  have lB := hbx.lt
                  clear hbx
                  have hS9 := (hS8.set_ 0 (.string k2)).set_ 2 (.int .i64 p)
                  clear hS8
                  obtain ⟨w9, hw9⟩ : ∃ W, (w8.setCell ⟨gB, 0, none⟩ (.string k2)).setCell ⟨gB, 2, none⟩ (.int .i64 p) = W := ⟨_, rfl⟩
                  rw [hw9] at hS9
                  replace hS9 : Sp w b (K + 12 * k + 11) w9 [rBlk gB 53 #[.string k2, .string z2, .int .i64 p, .slice oa m oc], rOwn w.heap.size 9 1 (.slice oa m oc) m (strsV opts), rOwn w.heap.size 53 4 u5 bs.length (bs.flatMap bdC), rAll (bidR w.heap.size) bs, rBlk w.heap.size 9 #[.string ⟨#[98, 97]⟩, .string ⟨#[98, 98]⟩, .string ⟨#[98, 99]⟩]] := hS9.more (by omega)
                  have HRH : Rd w9 b 1 (.slice oa m oc) m (strsV opts) := Rd.own (show w9.ownsRow w.heap.size 9 1 (.slice oa m oc) m (strsV opts) from hS9.nth 1 rfl) hS9.hb
                  have HCL := Lib.hid (cloneS_calls b oa m oc (strsV opts) w9 HRH (strsV_one _) (by omega))
                  clear HRH
                  go_upto_region 14 with (fail)
                  clear e0 e2 e3 f0 f2 hw9
                  have hb9 : Blk w9 gB 53 #[.string k2, .string z2, .int .i64 p, .slice oa m oc] := hS9.nth 0 rfl
                  have e3 := hb9.cell 3
                  clear hb9
                  go_wp2_with fail
                  refine HCL.out.mono ?_
                  rintro e wA ⟨v7, rfl, ho7, hbA⟩
                  have hSA := hS9.ownB hbA ho7
                  obtain ⟨A7, c7, hv7⟩ := own_form ho7
                  subst hv7
                  clear ho7 hbA hS9 HCL
                  go_wp2_with fail
                  refine (sp_someL hSA #[.string ⟨#[120]⟩, .string ⟨#[]⟩, .string ⟨#[122, 122]⟩] 9 3 (by decide) (by decide) rfl (strLit_ok rfl) (by omega)).mono ?_
                  rintro e wC ⟨_, rfl, ⟨y, rfl, hy⟩, hSC⟩
                  clear hSA
                  have hzC := hSC.size
                  have HO5 : wC.ownsRow w.heap.size 9 1 (.slice A7 m c7) m (strsV opts) := hSC.head
                  go_wp2_with (first
                    | (at_builtin; refine wpList_append_own_at _ rfl _ _ 51 rfl w.heap.size 9 j0 (.string ⟨#[]⟩) 1 16 Tryz.underlying51 hj hy0 hy1 hy2 rfl (by decide) _ _ _ rfl (HO5.alloc _) ⟨wC.heap.size, 0, none⟩ 1 1 [.string y] rfl rfl (World.news_of_block (heap_alloc_new _ _)) (one1 rfl) (by unfold maxLen; omega) (by omega) (by simp; omega) ?_; intro v' wD hown' hgrow _ hblk; obtain ⟨A8, c8, hv8⟩ := own_form hown'; subst hv8; have hSD := (hSC.alloc _).append hown' hgrow hblk; clear hown' hgrow hblk; have hbD : Blk wD gB 53 #[.string k2, .string z2, .int .i64 p, .slice oa m oc] := hSD.nth 1 rfl; have e3 := hbD.cell 3; have f3 := hbD.frozen 3; have lD := hbD.lt))
                  have hSE := ((hSD.drop 2 rfl rfl).front 1 rfl rfl).set_ 3 (.slice A8 (m + 1) c8)
                  have hml : (opts ++ [y]).length = m + 1 := by rw [List.length_append, HM.out]; rfl
                  go_meet
                  exact ⟨k2, z2, p, A8, c8, opts ++ [y], bdZ hk2 hzb (by intro q hq; rcases List.mem_append.1 hq with hq | hq; exact HBZ.out.hh q hq; simp at hq; subst hq; exact hy) (by omega) ⟨by omega, by omega⟩, by rw [hml, strsV_snoc2]; exact hSE.more (by omega)⟩
              case rest =>
                obtain ⟨k2, z3, go2, oa2, oc2, opts2, hbz, hS⟩ := hcut
                clear hS6 HM HBZ
                obtain ⟨m2, hm2⟩ : ∃ m, opts2.length = m := ⟨_, rfl⟩
                have HM := Lib.hid hm2
                rw [hm2] at hS
                have hbx : Blk wc gB 53 #[.string k2, .string z3, .int .i64 go2, .slice oa2 m2 oc2] := hS.nth 0 rfl
                have e0 := hbx.cell 0
                have e1 := hbx.cell 1
                have e2 := hbx.cell 2
                have e3 := hbx.cell 3
                have hzC := hS.size
                have hS7 := hS.front 2 rfl rfl
                have HO5 : wc.ownsRow w.heap.size 53 4 u5 bs.length (bs.flatMap bdC) := hS7.head
                have HBZ := Lib.hid hbz
                clear hbx hbz hm2 hS
                go_wp2_with (first
                  | (at_builtin; refine wpList_append_own_at _ rfl _ _ 28 rfl w.heap.size 53 i0 (.agg #[.string ⟨#[]⟩, .string ⟨#[]⟩, .int .i64 0, .slice none 0 0]) 4 64 Tryz.underlying28 hi hz0 hz1 hz2 rfl (by decide) _ _ _ rfl (HO5.alloc _) ⟨wc.heap.size, 0, none⟩ 1 1 [.string k2, .string z3, .int .i64 go2, .slice oa2 m2 oc2] rfl rfl (World.news_of_block (heap_alloc_new _ _)) (one4b rfl rfl rfl rfl) (by unfold maxLen; omega) (by omega) (by simp; omega) ?_; intro v' w8 hown' hgrow _ hblk; have hS8 := (hS7.alloc _).append hown' hgrow hblk; clear hown' hgrow hblk))
                have hS9 : Sp w b (K + 12 * k + 12) w8 [rOwn w.heap.size 53 4 v' (bs ++ [(⟨k2, z3, go2, oa2, oc2, opts2⟩ : Bd)]).length ((bs ++ [(⟨k2, z3, go2, oa2, oc2, opts2⟩ : Bd)]).flatMap bdC), rAll (bidR w.heap.size) (bs ++ [(⟨k2, z3, go2, oa2, oc2, opts2⟩ : Bd)]), rBlk w.heap.size 9 #[.string ⟨#[98, 97]⟩, .string ⟨#[98, 98]⟩, .string ⟨#[98, 99]⟩]] := by
                  have h1 := hS8.drop 1 rfl rfl
                  have h2 := h1.front 1 rfl rfl
                  have h3 := h2.front 2 rfl rfl
                  have h4 := h3.front 1 rfl rfl
                  have h5 : Sp w b (K + 12 * k + 12) w8 [bidR w.heap.size ⟨k2, z3, go2, oa2, oc2, opts2⟩, rAll (bidR w.heap.size) bs, rOwn w.heap.size 53 4 v' (bs.length + 1) (bs.flatMap bdC ++ [.string k2, .string z3, .int .i64 go2, .slice oa2 m2 oc2]), rBlk w.heap.size 9 #[.string ⟨#[98, 97]⟩, .string ⟨#[98, 98]⟩, .string ⟨#[98, 99]⟩]] := by
                    unfold bidR
                    simp only [HM.out]
                    exact h4
                  have h6 := (h5.snoc (bidR_ok _)).front 1 rfl rfl
                  rw [flat_snoc, List.length_append]
                  unfold bdC
                  simp only [HM.out]
                  exact h6
                clear hS8
                go_roundw
                case rel => exact ⟨k + 1, bs ++ [(⟨k2, z3, go2, oa2, oc2, opts2⟩ : Bd)], by omega, by go_num, by simp; omega, hz.snoc HBZ.out, hS9.more (by omega)⟩
                case measure => simp [intOf]; omega
      · go_wp2_with fail
        go_roundw
        case rel => exact ⟨k + 1, bs, by omega, by go_num, by omega, hz, hS1.more (by omega)⟩
        case measure => simp [intOf]; omega
    · obtain rfl : k = 3 := by omega
      go_wp2_with fail
      go_ret
      exact ⟨_, bs, rfl, by omega, hz, (hS.drop 2 rfl rfl).more (by omega)⟩
end Go.Proofs.YtohhbkodfidfkaaGreat
