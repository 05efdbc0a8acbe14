/-
  Bids of the stream to the letter. (Turned out of XBid16 by a program.)
-/
import Derived.Test.YthbcogekfdllmaaGreatDoorZBidPure
import Derived.Test.YthbcogekfdllmaaGreatDoorZSmX
namespace Go.Proofs.YthbcogekfdllmaaGreatDoor
open Go Go.RowKit
attribute [local go_sem ↓] Go.wp_at_zero Go.wp_at_succ

def cntB (x : Bd) : ByteArray × ByteArray × Int × List ByteArray := (x.key, x.before, x.goal, x.opts)
def bdKs : List ByteArray := [⟨#[98, 97]⟩, ⟨#[98, 98]⟩, ⟨#[98, 99]⟩]
def bfKs : List ByteArray := [⟨#[115, 97]⟩, ⟨#[115, 98]⟩, ⟨#[115, 99]⟩]
def opKs : List ByteArray := [⟨#[120]⟩, ⟨#[]⟩, ⟨#[122, 122]⟩]
theorem bfKs_sz {z : ByteArray} (h : z ∈ bfKs) : z.size ≤ 1000 := by
  simp only [bfKs, List.mem_cons, List.not_mem_nil, or_false] at h
  rcases h with rfl | rfl | rfl <;> decide
theorem opKs_sz {z : ByteArray} (h : z ∈ opKs) : z.size ≤ 1000 := by
  simp only [opKs, List.mem_cons, List.not_mem_nil, or_false] at h
  rcases h with rfl | rfl | rfl <;> decide
theorem bdKs_at (k : Nat) (hk : k < 3) : ∃ s, (#[.string ⟨#[98, 97]⟩, .string ⟨#[98, 98]⟩, .string ⟨#[98, 99]⟩] : Array Value)[k]? = some (.string s) ∧ s.size ≤ 1000 ∧ bdKs[k]? = some s := by
  rcases (show k = 0 ∨ k = 1 ∨ k = 2 by omega) with rfl | rfl | rfl <;> exact ⟨_, rfl, by decide, rfl⟩
/-- is one of the slots taken? -/
def b1X (zs : ZsT) (n r : Nat) : Nat × Bool := if n = 0 then (r, false) else (r + 1, !(nxX zs r 15 == 0))
def b2X (zs : ZsT) (keys : List ByteArray) (q : Nat × Bool) (z : ByteArray) : Nat × ByteArray := if q.2 = true then (q.1 + 1, keys[(nxX zs q.1 (keys.length : Int)).toNat]?.getD ⟨#[]⟩) else (q.1, z)
theorem b2X_hit {zs : ZsT} {xs : List Slt} {r j : Nat} {x : Slt} {z : ByteArray} (h : nxX zs r (xs.length : Int) = (j : Int)) (hj : j < xs.length) (hx : xs[j] = x) : b2X zs (xs.map (·.key)) (r, true) z = (r + 1, x.key) := by
  unfold b2X
  rw [if_pos rfl, List.length_map, h, Int.toNat_natCast, List.getElem?_map, List.getElem?_eq_getElem hj, hx]
  rfl
def b3X (zs : ZsT) (r : Nat) : Int × List ByteArray := if (nxX zs r 2 == 0) = true then (pkX zs (r + 1) [10, 50, 100], []) else (0, [⟨#[120]⟩, ⟨#[121]⟩, ⟨#[122]⟩].take (1 + nxX zs (r + 1) ((3 : Int) - 1 + 1)).toNat)
theorem b3X_row {zs : ZsT} {r : Nat} {v : Int} {l : List ByteArray} (h : (nxX zs r 2 == 0) = false) (hv : 1 + nxX zs (r + 1) ((3 : Int) - 1 + 1) = v) (hl : [⟨#[120]⟩, ⟨#[121]⟩, ⟨#[122]⟩].take v.toNat = l) : b3X zs r = (0, l) := by
  unfold b3X
  rw [if_neg (by rw [h]; decide), hv, hl]
theorem b3X_goal {zs : ZsT} {r : Nat} {v : Int} (h : (nxX zs r 2 == 0) = true) (hv : pkX zs (r + 1) [10, 50, 100] = v) : b3X zs r = (v, []) := by
  unfold b3X
  rw [if_pos h, hv]
def b4X (zs : ZsT) (s : ByteArray) (r : Nat) (go : Int) (opts : List ByteArray) : Nat × ByteArray × Int × List ByteArray :=
  if (nxX zs r 30 == 0) = true then (r + 1 + 1 + 2 + 1, smX zs (r + 1) [s, ⟨#[]⟩, ⟨#[98, 97]⟩], oddX zs (r + 1 + 1) 0 100, opts ++ [smX zs (r + 1 + 1 + 2) opKs]) else (r + 1, s, go, opts)
theorem b4X_same {zs : ZsT} {s : ByteArray} {r : Nat} {go : Int} {opts : List ByteArray} (h : (nxX zs r 30 == 0) = false) : b4X zs s r go opts = (r + 1, s, go, opts) := by
  unfold b4X
  rw [if_neg (by rw [h]; decide)]
theorem b4X_hit {zs : ZsT} {s k y : ByteArray} {r : Nat} {go p : Int} {opts : List ByteArray} (h : (nxX zs r 30 == 0) = true) (hk : smX zs (r + 1) [s, ⟨#[]⟩, ⟨#[98, 97]⟩] = k) (hp : oddX zs (r + 1 + 1) 0 100 = p) (hy : smX zs (r + 1 + 1 + 2) opKs = y) :
    b4X zs s r go opts = (r + 1 + 1 + 2 + 1, k, p, opts ++ [y]) := by
  unfold b4X
  rw [if_pos h, hk, hp, hy]
/-- the bids after k rounds, and the position -/
def bdX (zs : ZsT) (keys : List ByteArray) (p : Nat) : Nat → Nat × List (ByteArray × ByteArray × Int × List ByteArray)
  | 0 => (p, [])
  | k + 1 => if (nxX zs (bdX zs keys p k).1 4 == 0) = true then ((bdX zs keys p k).1 + 1, (bdX zs keys p k).2)
    else ((b4X zs (bdKs[k]?.getD ⟨#[]⟩) ((b2X zs keys (b1X zs keys.length ((bdX zs keys p k).1 + 1 + 1)) (smX zs ((bdX zs keys p k).1 + 1) bfKs)).1 + 1 + 1) (b3X zs (b2X zs keys (b1X zs keys.length ((bdX zs keys p k).1 + 1 + 1)) (smX zs ((bdX zs keys p k).1 + 1) bfKs)).1).1 (b3X zs (b2X zs keys (b1X zs keys.length ((bdX zs keys p k).1 + 1 + 1)) (smX zs ((bdX zs keys p k).1 + 1) bfKs)).1).2).1,
      (bdX zs keys p k).2 ++ [((b4X zs (bdKs[k]?.getD ⟨#[]⟩) ((b2X zs keys (b1X zs keys.length ((bdX zs keys p k).1 + 1 + 1)) (smX zs ((bdX zs keys p k).1 + 1) bfKs)).1 + 1 + 1) (b3X zs (b2X zs keys (b1X zs keys.length ((bdX zs keys p k).1 + 1 + 1)) (smX zs ((bdX zs keys p k).1 + 1) bfKs)).1).1 (b3X zs (b2X zs keys (b1X zs keys.length ((bdX zs keys p k).1 + 1 + 1)) (smX zs ((bdX zs keys p k).1 + 1) bfKs)).1).2).2.1,
        (b2X zs keys (b1X zs keys.length ((bdX zs keys p k).1 + 1 + 1)) (smX zs ((bdX zs keys p k).1 + 1) bfKs)).2,
        (b4X zs (bdKs[k]?.getD ⟨#[]⟩) ((b2X zs keys (b1X zs keys.length ((bdX zs keys p k).1 + 1 + 1)) (smX zs ((bdX zs keys p k).1 + 1) bfKs)).1 + 1 + 1) (b3X zs (b2X zs keys (b1X zs keys.length ((bdX zs keys p k).1 + 1 + 1)) (smX zs ((bdX zs keys p k).1 + 1) bfKs)).1).1 (b3X zs (b2X zs keys (b1X zs keys.length ((bdX zs keys p k).1 + 1 + 1)) (smX zs ((bdX zs keys p k).1 + 1) bfKs)).1).2).2.2)])
theorem bdX_no {zs : ZsT} {keys : List ByteArray} {p k r : Nat} {L : List (ByteArray × ByteArray × Int × List ByteArray)} (h : bdX zs keys p k = (r, L)) (hf : (nxX zs r 4 == 0) = true) : bdX zs keys p (k + 1) = (r + 1, L) := by
  rw [bdX, h]
  exact if_pos hf
theorem bdX_yes {zs : ZsT} {keys : List ByteArray} {p k r n r3 r4 r6 : Nat} {bs : List Bd} {s z z2 k2 : ByteArray} {fl : Bool} {go go2 : Int} {opts opts2 : List ByteArray} {oa : Option Addr} {oc : Nat} (hn : keys.length = n) (hs : bdKs[k]? = some s) (h : bdX zs keys p k = (r, bs.map cntB)) (hf : (nxX zs r 4 == 0) = false) (hz : smX zs (r + 1) bfKs = z)
    (h1 : b1X zs n (r + 1 + 1) = (r3, fl)) (h2 : b2X zs keys (r3, fl) z = (r4, z2)) (h3 : b3X zs r4 = (go, opts)) (h4 : b4X zs s (r4 + 1 + 1) go opts = (r6, k2, go2, opts2)) :
    bdX zs keys p (k + 1) = (r6, (bs ++ [(⟨k2, z2, go2, oa, oc, opts2⟩ : Bd)]).map cntB) := by
  rw [bdX, h, if_neg (by rw [hf]; decide)]
  simp only [hn, hs, hz, h1, h2, h3, Option.getD_some, h4, List.map_append]
  rfl
/-- a literal turned into a row of one's own, cut short -/
theorem blkX_own {zs : ZsT} {w W : World} {b K g : Nat} {t : TypeId} {cs : Array Value} {l : List Rsc} (h : SpX zs w b K W (rBlk g t cs :: l)) (k cap : Nat) (hk : k ≤ cap) (hc : cs.size = cap) (hm : cap ≤ maxLen) :
    SpX zs w b K W (rOwn w.heap.size t 1 (.slice (some ⟨g, 0, none⟩) k cap) k (cs.toList.take k) :: l) := by
  have hg := h.new _ (List.mem_cons_self ..) g rfl
  refine h.weak (fun hp => ?_) (rOwn_ok _ _ _ _ _ _) (fun j hj => by injection hj with hj; exact hj.symm)
  refine ⟨by rw [List.length_take, Array.length_toList]; omega, .inr ⟨g, cap, cs, rfl, hg.1, hp, hk, hm, by omega, by rw [Nat.mul_one]⟩⟩

/-- bids in new memory, to the letter -/
def BidsX (zs : ZsT) (b p : Nat) (keys : List ByteArray) (w : World) (e : Ending) (w' : World) : Prop :=
  ∃ (v : Value) (xs : List Bd) (r : Nat), e = .returned v ∧ xs.length ≤ 3 ∧ BdZs xs ∧ bdX zs keys p 3 = (r, xs.map cntB) ∧ r ≤ p + 36 ∧ SpX zs w b r w' [rOwn w.heap.size 77 4 v xs.length (xs.flatMap bdC), rAll (bidR w.heap.size) xs]
set_option maxRecDepth 100000 in
set_option maxHeartbeats 4000000 in
theorem bidsX_calls (b p0 : Nat) (zs : ZsT) (A : Option Addr) (n c : Nat) (xs : List Slt) (w : World) (hs : StrmX w b zs p0) (hK : p0 ≤ 800000) (hr : Slts w b A n c xs) (hn : n ≤ 1000) :
    Calls Tryz.prog 18 #[.pointer (some ⟨b, 0, none⟩), .slice A n c] w (BidsX zs b p0 (xs.map (·.key)) w) := by
  obtain ⟨hl, hnc, hcm, hcells⟩ := hr.rd.cells sltC_len (by omega)
  obtain ⟨i0, hi, hz0, hz1, hz2⟩ := info_parts info_bid
  obtain ⟨j0, hj, hy0, hy1, hy2⟩ := info_parts info_str
  unfold maxLen at hcm
  have hS0 := ((((SpX.start hs).add #[.string ⟨#[98, 97]⟩, .string ⟨#[98, 98]⟩, .string ⟨#[98, 99]⟩] 9).allNil (bidR w.heap.size) (bidR_ok _)).nil w.heap.size 77 4)
  have HL := Lib.hid hl
  have HC := Lib.hid hcells
  have HR := Lib.hid hr
  clear hcells hl hr
  go_enter Tryz.func18, Tryz.ntmps18
  go_wp2_with fail
  go_loopw [5, 11] (fun v i wr => ∃ (k r : Nat) (bs : List Bd), k ≤ 3 ∧ i = .int .i64 k ∧ bs.length ≤ k ∧ BdZs bs ∧ r ≤ p0 + 12 * k ∧ Hid (bdX zs (xs.map (·.key)) p0 k = (r, bs.map cntB)) ∧ SpX zs w b r wr [rOwn w.heap.size 77 4 v bs.length (bs.flatMap bdC), rAll (bidR w.heap.size) bs, rBlk w.heap.size 9 #[.string ⟨#[98, 97]⟩, .string ⟨#[98, 98]⟩, .string ⟨#[98, 99]⟩]]) (fun _ i _ => 3 - (intOf i).toNat)
  case atStart => exact ⟨0, p0, [], Nat.zero_le _, rfl, Nat.le_refl _, (by intro x hx; cases hx), by omega, Lib.hid rfl, hS0⟩
  case round =>
    clear hS0
    obtain ⟨k, r, bs, hk, rfl, hbk, hz, hrk, HP, hS⟩ := hrel
    by_cases hlt : k < 3
    · obtain ⟨s, hcs, hss, hsl⟩ := bdKs_at k hlt
      have HSL := Lib.hid hsl
      clear hsl
      have hb5 : Blk wr w.heap.size 9 #[.string ⟨#[98, 97]⟩, .string ⟨#[98, 98]⟩, .string ⟨#[98, 99]⟩] := hS.nth 2 rfl
      have c0 := (hb5.cell k).trans hcs
      have hk0 : (0 : Int) ≤ (k : Int) := by omega
      have hk5 : (k : Int) < 3 := by omega
      clear hcs hb5
      go_wp2_with fail
      refine (spx_flip hS 4 (by omega) (by omega) (by omega)).mono ?_
      rintro e w1 ⟨rfl, hS1⟩
      obtain ⟨fv, hfv⟩ : ∃ f, (nxX zs r 4 == 0) = f := ⟨_, rfl⟩
      rw [hfv]
      have HF4 := Lib.hid hfv
      clear hfv
      clear c0 hS
      cases fv
      · go_wp2_with fail
        refine (spx_someL hS1 bfKs #[.string ⟨#[115, 97]⟩, .string ⟨#[115, 98]⟩, .string ⟨#[115, 99]⟩] 9 3 rfl (by decide) (by decide) rfl (by omega)).mono ?_
        rintro e w2 ⟨rfl, hS2⟩
        have hzz := bfKs_sz (smX_mem zs (r + 1) bfKs (by decide))
        obtain ⟨z, hze⟩ : ∃ z, smX zs (r + 1) bfKs = z := ⟨_, rfl⟩
        rw [hze] at hzz ⊢
        have HZE := Lib.hid hze
        clear hze
        clear hS1
        have hS3 := hS2.add #[.string s, .string z, .int .i64 0, .slice none 0 0] 77
        clear hS2
        go_upto_region 7 with (fail)
        obtain ⟨gB, hgB⟩ : ∃ g, w2.heap.size = g := ⟨_, rfl⟩
        rw [hgB] at hS3 ⊢
        go_cut [29] (fun s29 W => ∃ (r3 : Nat) (fl : Bool), s29 = .bool fl ∧ (fl = true → 0 < n) ∧ r3 ≤ r + 3 ∧ Hid (b1X zs n (r + 1 + 1) = (r3, fl)) ∧ SpX zs w b r3 W [rBlk gB 77 #[.string s, .string z, .int .i64 0, .slice none 0 0], rOwn w.heap.size 77 4 u5 bs.length (bs.flatMap bdC), rAll (bidR w.heap.size) bs, rBlk w.heap.size 9 #[.string ⟨#[98, 97]⟩, .string ⟨#[98, 98]⟩, .string ⟨#[98, 99]⟩]])
        case first =>
          by_cases h0 : n = 0
          · subst h0
            go_wp2_with fail
            go_meet
            exact ⟨r + 1 + 1, false, rfl, (fun h => by cases h), by omega, Lib.hid rfl, hS3⟩
          · have hn0 : (0 : Int) < (n : Int) := by omega
            go_wp2_with fail
            refine (spx_flip hS3 15 (by omega) (by omega) (by omega)).mono ?_
            rintro e w4 ⟨rfl, hS4⟩
            obtain ⟨fv, hfv⟩ : ∃ f, (nxX zs (r + 1 + 1) 15 == 0) = f := ⟨_, rfl⟩
            rw [hfv]
            have HB1 : Hid (b1X zs n (r + 1 + 1) = (r + 1 + 1 + 1, !fv)) := Lib.hid (by unfold b1X; rw [if_neg h0, hfv])
            clear hfv
            go_wp2_with fail
            go_meet
            exact ⟨r + 1 + 1 + 1, !fv, rfl, fun _ => by omega, by omega, HB1, hS4⟩
        case rest =>
          obtain ⟨r3, fl, rfl, HFL, hr3, HB1, hS⟩ := hcut
          have HF := Lib.hid HFL
          clear HFL hS3 hgB
          go_upto_if 29 with (fail)
          go_cut [] (fun W => ∃ (r4 : Nat) (z2 : ByteArray), z2.size ≤ 1000 ∧ r4 ≤ r + 4 ∧ Hid (b2X zs (xs.map (·.key)) (r3, fl) z = (r4, z2)) ∧ SpX zs w b r4 W [rBlk gB 77 #[.string s, .string z2, .int .i64 0, .slice none 0 0], rOwn w.heap.size 77 4 u5 bs.length (bs.flatMap bdC), rAll (bidR w.heap.size) bs, rBlk w.heap.size 9 #[.string ⟨#[98, 97]⟩, .string ⟨#[98, 98]⟩, .string ⟨#[98, 99]⟩]])
          case first =>
            cases fl
            · go_wp2_with fail
              go_meet
              exact ⟨r3, z, hzz, by omega, Lib.hid rfl, hS⟩
            · have hn0 := HF.out rfl
              have hn1 : (0 : Int) < (n : Int) := by omega
              go_wp2_with fail
              refine (spx_next hS n (by omega) (by omega) (by omega)).mono ?_
              rintro e w4 ⟨rfl, hS4⟩
              obtain ⟨jv0, jv1⟩ := nxX_bd zs r3 (n := (n : Int)) (by omega)
              obtain ⟨jv, hjv⟩ : ∃ j, nxX zs r3 (n : Int) = j := ⟨_, rfl⟩
              rw [hjv] at jv0 jv1 ⊢
              obtain ⟨j, rfl⟩ := Int.eq_ofNat_of_zero_le jv0
              have HJV := Lib.hid hjv
              clear hjv
              have hjn : j < n := by omega
              have hjr : j < xs.length := by rw [HL.out]; exact hjn
              obtain ⟨g, o, hA, hgb, hcs⟩ := HC.out (by omega)
              subst hA
              have x0 := hcs j hjr 0 (by omega)
              have xk := (HR.out.ok _ (List.getElem_mem hjr)).hk
              obtain ⟨x, hx⟩ : ∃ x, xs[j] = x := ⟨_, rfl⟩
              rw [hx] at x0 xk
              have HB2 : Hid (b2X zs (xs.map (·.key)) (r3, true) z = (r3 + 1, x.key)) := Lib.hid (b2X_hit (by rw [HL.out]; exact HJV.out) hjr hx)
              have x4 : w4.cell? ⟨g, o + j * 5, none⟩ = some (.string x.key) := hS4.bx.cell x0 hgb
              have hj0 : (0 : Int) ≤ (j : Int) := by omega
              have hj1 : (j : Int) < (n : Int) := by omega
              have hbx : Blk w4 gB 77 #[.string s, .string z, .int .i64 0, .slice none 0 0] := hS4.nth 0 rfl
              have e1 := hbx.cell 1
              have f1 := hbx.frozen 1
              have lB := hbx.lt
              clear hbx hcs x0 hx hS
              go_wp2_with fail
              go_meet
              exact ⟨r3 + 1, x.key, xk, by omega, HB2, hS4.set_ 1 (.string x.key)⟩
          case rest =>
            obtain ⟨r4, z2, hzb, hr4, HB2, hS⟩ := hcut
            clear HF hzz
            go_wp2_with fail
            refine (spx_flip hS 2 (by omega) (by omega) (by omega)).mono ?_
            rintro e w4 ⟨rfl, hS4⟩
            obtain ⟨fv, hfv⟩ : ∃ f, (nxX zs r4 2 == 0) = f := ⟨_, rfl⟩
            rw [hfv]
            have HF2 := Lib.hid hfv
            clear hfv
            clear hS
            go_upto_if 40 with (fail)
            go_cut [] (fun W => ∃ (go : Int) (oa : Option Addr) (oc : Nat) (opts : List ByteArray), BdZ ⟨s, z2, go, oa, oc, opts⟩ ∧ opts.length ≤ 3 ∧ Hid (b3X zs r4 = (go, opts)) ∧ SpX zs w b (r4 + 1 + 1) W [rBlk gB 77 #[.string s, .string z2, .int .i64 go, .slice oa opts.length oc], rOwn w.heap.size 9 1 (.slice oa opts.length oc) opts.length (strsV opts), rOwn w.heap.size 77 4 u5 bs.length (bs.flatMap bdC), rAll (bidR w.heap.size) bs, rBlk w.heap.size 9 #[.string ⟨#[98, 97]⟩, .string ⟨#[98, 98]⟩, .string ⟨#[98, 99]⟩]])
            case first =>
              cases fv
              · have hS5 := hS4.add #[.string ⟨#[120]⟩, .string ⟨#[121]⟩, .string ⟨#[122]⟩] 9
                go_wp2_with fail
                refine (spx_range hS5 1 3 (by omega) (by omega) (by omega) (by omega)).mono ?_
                rintro e w5 ⟨rfl, hS6⟩
                obtain ⟨rv0, rv1⟩ := nxX_bd zs (r4 + 1) (n := (3 : Int) - 1 + 1) (by decide)
                obtain ⟨rv, hrv⟩ : ∃ v, 1 + nxX zs (r4 + 1) ((3 : Int) - 1 + 1) = v := ⟨_, rfl⟩
                rw [hrv]
                have HRV := Lib.hid hrv
                have hrvc : rv = 1 ∨ rv = 2 ∨ rv = 3 := by omega
                clear hrv rv0 rv1
                have hbx : Blk w5 gB 77 #[.string s, .string z2, .int .i64 0, .slice none 0 0] := hS6.nth 1 rfl
                have e3 := hbx.cell 3
                have f3 := hbx.frozen 3
                have lB := hbx.lt
                clear hbx hS4 hS5
                rcases hrvc with rfl | rfl | rfl
                · have hS7 := ((blkX_own hS6 1 3 (by omega) rfl (by decide)).front 1 rfl rfl).set_ 3 (.slice (some ⟨w4.heap.size, 0, none⟩) 1 3)
                  go_wp2_with fail
                  go_meet
                  exact ⟨0, some ⟨w4.heap.size, 0, none⟩, 3, [⟨#[120]⟩], bdZ hss hzb (by decide) (by decide) (by decide), by decide, Lib.hid (b3X_row HF2.out HRV.out rfl), hS7⟩
                · have hS7 := ((blkX_own hS6 2 3 (by omega) rfl (by decide)).front 1 rfl rfl).set_ 3 (.slice (some ⟨w4.heap.size, 0, none⟩) 2 3)
                  go_wp2_with fail
                  go_meet
                  exact ⟨0, some ⟨w4.heap.size, 0, none⟩, 3, [⟨#[120]⟩, ⟨#[121]⟩], bdZ hss hzb (by decide) (by decide) (by decide), by decide, Lib.hid (b3X_row HF2.out HRV.out rfl), hS7⟩
                · have hS7 := ((blkX_own hS6 3 3 (by omega) rfl (by decide)).front 1 rfl rfl).set_ 3 (.slice (some ⟨w4.heap.size, 0, none⟩) 3 3)
                  go_wp2_with fail
                  go_meet
                  exact ⟨0, some ⟨w4.heap.size, 0, none⟩, 3, [⟨#[120]⟩, ⟨#[121]⟩, ⟨#[122]⟩], bdZ hss hzb (by decide) (by decide) (by decide), by decide, Lib.hid (b3X_row HF2.out HRV.out rfl), hS7⟩
              · go_wp2_with fail
                refine (spx_pickL hS4 [10, 50, 100] #[.int .i64 10, .int .i64 50, .int .i64 100] 3 3 rfl (by decide) (by decide) rfl (by omega)).mono ?_
                rintro e w5 ⟨rfl, hS6⟩
                obtain ⟨go0, go1⟩ := pkX_bd zs (r4 + 1) [10, 50, 100] 10 100 (by decide) (by decide)
                obtain ⟨go, hgo⟩ : ∃ g, pkX zs (r4 + 1) [10, 50, 100] = g := ⟨_, rfl⟩
                rw [hgo] at go0 go1 ⊢
                have HGO := Lib.hid hgo
                clear hgo
                have hbx : Blk w5 gB 77 #[.string s, .string z2, .int .i64 0, .slice none 0 0] := hS6.nth 0 rfl
                have e2 := hbx.cell 2
                have f2 := hbx.frozen 2
                have lB := hbx.lt
                clear hbx hS4
                have hS7 := ((hS6.set_ 2 (.int .i64 go)).nil w.heap.size 9 1).front 1 rfl rfl
                go_wp2_with fail
                go_meet
                exact ⟨go, none, 0, [], bdZ hss hzb (by intro y hy; cases hy) (by decide) ⟨by omega, by omega⟩, by decide, Lib.hid (b3X_goal HF2.out HGO.out), hS7⟩
            case rest =>
              obtain ⟨go, oa, oc, opts, hbz, hol, HB3, hS⟩ := hcut
              clear hS4
              obtain ⟨m, hm⟩ : ∃ m, opts.length = m := ⟨_, rfl⟩
              have HM := Lib.hid hm
              have HBZ := Lib.hid hbz
              rw [hm] at hS hol
              clear hbz hm
              go_wp2_with fail
              refine (spx_flip hS 30 (by omega) (by omega) (by omega)).mono ?_
              rintro e w6 ⟨rfl, hS6⟩
              obtain ⟨fv, hfv⟩ : ∃ f, (nxX zs (r4 + 1 + 1) 30 == 0) = f := ⟨_, rfl⟩
              rw [hfv]
              have HF30 := Lib.hid hfv
              clear hfv
              clear hS
              go_upto_if 51 with (fail)
              go_cut [] (fun W => ∃ (r6 : Nat) (k2 : ByteArray) (go2 : Int) (oa2 : Option Addr) (oc2 : Nat) (opts2 : List ByteArray), BdZ ⟨k2, z2, go2, oa2, oc2, opts2⟩ ∧ r6 ≤ r + 11 ∧ Hid (b4X zs s (r4 + 1 + 1) go opts = (r6, k2, go2, opts2)) ∧ SpX zs w b r6 W [rBlk gB 77 #[.string k2, .string z2, .int .i64 go2, .slice oa2 opts2.length oc2], rOwn w.heap.size 9 1 (.slice oa2 opts2.length oc2) opts2.length (strsV opts2), rOwn w.heap.size 77 4 u5 bs.length (bs.flatMap bdC), rAll (bidR w.heap.size) bs, rBlk w.heap.size 9 #[.string ⟨#[98, 97]⟩, .string ⟨#[98, 98]⟩, .string ⟨#[98, 99]⟩]])
              case first =>
                cases fv
                · go_wp2_with fail
                  go_meet
                  exact ⟨r4 + 1 + 1 + 1, s, go, oa, oc, opts, HBZ.out, by omega, Lib.hid (b4X_same HF30.out), by rw [HM.out]; exact hS6⟩
                · go_wp2_with fail
                  refine (spx_someL hS6 [s, ⟨#[]⟩, ⟨#[98, 97]⟩] #[.string s, .string ⟨#[]⟩, .string ⟨#[98, 97]⟩] 9 3 rfl (by decide) (by decide) rfl (by omega)).mono ?_
                  rintro e w7 ⟨rfl, hS7⟩
                  have hk2 : (smX zs (r4 + 1 + 1 + 1) [s, ⟨#[]⟩, ⟨#[98, 97]⟩]).size ≤ 1000 := by
                    have hm := smX_mem zs (r4 + 1 + 1 + 1) [s, ⟨#[]⟩, ⟨#[98, 97]⟩] (by simp)
                    simp only [List.mem_cons, List.not_mem_nil, or_false] at hm
                    rcases hm with hm | hm | hm <;> rw [hm]
                    · exact hss
                    · decide
                    · decide
                  obtain ⟨k2, hk2e⟩ : ∃ k2, smX zs (r4 + 1 + 1 + 1) [s, ⟨#[]⟩, ⟨#[98, 97]⟩] = k2 := ⟨_, rfl⟩
                  rw [hk2e] at hk2 ⊢
                  have HK2 := Lib.hid hk2e
                  clear hk2e
                  clear hS6
                  go_wp2_with fail
                  refine (spx_odd hS7 0 100 (by omega) (by omega) (by omega) (by omega)).mono ?_
                  rintro e w8 ⟨rfl, hS8⟩
                  obtain ⟨q0, q1⟩ := oddX_bd zs (r4 + 1 + 1 + 1 + 1) 0 100 (by decide) (by decide) (by decide)
                  obtain ⟨p, hpe⟩ : ∃ p, oddX zs (r4 + 1 + 1 + 1 + 1) 0 100 = p := ⟨_, rfl⟩
                  rw [hpe] at q0 q1 ⊢
                  have HPE := Lib.hid hpe
                  clear hpe
                  clear hS7
                  have hbx : Blk w8 gB 77 #[.string s, .string z2, .int .i64 go, .slice oa m oc] := hS8.nth 0 rfl
                  have e0 := hbx.cell 0
                  have e2 := hbx.cell 2
                  have e3 := hbx.cell 3
                  have f0 := hbx.frozen 0
                  have f2 := hbx.frozen 2
                  have lB := hbx.lt
                  clear hbx
                  have hS9 := (hS8.set_ 0 (.string k2)).set_ 2 (.int .i64 p)
                  clear hS8
                  obtain ⟨w9, hw9⟩ : ∃ W, (w8.setCell ⟨gB, 0, none⟩ (.string k2)).setCell ⟨gB, 2, none⟩ (.int .i64 p) = W := ⟨_, rfl⟩
                  rw [hw9] at hS9
                  replace hS9 : SpX zs w b (r4 + 1 + 1 + 1 + 1 + 2) w9 [rBlk gB 77 #[.string k2, .string z2, .int .i64 p, .slice oa m oc], rOwn w.heap.size 9 1 (.slice oa m oc) m (strsV opts), rOwn w.heap.size 77 4 u5 bs.length (bs.flatMap bdC), rAll (bidR w.heap.size) bs, rBlk w.heap.size 9 #[.string ⟨#[98, 97]⟩, .string ⟨#[98, 98]⟩, .string ⟨#[98, 99]⟩]] := hS9
                  have HRH : Rd w9 b 1 (.slice oa m oc) m (strsV opts) := Rd.own (show w9.ownsRow w.heap.size 9 1 (.slice oa m oc) m (strsV opts) from hS9.nth 1 rfl) hS9.hb
                  have HCL := Lib.hid (cloneS_calls b oa m oc (strsV opts) w9 HRH (strsV_one _) (by omega))
                  clear HRH
                  go_upto_region 14 with (fail)
                  clear e0 e2 e3 f0 f2 hw9
                  have hb9 : Blk w9 gB 77 #[.string k2, .string z2, .int .i64 p, .slice oa m oc] := hS9.nth 0 rfl
                  have e3 := hb9.cell 3
                  clear hb9
                  go_wp2_with fail
                  refine HCL.out.mono ?_
                  rintro e wA ⟨v7, rfl, ho7, hbA⟩
                  have hSA := hS9.ownB hbA ho7
                  obtain ⟨A7, c7, hv7⟩ := own_form ho7
                  subst hv7
                  clear ho7 hbA hS9 HCL
                  go_wp2_with fail
                  refine (spx_someL hSA opKs #[.string ⟨#[120]⟩, .string ⟨#[]⟩, .string ⟨#[122, 122]⟩] 9 3 rfl (by decide) (by decide) rfl (by omega)).mono ?_
                  rintro e wC ⟨rfl, hSC⟩
                  have hy := opKs_sz (smX_mem zs (r4 + 1 + 1 + 1 + 1 + 2) opKs (by decide))
                  obtain ⟨y, hye⟩ : ∃ y, smX zs (r4 + 1 + 1 + 1 + 1 + 2) opKs = y := ⟨_, rfl⟩
                  rw [hye] at hy ⊢
                  have HYE := Lib.hid hye
                  clear hye
                  clear hSA
                  have hzC := hSC.size
                  have HO5 : wC.ownsRow w.heap.size 9 1 (.slice A7 m c7) m (strsV opts) := hSC.head
                  go_wp2_with (first
                    | (at_builtin; refine wpList_append_own_at _ rfl _ _ 57 rfl w.heap.size 9 j0 (.string ⟨#[]⟩) 1 16 Tryz.underlying57 hj hy0 hy1 hy2 rfl (by decide) _ _ _ rfl (HO5.alloc _) ⟨wC.heap.size, 0, none⟩ 1 1 [.string y] rfl rfl (World.news_of_block (heap_alloc_new _ _)) (one1 rfl) (by unfold maxLen; omega) (by omega) (by simp; omega) ?_; intro v' wD hown' hgrow _ hblk; obtain ⟨A8, c8, hv8⟩ := own_form hown'; subst hv8; have hSD := (hSC.alloc _).append hown' hgrow hblk; clear hown' hgrow hblk; have hbD : Blk wD gB 77 #[.string k2, .string z2, .int .i64 p, .slice oa m oc] := hSD.nth 1 rfl; have e3 := hbD.cell 3; have f3 := hbD.frozen 3; have lD := hbD.lt))
                  have hSE := ((hSD.drop 2 rfl rfl).front 1 rfl rfl).set_ 3 (.slice A8 (m + 1) c8)
                  have hml : (opts ++ [y]).length = m + 1 := by rw [List.length_append, HM.out]; rfl
                  go_meet
                  exact ⟨r4 + 1 + 1 + 1 + 1 + 2 + 1, k2, p, A8, c8, opts ++ [y], bdZ hk2 hzb (by intro q hq; rcases List.mem_append.1 hq with hq | hq; exact HBZ.out.hh q hq; simp at hq; subst hq; exact hy) (by omega) ⟨by omega, by omega⟩, by omega, Lib.hid (b4X_hit HF30.out HK2.out HPE.out HYE.out), by rw [hml, strsV_snoc2]; exact hSE⟩
              case rest =>
                obtain ⟨r6, k2, go2, oa2, oc2, opts2, hbz, hr6, HB4, hS⟩ := hcut
                clear hS6 HM HBZ
                obtain ⟨m2, hm2⟩ : ∃ m, opts2.length = m := ⟨_, rfl⟩
                have HM := Lib.hid hm2
                rw [hm2] at hS
                have hbx : Blk wc gB 77 #[.string k2, .string z2, .int .i64 go2, .slice oa2 m2 oc2] := hS.nth 0 rfl
                have e0 := hbx.cell 0
                have e1 := hbx.cell 1
                have e2 := hbx.cell 2
                have e3 := hbx.cell 3
                have hzC := hS.size
                have hS7 := hS.front 2 rfl rfl
                have HO5 : wc.ownsRow w.heap.size 77 4 u5 bs.length (bs.flatMap bdC) := hS7.head
                have HBZ := Lib.hid hbz
                clear hbx hbz hm2 hS
                go_wp2_with (first
                  | (at_builtin; refine wpList_append_own_at _ rfl _ _ 53 rfl w.heap.size 77 i0 (.agg #[.string ⟨#[]⟩, .string ⟨#[]⟩, .int .i64 0, .slice none 0 0]) 4 64 Tryz.underlying53 hi hz0 hz1 hz2 rfl (by decide) _ _ _ rfl (HO5.alloc _) ⟨wc.heap.size, 0, none⟩ 1 1 [.string k2, .string z2, .int .i64 go2, .slice oa2 m2 oc2] rfl rfl (World.news_of_block (heap_alloc_new _ _)) (one4b rfl rfl rfl rfl) (by unfold maxLen; omega) (by omega) (by simp; omega) ?_; intro v' w8 hown' hgrow _ hblk; have hS8 := (hS7.alloc _).append hown' hgrow hblk; clear hown' hgrow hblk))
                have hS9 : SpX zs w b r6 w8 [rOwn w.heap.size 77 4 v' (bs ++ [(⟨k2, z2, go2, oa2, oc2, opts2⟩ : Bd)]).length ((bs ++ [(⟨k2, z2, go2, oa2, oc2, opts2⟩ : Bd)]).flatMap bdC), rAll (bidR w.heap.size) (bs ++ [(⟨k2, z2, go2, oa2, oc2, opts2⟩ : Bd)]), rBlk w.heap.size 9 #[.string ⟨#[98, 97]⟩, .string ⟨#[98, 98]⟩, .string ⟨#[98, 99]⟩]] := by
                  have h1 := hS8.drop 1 rfl rfl
                  have h2 := h1.front 1 rfl rfl
                  have h3 := h2.front 2 rfl rfl
                  have h4 := h3.front 1 rfl rfl
                  have h5 : SpX zs w b r6 w8 [bidR w.heap.size ⟨k2, z2, go2, oa2, oc2, opts2⟩, rAll (bidR w.heap.size) bs, rOwn w.heap.size 77 4 v' (bs.length + 1) (bs.flatMap bdC ++ [.string k2, .string z2, .int .i64 go2, .slice oa2 m2 oc2]), rBlk w.heap.size 9 #[.string ⟨#[98, 97]⟩, .string ⟨#[98, 98]⟩, .string ⟨#[98, 99]⟩]] := by
                    unfold bidR
                    simp only [HM.out]
                    exact h4
                  have h6 := (h5.snoc (bidR_ok _)).front 1 rfl rfl
                  rw [flat_snoc, List.length_append]
                  unfold bdC
                  simp only [HM.out]
                  exact h6
                clear hS8
                go_roundw
                case rel => exact ⟨k + 1, r6, bs ++ [(⟨k2, z2, go2, oa2, oc2, opts2⟩ : Bd)], by omega, by go_num, by simp; omega, hz.snoc HBZ.out, by omega, Lib.hid (bdX_yes (n := n) (by rw [List.length_map]; exact HL.out) HSL.out HP.out HF4.out HZE.out HB1.out HB2.out HB3.out HB4.out), hS9⟩
                case measure => simp [intOf]; omega
      · go_wp2_with fail
        go_roundw
        case rel => exact ⟨k + 1, r + 1, bs, by omega, by go_num, by omega, hz, by omega, Lib.hid (bdX_no HP.out HF4.out), hS1⟩
        case measure => simp [intOf]; omega
    · obtain rfl : k = 3 := by omega
      go_wp2_with fail
      go_ret
      exact ⟨_, bs, r, rfl, by omega, hz, HP.out, by omega, hS.drop 2 rfl rfl⟩
end Go.Proofs.YthbcogekfdllmaaGreatDoor
