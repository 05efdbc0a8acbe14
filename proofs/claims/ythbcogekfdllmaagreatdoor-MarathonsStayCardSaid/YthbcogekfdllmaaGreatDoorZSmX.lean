/-
  Some of the stream, to the letter: which string it answers. (Turned from XStrX's Pick.)
-/
import Derived.Test.YthbcogekfdllmaaGreatDoorZStrX
import Derived.Test.YthbcogekfdllmaaGreatDoorZBs
namespace Go.Proofs.YthbcogekfdllmaaGreatDoor
open Go Go.RowKit

/-- one of some strings -/
def smX (zs : ZsT) (p : Nat) (xs : List ByteArray) : ByteArray := (xs[(nxX zs p (xs.length : Int)).toNat]?).getD ⟨#[]⟩
theorem someX_calls (b p : Nat) (zs : ZsT) (A : Option Addr) (n c : Nat) (xs : List ByteArray) (w : World) (h0 : 0 < n) (hr : Rd w b 1 (.slice A n c) n (xs.map Value.string)) (hs : StrmX w b zs p) (hp : p ≤ 1000000) :
    Calls Tryz.prog 45 #[.pointer (some ⟨b, 0, none⟩), .slice A n c] w (DrX (.string (smX zs p xs)) b zs (p + 1) w) := by
  obtain ⟨A', c', e1, e2, e3, e4, e5, e6⟩ := hr
  injection e1 with ea eb ec
  subst ea ec
  obtain ⟨g, o, rfl, f2, f3⟩ := e6 h0
  unfold maxLen at e3
  have hxl : xs.length = n := by simpa using e4
  have hbd := nxX_bd zs p (n := (n : Int)) (by omega)
  have HN := Lib.hid (nextX_calls b p zs (n : Int) w (by omega) (by omega) hs hp)
  have hpk : smX zs p xs = (xs[(nxX zs p (n : Int)).toNat]?).getD ⟨#[]⟩ := by unfold smX; rw [hxl]
  rw [hpk]
  obtain ⟨v, hv⟩ : ∃ v, nxX zs p (n : Int) = v := ⟨_, rfl⟩
  rw [hv] at HN hbd ⊢
  obtain ⟨i, rfl⟩ := Int.eq_ofNat_of_zero_le hbd.1
  have hi : i < n := by omega
  have hil : i < xs.length := by omega
  have hx : (xs[((i : Int)).toNat]?).getD ⟨#[]⟩ = xs[i] := by rw [Int.toNat_natCast, List.getElem?_eq_getElem hil]; rfl
  rw [hx]
  obtain ⟨z, hz⟩ : ∃ z, xs[i] = z := ⟨_, rfl⟩
  have hcw : w.cell? ⟨g, o + i, none⟩ = some (.string z) := f3 i _ (by rw [List.getElem?_map, List.getElem?_eq_getElem hil, hz]; rfl)
  rw [hz]
  have HC := Lib.hid hcw
  have hi0 : (0 : Int) ≤ (i : Int) := by omega
  have hi1 : (i : Int) < (n : Int) := by omega
  clear f3 hz hx hv hpk hcw e4 e5 e6
  go_enter Tryz.func45, Tryz.ntmps45
  go_wp2_with fail
  refine HN.out.mono ?_
  rintro e w' ⟨rfl, hs', hb'⟩
  have hc : w'.cell? ⟨g, o + i, none⟩ = some (.string z) := hb'.cell HC.out f2
  go_wp2_with fail
  go_ret
  exact ⟨rfl, hs', hb'⟩
section
variable {zs : ZsT} {w W : World} {b p : Nat} {l : List Rsc}
theorem spx_someL (h : SpX zs w b p W l) (xs : List ByteArray) (cs : Array Value) (t : TypeId) (n : Nat) (hx : cs.toList = xs.map Value.string) (h0 : 0 < n) (hn : n ≤ maxLen) (hs : cs.size = n) (hp : p ≤ 1000000) :
    Calls Tryz.prog 45 #[.pointer (some ⟨b, 0, none⟩), .slice (some ⟨W.heap.size, 0, none⟩) n n] (W.alloc (.cells cs t)) (SpXS zs (.string (smX zs p xs)) w b (p + 1) l) := by
  have hA := h.add cs t
  have hr := blkRd (b := b) 1 n (hA.nth 0 rfl) (hA.ne 0 rfl) hn (by omega)
  rw [hx] at hr
  exact (someX_calls b p zs _ n n xs _ h0 hr hA.strm hp).mono (fun _e _w' ⟨he, hs, hb⟩ => ⟨he, (hA.call hs hb).tail⟩)
end
theorem smX_mem (zs : ZsT) (p : Nat) (xs : List ByteArray) (h0 : 0 < xs.length) : smX zs p xs ∈ xs := by
  have hb := nxX_bd zs p (n := (xs.length : Int)) (by omega)
  unfold smX
  have hl : (nxX zs p (xs.length : Int)).toNat < xs.length := by omega
  rw [List.getElem?_eq_getElem hl]
  exact List.getElem_mem hl
end Go.Proofs.YthbcogekfdllmaaGreatDoor
/-
  RightSlots of the stream to the letter: what it makes of the numbers, without the addresses. (Turned out of XSlot12 by a program.)
-/
namespace Go.Proofs.YthbcogekfdllmaaGreatDoor
open Go Go.RowKit
attribute [local go_sem ↓] Go.wp_at_zero Go.wp_at_succ

def slKs : List ByteArray := [⟨#[115, 99]⟩, ⟨#[115, 97]⟩, ⟨#[115, 100]⟩, ⟨#[115, 98]⟩, ⟨#[115, 101]⟩]
def whKs : List ByteArray := [⟨#[97, 110, 110]⟩, ⟨#[98, 101, 97]⟩, ⟨#[99, 105, 100]⟩]
def hsKs : List ByteArray := [⟨#[97, 110, 110]⟩, ⟨#[104, 97, 108]⟩, ⟨#[106, 111, 101]⟩]
theorem whKs_sz {z : ByteArray} (h : z ∈ whKs) : z.size ≤ 1000 := by
  simp only [whKs, List.mem_cons, List.not_mem_nil, or_false] at h
  rcases h with rfl | rfl | rfl <;> decide
theorem slKs_at (k : Nat) (hk : k < 5) : ∃ s, (#[.string ⟨#[115, 99]⟩, .string ⟨#[115, 97]⟩, .string ⟨#[115, 100]⟩, .string ⟨#[115, 98]⟩, .string ⟨#[115, 101]⟩] : Array Value)[k]? = some (.string s) ∧ s.size ≤ 1000 ∧ slKs[k]? = some s := by
  rcases (show k = 0 ∨ k = 1 ∨ k = 2 ∨ k = 3 ∨ k = 4 by omega) with rfl | rfl | rfl | rfl | rfl <;> exact ⟨_, rfl, by decide, rfl⟩
theorem hsKs_at (k : Nat) (hk : k < 3) : ∃ s, (#[.string ⟨#[97, 110, 110]⟩, .string ⟨#[104, 97, 108]⟩, .string ⟨#[106, 111, 101]⟩] : Array Value)[k]? = some (.string s) ∧ s.size ≤ 1000 ∧ hsKs[k]? = some s := by
  rcases (show k = 0 ∨ k = 1 ∨ k = 2 by omega) with rfl | rfl | rfl <;> exact ⟨_, rfl, by decide, rfl⟩
/-- the hosts after j flips from position p on -/
def hsX (zs : ZsT) (p : Nat) (z : ByteArray) : Nat → List ByteArray
  | 0 => []
  | j + 1 => if (nxX zs (p + j) 3 == 0) = true ∧ ((hsKs[j]?.getD ⟨#[]⟩).toList == z.toList) = false then hsX zs p z j ++ [hsKs[j]?.getD ⟨#[]⟩] else hsX zs p z j
theorem hsX_yes {zs : ZsT} {p j : Nat} {z h : ByteArray} {hh : List ByteArray} (hl : hsKs[j]? = some h) (hs : hsX zs p z j = hh) (hf : (nxX zs (p + j) 3 == 0) = true) (hb : (h.toList == z.toList) = false) : hsX zs p z (j + 1) = hh ++ [h] := by
  rw [hsX, hl, hs]
  exact if_pos ⟨hf, hb⟩
theorem hsX_no {zs : ZsT} {p j : Nat} {z h : ByteArray} {hh : List ByteArray} (hl : hsKs[j]? = some h) (hs : hsX zs p z j = hh) (hf : (nxX zs (p + j) 3 == 0) = false ∨ (h.toList == z.toList) = true) : hsX zs p z (j + 1) = hh := by
  rw [hsX, hl, hs]
  refine if_neg (fun hc => ?_)
  rcases hf with hf | hf
  · rw [hf] at hc; exact absurd hc.1 (by decide)
  · have := hc.2; rw [show ((some h).getD ⟨#[]⟩ : ByteArray) = h from rfl, hf] at this; cases this
/-- the slots after k rounds, and the position -/
def slX (zs : ZsT) (p : Nat) : Nat → Nat × List (ByteArray × ByteArray × List ByteArray × Int × Int)
  | 0 => (p, [])
  | k + 1 => if (nxX zs (slX zs p k).1 6 == 0) = true then ((slX zs p k).1 + 1, (slX zs p k).2)
      else ((slX zs p k).1 + 4 + 3, (slX zs p k).2 ++ [(slKs[k]?.getD ⟨#[]⟩, smX zs ((slX zs p k).1 + 1) whKs, hsX zs ((slX zs p k).1 + 4) (smX zs ((slX zs p k).1 + 1) whKs) 3, pkX zs ((slX zs p k).1 + 1 + 1) [0, 10, 20], pkX zs ((slX zs p k).1 + 1 + 1 + 1) [50, 100, 100, 200])])
theorem slX_no {zs : ZsT} {p k r : Nat} {L : List (ByteArray × ByteArray × List ByteArray × Int × Int)} (h : slX zs p k = (r, L)) (hf : (nxX zs r 6 == 0) = true) : slX zs p (k + 1) = (r + 1, L) := by
  rw [slX, h]
  exact if_pos hf
theorem slX_yes {zs : ZsT} {p k r : Nat} {xs : List Slt} {s z : ByteArray} {ha : Option Addr} {hc : Nat} {hh : List ByteArray} {a q : Int} (hs : slKs[k]? = some s) (h : slX zs p k = (r, xs.map cntS)) (hf : (nxX zs r 6 == 0) = false) (hz : smX zs (r + 1) whKs = z) (hp : pkX zs (r + 1 + 1) [0, 10, 20] = a) (hq : pkX zs (r + 1 + 1 + 1) [50, 100, 100, 200] = q) (hhh : hsX zs (r + 4) z 3 = hh) :
    slX zs p (k + 1) = (r + 4 + 3, (xs ++ [(⟨s, z, ha, hc, hh, a, q⟩ : Slt)]).map cntS) := by
  rw [slX, h, if_neg (by rw [hf]; decide)]
  simp only [hs, hz, hp, hq, hhh, List.map_append]
  rfl
/-- slots in new memory, drawn, to the letter -/
def SlotsX (zs : ZsT) (b p m : Nat) (w : World) (e : Ending) (w' : World) : Prop :=
  ∃ (v : Value) (xs : List Slt) (r : Nat), e = .returned v ∧ xs.length ≤ m ∧ SltZs 3 xs ∧ slX zs p m = (r, xs.map cntS) ∧ r ≤ p + 7 * m ∧ SpX zs w b r w' [rOwn w.heap.size 64 5 v xs.length (xs.flatMap sltC), rAll (hostR w.heap.size) xs]
theorem rightSlotsX_calls (b r0 m : Nat) (zs : ZsT) (w : World) (hs : StrmX w b zs r0) (hK : r0 ≤ 900000) (hm : m ≤ 5) :
    Calls Tryz.prog 16 #[.pointer (some ⟨b, 0, none⟩), .int .i64 m] w (SlotsX zs b r0 m w) := by
  obtain ⟨i0, hi, hz0, hz1, hz2⟩ := info_parts info_slt
  obtain ⟨j0, hj, hy0, hy1, hy2⟩ := info_parts info_str
  have hS0 := ((((SpX.start hs).add #[.string ⟨#[115, 99]⟩, .string ⟨#[115, 97]⟩, .string ⟨#[115, 100]⟩, .string ⟨#[115, 98]⟩, .string ⟨#[115, 101]⟩] 9).allNil (hostR w.heap.size) (hostR_ok _)).nil w.heap.size 64 5)
  have hm0 : (0 : Int) ≤ (m : Int) := by omega
  have hm5 : (m : Int) ≤ 5 := by omega
  go_enter Tryz.func16, Tryz.ntmps16
  go_wp2_with fail
  go_loopw [5, 15] (fun v i wr => ∃ (k r : Nat) (xs : List Slt), k ≤ m ∧ i = .int .i64 k ∧ xs.length ≤ k ∧ SltZs 3 xs ∧ r ≤ r0 + 7 * k ∧ Hid (slX zs r0 k = (r, xs.map cntS)) ∧ SpX zs w b r wr [rOwn w.heap.size 64 5 v xs.length (xs.flatMap sltC), rAll (hostR w.heap.size) xs, rBlk w.heap.size 9 #[.string ⟨#[115, 99]⟩, .string ⟨#[115, 97]⟩, .string ⟨#[115, 100]⟩, .string ⟨#[115, 98]⟩, .string ⟨#[115, 101]⟩]]) (fun _ i _ => m - (intOf i).toNat)
  case atStart => exact ⟨0, r0, [], Nat.zero_le _, rfl, Nat.le_refl _, (by intro x hx; cases hx), by omega, Lib.hid rfl, hS0⟩
  case round =>
    clear hS0
    obtain ⟨k, r, xs, hk, rfl, hxk, hz, hrk, HP, hS⟩ := hrel
    obtain ⟨wo, hwo⟩ : ∃ wo : World, wo = wr := ⟨_, rfl⟩
    subst hwo
    by_cases hlt : k < m
    · obtain ⟨s, hcs, hss, hsl⟩ := slKs_at k (by omega)
      have HSL := Lib.hid hsl
      clear hsl
      have _hdrop := strLit_at (cs := #[.string ⟨#[115, 99]⟩, .string ⟨#[115, 97]⟩, .string ⟨#[115, 100]⟩, .string ⟨#[115, 98]⟩, .string ⟨#[115, 101]⟩]) rfl k (by simp; omega)
      have hb5 : Blk wo w.heap.size 9 #[.string ⟨#[115, 99]⟩, .string ⟨#[115, 97]⟩, .string ⟨#[115, 100]⟩, .string ⟨#[115, 98]⟩, .string ⟨#[115, 101]⟩] := hS.nth 2 rfl
      have c0 := (hb5.cell k).trans hcs
      have hk0 : (0 : Int) ≤ (k : Int) := by omega
      have hk5 : (k : Int) < (m : Int) := by omega
      clear hcs hb5
      go_wp2_with fail
      refine (spx_flip hS 6 (by omega) (by omega) (by omega)).mono ?_
      rintro e w1 ⟨rfl, hS1⟩
      obtain ⟨fv, hfv⟩ : ∃ fv, (nxX zs r 6 == 0) = fv := ⟨_, rfl⟩
      rw [hfv]
      have HFV := Lib.hid hfv
      clear hfv _hdrop
      clear c0 hS
      cases fv
      · go_wp2_with fail
        refine (spx_someL hS1 whKs #[.string ⟨#[97, 110, 110]⟩, .string ⟨#[98, 101, 97]⟩, .string ⟨#[99, 105, 100]⟩] 9 3 rfl (by decide) (by decide) rfl (by omega)).mono ?_
        rintro e w2 ⟨rfl, hS2⟩
        have hzz := whKs_sz (smX_mem zs (r + 1) whKs (by decide))
        obtain ⟨z, hze⟩ : ∃ z, smX zs (r + 1) whKs = z := ⟨_, rfl⟩
        rw [hze] at hzz ⊢
        have HZE := Lib.hid hze
        clear hze
        clear hS1
        go_wp2_with fail
        refine (spx_pickL hS2 [0, 10, 20] #[.int .i64 0, .int .i64 10, .int .i64 20] 3 3 rfl (by decide) (by decide) rfl (by omega)).mono ?_
        rintro e w3 ⟨rfl, hS3⟩
        obtain ⟨hp0, hp1⟩ := pkX_bd zs (r + 1 + 1) [0, 10, 20] 0 20 (by decide) (by decide)
        obtain ⟨p, hpe⟩ : ∃ p, pkX zs (r + 1 + 1) [0, 10, 20] = p := ⟨_, rfl⟩
        rw [hpe] at hp0 hp1 ⊢
        have HPE := Lib.hid hpe
        clear hpe
        clear hS2
        go_wp2_with fail
        refine (spx_pickL hS3 [50, 100, 100, 200] #[.int .i64 50, .int .i64 100, .int .i64 100, .int .i64 200] 3 4 rfl (by decide) (by decide) rfl (by omega)).mono ?_
        rintro e w4 ⟨rfl, hS4⟩
        obtain ⟨hq0, hq1⟩ := pkX_bd zs (r + 1 + 1 + 1) [50, 100, 100, 200] 50 200 (by decide) (by decide)
        obtain ⟨q, hqe⟩ : ∃ q, pkX zs (r + 1 + 1 + 1) [50, 100, 100, 200] = q := ⟨_, rfl⟩
        rw [hqe] at hq0 hq1 ⊢
        have HQE := Lib.hid hqe
        clear hqe
        clear hS3
        have hS5 := (((((hS4.add #[.string s, .string z, .slice none 0 0, .int .i64 p, .int .i64 q] 64).add #[.string ⟨#[97, 110, 110]⟩, .string ⟨#[104, 97, 108]⟩, .string ⟨#[106, 111, 101]⟩] 9).front 1 rfl rfl).nil w.heap.size 9 1))
        simp only [size1] at hS5
        have hz4 := hS4.size
        clear hS4
        go_wp2_with fail
        go_loopw [34] (fun i wr => ∃ (j : Nat) (ha : Option Addr) (hc : Nat) (hh : List ByteArray), j ≤ 3 ∧ i = .int .i64 j ∧ hh.length ≤ j ∧ (∀ s ∈ hh, s.size ≤ 1000) ∧ Hid (hsX zs (r + 4) z j = hh) ∧ SpX zs w b (r + 4 + j) wr [rOwn w.heap.size 9 1 (.slice ha hh.length hc) hh.length (strsV hh), rBlk w4.heap.size 64 #[.string s, .string z, .slice ha hh.length hc, .int .i64 p, .int .i64 q], rBlk (w4.heap.size + 1) 9 #[.string ⟨#[97, 110, 110]⟩, .string ⟨#[104, 97, 108]⟩, .string ⟨#[106, 111, 101]⟩], rOwn w.heap.size 64 5 u5 xs.length (xs.flatMap sltC), rAll (hostR w.heap.size) xs, rBlk w.heap.size 9 #[.string ⟨#[115, 99]⟩, .string ⟨#[115, 97]⟩, .string ⟨#[115, 100]⟩, .string ⟨#[115, 98]⟩, .string ⟨#[115, 101]⟩]]) (fun i _ => 3 - (intOf i).toNat)
        case atStart => exact ⟨0, none, 0, [], by omega, rfl, by simp, (by intro x hx; cases hx), Lib.hid rfl, hS5⟩
        case round =>
          clear hS5
          obtain ⟨j, ha, hc, hh, hj3, rfl, hhj, hhz, HH, hS⟩ := hrel
          have hbx : Blk wr w4.heap.size 64 #[.string s, .string z, .slice ha hh.length hc, .int .i64 p, .int .i64 q] := hS.nth 1 rfl
          by_cases hjl : j < 3
          · obtain ⟨h, hcs, hhs, hhl⟩ := hsKs_at j hjl
            have HHL := Lib.hid hhl
            clear hhl
            have _hdrop := strLit_at (cs := #[.string ⟨#[97, 110, 110]⟩, .string ⟨#[104, 97, 108]⟩, .string ⟨#[106, 111, 101]⟩]) rfl j (by simp; omega)
            have hb3 : Blk wr (w4.heap.size + 1) 9 #[.string ⟨#[97, 110, 110]⟩, .string ⟨#[104, 97, 108]⟩, .string ⟨#[106, 111, 101]⟩] := hS.nth 2 rfl
            have c0 := (hb3.cell j).trans hcs
            have hj0 : (0 : Int) ≤ (j : Int) := by omega
            have hj5 : (j : Int) < 3 := by omega
            clear hcs hb3 hbx
            go_wp2_with fail
            refine (spx_flip hS 3 (by omega) (by omega) (by omega)).mono ?_
            rintro e w5 ⟨rfl, hS5⟩
            obtain ⟨fv2, hfv⟩ : ∃ fv, (nxX zs (r + 4 + j) 3 == 0) = fv := ⟨_, rfl⟩
            rw [hfv]
            have HFW := Lib.hid hfv
            clear hfv _hdrop
            clear c0 hS
            have hbx : Blk w5 w4.heap.size 64 #[.string s, .string z, .slice ha hh.length hc, .int .i64 p, .int .i64 q] := hS5.nth 1 rfl
            have d1 := hbx.cell 1
            have d2 := hbx.cell 2
            clear hbx
            cases fv2
            · have HH2 : Hid (hsX zs (r + 4) z (j + 1) = hh) := Lib.hid (hsX_no HHL.out HH.out (.inl HFW.out))
              go_wp2_with fail
              go_roundw
              case rel => exact ⟨j + 1, ha, hc, hh, by omega, by go_num, by omega, hhz, HH2, hS5⟩
              case measure => simp [intOf]; omega
            · obtain ⟨B, hB⟩ : ∃ B, (h.toList == z.toList) = B := ⟨_, rfl⟩
              have HBB := Lib.hid hB
              cases B
              · have HH2 : Hid (hsX zs (r + 4) z (j + 1) = hh ++ [h]) := Lib.hid (hsX_yes HHL.out HH.out HFW.out HBB.out)
                have hz5 := hS5.size
                have HO5 : w5.ownsRow w.heap.size 9 1 (.slice ha hh.length hc) hh.length (strsV hh) := hS5.head
                go_wp2_with (first
                  | (at_builtin; refine wpList_append_own_at _ rfl _ _ 57 rfl w.heap.size 9 j0 (.string ⟨#[]⟩) 1 16 Tryz.underlying57 hj hy0 hy1 hy2 rfl (by decide) _ _ _ rfl (HO5.alloc _) ⟨w5.heap.size, 0, none⟩ 1 1 [.string h] rfl rfl (World.news_of_block (heap_alloc_new _ _)) (one1 rfl) (by unfold maxLen; omega) (by omega) (by simp; omega) ?_; intro v' w8 hown' hgrow _ hblk; obtain ⟨A8, c8, hv8⟩ := own_form hown'; subst hv8; have hS8 := (hS5.alloc _).append hown' hgrow hblk; clear hown' hgrow hblk; have hbx8 : Blk w8 w4.heap.size 64 #[.string s, .string z, .slice ha hh.length hc, .int .i64 p, .int .i64 q] := hS8.nth 1 rfl; have e2 := hbx8.cell 2; have f2 := hbx8.frozen 2; have l8 := hbx8.lt))
                have hS9 := ((hS8.front 1 rfl rfl).set_ 2 (.slice A8 (hh.length + 1) c8)).front 1 rfl rfl
                go_roundw
                case rel => exact ⟨j + 1, A8, c8, hh ++ [h], by omega, by go_num, by simp; omega, (by intro y hy; rcases List.mem_append.1 hy with hy | hy; exact hhz y hy; simp at hy; subst hy; exact hhs), HH2, by rw [List.length_append]; unfold strsV; rw [List.map_append]; exact hS9⟩
                case measure => simp [intOf]; omega
              · have HH2 : Hid (hsX zs (r + 4) z (j + 1) = hh) := Lib.hid (hsX_no HHL.out HH.out (.inr HBB.out))
                go_wp2_with fail
                go_roundw
                case rel => exact ⟨j + 1, ha, hc, hh, by omega, by go_num, by omega, hhz, HH2, hS5⟩
                case measure => simp [intOf]; omega
          · obtain rfl : j = 3 := by omega
            have d0 := hbx.cell 0
            have d1 := hbx.cell 1
            have d2 := hbx.cell 2
            have d3 := hbx.cell 3
            have d4 := hbx.cell 4
            have hz5 := hS.size
            have hSf := hS.front 3 rfl rfl
            have HO5 : wr.ownsRow w.heap.size 64 5 u5 xs.length (xs.flatMap sltC) := hSf.head
            clear hbx hS
            go_wp2_with (first
              | (at_builtin; refine wpList_append_own_at _ rfl _ _ 49 rfl w.heap.size 64 i0 (.agg #[.string ⟨#[]⟩, .string ⟨#[]⟩, .slice none 0 0, .int .i64 0, .int .i64 0]) 5 72 Tryz.underlying49 hi hz0 hz1 hz2 rfl (by decide) _ _ _ rfl (HO5.alloc _) ⟨wr.heap.size, 0, none⟩ 1 1 [.string s, .string z, .slice ha hh.length hc, .int .i64 p, .int .i64 q] rfl rfl (World.news_of_block (heap_alloc_new _ _)) (one5 rfl rfl rfl rfl rfl) (by unfold maxLen; omega) (by omega) (by simp; omega) ?_; intro v' w8 hown' hgrow _ hblk; have hS8 := (hSf.alloc _).append hown' hgrow hblk; clear hown' hgrow hblk))
            have hS9 : SpX zs w b (r + 4 + 3) w8 [rOwn w.heap.size 64 5 v' (xs ++ [(⟨s, z, ha, hc, hh, p, q⟩ : Slt)]).length ((xs ++ [(⟨s, z, ha, hc, hh, p, q⟩ : Slt)]).flatMap sltC), rAll (hostR w.heap.size) (xs ++ [(⟨s, z, ha, hc, hh, p, q⟩ : Slt)]), rBlk w.heap.size 9 #[.string ⟨#[115, 99]⟩, .string ⟨#[115, 97]⟩, .string ⟨#[115, 100]⟩, .string ⟨#[115, 98]⟩, .string ⟨#[115, 101]⟩]] := by
              rw [flat_snoc, List.length_append]
              exact ((((((hS8.drop 3 rfl rfl).drop 2 rfl rfl).front 2 rfl rfl).front 2 rfl rfl).snoc (f := hostR w.heap.size) (a := ⟨s, z, ha, hc, hh, p, q⟩) (hostR_ok _))).front 1 rfl rfl
            go_roundw
            case rel => exact ⟨k + 1, r + 4 + 3, _, by omega, by go_num, by simp; omega, hz.snoc ⟨hss, hzz, hhz, hhj, (⟨by omega, by omega⟩ : -2199023255552 ≤ p ∧ p ≤ 2199023255552), (⟨by omega, by omega⟩ : -2199023255552 ≤ q ∧ q ≤ 2199023255552)⟩, by omega, Lib.hid (slX_yes HSL.out HP.out HFV.out HZE.out HPE.out HQE.out HH.out), hS9⟩
            case measure => simp [intOf]; omega
      · go_wp2_with fail
        go_roundw
        case rel => exact ⟨k + 1, r + 1, xs, by omega, by go_num, by omega, hz, by omega, Lib.hid (slX_no HP.out HFV.out), hS1⟩
        case measure => simp [intOf]; omega
    · obtain rfl : k = m := by omega
      go_wp2_with fail
      go_ret
      exact ⟨_, xs, r, rfl, hxk, hz, HP.out, hrk, hS.drop 2 rfl rfl⟩
end Go.Proofs.YthbcogekfdllmaaGreatDoor
