/-
  The stream's Versions to the letter. (Turned out of XVst.)
-/
import Derived.Test.YthbcogekfdllmaaGreatDoorZHld3
namespace Go.Proofs.YthbcogekfdllmaaGreatDoor
open Go Go.RowKit TxtP
attribute [local go_sem ↓] Go.wp_at_zero Go.wp_at_succ

def ctKs : List ByteArray := [⟨#[97, 110, 121]⟩, ⟨#[102, 97, 115, 116]⟩, ⟨#[102, 117, 108, 108]⟩]
theorem ctKs_at (k : Nat) (hk : k < 3) : ∃ s, (#[.string ⟨#[97, 110, 121]⟩, .string ⟨#[102, 97, 115, 116]⟩, .string ⟨#[102, 117, 108, 108]⟩] : Array Value)[k]? = some (.string s) ∧ s.size ≤ 1000 ∧ ctKs[k]? = some s := by
  rcases (show k = 0 ∨ k = 1 ∨ k = 2 by omega) with rfl | rfl | rfl <;> exact ⟨_, rfl, by decide, rfl⟩
theorem ct3_sz {c : ByteArray} (h : c.size ≤ 1000) : ∀ x ∈ [c, ⟨#[]⟩, ⟨#[97, 110, 121]⟩], x.size ≤ 1000 := by
  intro x hx
  simp only [List.mem_cons, List.not_mem_nil, or_false] at hx
  rcases hx with rfl | rfl | rfl
  · exact h
  · decide
  · decide
def dsX : List Int := [1, 40, 50]
def r3X : List ByteArray := [⟨#[97, 32, 61]⟩, ⟨#[116, 114, 117, 101]⟩, ⟨#[]⟩]
def vAx (zs : ZsT) : Bool → Nat → Nat × Bool
  | true, r => (r, false)
  | false, r => (r + 1, nxX zs r 3 == 0)
def vRx : Bool → ByteArray → ByteArray
  | true, _ => ⟨#[]⟩
  | false, r => r
def vBx (zs : ZsT) : Bool → Nat → Nat × Bool
  | false, r => (r, false)
  | true, r => (r + 1, !(nxX zs r 12 == 0))
def vCx (zs : ZsT) (c : ByteArray) (r : Nat) (a : Int) (r2 : ByteArray) : Bool → Nat × Vr
  | false => (r + 1, ⟨c, a, r2⟩)
  | true => (r + 1 + 1 + 2 + 1, ⟨smX zs (r + 1) [c, ⟨#[]⟩, ⟨#[97, 110, 121]⟩], oddX zs (r + 1 + 1) 0 100, smX zs (r + 1 + 1 + 2) r3X⟩)
/-- in the middle of a category: where the stream stands, the date, the last rule, what stands -/
structure VsS where
  p : Nat
  a : Int
  ls : ByteArray
  ys : List Vr
def vEnd (zs : ZsT) (s : VsS) (r2 : ByteArray) (C : Nat × Vr) : VsS := ⟨C.1 + 1, s.a + pkX zs C.1 dsX, r2, s.ys ++ [C.2]⟩
def vTh (zs : ZsT) (c : ByteArray) (s : VsS) (r2 : ByteArray) (B : Nat × Bool) : VsS := match B.2 with
  | true => ⟨B.1, s.a, s.ls, s.ys⟩
  | false => vEnd zs s r2 (vCx zs c B.1 s.a r2 (nxX zs B.1 50 == 0))
def vTw (zs : ZsT) (c : ByteArray) (s : VsS) (r : ByteArray) (A : Nat × Bool) : VsS := vTh zs c s (vRx A.2 r) (vBx zs ((vRx A.2 r).toList == s.ls.toList) A.1)
def vStep (zs : ZsT) (c : ByteArray) (s : VsS) : VsS := vTw zs c s (ruX zs 2 s.p).2 (vAx zs s.ls.toList.isEmpty (ruX zs 2 s.p).1)
section
variable {zs : ZsT} {c ls r r2 : ByteArray} {p r0 r1 r3 r4 : Nat} {a d : Int} {ys : List Vr} {E fb EQ : Bool} {v : Vr}
theorem vStep_no (h0 : ruX zs 2 p = (r0, r)) (hE : ls.toList.isEmpty = E) (hA : vAx zs E r0 = (r1, fb)) (h2 : vRx fb r = r2) (hQ : (r2.toList == ls.toList) = EQ) (hB : vBx zs EQ r1 = (r3, true)) : vStep zs c ⟨p, a, ls, ys⟩ = ⟨r3, a, ls, ys⟩ := by
  unfold vStep
  simp only [h0, hE, hA]
  unfold vTw
  simp only [h2, hQ, hB]
  rfl
theorem vStep_yes (h0 : ruX zs 2 p = (r0, r)) (hE : ls.toList.isEmpty = E) (hA : vAx zs E r0 = (r1, fb)) (h2 : vRx fb r = r2) (hQ : (r2.toList == ls.toList) = EQ) (hB : vBx zs EQ r1 = (r3, false)) (hC : vCx zs c r3 a r2 (nxX zs r3 50 == 0) = (r4, v)) (hd : pkX zs r4 dsX = d) : vStep zs c ⟨p, a, ls, ys⟩ = ⟨r4 + 1, a + d, r2, ys ++ [v]⟩ := by
  unfold vStep
  simp only [h0, hE, hA]
  unfold vTw
  simp only [h2, hQ, hB]
  unfold vTh
  simp only [hC]
  unfold vEnd
  simp only [hd]
end
/-- after j rounds of a category -/
def vIn (zs : ZsT) (c : ByteArray) (s : VsS) : Nat → VsS
  | 0 => s
  | j + 1 => vStep zs c (vIn zs c s j)
theorem vIn_step {zs : ZsT} {c : ByteArray} {s s2 s3 : VsS} {j : Nat} (h : vIn zs c s j = s2) (h2 : vStep zs c s2 = s3) : vIn zs c s (j + 1) = s3 := by rw [vIn, h, h2]
def vSt (zs : ZsT) (r : Nat) (ys : List Vr) : VsS := ⟨r + 1 + 1, pkX zs r [0, 10], ⟨#[]⟩, ys⟩
def vNm (zs : ZsT) (r : Nat) : Nat := (0 + nxX zs (r + 1) (3 - 0 + 1)).toNat
/-- after k categories -/
def vsX (zs : ZsT) (p : Nat) : Nat → Nat × List Vr
  | 0 => (p, [])
  | k + 1 => ((vIn zs (ctKs[k]?.getD ⟨#[]⟩) (vSt zs (vsX zs p k).1 (vsX zs p k).2) (vNm zs (vsX zs p k).1)).p, (vIn zs (ctKs[k]?.getD ⟨#[]⟩) (vSt zs (vsX zs p k).1 (vsX zs p k).2) (vNm zs (vsX zs p k).1)).ys)
theorem vsX_step {zs : ZsT} {p k r q : Nat} {c : ByteArray} {xs : List Vr} {s : VsS} (hc : ctKs[k]? = some c) (h : vsX zs p k = (r, xs)) (hq : 0 + nxX zs (r + 1) (3 - 0 + 1) = (q : Int)) (hi : vIn zs c (vSt zs r xs) q = s) : vsX zs p (k + 1) = (s.p, s.ys) := by
  have hn : vNm zs r = q := by unfold vNm; rw [hq]; rfl
  rw [vsX, h, hc]
  show ((vIn zs c (vSt zs r xs) (vNm zs r)).p, (vIn zs c (vSt zs r xs) (vNm zs r)).ys) = _
  rw [hn, hi]
/-- versions in new memory, drawn, to the letter -/
def VersX (zs : ZsT) (b p m : Nat) (w : World) (e : Ending) (w' : World) : Prop :=
  ∃ (v : Value) (vs : List Vr) (r : Nat), e = .returned v ∧ vs.length ≤ m ∧ VrZs vs ∧ vsX zs p 3 = (r, vs) ∧ r ≤ p + 600 ∧ SpX zs w b r w' [rOwn w.heap.size 106 3 v vs.length (vs.flatMap vrC)]
set_option maxRecDepth 100000 in
set_option maxHeartbeats 4000000 in
theorem versionsX_calls (b p : Nat) (zs : ZsT) (w : World) (hs : StrmX w b zs p) (hK : p ≤ 800000) :
    Calls Tryz.prog 36 #[.pointer (some ⟨b, 0, none⟩)] w (VersX zs b p 9 w) := by
  obtain ⟨i0, hi, hz0, hz1, hz2⟩ := info_parts info_vr
  have hS0 := (((SpX.start hs).add #[.string ⟨#[97, 110, 121]⟩, .string ⟨#[102, 97, 115, 116]⟩, .string ⟨#[102, 117, 108, 108]⟩] 9).nil w.heap.size 106 3)
  have HRR : Hid (∀ p w, StrmX w b zs p → p ≤ 890000 → Calls Tryz.prog 86 #[.pointer (some ⟨b, 0, none⟩), .int .i64 2] w (fun e w' => ∃ (s : ByteArray) (r : Nat), e = .returned (.string s) ∧ Hid (ruX zs 2 p = (r, s)) ∧ s.size ≤ 304 ∧ r ≤ p + 43 ∧ SpX zs w b r w' [])) := Lib.hid (fun p w h h2 => rightRuleX_calls zs 2 (by omega) b p w h (by have : ruK 2 = 43 := rfl; omega))
  clear hs
  go_enter Tryz.func36, Tryz.ntmps36
  go_wp2_with fail
  go_loopw [3, 11] (fun v i wr => ∃ (k r : Nat) (xs : List Vr), k ≤ 3 ∧ i = .int .i64 k ∧ xs.length ≤ 3 * k ∧ VrZs xs ∧ Hid (vsX zs p k = (r, xs)) ∧ r ≤ p + 200 * k ∧ SpX zs w b r wr [rOwn w.heap.size 106 3 v xs.length (xs.flatMap vrC), rBlk w.heap.size 9 #[.string ⟨#[97, 110, 121]⟩, .string ⟨#[102, 97, 115, 116]⟩, .string ⟨#[102, 117, 108, 108]⟩]]) (fun _ i _ => 3 - (intOf i).toNat)
  case atStart => exact ⟨0, p, [], Nat.zero_le _, rfl, Nat.le_refl _, (by intro x hx; cases hx), Lib.hid rfl, by omega, hS0⟩
  case round =>
    clear hS0
    obtain ⟨k, rk, xs, hk, rfl, hxk, hz, HP, hrk, hS⟩ := hrel
    by_cases hlt : k < 3
    · obtain ⟨s, hcs, hss, hsl⟩ := ctKs_at k hlt
      have HSL := Lib.hid hsl
      clear hsl
      have hb5 : Blk wr w.heap.size 9 #[.string ⟨#[97, 110, 121]⟩, .string ⟨#[102, 97, 115, 116]⟩, .string ⟨#[102, 117, 108, 108]⟩] := hS.nth 1 rfl
      have c0 := (hb5.cell k).trans hcs
      have hk0 : (0 : Int) ≤ (k : Int) := by omega
      have hk5 : (k : Int) < 3 := by omega
      clear hcs hb5
      go_wp2_with fail
      refine (spE_pickL hS [0, 10] 0 10 #[.int .i64 0, .int .i64 10] 3 2 rfl (by decide) (by decide) rfl (by decide) (by decide) (by omega)).mono ?_
      rintro e w1 ⟨a0, rfl, HA0, ha0, ha1, hS1⟩
      clear c0 hS
      go_wp2_with fail
      refine (spE_range hS1 0 3 (by omega) (by omega) (by omega) (by omega)).mono ?_
      rintro e w2 ⟨q0, rfl, HQ0, hq0, hq1, hS2⟩
      obtain ⟨q, rfl⟩ := Int.eq_ofNat_of_zero_le hq0
      have HST : Hid (vSt zs rk xs = ⟨rk + 1 + 1, a0, ⟨#[]⟩, xs⟩) := Lib.hid (by unfold vSt; rw [HA0.out])
      clear hS1
      go_wp2_with fail
      go_loopw [3, 6, 7, 20] (fun v at' last i wr => ∃ (j r : Nat) (ys : List Vr) (a : Int) (ls : ByteArray), j ≤ q ∧ at' = .int .i64 a ∧ last = .string ls ∧ i = .int .i64 j ∧ 0 ≤ a ∧ a ≤ 10 + 50 * (j : Int) ∧ ls.size ≤ 1000 ∧ ys.length ≤ 3 * k + j ∧ VrZs ys ∧ Hid (vIn zs s (vSt zs rk xs) j = ⟨r, a, ls, ys⟩) ∧ r ≤ p + 200 * k + 2 + 60 * j ∧ SpX zs w b r wr [rOwn w.heap.size 106 3 v ys.length (ys.flatMap vrC), rBlk w.heap.size 9 #[.string ⟨#[97, 110, 121]⟩, .string ⟨#[102, 97, 115, 116]⟩, .string ⟨#[102, 117, 108, 108]⟩]]) (fun _ _ _ i _ => q - (intOf i).toNat)
      case atStart => exact ⟨0, rk + 1 + 1, xs, a0, ⟨#[]⟩, Nat.zero_le _, rfl, rfl, rfl, ha0, by omega, Nat.zero_le _, by omega, hz, Lib.hid HST.out, by omega, hS2⟩
      case round =>
        clear hS2 hz
        obtain ⟨j, rj, ys, a, ls, hj, rfl, rfl, rfl, hal, hau, hls, hyl, hyz, HJ, hrj, hS⟩ := hrel
        by_cases hjt : j < q
        · have hKK : rj ≤ 890000 := by omega
          go_upto_region 9 with (first | (go_at_call 86; refine (HRR.out _ _ hS.strm hKK).mono ?_; rintro e w3 ⟨r, r0, rfl, HR0, hrz, hr0, hR⟩; have hS3 := (hS.call hR.strm hR.bx).add #[.string s, .int .i64 a, .string r] 106))
          clear hKK
          clear hR hS
          obtain ⟨H, hH⟩ : ∃ H, w3.heap.size = H := ⟨_, rfl⟩
          obtain ⟨W3, hW3⟩ : ∃ W, w3.alloc (.cells #[.string s, .int .i64 a, .string r] 106) = W := ⟨_, rfl⟩
          rw [hH, hW3] at hS3
          rw [hH, hW3]
          clear hH hW3
          obtain ⟨LE, hLE⟩ : ∃ z, ls.toList.isEmpty = z := ⟨_, rfl⟩
          have HLE := Lib.hid hLE
          clear hLE
          go_cut [32] (fun s32 V => ∃ (fb : Bool) (r1 : Nat), s32 = .bool fb ∧ Hid (vAx zs LE r0 = (r1, fb)) ∧ r1 ≤ r0 + 1 ∧ SpX zs w b r1 V [rBlk H 106 #[.string s, .int .i64 a, .string r], rOwn w.heap.size 106 3 u3 ys.length (ys.flatMap vrC), rBlk w.heap.size 9 #[.string ⟨#[97, 110, 121]⟩, .string ⟨#[102, 97, 115, 116]⟩, .string ⟨#[102, 117, 108, 108]⟩]])
          case first =>
            cases LE
            · have hle := HLE.out
              have hne : ¬ ls.toList = [] := by intro e; rw [e] at hle; cases hle
              go_wp2_with fail
              refine (spE_flip hS3 3 (by omega) (by omega) (by omega)).mono ?_
              rintro e w4 ⟨fv, rfl, HFV, hS4⟩
              go_wp2_with fail
              go_meet
              exact ⟨fv, _, rfl, Lib.hid (show (r0 + 1, nxX zs r0 3 == 0) = (r0 + 1, fv) by rw [HFV.out]), Nat.le_refl _, hS4⟩
            · have hee : ls.toList = [] := List.isEmpty_iff.1 HLE.out
              go_wp2_with fail
              go_meet
              exact ⟨false, r0, rfl, Lib.hid rfl, by omega, hS3⟩
          obtain ⟨fb, r1, rfl, HA1, hr1, hS4⟩ := hcut
          clear hS3
          go_upto_if 32 with (fail)
          go_cut [] (fun V => ∃ r2 : ByteArray, r2.size ≤ 304 ∧ Hid (vRx fb r = r2) ∧ SpX zs w b r1 V [rBlk H 106 #[.string s, .int .i64 a, .string r2], rOwn w.heap.size 106 3 u3 ys.length (ys.flatMap vrC), rBlk w.heap.size 9 #[.string ⟨#[97, 110, 121]⟩, .string ⟨#[102, 97, 115, 116]⟩, .string ⟨#[102, 117, 108, 108]⟩]])
          case first =>
            cases fb
            · go_wp2_with fail
              go_meet
              exact ⟨r, hrz, Lib.hid rfl, hS4⟩
            · have hkb : Blk _ H _ _ := hS4.head
              have z2 := hkb.cell 2
              have f2 := hkb.frozen 2
              have hS5 := hS4.set_ 2 (.string ⟨#[]⟩)
              go_wp2_with fail
              go_meet
              exact ⟨⟨#[]⟩, Nat.zero_le _, Lib.hid rfl, hS5⟩
          obtain ⟨r2, hrz2, HR2, hS5⟩ := hcut
          clear hS4 hrz
          have hkb : Blk _ H _ _ := hS5.head
          have z2 := hkb.cell 2
          obtain ⟨EQ, hEQ⟩ : ∃ z, (r2.toList == ls.toList) = z := ⟨_, rfl⟩
          have HEQ := Lib.hid hEQ
          go_upto_region 11 with (fail)
          go_cut [42] (fun s42 V => ∃ (fb : Bool) (r3 : Nat), s42 = .bool fb ∧ Hid (vBx zs EQ r1 = (r3, fb)) ∧ r3 ≤ r1 + 1 ∧ SpX zs w b r3 V [rBlk H 106 #[.string s, .int .i64 a, .string r2], rOwn w.heap.size 106 3 u3 ys.length (ys.flatMap vrC), rBlk w.heap.size 9 #[.string ⟨#[97, 110, 121]⟩, .string ⟨#[102, 97, 115, 116]⟩, .string ⟨#[102, 117, 108, 108]⟩]])
          case first =>
            cases EQ
            · go_wp2_with fail
              go_meet
              exact ⟨false, r1, rfl, Lib.hid rfl, by omega, hS5⟩
            · go_wp2_with fail
              refine (spE_flip hS5 12 (by omega) (by omega) (by omega)).mono ?_
              rintro e w4 ⟨fv, rfl, HFV, hS6⟩
              go_wp2_with fail
              go_meet
              exact ⟨!fv, _, rfl, Lib.hid (show (r1 + 1, !(nxX zs r1 12 == 0)) = (r1 + 1, !fv) by rw [HFV.out]), Nat.le_refl _, hS6⟩
          obtain ⟨fb2, r3, rfl, HB3, hr3, hS6⟩ := hcut
          clear hS5 hkb z2 hEQ
          cases fb2
          · have hkb : Blk _ H _ _ := hS6.head
            have z2 := hkb.cell 2
            go_upto_if 46 with (first | (refine (spE_flip hS6 50 (by omega) (by omega) (by omega)).mono ?_; rintro e w7 ⟨fv, rfl, HF50, hS7⟩))
            clear hkb z2 hS6
            go_cut [] (fun V => ∃ (c3 : ByteArray) (a3 : Int) (t3 : ByteArray) (r4 : Nat), c3.size ≤ 1000 ∧ t3.size ≤ 1000 ∧ Hid (vCx zs s r3 a r2 fv = (r4, ⟨c3, a3, t3⟩)) ∧ r4 ≤ r3 + 5 ∧ SpX zs w b r4 V [rBlk H 106 #[.string c3, .int .i64 a3, .string t3], rOwn w.heap.size 106 3 u3 ys.length (ys.flatMap vrC), rBlk w.heap.size 9 #[.string ⟨#[97, 110, 121]⟩, .string ⟨#[102, 97, 115, 116]⟩, .string ⟨#[102, 117, 108, 108]⟩]])
            case first =>
              cases fv
              · go_wp2_with fail
                go_meet
                exact ⟨s, a, r2, _, hss, by omega, Lib.hid rfl, by omega, hS7⟩
              · go_wp2_with fail
                refine (spE_someLN 1000 hS7 [s, ⟨#[]⟩, ⟨#[97, 110, 121]⟩] #[.string s, .string ⟨#[]⟩, .string ⟨#[97, 110, 121]⟩] 9 3 rfl (by decide) (by decide) rfl (ct3_sz hss) (by omega)).mono ?_
                rintro e w8 ⟨c3, rfl, HC3, hc3, hS8⟩
                clear hS7
                go_wp2_with fail
                refine (spE_odd hS8 0 100 (by omega) (by omega) (by omega) (by omega)).mono ?_
                rintro e w9 ⟨a3, rfl, HA3, p0, p1, hS9⟩
                clear hS8
                go_wp2_with fail
                refine (spE_someLN 1000 hS9 r3X #[.string ⟨#[97, 32, 61]⟩, .string ⟨#[116, 114, 117, 101]⟩, .string ⟨#[]⟩] 9 3 rfl (by decide) (by decide) rfl (by decide) (by omega)).mono ?_
                rintro e w10 ⟨t3, rfl, HT3, ht3, hS10⟩
                clear hS9
                have hkb : Blk _ H _ _ := hS10.head
                have z0 := hkb.cell 0
                have z1 := hkb.cell 1
                have z2 := hkb.cell 2
                have f0 := hkb.frozen 0
                have f1 := hkb.frozen 1
                have f2 := hkb.frozen 2
                have hS11 := ((hS10.set_ 0 (.string c3)).set_ 1 (.int .i64 a3)).set_ 2 (.string t3)
                go_wp2_with fail
                go_meet
                exact ⟨c3, a3, t3, _, hc3, ht3, Lib.hid (show (r3 + 1 + 1 + 2 + 1, (⟨smX zs (r3 + 1) [s, ⟨#[]⟩, ⟨#[97, 110, 121]⟩], oddX zs (r3 + 1 + 1) 0 100, smX zs (r3 + 1 + 1 + 2) r3X⟩ : Vr)) = (r3 + 1 + 1 + 2 + 1, ⟨c3, a3, t3⟩) by rw [HC3.out, HA3.out, HT3.out]), by omega, hS11⟩
            obtain ⟨c3, a3, t3, r4, hc3, ht3, HC4, hr4, hS8⟩ := hcut
            rw [← HF50.out] at HC4
            clear hS7
            have hkb : Blk _ H _ _ := hS8.head
            have z0 := hkb.cell 0
            have z1 := hkb.cell 1
            have z2 := hkb.cell 2
            have hSf := hS8.front 1 rfl rfl
            have hz5 := hSf.size
            have HO5 : wc.ownsRow w.heap.size 106 3 u3 ys.length (ys.flatMap vrC) := hSf.head
            clear hS8 hkb
            go_wp2_with (first
              | (at_builtin; refine wpList_append_own_at _ rfl _ _ 91 rfl w.heap.size 106 i0 (.agg #[.string ⟨#[]⟩, .int .i64 0, .string ⟨#[]⟩]) 3 40 Tryz.underlying91 hi hz0 hz1 hz2 rfl (by decide) _ _ _ rfl (HO5.alloc _) ⟨wc.heap.size, 0, none⟩ 1 1 [.string c3, .int .i64 a3, .string t3] rfl rfl (World.news_of_block (heap_alloc_new _ _)) (one3v rfl rfl rfl) (by unfold maxLen; omega) (by omega) (by simp; omega) ?_; intro v' w11 hown' hgrow _ hblk; have hS9 := (hSf.alloc _).append hown' hgrow hblk; clear hown' hgrow hblk))
            have hS10 : SpX zs w b r4 w11 [rOwn w.heap.size 106 3 v' (ys ++ [(⟨c3, a3, t3⟩ : Vr)]).length ((ys ++ [(⟨c3, a3, t3⟩ : Vr)]).flatMap vrC), rBlk H 106 #[.string c3, .int .i64 a3, .string t3], rBlk w.heap.size 9 #[.string ⟨#[97, 110, 121]⟩, .string ⟨#[102, 97, 115, 116]⟩, .string ⟨#[102, 117, 108, 108]⟩]] := by
              rw [vr_snoc, List.length_append]; exact hS9
            clear hS9 hSf HO5 z0 z1 z2
            refine (spE_pickL hS10 dsX 1 50 #[.int .i64 1, .int .i64 40, .int .i64 50] 3 3 rfl (by decide) (by decide) rfl (by decide) (by decide) (by omega)).mono ?_
            rintro e w12 ⟨d, rfl, HD, hd0, hd1, hS11⟩
            clear hS10
            go_wp2_with fail
            go_roundw
            case rel => exact ⟨j + 1, r4 + 1, _, a + d, r2, by omega, rfl, rfl, by go_num, by omega, by omega, by omega, by simp; omega, hyz.snoc ⟨hc3, ht3⟩, Lib.hid (vIn_step HJ.out (vStep_yes HR0.out HLE.out HA1.out HR2.out HEQ.out HB3.out HC4.out HD.out)), by omega, hS11.drop 1 rfl rfl⟩
            case measure => simp [intOf]; omega
          · go_wp2_with fail
            go_roundw
            case rel => exact ⟨j + 1, r3, ys, a, ls, by omega, rfl, rfl, by go_num, hal, by omega, hls, by omega, hyz, Lib.hid (vIn_step HJ.out (vStep_no HR0.out HLE.out HA1.out HR2.out HEQ.out HB3.out)), by omega, hS6.drop 0 rfl rfl⟩
            case measure => simp [intOf]; omega
        · obtain rfl : j = q := by omega
          go_wp2_with fail
          go_roundw
          case rel => exact ⟨k + 1, rj, ys, by omega, by go_num, by omega, hyz, Lib.hid (vsX_step HSL.out HP.out HQ0.out HJ.out), by omega, hS⟩
          case measure => simp [intOf]; omega
    · obtain rfl : k = 3 := by omega
      go_wp2_with fail
      go_ret
      exact ⟨_, xs, rk, rfl, by omega, hz, HP.out, by omega, hS.drop 1 rfl rfl⟩
end Go.Proofs.YthbcogekfdllmaaGreatDoor
