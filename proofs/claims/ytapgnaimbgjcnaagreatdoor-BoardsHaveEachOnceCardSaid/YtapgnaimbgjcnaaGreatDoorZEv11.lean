/-
  The stream's Events to the letter. (Printed by gen_ev11.py.)
-/
import Derived.Test.YtapgnaimbgjcnaaGreatDoorZTk
import Derived.Test.YtapgnaimbgjcnaaGreatDoorZSortEv
import Derived.Test.YtapgnaimbgjcnaaGreatDoorZStrX
import Derived.Deep.RegionHeld3
import Derived.Deep.DeepCutAuto
import Derived.Deep.CutBlock
namespace Go.Proofs.YtapgnaimbgjcnaaGreatDoor
open Go Go.RowKit
attribute [local go_sem ↓] Go.wp_at_zero Go.wp_at_succ
theorem info_bev : (Tryz.prog.info? 78).map (fun i => (i.zero, i.size, i.bytes)) = some (some (.agg #[.int .i64 0, .int .i64 0, .string ⟨#[]⟩, .string ⟨#[]⟩, .string ⟨#[]⟩, .string ⟨#[]⟩, .int .i64 0, .int .i64 0]), 8, 96) := by kernel_rfl
def idsX : List ByteArray := [⟨#[114, 97]⟩, ⟨#[114, 98]⟩, ⟨#[114, 99]⟩, ⟨#[114, 100]⟩, ⟨#[114, 101]⟩, ⟨#[114, 102]⟩]
def whsX : List ByteArray := [⟨#[97, 110, 110]⟩, ⟨#[98, 101, 97]⟩, ⟨#[99, 105, 100]⟩]
def bysX : List ByteArray := [⟨#[109, 111, 100]⟩, ⟨#[109, 111, 100]⟩, ⟨#[106, 111, 101]⟩, ⟨#[97, 110, 110]⟩]
def ctsX : List ByteArray := [⟨#[97, 110, 121]⟩, ⟨#[97, 110, 121]⟩, ⟨#[102, 97, 115, 116]⟩]
def kdsX : List Int := [1, 1, 1, 2, 2, 2, 3, 4, 5, 6]
def atsX : List Int := [0, 1, 5]
def tmsX : List Int := [90, 95, 95, 100]
theorem l3_sz {x : ByteArray} (h : x.size ≤ 1000) : ∀ y ∈ [⟨#[]⟩, ⟨#[65]⟩, x], y.size ≤ 1000 := by
 intro y hy
 simp only [List.mem_cons, List.not_mem_nil, or_false] at hy
 rcases hy with rfl | rfl | rfl
 · decide
 · decide
 · exact h
theorem l2_sz {x z : ByteArray} (hz : z.size ≤ 1000) (h : x.size ≤ 1000) : ∀ y ∈ [z, x], y.size ≤ 1000 := by
 intro y hy
 simp only [List.mem_cons, List.not_mem_nil, or_false] at hy
 rcases hy with rfl | rfl
 · exact hz
 · exact h
structure EvZf (i w b c : ByteArray) : Prop where
 i : i.size ≤ 1000
 w : w.size ≤ 1000
 b : b.size ≤ 1000
 c : c.size ≤ 1000
def EvZ (x : Bev) : Prop := EvZf x.id x.who x.by_ x.cat
def EvZs (xs : List Bev) : Prop := ∀ x ∈ xs, EvZ x
theorem EvZs.snoc {xs : List Bev} {x : Bev} (h : EvZs xs) (hx : EvZ x) : EvZs (xs ++ [x]) := by
 intro y hy
 rcases List.mem_append.1 hy with hy | hy
 · exact h y hy
 · simp at hy; subst hy; exact hx
theorem bev_snoc (xs : List Bev) (x : Bev) : (xs ++ [x]).flatMap bevC = xs.flatMap bevC ++ bevC x := by rw [List.flatMap_append]; simp
theorem one8e {a b c d e f g h : Value} (h1 : a.oneCell' = true) (h2 : b.oneCell' = true) (h3 : c.oneCell' = true) (h4 : d.oneCell' = true) (h5 : e.oneCell' = true) (h6 : f.oneCell' = true) (h7 : g.oneCell' = true) (h8 : h.oneCell' = true) : ∀ u ∈ [a, b, c, d, e, f, g, h], u.oneCell' = true := by
 intro u hu
 simp only [List.mem_cons, List.not_mem_nil, or_false] at hu
 rcases hu with rfl | rfl | rfl | rfl | rfl | rfl | rfl | rfl <;> assumption
def ev0X (zs : ZsT) (p : Nat) (a kd : Int) (i w b : ByteArray) : Nat × Bev :=
 if kd = 1 then (p + 1 + 1 + 1, ⟨a, kd, i, w, noBev, smX zs p ctsX, pkX zs (p + 1) tmsX, 0 + nxX zs (p + 1 + 1) (10 - 0 + 1)⟩)
 else if kd = 2 ∨ kd = 3 then (p, ⟨a, kd, i, noBev, b, noBev, 0, 0⟩)
 else if kd = 4 then (p, ⟨a, kd, i, w, noBev, noBev, 0, 0⟩)
 else (p, ⟨a, kd, noBev, w, b, noBev, 0, 0⟩)
def ev1X (zs : ZsT) (r : Nat) (x : Bev) : Nat × Bev :=
 if (nxX zs r 100 == 0) = true then
  if nxX zs (r + 1) 4 = 0 then (r + 1 + 1 + 2 + 2, ⟨oddX zs (r + 1 + 1) 0 50, oddX zs (r + 1 + 1 + 2) 1 6, x.id, x.who, x.by_, x.cat, x.time, x.date⟩)
  else if nxX zs (r + 1) 4 = 1 then (r + 1 + 1 + 1 + 1, ⟨x.at_, x.kind, smX zs (r + 1 + 1) [⟨#[]⟩, ⟨#[65]⟩, x.id], smX zs (r + 1 + 1 + 1) [⟨#[]⟩, x.who], x.by_, x.cat, x.time, x.date⟩)
  else if nxX zs (r + 1) 4 = 2 then (r + 1 + 1 + 1 + 1, ⟨x.at_, x.kind, x.id, x.who, smX zs (r + 1 + 1) [⟨#[]⟩, x.by_], smX zs (r + 1 + 1 + 1) [⟨#[65]⟩, x.cat], x.time, x.date⟩)
  else (r + 1 + 1 + 2 + 2, ⟨x.at_, x.kind, x.id, x.who, x.by_, x.cat, oddX zs (r + 1 + 1) 1 100, oddX zs (r + 1 + 1 + 2) 0 20⟩)
 else (r + 1, x)
section
variable {zs : ZsT} {p r : Nat} {a kd t1 d1 t d : Int} {i1 w1 b1 c1 s1 s2 : ByteArray}
theorem ev0X_1 (h1 : smX zs p ctsX = c1) (h2 : pkX zs (p + 1) tmsX = t1) (h3 : 0 + nxX zs (p + 1 + 1) (10 - 0 + 1) = d1) : ev0X zs p a 1 i1 w1 b1 = (p + 1 + 1 + 1, ⟨a, 1, i1, w1, ⟨#[]⟩, c1, t1, d1⟩) := by
 unfold ev0X
 rw [if_pos rfl, h1, h2, h3]
 rfl
theorem ev0X_2 : ev0X zs p a 2 i1 w1 b1 = (p, ⟨a, 2, i1, ⟨#[]⟩, b1, ⟨#[]⟩, 0, 0⟩) := rfl
theorem ev0X_3 : ev0X zs p a 3 i1 w1 b1 = (p, ⟨a, 3, i1, ⟨#[]⟩, b1, ⟨#[]⟩, 0, 0⟩) := rfl
theorem ev0X_4 : ev0X zs p a 4 i1 w1 b1 = (p, ⟨a, 4, i1, w1, ⟨#[]⟩, ⟨#[]⟩, 0, 0⟩) := rfl
theorem ev0X_5 : ev0X zs p a 5 i1 w1 b1 = (p, ⟨a, 5, ⟨#[]⟩, w1, b1, ⟨#[]⟩, 0, 0⟩) := rfl
theorem ev0X_6 : ev0X zs p a 6 i1 w1 b1 = (p, ⟨a, 6, ⟨#[]⟩, w1, b1, ⟨#[]⟩, 0, 0⟩) := rfl
theorem ev1X_no {x : Bev} (h : (nxX zs r 100 == 0) = false) : ev1X zs r x = (r + 1, x) := by unfold ev1X; rw [if_neg (by rw [h]; decide)]
theorem ev1X_0 (h : (nxX zs r 100 == 0) = true) (hq : nxX zs (r + 1) 4 = 0) (h1 : oddX zs (r + 1 + 1) 0 50 = t) (h2 : oddX zs (r + 1 + 1 + 2) 1 6 = d) : ev1X zs r ⟨a, kd, i1, w1, b1, c1, t1, d1⟩ = (r + 1 + 1 + 2 + 2, ⟨t, d, i1, w1, b1, c1, t1, d1⟩) := by
 unfold ev1X
 simp only [h, hq, h1, h2]
 rfl
theorem ev1X_1 (h : (nxX zs r 100 == 0) = true) (hq : nxX zs (r + 1) 4 = 1) (h1 : smX zs (r + 1 + 1) [⟨#[]⟩, ⟨#[65]⟩, i1] = s1) (h2 : smX zs (r + 1 + 1 + 1) [⟨#[]⟩, w1] = s2) : ev1X zs r ⟨a, kd, i1, w1, b1, c1, t1, d1⟩ = (r + 1 + 1 + 1 + 1, ⟨a, kd, s1, s2, b1, c1, t1, d1⟩) := by
 unfold ev1X
 simp only [h, hq, h1, h2]
 rfl
theorem ev1X_2 (h : (nxX zs r 100 == 0) = true) (hq : nxX zs (r + 1) 4 = 2) (h1 : smX zs (r + 1 + 1) [⟨#[]⟩, b1] = s1) (h2 : smX zs (r + 1 + 1 + 1) [⟨#[65]⟩, c1] = s2) : ev1X zs r ⟨a, kd, i1, w1, b1, c1, t1, d1⟩ = (r + 1 + 1 + 1 + 1, ⟨a, kd, i1, w1, s1, s2, t1, d1⟩) := by
 unfold ev1X
 simp only [h, hq, h1, h2]
 rfl
theorem ev1X_3 (h : (nxX zs r 100 == 0) = true) (hq : nxX zs (r + 1) 4 = 3) (h1 : oddX zs (r + 1 + 1) 1 100 = t) (h2 : oddX zs (r + 1 + 1 + 2) 0 20 = d) : ev1X zs r ⟨a, kd, i1, w1, b1, c1, t1, d1⟩ = (r + 1 + 1 + 2 + 2, ⟨a, kd, i1, w1, b1, c1, t, d⟩) := by
 unfold ev1X
 simp only [h, hq, h1, h2]
 rfl
end
def evRX (zs : ZsT) (r : Nat) (a : Int) : Nat × Bev :=
 ev1X zs (ev0X zs (r + 1 + 1 + 1 + 1 + 1) (a + pkX zs r atsX) (pkX zs (r + 1 + 1 + 1 + 1) kdsX) (smX zs (r + 1) idsX) (smX zs (r + 1 + 1) whsX) (smX zs (r + 1 + 1 + 1) bysX)).1
  (ev0X zs (r + 1 + 1 + 1 + 1 + 1) (a + pkX zs r atsX) (pkX zs (r + 1 + 1 + 1 + 1) kdsX) (smX zs (r + 1) idsX) (smX zs (r + 1 + 1) whsX) (smX zs (r + 1 + 1 + 1) bysX)).2
def evsX (zs : ZsT) (p : Nat) : Nat → Nat × Int × List Bev
 | 0 => (p, 10, [])
 | k + 1 => ((evRX zs (evsX zs p k).1 (evsX zs p k).2.1).1, (evsX zs p k).2.1 + pkX zs (evsX zs p k).1 atsX, (evsX zs p k).2.2 ++ [(evRX zs (evsX zs p k).1 (evsX zs p k).2.1).2])
theorem evsX_step {zs : ZsT} {p k r r1 r2 : Nat} {a d kd : Int} {i w b : ByteArray} {xs : List Bev} {x y : Bev} (h : evsX zs p k = (r, a, xs)) (hd : pkX zs r atsX = d) (hi : smX zs (r + 1) idsX = i) (hw : smX zs (r + 1 + 1) whsX = w) (hb : smX zs (r + 1 + 1 + 1) bysX = b) (hk : pkX zs (r + 1 + 1 + 1 + 1) kdsX = kd)
 (h0 : ev0X zs (r + 1 + 1 + 1 + 1 + 1) (a + d) kd i w b = (r1, x)) (h1 : ev1X zs r1 x = (r2, y)) : evsX zs p (k + 1) = (r2, a + d, xs ++ [y]) := by
 have e : evRX zs r a = (r2, y) := by unfold evRX; rw [hd, hi, hw, hb, hk, h0]; exact h1
 rw [evsX, h]
 simp only [e, hd]
def evnX (L : List Bev) : List Bev := cpE (sev L) (sev L).length
theorem evnX_len (L : List Bev) : (evnX L).length ≤ L.length := by
 unfold evnX
 have := cpE_le (xs := sev L) (sev L).length (Nat.le_refl _)
 rw [sev_len] at this
 rw [sev_len]
 exact this
def EventsX (zs : ZsT) (b p m : Nat) (w : World) (e : Ending) (w' : World) : Prop :=
 ∃ (A : Option Addr) (c : Nat) (L : List Bev) (a : Int) (r : Nat), e = .returned (.slice A (evnX L).length c) ∧ evsX zs p m = (r, a, L) ∧ L.length = m ∧ EvZs L ∧ r ≤ p + 20 * m ∧ SpX zs w b r w' [rOwn w.heap.size 78 8 (.slice A (evnX L).length c) (evnX L).length ((evnX L).flatMap bevC)]
set_option maxRecDepth 100000 in
set_option maxHeartbeats 8000000 in
theorem eventsX_calls (b p m : Nat) (zs : ZsT) (w : World) (hs : StrmX w b zs p) (hK : p ≤ 700000) (hm : m ≤ 39) :
 Calls Tryz.prog 8 #[.pointer (some ⟨b, 0, none⟩), .int .i64 m] w (EventsX zs b p m w) := by
 obtain ⟨i0, hi, hz0, hz1, hz2⟩ := info_parts info_bev
 have hS0 := (SpX.start hs).nil w.heap.size 78 8
 have hm0 : (0 : Int) ≤ (m : Int) := by omega
 clear hs
 go_enter Tryz.func8, Tryz.ntmps8
 go_wp2_with fail
 go_loopw [5, 6, 12] (fun v s6 s12 wr => ∃ (k r : Nat) (a : Int) (xs : List Bev), k ≤ m ∧ s12 = .int .i64 k ∧ s6 = .int .i64 a ∧ xs.length = k ∧ 10 ≤ a ∧ a ≤ 10 + 5 * (k : Int) ∧ EvZs xs ∧ Hid (evsX zs p k = (r, a, xs)) ∧ r ≤ p + 20 * k ∧ SpX zs w b r wr [rOwn w.heap.size 78 8 v xs.length (xs.flatMap bevC)]) (fun _ _ s12 _ => m - (intOf s12).toNat)
 case atStart => exact ⟨0, p, 10, [], Nat.zero_le _, rfl, rfl, rfl, Int.le_refl _, by omega, (by intro x hx; cases hx), Lib.hid rfl, by omega, hS0⟩
 case round =>
  clear hS0
  obtain ⟨k, r, a0, xs, hk, rfl, rfl, hxk, ha0, ha1, hxz, HP, hrp, hS⟩ := hrel
  by_cases hlt : k < m
  · have hlt' : (k : Int) < (m : Int) := by omega
    go_wp2_with fail
    refine (spE_pickL hS atsX 0 5 #[.int .i64 0, .int .i64 1, .int .i64 5] 3 3 rfl (by decide) (by decide) rfl (by decide) (by decide) (by omega)).mono ?_
    rintro e w1 ⟨d, rfl, HDA, hd0, hd1, hS1⟩
    clear hS
    obtain ⟨a, ha⟩ : ∃ a, a0 + d = a := ⟨_, rfl⟩
    have HA := Lib.hid ha
    have hab : 10 ≤ a ∧ a ≤ 10 + 5 * ((k : Int) + 1) := by omega
    obtain ⟨hab0, hab1⟩ := hab
    go_wp2_with fail
    clear ha
    refine (spE_someLN 1000 hS1 idsX #[.string ⟨#[114, 97]⟩, .string ⟨#[114, 98]⟩, .string ⟨#[114, 99]⟩, .string ⟨#[114, 100]⟩, .string ⟨#[114, 101]⟩, .string ⟨#[114, 102]⟩] 9 6 rfl (by decide) (by decide) rfl (by decide) (by omega)).mono ?_
    rintro e w2 ⟨id, rfl, HID, hid, hS2⟩
    clear hS1
    go_wp2_with fail
    refine (spE_someLN 1000 hS2 whsX #[.string ⟨#[97, 110, 110]⟩, .string ⟨#[98, 101, 97]⟩, .string ⟨#[99, 105, 100]⟩] 9 3 rfl (by decide) (by decide) rfl (by decide) (by omega)).mono ?_
    rintro e w3 ⟨wh, rfl, HWH, hwh, hS3⟩
    clear hS2
    go_wp2_with fail
    refine (spE_someLN 1000 hS3 bysX #[.string ⟨#[109, 111, 100]⟩, .string ⟨#[109, 111, 100]⟩, .string ⟨#[106, 111, 101]⟩, .string ⟨#[97, 110, 110]⟩] 9 4 rfl (by decide) (by decide) rfl (by decide) (by omega)).mono ?_
    rintro e w4 ⟨by1, rfl, HBY, hby, hS4⟩
    clear hS3
    go_wp2_with fail
    refine (spE_pickL hS4 kdsX 1 6 #[.int .i64 1, .int .i64 1, .int .i64 1, .int .i64 2, .int .i64 2, .int .i64 2, .int .i64 3, .int .i64 4, .int .i64 5, .int .i64 6] 3 10 rfl (by decide) (by decide) rfl (by decide) (by decide) (by omega)).mono ?_
    rintro e w5 ⟨kd, rfl, HKD, hk0, hk1, hS5⟩
    clear hS4
    have hS6 := hS5.add #[.int .i64 a, .int .i64 kd, .string ⟨#[]⟩, .string ⟨#[]⟩, .string ⟨#[]⟩, .string ⟨#[]⟩, .int .i64 0, .int .i64 0] 78
    clear hS5
    go_upto_region 8 with (fail)
    obtain ⟨H, hH⟩ : ∃ H, w5.heap.size = H := ⟨_, rfl⟩
    obtain ⟨W5, hW5⟩ : ∃ W, w5.alloc (.cells #[.int .i64 a, .int .i64 kd, .string ⟨#[]⟩, .string ⟨#[]⟩, .string ⟨#[]⟩, .string ⟨#[]⟩, .int .i64 0, .int .i64 0] 78) = W := ⟨_, rfl⟩
    rw [hH, hW5] at hS6
    rw [hH, hW5]
    clear hH hW5
    have hkb : Blk W5 H 78 #[.int .i64 a, .int .i64 kd, .string ⟨#[]⟩, .string ⟨#[]⟩, .string ⟨#[]⟩, .string ⟨#[]⟩, .int .i64 0, .int .i64 0] := hS6.head
    have y1 := hkb.cell 1
    clear hkb
    go_upto_block 2 with (fail)
    clear y1
    go_cut [] (fun V => ∃ (i1 w1 b1 c1 : ByteArray) (t1 d1 : Int) (r1 : Nat), Hid (ev0X zs (r + 1 + 1 + 1 + 1 + 1) a kd id wh by1 = (r1, ⟨a, kd, i1, w1, b1, c1, t1, d1⟩)) ∧ r1 ≤ r + 8 ∧ EvZf i1 w1 b1 c1 ∧ SpX zs w b r1 V [rBlk H 78 #[.int .i64 a, .int .i64 kd, .string i1, .string w1, .string b1, .string c1, .int .i64 t1, .int .i64 d1], rOwn w.heap.size 78 8 u5 xs.length (xs.flatMap bevC)])
    case first =>
     have kc : kd = 1 ∨ kd = 2 ∨ kd = 3 ∨ kd = 4 ∨ kd = 5 ∨ kd = 6 := by omega
     rcases kc with rfl | rfl | rfl | rfl | rfl | rfl
     · go_wp2_with fail
       refine (spE_someLN 1000 hS6 ctsX #[.string ⟨#[97, 110, 121]⟩, .string ⟨#[97, 110, 121]⟩, .string ⟨#[102, 97, 115, 116]⟩] 9 3 rfl (by decide) (by decide) rfl (by decide) (by omega)).mono ?_
       rintro e w6 ⟨ct, rfl, HCT, hct, hS7⟩
       clear hS6
       go_wp2_with fail
       refine (spE_pickL hS7 tmsX 90 100 #[.int .i64 90, .int .i64 95, .int .i64 95, .int .i64 100] 3 4 rfl (by decide) (by decide) rfl (by decide) (by decide) (by omega)).mono ?_
       rintro e w7 ⟨tm, rfl, HTM, _, _, hS8⟩
       clear hS7
       go_wp2_with fail
       refine (spE_range hS8 0 10 (by omega) (by omega) (by omega) (by omega)).mono ?_
       rintro e w8 ⟨dt, rfl, HDT, _, _, hS9⟩
       clear hS8
       have hkb : Blk w8 H _ _ := hS9.head
       have z2 := hkb.cell 2
       have z3 := hkb.cell 3
       have z5 := hkb.cell 5
       have z6 := hkb.cell 6
       have z7 := hkb.cell 7
       have f2 := hkb.frozen 2
       have f3 := hkb.frozen 3
       have f5 := hkb.frozen 5
       have f6 := hkb.frozen 6
       have f7 := hkb.frozen 7
       clear hkb
       have hS10 := ((((hS9.set_ 2 (.string id)).set_ 3 (.string wh)).set_ 5 (.string ct)).set_ 6 (.int .i64 tm)).set_ 7 (.int .i64 dt)
       go_wp2_with fail
       go_meet
       exact ⟨id, wh, ⟨#[]⟩, ct, tm, dt, _, Lib.hid (ev0X_1 HCT.out HTM.out HDT.out), by omega, ⟨hid, hwh, by decide, hct⟩, hS10⟩
     · have hkb : Blk W5 H _ _ := hS6.head
       have z2 := hkb.cell 2
       have f2 := hkb.frozen 2
       have z4 := hkb.cell 4
       have f4 := hkb.frozen 4
       have y1 := hkb.cell 1
       clear hkb
       have hS10 := ((hS6.set_ 2 (.string id)).set_ 4 (.string by1))
       go_wp2_with fail
       go_meet
       exact ⟨id, ⟨#[]⟩, by1, ⟨#[]⟩, 0, 0, _, Lib.hid ev0X_2, by omega, ⟨hid, by decide, hby, by decide⟩, hS10⟩
     · have hkb : Blk W5 H _ _ := hS6.head
       have z2 := hkb.cell 2
       have f2 := hkb.frozen 2
       have z4 := hkb.cell 4
       have f4 := hkb.frozen 4
       have y1 := hkb.cell 1
       clear hkb
       have hS10 := ((hS6.set_ 2 (.string id)).set_ 4 (.string by1))
       go_wp2_with fail
       go_meet
       exact ⟨id, ⟨#[]⟩, by1, ⟨#[]⟩, 0, 0, _, Lib.hid ev0X_3, by omega, ⟨hid, by decide, hby, by decide⟩, hS10⟩
     · have hkb : Blk W5 H _ _ := hS6.head
       have z2 := hkb.cell 2
       have f2 := hkb.frozen 2
       have z3 := hkb.cell 3
       have f3 := hkb.frozen 3
       have y1 := hkb.cell 1
       clear hkb
       have hS10 := ((hS6.set_ 2 (.string id)).set_ 3 (.string wh))
       go_wp2_with fail
       go_meet
       exact ⟨id, wh, ⟨#[]⟩, ⟨#[]⟩, 0, 0, _, Lib.hid ev0X_4, by omega, ⟨hid, hwh, by decide, by decide⟩, hS10⟩
     · have hkb : Blk W5 H _ _ := hS6.head
       have z3 := hkb.cell 3
       have f3 := hkb.frozen 3
       have z4 := hkb.cell 4
       have f4 := hkb.frozen 4
       have y1 := hkb.cell 1
       clear hkb
       have hS10 := ((hS6.set_ 3 (.string wh)).set_ 4 (.string by1))
       go_wp2_with fail
       go_meet
       exact ⟨⟨#[]⟩, wh, by1, ⟨#[]⟩, 0, 0, _, Lib.hid ev0X_5, by omega, ⟨by decide, hwh, hby, by decide⟩, hS10⟩
     · have hkb : Blk W5 H _ _ := hS6.head
       have z3 := hkb.cell 3
       have f3 := hkb.frozen 3
       have z4 := hkb.cell 4
       have f4 := hkb.frozen 4
       have y1 := hkb.cell 1
       clear hkb
       have hS10 := ((hS6.set_ 3 (.string wh)).set_ 4 (.string by1))
       go_wp2_with fail
       go_meet
       exact ⟨⟨#[]⟩, wh, by1, ⟨#[]⟩, 0, 0, _, Lib.hid ev0X_6, by omega, ⟨by decide, hwh, hby, by decide⟩, hS10⟩
    obtain ⟨i1, w1, b1, c1, t1, d1, r1, HE0, hr1, hz, hS⟩ := hcut
    clear hS6 hid hwh hby hk0 hk1
    go_upto_if 70 with (first | (refine (spE_flip hS 100 (by omega) (by omega) (by omega)).mono ?_; rintro e w6 ⟨fv, rfl, HFV, hS1⟩))
    clear hS
    go_cut [] (fun V => ∃ (a2 k2 : Int) (i2 w2 b2 c2 : ByteArray) (t2 d2 : Int) (r2 : Nat), Hid (ev1X zs r1 ⟨a, kd, i1, w1, b1, c1, t1, d1⟩ = (r2, ⟨a2, k2, i2, w2, b2, c2, t2, d2⟩)) ∧ r2 ≤ r1 + 6 ∧ EvZf i2 w2 b2 c2 ∧ SpX zs w b r2 V [rBlk H 78 #[.int .i64 a2, .int .i64 k2, .string i2, .string w2, .string b2, .string c2, .int .i64 t2, .int .i64 d2], rOwn w.heap.size 78 8 u5 xs.length (xs.flatMap bevC)])
    case first =>
     cases fv
     · go_wp2_with fail
       go_meet
       exact ⟨a, kd, i1, w1, b1, c1, t1, d1, _, Lib.hid (ev1X_no HFV.out), by omega, hz, hS1⟩
     · go_wp2_with fail
       refine (spE_next hS1 4 (by omega) (by omega) (by omega)).mono ?_
       rintro e w7 ⟨q, rfl, HQ, hq0, hq1, hS⟩
       clear hS1
       have qc : q = 0 ∨ q = 1 ∨ q = 2 ∨ q = 3 := by omega
       rcases qc with rfl | rfl | rfl | rfl
       · go_wp2_with fail
         refine (spE_odd hS 0 50 (by omega) (by omega) (by omega) (by omega)).mono ?_
         rintro e w8 ⟨p8, rfl, H8, _, _, hS8⟩
         clear hS
         go_wp2_with fail
         refine (spE_odd hS8 1 6 (by omega) (by omega) (by omega) (by omega)).mono ?_
         rintro e w9 ⟨p9, rfl, H9, _, _, hS9⟩
         clear hS8
         have hkb : Blk w9 H _ _ := hS9.head
         have z0 := hkb.cell 0
         have z1 := hkb.cell 1
         have f0 := hkb.frozen 0
         have f1 := hkb.frozen 1
         clear hkb
         have hS10 := (hS9.set_ 0 (.int .i64 p8)).set_ 1 (.int .i64 p9)
         go_wp2_with fail
         go_meet
         exact ⟨p8, p9, i1, w1, b1, c1, t1, d1, _, Lib.hid (ev1X_0 HFV.out HQ.out H8.out H9.out), by omega, hz, hS10⟩
       · go_upto_region 23 with (fail)
         refine wp_region_held_drew (S := fun _ => True) (by kernel_rfl) trivial (fun hHeld => ?_)
         refine wpAnyH_take (i := 0) (v := .pointer (some ⟨b, 0, none⟩)) rfl (by kernel_rfl) (by kernel_rfl) (by kernel_rfl) (fun _ _ _ h => h) (Or.inl ⟨by rfl, fun V hV => ?_⟩) hHeld ?_
         · first | (go_simp; done) | (go_simp; rfl) | rfl
         simp only [Act.put, List.getElem_toArray, List.getElem_cons_zero, List.setIfInBounds_toArray, List.set_cons_zero, List.set_cons_succ]
         refine wpAnyH_take (i := 1) (v := .pointer (some ⟨H, 2, none⟩)) rfl (by kernel_rfl) (by kernel_rfl) (by kernel_rfl) (fun _ _ _ h => h) (Or.inl ⟨by rfl, fun V hV => ?_⟩) hHeld ?_
         · first | (go_simp; done) | (go_simp; rfl) | rfl
         simp only [Act.put, List.getElem_toArray, List.getElem_cons_zero, List.getElem_cons_succ, List.setIfInBounds_toArray, List.set_cons_zero, List.set_cons_succ]
         refine wpAnyH_take (i := 5) (v := .pointer (some ⟨b, 0, none⟩)) rfl (by kernel_rfl) (by kernel_rfl) (by kernel_rfl) (fun _ _ _ h => h) (Or.inl ⟨by rfl, fun V hV => ?_⟩) hHeld ?_
         · first | (go_simp; done) | (go_simp; rfl) | rfl
         simp only [Act.put, List.getElem_toArray, List.getElem_cons_zero, List.getElem_cons_succ, List.setIfInBounds_toArray, List.set_cons_zero, List.set_cons_succ]
         refine wpAnyH_take (i := 6) (v := .pointer (some ⟨H, 3, none⟩)) rfl (by kernel_rfl) (by kernel_rfl) (by kernel_rfl) (fun _ _ _ h => h) (Or.inl ⟨by rfl, fun V hV => ?_⟩) hHeld ?_
         · first | (go_simp; done) | (go_simp; rfl) | rfl
         simp only [Act.put, List.getElem_toArray, List.getElem_cons_zero, List.getElem_cons_succ, List.setIfInBounds_toArray, List.set_cons_zero, List.set_cons_succ]
         refine wpAnyH_ready (rs := [2, 7]) (by kernel_rfl) (by simp) ?_
         refine AllReadyH.cons rfl (fun KK hK => ?_) ?_
         · have y4 := (hS.nth 0 rfl : Blk _ H _ #[.int .i64 a, .int .i64 kd, .string i1, .string w1, .string b1, .string c1, .int .i64 t1, .int .i64 d1]).cell 2
           go_simp
           refine hK.out _ _ trivial (fun hHeld => ?_)
           try simp only [Act.put, List.getElem_toArray, List.getElem_cons_zero, List.getElem_cons_succ, List.setIfInBounds_toArray, List.set_cons_zero, List.set_cons_succ]
           clear y4
           refine wpAnyH_ready (rs := [3, 7]) (by kernel_rfl) (by simp) ?_
           refine AllReadyH.cons rfl (fun KK hK => ?_) ?_
           · go_simp
             refine hK.out _ _ trivial (fun hHeld => ?_)
             try simp only [Act.put, List.getElem_toArray, List.getElem_cons_zero, List.getElem_cons_succ, List.setIfInBounds_toArray, List.set_cons_zero, List.set_cons_succ]
             have hR2 := hS.add #[.string ⟨#[]⟩, .string ⟨#[65]⟩, .string i1] 9
             try simp only [size1] at hR2
             refine wpAnyH_ready (rs := [4, 7]) (by kernel_rfl) (by simp) ?_
             refine AllReadyH.cons rfl (fun KK hK => ?_) ?_
             · go_simp
               go_at_call 10
               refine (spE_someN (n := 3) 1000 hR2.drew 0 [⟨#[]⟩, ⟨#[65]⟩, i1] rfl rfl (by decide) (by decide) rfl (l3_sz hz.i) (by omega)).mono ?_
               rintro e w3 ⟨s3, rfl, HS3, hs3, hR3⟩
               refine hK.out _ _ trivial (fun hHeld => ?_)
               try simp only [Act.put, List.getElem_toArray, List.getElem_cons_zero, List.getElem_cons_succ, List.setIfInBounds_toArray, List.set_cons_zero, List.set_cons_succ]
               replace hR3 := hR3.drop 0 rfl rfl
               clear hR2
               refine tkC 7 rfl (fun KK hK => ?_)
               have y4 := (hR3.nth 0 rfl : Blk _ H _ #[.int .i64 a, .int .i64 kd, .string i1, .string w1, .string b1, .string c1, .int .i64 t1, .int .i64 d1]).cell 3
               go_simp
               refine hK.out _ _ trivial (fun hHeld => ?_)
               try simp only [Act.put, List.getElem_toArray, List.getElem_cons_zero, List.getElem_cons_succ, List.setIfInBounds_toArray, List.set_cons_zero, List.set_cons_succ]
               clear y4
               refine wpAnyH_take (i := 10) (v := .pointer (some ⟨H, 2, none⟩)) rfl (by kernel_rfl) (by kernel_rfl) (by kernel_rfl) (fun _ _ _ h => h) (Or.inl ⟨by rfl, fun V hV => ?_⟩) hHeld ?_
               · first | (go_simp; done) | (go_simp; rfl) | rfl
               simp only [Act.put, List.getElem_toArray, List.getElem_cons_zero, List.getElem_cons_succ, List.setIfInBounds_toArray, List.set_cons_zero, List.set_cons_succ]
               refine tkC 8 rfl (fun KK hK => ?_)
               go_simp
               refine hK.out _ _ trivial (fun hHeld => ?_)
               try simp only [Act.put, List.getElem_toArray, List.getElem_cons_zero, List.getElem_cons_succ, List.setIfInBounds_toArray, List.set_cons_zero, List.set_cons_succ]
               have hR5 := hR3.add #[.string ⟨#[]⟩, .string w1] 9
               try simp only [size1] at hR5
               clear hR3
               refine tkC 9 rfl (fun KK hK => ?_)
               go_simp
               go_at_call 10
               refine (spE_someN (n := 2) 1000 hR5 0 [⟨#[]⟩, w1] rfl rfl (by decide) (by decide) rfl (l2_sz (by decide) hz.w) (by omega)).mono ?_
               rintro e w6 ⟨s6, rfl, HS6, hs6, hR6⟩
               refine hK.out _ _ trivial (fun hHeld => ?_)
               try simp only [Act.put, List.getElem_toArray, List.getElem_cons_zero, List.getElem_cons_succ, List.setIfInBounds_toArray, List.set_cons_zero, List.set_cons_succ]
               replace hR6 := hR6.drop 0 rfl rfl
               clear hR5
               refine tkC 11 rfl (fun KK hK => ?_)
               have x4 := (hR6.nth 0 rfl : Blk _ H _ #[.int .i64 a, .int .i64 kd, .string i1, .string w1, .string b1, .string c1, .int .i64 t1, .int .i64 d1]).cell 2
               have f4 := (hR6.nth 0 rfl : Blk _ H _ #[.int .i64 a, .int .i64 kd, .string i1, .string w1, .string b1, .string c1, .int .i64 t1, .int .i64 d1]).frozen 2
               go_simp
               refine hK.out _ _ trivial (fun hHeld => ?_)
               try simp only [Act.put, List.getElem_toArray, List.getElem_cons_zero, List.getElem_cons_succ, List.setIfInBounds_toArray, List.set_cons_zero, List.set_cons_succ]
               clear x4 f4
               have hR7 := (hR6.front 0 rfl rfl).set_ 2 (.string s3)
               clear hR6
               refine wpAnyH_take (i := 12) (v := .pointer (some ⟨H, 3, none⟩)) rfl (by kernel_rfl) (by kernel_rfl) (by kernel_rfl) (fun _ _ _ h => h) (Or.inl ⟨by rfl, fun V hV => ?_⟩) hHeld ?_
               · first | (go_simp; done) | (go_simp; rfl) | rfl
               simp only [Act.put, List.getElem_toArray, List.getElem_cons_zero, List.getElem_cons_succ, List.setIfInBounds_toArray, List.set_cons_zero, List.set_cons_succ]
               refine tkC 13 rfl (fun KK hK => ?_)
               have x4 := (hR7.nth 0 rfl : Blk _ H _ #[.int .i64 a, .int .i64 kd, .string s3, .string w1, .string b1, .string c1, .int .i64 t1, .int .i64 d1]).cell 3
               have f4 := (hR7.nth 0 rfl : Blk _ H _ #[.int .i64 a, .int .i64 kd, .string s3, .string w1, .string b1, .string c1, .int .i64 t1, .int .i64 d1]).frozen 3
               go_simp
               refine hK.out _ _ trivial (fun hHeld => ?_)
               try simp only [Act.put, List.getElem_toArray, List.getElem_cons_zero, List.getElem_cons_succ, List.setIfInBounds_toArray, List.set_cons_zero, List.set_cons_succ]
               clear x4 f4
               have hR8 := (hR7.front 0 rfl rfl).set_ 3 (.string s6)
               clear hR7
               refine wpAnyH_done (by kernel_rfl) ?_ _
               go_wp2_with fail
               go_meet
               exact ⟨a, kd, s3, s6, b1, c1, t1, d1, _, Lib.hid (ev1X_1 HFV.out HQ.out HS3.out HS6.out), by omega, ⟨hs3, hs6, hz.b, hz.c⟩, hR8⟩
             refine AllReadyH.cons rfl (fun KK hK => ?_) AllReadyH.nil
             have y4 := (hR2.nth 1 rfl : Blk _ H _ #[.int .i64 a, .int .i64 kd, .string i1, .string w1, .string b1, .string c1, .int .i64 t1, .int .i64 d1]).cell 3
             go_simp
             refine hK.out _ _ trivial (fun hHeld => ?_)
             try simp only [Act.put, List.getElem_toArray, List.getElem_cons_zero, List.getElem_cons_succ, List.setIfInBounds_toArray, List.set_cons_zero, List.set_cons_succ]
             clear y4
             refine wpAnyH_ready (rs := [4, 8]) (by kernel_rfl) (by simp) ?_
             refine AllReadyH.cons rfl (fun KK hK => ?_) ?_
             · go_simp
               go_at_call 10
               refine (spE_someN (n := 3) 1000 hR2.drew 0 [⟨#[]⟩, ⟨#[65]⟩, i1] rfl rfl (by decide) (by decide) rfl (l3_sz hz.i) (by omega)).mono ?_
               rintro e w4 ⟨s4, rfl, HS4, hs4, hR4⟩
               refine hK.out _ _ trivial (fun hHeld => ?_)
               try simp only [Act.put, List.getElem_toArray, List.getElem_cons_zero, List.getElem_cons_succ, List.setIfInBounds_toArray, List.set_cons_zero, List.set_cons_succ]
               replace hR4 := hR4.drop 0 rfl rfl
               clear hR2
               refine wpAnyH_take (i := 10) (v := .pointer (some ⟨H, 2, none⟩)) rfl (by kernel_rfl) (by kernel_rfl) (by kernel_rfl) (fun _ _ _ h => h) (Or.inl ⟨by rfl, fun V hV => ?_⟩) hHeld ?_
               · first | (go_simp; done) | (go_simp; rfl) | rfl
               simp only [Act.put, List.getElem_toArray, List.getElem_cons_zero, List.getElem_cons_succ, List.setIfInBounds_toArray, List.set_cons_zero, List.set_cons_succ]
               refine tkC 8 rfl (fun KK hK => ?_)
               go_simp
               refine hK.out _ _ trivial (fun hHeld => ?_)
               try simp only [Act.put, List.getElem_toArray, List.getElem_cons_zero, List.getElem_cons_succ, List.setIfInBounds_toArray, List.set_cons_zero, List.set_cons_succ]
               have hR5 := hR4.add #[.string ⟨#[]⟩, .string w1] 9
               try simp only [size1] at hR5
               clear hR4
               refine tkC 9 rfl (fun KK hK => ?_)
               go_simp
               go_at_call 10
               refine (spE_someN (n := 2) 1000 hR5 0 [⟨#[]⟩, w1] rfl rfl (by decide) (by decide) rfl (l2_sz (by decide) hz.w) (by omega)).mono ?_
               rintro e w6 ⟨s6, rfl, HS6, hs6, hR6⟩
               refine hK.out _ _ trivial (fun hHeld => ?_)
               try simp only [Act.put, List.getElem_toArray, List.getElem_cons_zero, List.getElem_cons_succ, List.setIfInBounds_toArray, List.set_cons_zero, List.set_cons_succ]
               replace hR6 := hR6.drop 0 rfl rfl
               clear hR5
               refine tkC 11 rfl (fun KK hK => ?_)
               have x4 := (hR6.nth 0 rfl : Blk _ H _ #[.int .i64 a, .int .i64 kd, .string i1, .string w1, .string b1, .string c1, .int .i64 t1, .int .i64 d1]).cell 2
               have f4 := (hR6.nth 0 rfl : Blk _ H _ #[.int .i64 a, .int .i64 kd, .string i1, .string w1, .string b1, .string c1, .int .i64 t1, .int .i64 d1]).frozen 2
               go_simp
               refine hK.out _ _ trivial (fun hHeld => ?_)
               try simp only [Act.put, List.getElem_toArray, List.getElem_cons_zero, List.getElem_cons_succ, List.setIfInBounds_toArray, List.set_cons_zero, List.set_cons_succ]
               clear x4 f4
               have hR7 := (hR6.front 0 rfl rfl).set_ 2 (.string s4)
               clear hR6
               refine wpAnyH_take (i := 12) (v := .pointer (some ⟨H, 3, none⟩)) rfl (by kernel_rfl) (by kernel_rfl) (by kernel_rfl) (fun _ _ _ h => h) (Or.inl ⟨by rfl, fun V hV => ?_⟩) hHeld ?_
               · first | (go_simp; done) | (go_simp; rfl) | rfl
               simp only [Act.put, List.getElem_toArray, List.getElem_cons_zero, List.getElem_cons_succ, List.setIfInBounds_toArray, List.set_cons_zero, List.set_cons_succ]
               refine tkC 13 rfl (fun KK hK => ?_)
               have x4 := (hR7.nth 0 rfl : Blk _ H _ #[.int .i64 a, .int .i64 kd, .string s4, .string w1, .string b1, .string c1, .int .i64 t1, .int .i64 d1]).cell 3
               have f4 := (hR7.nth 0 rfl : Blk _ H _ #[.int .i64 a, .int .i64 kd, .string s4, .string w1, .string b1, .string c1, .int .i64 t1, .int .i64 d1]).frozen 3
               go_simp
               refine hK.out _ _ trivial (fun hHeld => ?_)
               try simp only [Act.put, List.getElem_toArray, List.getElem_cons_zero, List.getElem_cons_succ, List.setIfInBounds_toArray, List.set_cons_zero, List.set_cons_succ]
               clear x4 f4
               have hR8 := (hR7.front 0 rfl rfl).set_ 3 (.string s6)
               clear hR7
               refine wpAnyH_done (by kernel_rfl) ?_ _
               go_wp2_with fail
               go_meet
               exact ⟨a, kd, s4, s6, b1, c1, t1, d1, _, Lib.hid (ev1X_1 HFV.out HQ.out HS4.out HS6.out), by omega, ⟨hs4, hs6, hz.b, hz.c⟩, hR8⟩
             refine AllReadyH.cons rfl (fun KK hK => ?_) AllReadyH.nil
             go_simp
             refine hK.out _ _ trivial (fun hHeld => ?_)
             try simp only [Act.put, List.getElem_toArray, List.getElem_cons_zero, List.getElem_cons_succ, List.setIfInBounds_toArray, List.set_cons_zero, List.set_cons_succ]
             have hR4 := hR2.add #[.string ⟨#[]⟩, .string w1] 9
             try simp only [size1] at hR4
             clear hR2
             refine tkC 4 rfl (fun KK hK => ?_)
             go_simp
             go_at_call 10
             refine (spE_someN (n := 3) 1000 hR4.drew 1 [⟨#[]⟩, ⟨#[65]⟩, i1] rfl rfl (by decide) (by decide) rfl (l3_sz hz.i) (by omega)).mono ?_
             rintro e w5 ⟨s5, rfl, HS5, hs5, hR5⟩
             refine hK.out _ _ trivial (fun hHeld => ?_)
             try simp only [Act.put, List.getElem_toArray, List.getElem_cons_zero, List.getElem_cons_succ, List.setIfInBounds_toArray, List.set_cons_zero, List.set_cons_succ]
             replace hR5 := hR5.drop 1 rfl rfl
             clear hR4
             refine wpAnyH_take (i := 10) (v := .pointer (some ⟨H, 2, none⟩)) rfl (by kernel_rfl) (by kernel_rfl) (by kernel_rfl) (fun _ _ _ h => h) (Or.inl ⟨by rfl, fun V hV => ?_⟩) hHeld ?_
             · first | (go_simp; done) | (go_simp; rfl) | rfl
             simp only [Act.put, List.getElem_toArray, List.getElem_cons_zero, List.getElem_cons_succ, List.setIfInBounds_toArray, List.set_cons_zero, List.set_cons_succ]
             refine tkC 9 rfl (fun KK hK => ?_)
             go_simp
             go_at_call 10
             refine (spE_someN (n := 2) 1000 hR5 0 [⟨#[]⟩, w1] rfl rfl (by decide) (by decide) rfl (l2_sz (by decide) hz.w) (by omega)).mono ?_
             rintro e w6 ⟨s6, rfl, HS6, hs6, hR6⟩
             refine hK.out _ _ trivial (fun hHeld => ?_)
             try simp only [Act.put, List.getElem_toArray, List.getElem_cons_zero, List.getElem_cons_succ, List.setIfInBounds_toArray, List.set_cons_zero, List.set_cons_succ]
             replace hR6 := hR6.drop 0 rfl rfl
             clear hR5
             refine tkC 11 rfl (fun KK hK => ?_)
             have x4 := (hR6.nth 0 rfl : Blk _ H _ #[.int .i64 a, .int .i64 kd, .string i1, .string w1, .string b1, .string c1, .int .i64 t1, .int .i64 d1]).cell 2
             have f4 := (hR6.nth 0 rfl : Blk _ H _ #[.int .i64 a, .int .i64 kd, .string i1, .string w1, .string b1, .string c1, .int .i64 t1, .int .i64 d1]).frozen 2
             go_simp
             refine hK.out _ _ trivial (fun hHeld => ?_)
             try simp only [Act.put, List.getElem_toArray, List.getElem_cons_zero, List.getElem_cons_succ, List.setIfInBounds_toArray, List.set_cons_zero, List.set_cons_succ]
             clear x4 f4
             have hR7 := (hR6.front 0 rfl rfl).set_ 2 (.string s5)
             clear hR6
             refine wpAnyH_take (i := 12) (v := .pointer (some ⟨H, 3, none⟩)) rfl (by kernel_rfl) (by kernel_rfl) (by kernel_rfl) (fun _ _ _ h => h) (Or.inl ⟨by rfl, fun V hV => ?_⟩) hHeld ?_
             · first | (go_simp; done) | (go_simp; rfl) | rfl
             simp only [Act.put, List.getElem_toArray, List.getElem_cons_zero, List.getElem_cons_succ, List.setIfInBounds_toArray, List.set_cons_zero, List.set_cons_succ]
             refine tkC 13 rfl (fun KK hK => ?_)
             have x4 := (hR7.nth 0 rfl : Blk _ H _ #[.int .i64 a, .int .i64 kd, .string s5, .string w1, .string b1, .string c1, .int .i64 t1, .int .i64 d1]).cell 3
             have f4 := (hR7.nth 0 rfl : Blk _ H _ #[.int .i64 a, .int .i64 kd, .string s5, .string w1, .string b1, .string c1, .int .i64 t1, .int .i64 d1]).frozen 3
             go_simp
             refine hK.out _ _ trivial (fun hHeld => ?_)
             try simp only [Act.put, List.getElem_toArray, List.getElem_cons_zero, List.getElem_cons_succ, List.setIfInBounds_toArray, List.set_cons_zero, List.set_cons_succ]
             clear x4 f4
             have hR8 := (hR7.front 0 rfl rfl).set_ 3 (.string s6)
             clear hR7
             refine wpAnyH_done (by kernel_rfl) ?_ _
             go_wp2_with fail
             go_meet
             exact ⟨a, kd, s5, s6, b1, c1, t1, d1, _, Lib.hid (ev1X_1 HFV.out HQ.out HS5.out HS6.out), by omega, ⟨hs5, hs6, hz.b, hz.c⟩, hR8⟩
           refine AllReadyH.cons rfl (fun KK hK => ?_) AllReadyH.nil
           have y4 := (hS.nth 0 rfl : Blk _ H _ #[.int .i64 a, .int .i64 kd, .string i1, .string w1, .string b1, .string c1, .int .i64 t1, .int .i64 d1]).cell 3
           go_simp
           refine hK.out _ _ trivial (fun hHeld => ?_)
           try simp only [Act.put, List.getElem_toArray, List.getElem_cons_zero, List.getElem_cons_succ, List.setIfInBounds_toArray, List.set_cons_zero, List.set_cons_succ]
           clear y4
           refine wpAnyH_ready (rs := [3, 8]) (by kernel_rfl) (by simp) ?_
           refine AllReadyH.cons rfl (fun KK hK => ?_) ?_
           · go_simp
             refine hK.out _ _ trivial (fun hHeld => ?_)
             try simp only [Act.put, List.getElem_toArray, List.getElem_cons_zero, List.getElem_cons_succ, List.setIfInBounds_toArray, List.set_cons_zero, List.set_cons_succ]
             have hR3 := hS.add #[.string ⟨#[]⟩, .string ⟨#[65]⟩, .string i1] 9
             try simp only [size1] at hR3
             refine wpAnyH_ready (rs := [4, 8]) (by kernel_rfl) (by simp) ?_
             refine AllReadyH.cons rfl (fun KK hK => ?_) ?_
             · go_simp
               go_at_call 10
               refine (spE_someN (n := 3) 1000 hR3.drew 0 [⟨#[]⟩, ⟨#[65]⟩, i1] rfl rfl (by decide) (by decide) rfl (l3_sz hz.i) (by omega)).mono ?_
               rintro e w4 ⟨s4, rfl, HS4, hs4, hR4⟩
               refine hK.out _ _ trivial (fun hHeld => ?_)
               try simp only [Act.put, List.getElem_toArray, List.getElem_cons_zero, List.getElem_cons_succ, List.setIfInBounds_toArray, List.set_cons_zero, List.set_cons_succ]
               replace hR4 := hR4.drop 0 rfl rfl
               clear hR3
               refine wpAnyH_take (i := 10) (v := .pointer (some ⟨H, 2, none⟩)) rfl (by kernel_rfl) (by kernel_rfl) (by kernel_rfl) (fun _ _ _ h => h) (Or.inl ⟨by rfl, fun V hV => ?_⟩) hHeld ?_
               · first | (go_simp; done) | (go_simp; rfl) | rfl
               simp only [Act.put, List.getElem_toArray, List.getElem_cons_zero, List.getElem_cons_succ, List.setIfInBounds_toArray, List.set_cons_zero, List.set_cons_succ]
               refine tkC 8 rfl (fun KK hK => ?_)
               go_simp
               refine hK.out _ _ trivial (fun hHeld => ?_)
               try simp only [Act.put, List.getElem_toArray, List.getElem_cons_zero, List.getElem_cons_succ, List.setIfInBounds_toArray, List.set_cons_zero, List.set_cons_succ]
               have hR5 := hR4.add #[.string ⟨#[]⟩, .string w1] 9
               try simp only [size1] at hR5
               clear hR4
               refine tkC 9 rfl (fun KK hK => ?_)
               go_simp
               go_at_call 10
               refine (spE_someN (n := 2) 1000 hR5 0 [⟨#[]⟩, w1] rfl rfl (by decide) (by decide) rfl (l2_sz (by decide) hz.w) (by omega)).mono ?_
               rintro e w6 ⟨s6, rfl, HS6, hs6, hR6⟩
               refine hK.out _ _ trivial (fun hHeld => ?_)
               try simp only [Act.put, List.getElem_toArray, List.getElem_cons_zero, List.getElem_cons_succ, List.setIfInBounds_toArray, List.set_cons_zero, List.set_cons_succ]
               replace hR6 := hR6.drop 0 rfl rfl
               clear hR5
               refine tkC 11 rfl (fun KK hK => ?_)
               have x4 := (hR6.nth 0 rfl : Blk _ H _ #[.int .i64 a, .int .i64 kd, .string i1, .string w1, .string b1, .string c1, .int .i64 t1, .int .i64 d1]).cell 2
               have f4 := (hR6.nth 0 rfl : Blk _ H _ #[.int .i64 a, .int .i64 kd, .string i1, .string w1, .string b1, .string c1, .int .i64 t1, .int .i64 d1]).frozen 2
               go_simp
               refine hK.out _ _ trivial (fun hHeld => ?_)
               try simp only [Act.put, List.getElem_toArray, List.getElem_cons_zero, List.getElem_cons_succ, List.setIfInBounds_toArray, List.set_cons_zero, List.set_cons_succ]
               clear x4 f4
               have hR7 := (hR6.front 0 rfl rfl).set_ 2 (.string s4)
               clear hR6
               refine wpAnyH_take (i := 12) (v := .pointer (some ⟨H, 3, none⟩)) rfl (by kernel_rfl) (by kernel_rfl) (by kernel_rfl) (fun _ _ _ h => h) (Or.inl ⟨by rfl, fun V hV => ?_⟩) hHeld ?_
               · first | (go_simp; done) | (go_simp; rfl) | rfl
               simp only [Act.put, List.getElem_toArray, List.getElem_cons_zero, List.getElem_cons_succ, List.setIfInBounds_toArray, List.set_cons_zero, List.set_cons_succ]
               refine tkC 13 rfl (fun KK hK => ?_)
               have x4 := (hR7.nth 0 rfl : Blk _ H _ #[.int .i64 a, .int .i64 kd, .string s4, .string w1, .string b1, .string c1, .int .i64 t1, .int .i64 d1]).cell 3
               have f4 := (hR7.nth 0 rfl : Blk _ H _ #[.int .i64 a, .int .i64 kd, .string s4, .string w1, .string b1, .string c1, .int .i64 t1, .int .i64 d1]).frozen 3
               go_simp
               refine hK.out _ _ trivial (fun hHeld => ?_)
               try simp only [Act.put, List.getElem_toArray, List.getElem_cons_zero, List.getElem_cons_succ, List.setIfInBounds_toArray, List.set_cons_zero, List.set_cons_succ]
               clear x4 f4
               have hR8 := (hR7.front 0 rfl rfl).set_ 3 (.string s6)
               clear hR7
               refine wpAnyH_done (by kernel_rfl) ?_ _
               go_wp2_with fail
               go_meet
               exact ⟨a, kd, s4, s6, b1, c1, t1, d1, _, Lib.hid (ev1X_1 HFV.out HQ.out HS4.out HS6.out), by omega, ⟨hs4, hs6, hz.b, hz.c⟩, hR8⟩
             refine AllReadyH.cons rfl (fun KK hK => ?_) AllReadyH.nil
             go_simp
             refine hK.out _ _ trivial (fun hHeld => ?_)
             try simp only [Act.put, List.getElem_toArray, List.getElem_cons_zero, List.getElem_cons_succ, List.setIfInBounds_toArray, List.set_cons_zero, List.set_cons_succ]
             have hR4 := hR3.add #[.string ⟨#[]⟩, .string w1] 9
             try simp only [size1] at hR4
             clear hR3
             refine tkC 4 rfl (fun KK hK => ?_)
             go_simp
             go_at_call 10
             refine (spE_someN (n := 3) 1000 hR4.drew 1 [⟨#[]⟩, ⟨#[65]⟩, i1] rfl rfl (by decide) (by decide) rfl (l3_sz hz.i) (by omega)).mono ?_
             rintro e w5 ⟨s5, rfl, HS5, hs5, hR5⟩
             refine hK.out _ _ trivial (fun hHeld => ?_)
             try simp only [Act.put, List.getElem_toArray, List.getElem_cons_zero, List.getElem_cons_succ, List.setIfInBounds_toArray, List.set_cons_zero, List.set_cons_succ]
             replace hR5 := hR5.drop 1 rfl rfl
             clear hR4
             refine wpAnyH_take (i := 10) (v := .pointer (some ⟨H, 2, none⟩)) rfl (by kernel_rfl) (by kernel_rfl) (by kernel_rfl) (fun _ _ _ h => h) (Or.inl ⟨by rfl, fun V hV => ?_⟩) hHeld ?_
             · first | (go_simp; done) | (go_simp; rfl) | rfl
             simp only [Act.put, List.getElem_toArray, List.getElem_cons_zero, List.getElem_cons_succ, List.setIfInBounds_toArray, List.set_cons_zero, List.set_cons_succ]
             refine tkC 9 rfl (fun KK hK => ?_)
             go_simp
             go_at_call 10
             refine (spE_someN (n := 2) 1000 hR5 0 [⟨#[]⟩, w1] rfl rfl (by decide) (by decide) rfl (l2_sz (by decide) hz.w) (by omega)).mono ?_
             rintro e w6 ⟨s6, rfl, HS6, hs6, hR6⟩
             refine hK.out _ _ trivial (fun hHeld => ?_)
             try simp only [Act.put, List.getElem_toArray, List.getElem_cons_zero, List.getElem_cons_succ, List.setIfInBounds_toArray, List.set_cons_zero, List.set_cons_succ]
             replace hR6 := hR6.drop 0 rfl rfl
             clear hR5
             refine tkC 11 rfl (fun KK hK => ?_)
             have x4 := (hR6.nth 0 rfl : Blk _ H _ #[.int .i64 a, .int .i64 kd, .string i1, .string w1, .string b1, .string c1, .int .i64 t1, .int .i64 d1]).cell 2
             have f4 := (hR6.nth 0 rfl : Blk _ H _ #[.int .i64 a, .int .i64 kd, .string i1, .string w1, .string b1, .string c1, .int .i64 t1, .int .i64 d1]).frozen 2
             go_simp
             refine hK.out _ _ trivial (fun hHeld => ?_)
             try simp only [Act.put, List.getElem_toArray, List.getElem_cons_zero, List.getElem_cons_succ, List.setIfInBounds_toArray, List.set_cons_zero, List.set_cons_succ]
             clear x4 f4
             have hR7 := (hR6.front 0 rfl rfl).set_ 2 (.string s5)
             clear hR6
             refine wpAnyH_take (i := 12) (v := .pointer (some ⟨H, 3, none⟩)) rfl (by kernel_rfl) (by kernel_rfl) (by kernel_rfl) (fun _ _ _ h => h) (Or.inl ⟨by rfl, fun V hV => ?_⟩) hHeld ?_
             · first | (go_simp; done) | (go_simp; rfl) | rfl
             simp only [Act.put, List.getElem_toArray, List.getElem_cons_zero, List.getElem_cons_succ, List.setIfInBounds_toArray, List.set_cons_zero, List.set_cons_succ]
             refine tkC 13 rfl (fun KK hK => ?_)
             have x4 := (hR7.nth 0 rfl : Blk _ H _ #[.int .i64 a, .int .i64 kd, .string s5, .string w1, .string b1, .string c1, .int .i64 t1, .int .i64 d1]).cell 3
             have f4 := (hR7.nth 0 rfl : Blk _ H _ #[.int .i64 a, .int .i64 kd, .string s5, .string w1, .string b1, .string c1, .int .i64 t1, .int .i64 d1]).frozen 3
             go_simp
             refine hK.out _ _ trivial (fun hHeld => ?_)
             try simp only [Act.put, List.getElem_toArray, List.getElem_cons_zero, List.getElem_cons_succ, List.setIfInBounds_toArray, List.set_cons_zero, List.set_cons_succ]
             clear x4 f4
             have hR8 := (hR7.front 0 rfl rfl).set_ 3 (.string s6)
             clear hR7
             refine wpAnyH_done (by kernel_rfl) ?_ _
             go_wp2_with fail
             go_meet
             exact ⟨a, kd, s5, s6, b1, c1, t1, d1, _, Lib.hid (ev1X_1 HFV.out HQ.out HS5.out HS6.out), by omega, ⟨hs5, hs6, hz.b, hz.c⟩, hR8⟩
           refine AllReadyH.cons rfl (fun KK hK => ?_) AllReadyH.nil
           go_simp
           refine hK.out _ _ trivial (fun hHeld => ?_)
           try simp only [Act.put, List.getElem_toArray, List.getElem_cons_zero, List.getElem_cons_succ, List.setIfInBounds_toArray, List.set_cons_zero, List.set_cons_succ]
           have hR3 := hS.add #[.string ⟨#[]⟩, .string w1] 9
           try simp only [size1] at hR3
           refine tkC 3 rfl (fun KK hK => ?_)
           go_simp
           refine hK.out _ _ trivial (fun hHeld => ?_)
           try simp only [Act.put, List.getElem_toArray, List.getElem_cons_zero, List.getElem_cons_succ, List.setIfInBounds_toArray, List.set_cons_zero, List.set_cons_succ]
           have hR4 := hR3.add #[.string ⟨#[]⟩, .string ⟨#[65]⟩, .string i1] 9
           try simp only [size1] at hR4
           clear hR3
           refine tkC 4 rfl (fun KK hK => ?_)
           go_simp
           go_at_call 10
           refine (spE_someN (n := 3) 1000 hR4.drew 0 [⟨#[]⟩, ⟨#[65]⟩, i1] rfl rfl (by decide) (by decide) rfl (l3_sz hz.i) (by omega)).mono ?_
           rintro e w5 ⟨s5, rfl, HS5, hs5, hR5⟩
           refine hK.out _ _ trivial (fun hHeld => ?_)
           try simp only [Act.put, List.getElem_toArray, List.getElem_cons_zero, List.getElem_cons_succ, List.setIfInBounds_toArray, List.set_cons_zero, List.set_cons_succ]
           replace hR5 := hR5.drop 0 rfl rfl
           clear hR4
           refine wpAnyH_take (i := 10) (v := .pointer (some ⟨H, 2, none⟩)) rfl (by kernel_rfl) (by kernel_rfl) (by kernel_rfl) (fun _ _ _ h => h) (Or.inl ⟨by rfl, fun V hV => ?_⟩) hHeld ?_
           · first | (go_simp; done) | (go_simp; rfl) | rfl
           simp only [Act.put, List.getElem_toArray, List.getElem_cons_zero, List.getElem_cons_succ, List.setIfInBounds_toArray, List.set_cons_zero, List.set_cons_succ]
           refine tkC 9 rfl (fun KK hK => ?_)
           go_simp
           go_at_call 10
           refine (spE_someN (n := 2) 1000 hR5 0 [⟨#[]⟩, w1] rfl rfl (by decide) (by decide) rfl (l2_sz (by decide) hz.w) (by omega)).mono ?_
           rintro e w6 ⟨s6, rfl, HS6, hs6, hR6⟩
           refine hK.out _ _ trivial (fun hHeld => ?_)
           try simp only [Act.put, List.getElem_toArray, List.getElem_cons_zero, List.getElem_cons_succ, List.setIfInBounds_toArray, List.set_cons_zero, List.set_cons_succ]
           replace hR6 := hR6.drop 0 rfl rfl
           clear hR5
           refine tkC 11 rfl (fun KK hK => ?_)
           have x4 := (hR6.nth 0 rfl : Blk _ H _ #[.int .i64 a, .int .i64 kd, .string i1, .string w1, .string b1, .string c1, .int .i64 t1, .int .i64 d1]).cell 2
           have f4 := (hR6.nth 0 rfl : Blk _ H _ #[.int .i64 a, .int .i64 kd, .string i1, .string w1, .string b1, .string c1, .int .i64 t1, .int .i64 d1]).frozen 2
           go_simp
           refine hK.out _ _ trivial (fun hHeld => ?_)
           try simp only [Act.put, List.getElem_toArray, List.getElem_cons_zero, List.getElem_cons_succ, List.setIfInBounds_toArray, List.set_cons_zero, List.set_cons_succ]
           clear x4 f4
           have hR7 := (hR6.front 0 rfl rfl).set_ 2 (.string s5)
           clear hR6
           refine wpAnyH_take (i := 12) (v := .pointer (some ⟨H, 3, none⟩)) rfl (by kernel_rfl) (by kernel_rfl) (by kernel_rfl) (fun _ _ _ h => h) (Or.inl ⟨by rfl, fun V hV => ?_⟩) hHeld ?_
           · first | (go_simp; done) | (go_simp; rfl) | rfl
           simp only [Act.put, List.getElem_toArray, List.getElem_cons_zero, List.getElem_cons_succ, List.setIfInBounds_toArray, List.set_cons_zero, List.set_cons_succ]
           refine tkC 13 rfl (fun KK hK => ?_)
           have x4 := (hR7.nth 0 rfl : Blk _ H _ #[.int .i64 a, .int .i64 kd, .string s5, .string w1, .string b1, .string c1, .int .i64 t1, .int .i64 d1]).cell 3
           have f4 := (hR7.nth 0 rfl : Blk _ H _ #[.int .i64 a, .int .i64 kd, .string s5, .string w1, .string b1, .string c1, .int .i64 t1, .int .i64 d1]).frozen 3
           go_simp
           refine hK.out _ _ trivial (fun hHeld => ?_)
           try simp only [Act.put, List.getElem_toArray, List.getElem_cons_zero, List.getElem_cons_succ, List.setIfInBounds_toArray, List.set_cons_zero, List.set_cons_succ]
           clear x4 f4
           have hR8 := (hR7.front 0 rfl rfl).set_ 3 (.string s6)
           clear hR7
           refine wpAnyH_done (by kernel_rfl) ?_ _
           go_wp2_with fail
           go_meet
           exact ⟨a, kd, s5, s6, b1, c1, t1, d1, _, Lib.hid (ev1X_1 HFV.out HQ.out HS5.out HS6.out), by omega, ⟨hs5, hs6, hz.b, hz.c⟩, hR8⟩
         refine AllReadyH.cons rfl (fun KK hK => ?_) AllReadyH.nil
         have y4 := (hS.nth 0 rfl : Blk _ H _ #[.int .i64 a, .int .i64 kd, .string i1, .string w1, .string b1, .string c1, .int .i64 t1, .int .i64 d1]).cell 3
         go_simp
         refine hK.out _ _ trivial (fun hHeld => ?_)
         try simp only [Act.put, List.getElem_toArray, List.getElem_cons_zero, List.getElem_cons_succ, List.setIfInBounds_toArray, List.set_cons_zero, List.set_cons_succ]
         clear y4
         refine wpAnyH_ready (rs := [2, 8]) (by kernel_rfl) (by simp) ?_
         refine AllReadyH.cons rfl (fun KK hK => ?_) ?_
         · have y4 := (hS.nth 0 rfl : Blk _ H _ #[.int .i64 a, .int .i64 kd, .string i1, .string w1, .string b1, .string c1, .int .i64 t1, .int .i64 d1]).cell 2
           go_simp
           refine hK.out _ _ trivial (fun hHeld => ?_)
           try simp only [Act.put, List.getElem_toArray, List.getElem_cons_zero, List.getElem_cons_succ, List.setIfInBounds_toArray, List.set_cons_zero, List.set_cons_succ]
           clear y4
           refine wpAnyH_ready (rs := [3, 8]) (by kernel_rfl) (by simp) ?_
           refine AllReadyH.cons rfl (fun KK hK => ?_) ?_
           · go_simp
             refine hK.out _ _ trivial (fun hHeld => ?_)
             try simp only [Act.put, List.getElem_toArray, List.getElem_cons_zero, List.getElem_cons_succ, List.setIfInBounds_toArray, List.set_cons_zero, List.set_cons_succ]
             have hR3 := hS.add #[.string ⟨#[]⟩, .string ⟨#[65]⟩, .string i1] 9
             try simp only [size1] at hR3
             refine wpAnyH_ready (rs := [4, 8]) (by kernel_rfl) (by simp) ?_
             refine AllReadyH.cons rfl (fun KK hK => ?_) ?_
             · go_simp
               go_at_call 10
               refine (spE_someN (n := 3) 1000 hR3.drew 0 [⟨#[]⟩, ⟨#[65]⟩, i1] rfl rfl (by decide) (by decide) rfl (l3_sz hz.i) (by omega)).mono ?_
               rintro e w4 ⟨s4, rfl, HS4, hs4, hR4⟩
               refine hK.out _ _ trivial (fun hHeld => ?_)
               try simp only [Act.put, List.getElem_toArray, List.getElem_cons_zero, List.getElem_cons_succ, List.setIfInBounds_toArray, List.set_cons_zero, List.set_cons_succ]
               replace hR4 := hR4.drop 0 rfl rfl
               clear hR3
               refine wpAnyH_take (i := 10) (v := .pointer (some ⟨H, 2, none⟩)) rfl (by kernel_rfl) (by kernel_rfl) (by kernel_rfl) (fun _ _ _ h => h) (Or.inl ⟨by rfl, fun V hV => ?_⟩) hHeld ?_
               · first | (go_simp; done) | (go_simp; rfl) | rfl
               simp only [Act.put, List.getElem_toArray, List.getElem_cons_zero, List.getElem_cons_succ, List.setIfInBounds_toArray, List.set_cons_zero, List.set_cons_succ]
               refine tkC 8 rfl (fun KK hK => ?_)
               go_simp
               refine hK.out _ _ trivial (fun hHeld => ?_)
               try simp only [Act.put, List.getElem_toArray, List.getElem_cons_zero, List.getElem_cons_succ, List.setIfInBounds_toArray, List.set_cons_zero, List.set_cons_succ]
               have hR5 := hR4.add #[.string ⟨#[]⟩, .string w1] 9
               try simp only [size1] at hR5
               clear hR4
               refine tkC 9 rfl (fun KK hK => ?_)
               go_simp
               go_at_call 10
               refine (spE_someN (n := 2) 1000 hR5 0 [⟨#[]⟩, w1] rfl rfl (by decide) (by decide) rfl (l2_sz (by decide) hz.w) (by omega)).mono ?_
               rintro e w6 ⟨s6, rfl, HS6, hs6, hR6⟩
               refine hK.out _ _ trivial (fun hHeld => ?_)
               try simp only [Act.put, List.getElem_toArray, List.getElem_cons_zero, List.getElem_cons_succ, List.setIfInBounds_toArray, List.set_cons_zero, List.set_cons_succ]
               replace hR6 := hR6.drop 0 rfl rfl
               clear hR5
               refine tkC 11 rfl (fun KK hK => ?_)
               have x4 := (hR6.nth 0 rfl : Blk _ H _ #[.int .i64 a, .int .i64 kd, .string i1, .string w1, .string b1, .string c1, .int .i64 t1, .int .i64 d1]).cell 2
               have f4 := (hR6.nth 0 rfl : Blk _ H _ #[.int .i64 a, .int .i64 kd, .string i1, .string w1, .string b1, .string c1, .int .i64 t1, .int .i64 d1]).frozen 2
               go_simp
               refine hK.out _ _ trivial (fun hHeld => ?_)
               try simp only [Act.put, List.getElem_toArray, List.getElem_cons_zero, List.getElem_cons_succ, List.setIfInBounds_toArray, List.set_cons_zero, List.set_cons_succ]
               clear x4 f4
               have hR7 := (hR6.front 0 rfl rfl).set_ 2 (.string s4)
               clear hR6
               refine wpAnyH_take (i := 12) (v := .pointer (some ⟨H, 3, none⟩)) rfl (by kernel_rfl) (by kernel_rfl) (by kernel_rfl) (fun _ _ _ h => h) (Or.inl ⟨by rfl, fun V hV => ?_⟩) hHeld ?_
               · first | (go_simp; done) | (go_simp; rfl) | rfl
               simp only [Act.put, List.getElem_toArray, List.getElem_cons_zero, List.getElem_cons_succ, List.setIfInBounds_toArray, List.set_cons_zero, List.set_cons_succ]
               refine tkC 13 rfl (fun KK hK => ?_)
               have x4 := (hR7.nth 0 rfl : Blk _ H _ #[.int .i64 a, .int .i64 kd, .string s4, .string w1, .string b1, .string c1, .int .i64 t1, .int .i64 d1]).cell 3
               have f4 := (hR7.nth 0 rfl : Blk _ H _ #[.int .i64 a, .int .i64 kd, .string s4, .string w1, .string b1, .string c1, .int .i64 t1, .int .i64 d1]).frozen 3
               go_simp
               refine hK.out _ _ trivial (fun hHeld => ?_)
               try simp only [Act.put, List.getElem_toArray, List.getElem_cons_zero, List.getElem_cons_succ, List.setIfInBounds_toArray, List.set_cons_zero, List.set_cons_succ]
               clear x4 f4
               have hR8 := (hR7.front 0 rfl rfl).set_ 3 (.string s6)
               clear hR7
               refine wpAnyH_done (by kernel_rfl) ?_ _
               go_wp2_with fail
               go_meet
               exact ⟨a, kd, s4, s6, b1, c1, t1, d1, _, Lib.hid (ev1X_1 HFV.out HQ.out HS4.out HS6.out), by omega, ⟨hs4, hs6, hz.b, hz.c⟩, hR8⟩
             refine AllReadyH.cons rfl (fun KK hK => ?_) AllReadyH.nil
             go_simp
             refine hK.out _ _ trivial (fun hHeld => ?_)
             try simp only [Act.put, List.getElem_toArray, List.getElem_cons_zero, List.getElem_cons_succ, List.setIfInBounds_toArray, List.set_cons_zero, List.set_cons_succ]
             have hR4 := hR3.add #[.string ⟨#[]⟩, .string w1] 9
             try simp only [size1] at hR4
             clear hR3
             refine tkC 4 rfl (fun KK hK => ?_)
             go_simp
             go_at_call 10
             refine (spE_someN (n := 3) 1000 hR4.drew 1 [⟨#[]⟩, ⟨#[65]⟩, i1] rfl rfl (by decide) (by decide) rfl (l3_sz hz.i) (by omega)).mono ?_
             rintro e w5 ⟨s5, rfl, HS5, hs5, hR5⟩
             refine hK.out _ _ trivial (fun hHeld => ?_)
             try simp only [Act.put, List.getElem_toArray, List.getElem_cons_zero, List.getElem_cons_succ, List.setIfInBounds_toArray, List.set_cons_zero, List.set_cons_succ]
             replace hR5 := hR5.drop 1 rfl rfl
             clear hR4
             refine wpAnyH_take (i := 10) (v := .pointer (some ⟨H, 2, none⟩)) rfl (by kernel_rfl) (by kernel_rfl) (by kernel_rfl) (fun _ _ _ h => h) (Or.inl ⟨by rfl, fun V hV => ?_⟩) hHeld ?_
             · first | (go_simp; done) | (go_simp; rfl) | rfl
             simp only [Act.put, List.getElem_toArray, List.getElem_cons_zero, List.getElem_cons_succ, List.setIfInBounds_toArray, List.set_cons_zero, List.set_cons_succ]
             refine tkC 9 rfl (fun KK hK => ?_)
             go_simp
             go_at_call 10
             refine (spE_someN (n := 2) 1000 hR5 0 [⟨#[]⟩, w1] rfl rfl (by decide) (by decide) rfl (l2_sz (by decide) hz.w) (by omega)).mono ?_
             rintro e w6 ⟨s6, rfl, HS6, hs6, hR6⟩
             refine hK.out _ _ trivial (fun hHeld => ?_)
             try simp only [Act.put, List.getElem_toArray, List.getElem_cons_zero, List.getElem_cons_succ, List.setIfInBounds_toArray, List.set_cons_zero, List.set_cons_succ]
             replace hR6 := hR6.drop 0 rfl rfl
             clear hR5
             refine tkC 11 rfl (fun KK hK => ?_)
             have x4 := (hR6.nth 0 rfl : Blk _ H _ #[.int .i64 a, .int .i64 kd, .string i1, .string w1, .string b1, .string c1, .int .i64 t1, .int .i64 d1]).cell 2
             have f4 := (hR6.nth 0 rfl : Blk _ H _ #[.int .i64 a, .int .i64 kd, .string i1, .string w1, .string b1, .string c1, .int .i64 t1, .int .i64 d1]).frozen 2
             go_simp
             refine hK.out _ _ trivial (fun hHeld => ?_)
             try simp only [Act.put, List.getElem_toArray, List.getElem_cons_zero, List.getElem_cons_succ, List.setIfInBounds_toArray, List.set_cons_zero, List.set_cons_succ]
             clear x4 f4
             have hR7 := (hR6.front 0 rfl rfl).set_ 2 (.string s5)
             clear hR6
             refine wpAnyH_take (i := 12) (v := .pointer (some ⟨H, 3, none⟩)) rfl (by kernel_rfl) (by kernel_rfl) (by kernel_rfl) (fun _ _ _ h => h) (Or.inl ⟨by rfl, fun V hV => ?_⟩) hHeld ?_
             · first | (go_simp; done) | (go_simp; rfl) | rfl
             simp only [Act.put, List.getElem_toArray, List.getElem_cons_zero, List.getElem_cons_succ, List.setIfInBounds_toArray, List.set_cons_zero, List.set_cons_succ]
             refine tkC 13 rfl (fun KK hK => ?_)
             have x4 := (hR7.nth 0 rfl : Blk _ H _ #[.int .i64 a, .int .i64 kd, .string s5, .string w1, .string b1, .string c1, .int .i64 t1, .int .i64 d1]).cell 3
             have f4 := (hR7.nth 0 rfl : Blk _ H _ #[.int .i64 a, .int .i64 kd, .string s5, .string w1, .string b1, .string c1, .int .i64 t1, .int .i64 d1]).frozen 3
             go_simp
             refine hK.out _ _ trivial (fun hHeld => ?_)
             try simp only [Act.put, List.getElem_toArray, List.getElem_cons_zero, List.getElem_cons_succ, List.setIfInBounds_toArray, List.set_cons_zero, List.set_cons_succ]
             clear x4 f4
             have hR8 := (hR7.front 0 rfl rfl).set_ 3 (.string s6)
             clear hR7
             refine wpAnyH_done (by kernel_rfl) ?_ _
             go_wp2_with fail
             go_meet
             exact ⟨a, kd, s5, s6, b1, c1, t1, d1, _, Lib.hid (ev1X_1 HFV.out HQ.out HS5.out HS6.out), by omega, ⟨hs5, hs6, hz.b, hz.c⟩, hR8⟩
           refine AllReadyH.cons rfl (fun KK hK => ?_) AllReadyH.nil
           go_simp
           refine hK.out _ _ trivial (fun hHeld => ?_)
           try simp only [Act.put, List.getElem_toArray, List.getElem_cons_zero, List.getElem_cons_succ, List.setIfInBounds_toArray, List.set_cons_zero, List.set_cons_succ]
           have hR3 := hS.add #[.string ⟨#[]⟩, .string w1] 9
           try simp only [size1] at hR3
           refine tkC 3 rfl (fun KK hK => ?_)
           go_simp
           refine hK.out _ _ trivial (fun hHeld => ?_)
           try simp only [Act.put, List.getElem_toArray, List.getElem_cons_zero, List.getElem_cons_succ, List.setIfInBounds_toArray, List.set_cons_zero, List.set_cons_succ]
           have hR4 := hR3.add #[.string ⟨#[]⟩, .string ⟨#[65]⟩, .string i1] 9
           try simp only [size1] at hR4
           clear hR3
           refine tkC 4 rfl (fun KK hK => ?_)
           go_simp
           go_at_call 10
           refine (spE_someN (n := 3) 1000 hR4.drew 0 [⟨#[]⟩, ⟨#[65]⟩, i1] rfl rfl (by decide) (by decide) rfl (l3_sz hz.i) (by omega)).mono ?_
           rintro e w5 ⟨s5, rfl, HS5, hs5, hR5⟩
           refine hK.out _ _ trivial (fun hHeld => ?_)
           try simp only [Act.put, List.getElem_toArray, List.getElem_cons_zero, List.getElem_cons_succ, List.setIfInBounds_toArray, List.set_cons_zero, List.set_cons_succ]
           replace hR5 := hR5.drop 0 rfl rfl
           clear hR4
           refine wpAnyH_take (i := 10) (v := .pointer (some ⟨H, 2, none⟩)) rfl (by kernel_rfl) (by kernel_rfl) (by kernel_rfl) (fun _ _ _ h => h) (Or.inl ⟨by rfl, fun V hV => ?_⟩) hHeld ?_
           · first | (go_simp; done) | (go_simp; rfl) | rfl
           simp only [Act.put, List.getElem_toArray, List.getElem_cons_zero, List.getElem_cons_succ, List.setIfInBounds_toArray, List.set_cons_zero, List.set_cons_succ]
           refine tkC 9 rfl (fun KK hK => ?_)
           go_simp
           go_at_call 10
           refine (spE_someN (n := 2) 1000 hR5 0 [⟨#[]⟩, w1] rfl rfl (by decide) (by decide) rfl (l2_sz (by decide) hz.w) (by omega)).mono ?_
           rintro e w6 ⟨s6, rfl, HS6, hs6, hR6⟩
           refine hK.out _ _ trivial (fun hHeld => ?_)
           try simp only [Act.put, List.getElem_toArray, List.getElem_cons_zero, List.getElem_cons_succ, List.setIfInBounds_toArray, List.set_cons_zero, List.set_cons_succ]
           replace hR6 := hR6.drop 0 rfl rfl
           clear hR5
           refine tkC 11 rfl (fun KK hK => ?_)
           have x4 := (hR6.nth 0 rfl : Blk _ H _ #[.int .i64 a, .int .i64 kd, .string i1, .string w1, .string b1, .string c1, .int .i64 t1, .int .i64 d1]).cell 2
           have f4 := (hR6.nth 0 rfl : Blk _ H _ #[.int .i64 a, .int .i64 kd, .string i1, .string w1, .string b1, .string c1, .int .i64 t1, .int .i64 d1]).frozen 2
           go_simp
           refine hK.out _ _ trivial (fun hHeld => ?_)
           try simp only [Act.put, List.getElem_toArray, List.getElem_cons_zero, List.getElem_cons_succ, List.setIfInBounds_toArray, List.set_cons_zero, List.set_cons_succ]
           clear x4 f4
           have hR7 := (hR6.front 0 rfl rfl).set_ 2 (.string s5)
           clear hR6
           refine wpAnyH_take (i := 12) (v := .pointer (some ⟨H, 3, none⟩)) rfl (by kernel_rfl) (by kernel_rfl) (by kernel_rfl) (fun _ _ _ h => h) (Or.inl ⟨by rfl, fun V hV => ?_⟩) hHeld ?_
           · first | (go_simp; done) | (go_simp; rfl) | rfl
           simp only [Act.put, List.getElem_toArray, List.getElem_cons_zero, List.getElem_cons_succ, List.setIfInBounds_toArray, List.set_cons_zero, List.set_cons_succ]
           refine tkC 13 rfl (fun KK hK => ?_)
           have x4 := (hR7.nth 0 rfl : Blk _ H _ #[.int .i64 a, .int .i64 kd, .string s5, .string w1, .string b1, .string c1, .int .i64 t1, .int .i64 d1]).cell 3
           have f4 := (hR7.nth 0 rfl : Blk _ H _ #[.int .i64 a, .int .i64 kd, .string s5, .string w1, .string b1, .string c1, .int .i64 t1, .int .i64 d1]).frozen 3
           go_simp
           refine hK.out _ _ trivial (fun hHeld => ?_)
           try simp only [Act.put, List.getElem_toArray, List.getElem_cons_zero, List.getElem_cons_succ, List.setIfInBounds_toArray, List.set_cons_zero, List.set_cons_succ]
           clear x4 f4
           have hR8 := (hR7.front 0 rfl rfl).set_ 3 (.string s6)
           clear hR7
           refine wpAnyH_done (by kernel_rfl) ?_ _
           go_wp2_with fail
           go_meet
           exact ⟨a, kd, s5, s6, b1, c1, t1, d1, _, Lib.hid (ev1X_1 HFV.out HQ.out HS5.out HS6.out), by omega, ⟨hs5, hs6, hz.b, hz.c⟩, hR8⟩
         refine AllReadyH.cons rfl (fun KK hK => ?_) AllReadyH.nil
         go_simp
         refine hK.out _ _ trivial (fun hHeld => ?_)
         try simp only [Act.put, List.getElem_toArray, List.getElem_cons_zero, List.getElem_cons_succ, List.setIfInBounds_toArray, List.set_cons_zero, List.set_cons_succ]
         have hR2 := hS.add #[.string ⟨#[]⟩, .string w1] 9
         try simp only [size1] at hR2
         refine tkC 2 rfl (fun KK hK => ?_)
         have y4 := (hR2.nth 1 rfl : Blk _ H _ #[.int .i64 a, .int .i64 kd, .string i1, .string w1, .string b1, .string c1, .int .i64 t1, .int .i64 d1]).cell 2
         go_simp
         refine hK.out _ _ trivial (fun hHeld => ?_)
         try simp only [Act.put, List.getElem_toArray, List.getElem_cons_zero, List.getElem_cons_succ, List.setIfInBounds_toArray, List.set_cons_zero, List.set_cons_succ]
         clear y4
         refine tkC 3 rfl (fun KK hK => ?_)
         go_simp
         refine hK.out _ _ trivial (fun hHeld => ?_)
         try simp only [Act.put, List.getElem_toArray, List.getElem_cons_zero, List.getElem_cons_succ, List.setIfInBounds_toArray, List.set_cons_zero, List.set_cons_succ]
         have hR4 := hR2.add #[.string ⟨#[]⟩, .string ⟨#[65]⟩, .string i1] 9
         try simp only [size1] at hR4
         clear hR2
         refine tkC 4 rfl (fun KK hK => ?_)
         go_simp
         go_at_call 10
         refine (spE_someN (n := 3) 1000 hR4.drew 0 [⟨#[]⟩, ⟨#[65]⟩, i1] rfl rfl (by decide) (by decide) rfl (l3_sz hz.i) (by omega)).mono ?_
         rintro e w5 ⟨s5, rfl, HS5, hs5, hR5⟩
         refine hK.out _ _ trivial (fun hHeld => ?_)
         try simp only [Act.put, List.getElem_toArray, List.getElem_cons_zero, List.getElem_cons_succ, List.setIfInBounds_toArray, List.set_cons_zero, List.set_cons_succ]
         replace hR5 := hR5.drop 0 rfl rfl
         clear hR4
         refine wpAnyH_take (i := 10) (v := .pointer (some ⟨H, 2, none⟩)) rfl (by kernel_rfl) (by kernel_rfl) (by kernel_rfl) (fun _ _ _ h => h) (Or.inl ⟨by rfl, fun V hV => ?_⟩) hHeld ?_
         · first | (go_simp; done) | (go_simp; rfl) | rfl
         simp only [Act.put, List.getElem_toArray, List.getElem_cons_zero, List.getElem_cons_succ, List.setIfInBounds_toArray, List.set_cons_zero, List.set_cons_succ]
         refine tkC 9 rfl (fun KK hK => ?_)
         go_simp
         go_at_call 10
         refine (spE_someN (n := 2) 1000 hR5 0 [⟨#[]⟩, w1] rfl rfl (by decide) (by decide) rfl (l2_sz (by decide) hz.w) (by omega)).mono ?_
         rintro e w6 ⟨s6, rfl, HS6, hs6, hR6⟩
         refine hK.out _ _ trivial (fun hHeld => ?_)
         try simp only [Act.put, List.getElem_toArray, List.getElem_cons_zero, List.getElem_cons_succ, List.setIfInBounds_toArray, List.set_cons_zero, List.set_cons_succ]
         replace hR6 := hR6.drop 0 rfl rfl
         clear hR5
         refine tkC 11 rfl (fun KK hK => ?_)
         have x4 := (hR6.nth 0 rfl : Blk _ H _ #[.int .i64 a, .int .i64 kd, .string i1, .string w1, .string b1, .string c1, .int .i64 t1, .int .i64 d1]).cell 2
         have f4 := (hR6.nth 0 rfl : Blk _ H _ #[.int .i64 a, .int .i64 kd, .string i1, .string w1, .string b1, .string c1, .int .i64 t1, .int .i64 d1]).frozen 2
         go_simp
         refine hK.out _ _ trivial (fun hHeld => ?_)
         try simp only [Act.put, List.getElem_toArray, List.getElem_cons_zero, List.getElem_cons_succ, List.setIfInBounds_toArray, List.set_cons_zero, List.set_cons_succ]
         clear x4 f4
         have hR7 := (hR6.front 0 rfl rfl).set_ 2 (.string s5)
         clear hR6
         refine wpAnyH_take (i := 12) (v := .pointer (some ⟨H, 3, none⟩)) rfl (by kernel_rfl) (by kernel_rfl) (by kernel_rfl) (fun _ _ _ h => h) (Or.inl ⟨by rfl, fun V hV => ?_⟩) hHeld ?_
         · first | (go_simp; done) | (go_simp; rfl) | rfl
         simp only [Act.put, List.getElem_toArray, List.getElem_cons_zero, List.getElem_cons_succ, List.setIfInBounds_toArray, List.set_cons_zero, List.set_cons_succ]
         refine tkC 13 rfl (fun KK hK => ?_)
         have x4 := (hR7.nth 0 rfl : Blk _ H _ #[.int .i64 a, .int .i64 kd, .string s5, .string w1, .string b1, .string c1, .int .i64 t1, .int .i64 d1]).cell 3
         have f4 := (hR7.nth 0 rfl : Blk _ H _ #[.int .i64 a, .int .i64 kd, .string s5, .string w1, .string b1, .string c1, .int .i64 t1, .int .i64 d1]).frozen 3
         go_simp
         refine hK.out _ _ trivial (fun hHeld => ?_)
         try simp only [Act.put, List.getElem_toArray, List.getElem_cons_zero, List.getElem_cons_succ, List.setIfInBounds_toArray, List.set_cons_zero, List.set_cons_succ]
         clear x4 f4
         have hR8 := (hR7.front 0 rfl rfl).set_ 3 (.string s6)
         clear hR7
         refine wpAnyH_done (by kernel_rfl) ?_ _
         go_wp2_with fail
         go_meet
         exact ⟨a, kd, s5, s6, b1, c1, t1, d1, _, Lib.hid (ev1X_1 HFV.out HQ.out HS5.out HS6.out), by omega, ⟨hs5, hs6, hz.b, hz.c⟩, hR8⟩
       · go_upto_region 25 with (fail)
         refine wp_region_held_drew (S := fun _ => True) (by kernel_rfl) trivial (fun hHeld => ?_)
         refine wpAnyH_take (i := 0) (v := .pointer (some ⟨b, 0, none⟩)) rfl (by kernel_rfl) (by kernel_rfl) (by kernel_rfl) (fun _ _ _ h => h) (Or.inl ⟨by rfl, fun V hV => ?_⟩) hHeld ?_
         · first | (go_simp; done) | (go_simp; rfl) | rfl
         simp only [Act.put, List.getElem_toArray, List.getElem_cons_zero, List.setIfInBounds_toArray, List.set_cons_zero, List.set_cons_succ]
         refine wpAnyH_take (i := 1) (v := .pointer (some ⟨H, 4, none⟩)) rfl (by kernel_rfl) (by kernel_rfl) (by kernel_rfl) (fun _ _ _ h => h) (Or.inl ⟨by rfl, fun V hV => ?_⟩) hHeld ?_
         · first | (go_simp; done) | (go_simp; rfl) | rfl
         simp only [Act.put, List.getElem_toArray, List.getElem_cons_zero, List.getElem_cons_succ, List.setIfInBounds_toArray, List.set_cons_zero, List.set_cons_succ]
         refine wpAnyH_take (i := 5) (v := .pointer (some ⟨b, 0, none⟩)) rfl (by kernel_rfl) (by kernel_rfl) (by kernel_rfl) (fun _ _ _ h => h) (Or.inl ⟨by rfl, fun V hV => ?_⟩) hHeld ?_
         · first | (go_simp; done) | (go_simp; rfl) | rfl
         simp only [Act.put, List.getElem_toArray, List.getElem_cons_zero, List.getElem_cons_succ, List.setIfInBounds_toArray, List.set_cons_zero, List.set_cons_succ]
         refine wpAnyH_take (i := 6) (v := .pointer (some ⟨H, 5, none⟩)) rfl (by kernel_rfl) (by kernel_rfl) (by kernel_rfl) (fun _ _ _ h => h) (Or.inl ⟨by rfl, fun V hV => ?_⟩) hHeld ?_
         · first | (go_simp; done) | (go_simp; rfl) | rfl
         simp only [Act.put, List.getElem_toArray, List.getElem_cons_zero, List.getElem_cons_succ, List.setIfInBounds_toArray, List.set_cons_zero, List.set_cons_succ]
         refine wpAnyH_ready (rs := [2, 7]) (by kernel_rfl) (by simp) ?_
         refine AllReadyH.cons rfl (fun KK hK => ?_) ?_
         · have y4 := (hS.nth 0 rfl : Blk _ H _ #[.int .i64 a, .int .i64 kd, .string i1, .string w1, .string b1, .string c1, .int .i64 t1, .int .i64 d1]).cell 4
           go_simp
           refine hK.out _ _ trivial (fun hHeld => ?_)
           try simp only [Act.put, List.getElem_toArray, List.getElem_cons_zero, List.getElem_cons_succ, List.setIfInBounds_toArray, List.set_cons_zero, List.set_cons_succ]
           clear y4
           refine wpAnyH_ready (rs := [3, 7]) (by kernel_rfl) (by simp) ?_
           refine AllReadyH.cons rfl (fun KK hK => ?_) ?_
           · go_simp
             refine hK.out _ _ trivial (fun hHeld => ?_)
             try simp only [Act.put, List.getElem_toArray, List.getElem_cons_zero, List.getElem_cons_succ, List.setIfInBounds_toArray, List.set_cons_zero, List.set_cons_succ]
             have hR2 := hS.add #[.string ⟨#[]⟩, .string b1] 9
             try simp only [size1] at hR2
             refine wpAnyH_ready (rs := [4, 7]) (by kernel_rfl) (by simp) ?_
             refine AllReadyH.cons rfl (fun KK hK => ?_) ?_
             · go_simp
               go_at_call 10
               refine (spE_someN (n := 2) 1000 hR2.drew 0 [⟨#[]⟩, b1] rfl rfl (by decide) (by decide) rfl (l2_sz (by decide) hz.b) (by omega)).mono ?_
               rintro e w3 ⟨s3, rfl, HS3, hs3, hR3⟩
               refine hK.out _ _ trivial (fun hHeld => ?_)
               try simp only [Act.put, List.getElem_toArray, List.getElem_cons_zero, List.getElem_cons_succ, List.setIfInBounds_toArray, List.set_cons_zero, List.set_cons_succ]
               replace hR3 := hR3.drop 0 rfl rfl
               clear hR2
               refine tkC 7 rfl (fun KK hK => ?_)
               have y4 := (hR3.nth 0 rfl : Blk _ H _ #[.int .i64 a, .int .i64 kd, .string i1, .string w1, .string b1, .string c1, .int .i64 t1, .int .i64 d1]).cell 5
               go_simp
               refine hK.out _ _ trivial (fun hHeld => ?_)
               try simp only [Act.put, List.getElem_toArray, List.getElem_cons_zero, List.getElem_cons_succ, List.setIfInBounds_toArray, List.set_cons_zero, List.set_cons_succ]
               clear y4
               refine wpAnyH_take (i := 10) (v := .pointer (some ⟨H, 4, none⟩)) rfl (by kernel_rfl) (by kernel_rfl) (by kernel_rfl) (fun _ _ _ h => h) (Or.inl ⟨by rfl, fun V hV => ?_⟩) hHeld ?_
               · first | (go_simp; done) | (go_simp; rfl) | rfl
               simp only [Act.put, List.getElem_toArray, List.getElem_cons_zero, List.getElem_cons_succ, List.setIfInBounds_toArray, List.set_cons_zero, List.set_cons_succ]
               refine tkC 8 rfl (fun KK hK => ?_)
               go_simp
               refine hK.out _ _ trivial (fun hHeld => ?_)
               try simp only [Act.put, List.getElem_toArray, List.getElem_cons_zero, List.getElem_cons_succ, List.setIfInBounds_toArray, List.set_cons_zero, List.set_cons_succ]
               have hR5 := hR3.add #[.string ⟨#[65]⟩, .string c1] 9
               try simp only [size1] at hR5
               clear hR3
               refine tkC 9 rfl (fun KK hK => ?_)
               go_simp
               go_at_call 10
               refine (spE_someN (n := 2) 1000 hR5 0 [⟨#[65]⟩, c1] rfl rfl (by decide) (by decide) rfl (l2_sz (by decide) hz.c) (by omega)).mono ?_
               rintro e w6 ⟨s6, rfl, HS6, hs6, hR6⟩
               refine hK.out _ _ trivial (fun hHeld => ?_)
               try simp only [Act.put, List.getElem_toArray, List.getElem_cons_zero, List.getElem_cons_succ, List.setIfInBounds_toArray, List.set_cons_zero, List.set_cons_succ]
               replace hR6 := hR6.drop 0 rfl rfl
               clear hR5
               refine tkC 11 rfl (fun KK hK => ?_)
               have x4 := (hR6.nth 0 rfl : Blk _ H _ #[.int .i64 a, .int .i64 kd, .string i1, .string w1, .string b1, .string c1, .int .i64 t1, .int .i64 d1]).cell 4
               have f4 := (hR6.nth 0 rfl : Blk _ H _ #[.int .i64 a, .int .i64 kd, .string i1, .string w1, .string b1, .string c1, .int .i64 t1, .int .i64 d1]).frozen 4
               go_simp
               refine hK.out _ _ trivial (fun hHeld => ?_)
               try simp only [Act.put, List.getElem_toArray, List.getElem_cons_zero, List.getElem_cons_succ, List.setIfInBounds_toArray, List.set_cons_zero, List.set_cons_succ]
               clear x4 f4
               have hR7 := (hR6.front 0 rfl rfl).set_ 4 (.string s3)
               clear hR6
               refine wpAnyH_take (i := 12) (v := .pointer (some ⟨H, 5, none⟩)) rfl (by kernel_rfl) (by kernel_rfl) (by kernel_rfl) (fun _ _ _ h => h) (Or.inl ⟨by rfl, fun V hV => ?_⟩) hHeld ?_
               · first | (go_simp; done) | (go_simp; rfl) | rfl
               simp only [Act.put, List.getElem_toArray, List.getElem_cons_zero, List.getElem_cons_succ, List.setIfInBounds_toArray, List.set_cons_zero, List.set_cons_succ]
               refine tkC 13 rfl (fun KK hK => ?_)
               have x4 := (hR7.nth 0 rfl : Blk _ H _ #[.int .i64 a, .int .i64 kd, .string i1, .string w1, .string s3, .string c1, .int .i64 t1, .int .i64 d1]).cell 5
               have f4 := (hR7.nth 0 rfl : Blk _ H _ #[.int .i64 a, .int .i64 kd, .string i1, .string w1, .string s3, .string c1, .int .i64 t1, .int .i64 d1]).frozen 5
               go_simp
               refine hK.out _ _ trivial (fun hHeld => ?_)
               try simp only [Act.put, List.getElem_toArray, List.getElem_cons_zero, List.getElem_cons_succ, List.setIfInBounds_toArray, List.set_cons_zero, List.set_cons_succ]
               clear x4 f4
               have hR8 := (hR7.front 0 rfl rfl).set_ 5 (.string s6)
               clear hR7
               refine wpAnyH_done (by kernel_rfl) ?_ _
               go_wp2_with fail
               go_meet
               exact ⟨a, kd, i1, w1, s3, s6, t1, d1, _, Lib.hid (ev1X_2 HFV.out HQ.out HS3.out HS6.out), by omega, ⟨hz.i, hz.w, hs3, hs6⟩, hR8⟩
             refine AllReadyH.cons rfl (fun KK hK => ?_) AllReadyH.nil
             have y4 := (hR2.nth 1 rfl : Blk _ H _ #[.int .i64 a, .int .i64 kd, .string i1, .string w1, .string b1, .string c1, .int .i64 t1, .int .i64 d1]).cell 5
             go_simp
             refine hK.out _ _ trivial (fun hHeld => ?_)
             try simp only [Act.put, List.getElem_toArray, List.getElem_cons_zero, List.getElem_cons_succ, List.setIfInBounds_toArray, List.set_cons_zero, List.set_cons_succ]
             clear y4
             refine wpAnyH_ready (rs := [4, 8]) (by kernel_rfl) (by simp) ?_
             refine AllReadyH.cons rfl (fun KK hK => ?_) ?_
             · go_simp
               go_at_call 10
               refine (spE_someN (n := 2) 1000 hR2.drew 0 [⟨#[]⟩, b1] rfl rfl (by decide) (by decide) rfl (l2_sz (by decide) hz.b) (by omega)).mono ?_
               rintro e w4 ⟨s4, rfl, HS4, hs4, hR4⟩
               refine hK.out _ _ trivial (fun hHeld => ?_)
               try simp only [Act.put, List.getElem_toArray, List.getElem_cons_zero, List.getElem_cons_succ, List.setIfInBounds_toArray, List.set_cons_zero, List.set_cons_succ]
               replace hR4 := hR4.drop 0 rfl rfl
               clear hR2
               refine wpAnyH_take (i := 10) (v := .pointer (some ⟨H, 4, none⟩)) rfl (by kernel_rfl) (by kernel_rfl) (by kernel_rfl) (fun _ _ _ h => h) (Or.inl ⟨by rfl, fun V hV => ?_⟩) hHeld ?_
               · first | (go_simp; done) | (go_simp; rfl) | rfl
               simp only [Act.put, List.getElem_toArray, List.getElem_cons_zero, List.getElem_cons_succ, List.setIfInBounds_toArray, List.set_cons_zero, List.set_cons_succ]
               refine tkC 8 rfl (fun KK hK => ?_)
               go_simp
               refine hK.out _ _ trivial (fun hHeld => ?_)
               try simp only [Act.put, List.getElem_toArray, List.getElem_cons_zero, List.getElem_cons_succ, List.setIfInBounds_toArray, List.set_cons_zero, List.set_cons_succ]
               have hR5 := hR4.add #[.string ⟨#[65]⟩, .string c1] 9
               try simp only [size1] at hR5
               clear hR4
               refine tkC 9 rfl (fun KK hK => ?_)
               go_simp
               go_at_call 10
               refine (spE_someN (n := 2) 1000 hR5 0 [⟨#[65]⟩, c1] rfl rfl (by decide) (by decide) rfl (l2_sz (by decide) hz.c) (by omega)).mono ?_
               rintro e w6 ⟨s6, rfl, HS6, hs6, hR6⟩
               refine hK.out _ _ trivial (fun hHeld => ?_)
               try simp only [Act.put, List.getElem_toArray, List.getElem_cons_zero, List.getElem_cons_succ, List.setIfInBounds_toArray, List.set_cons_zero, List.set_cons_succ]
               replace hR6 := hR6.drop 0 rfl rfl
               clear hR5
               refine tkC 11 rfl (fun KK hK => ?_)
               have x4 := (hR6.nth 0 rfl : Blk _ H _ #[.int .i64 a, .int .i64 kd, .string i1, .string w1, .string b1, .string c1, .int .i64 t1, .int .i64 d1]).cell 4
               have f4 := (hR6.nth 0 rfl : Blk _ H _ #[.int .i64 a, .int .i64 kd, .string i1, .string w1, .string b1, .string c1, .int .i64 t1, .int .i64 d1]).frozen 4
               go_simp
               refine hK.out _ _ trivial (fun hHeld => ?_)
               try simp only [Act.put, List.getElem_toArray, List.getElem_cons_zero, List.getElem_cons_succ, List.setIfInBounds_toArray, List.set_cons_zero, List.set_cons_succ]
               clear x4 f4
               have hR7 := (hR6.front 0 rfl rfl).set_ 4 (.string s4)
               clear hR6
               refine wpAnyH_take (i := 12) (v := .pointer (some ⟨H, 5, none⟩)) rfl (by kernel_rfl) (by kernel_rfl) (by kernel_rfl) (fun _ _ _ h => h) (Or.inl ⟨by rfl, fun V hV => ?_⟩) hHeld ?_
               · first | (go_simp; done) | (go_simp; rfl) | rfl
               simp only [Act.put, List.getElem_toArray, List.getElem_cons_zero, List.getElem_cons_succ, List.setIfInBounds_toArray, List.set_cons_zero, List.set_cons_succ]
               refine tkC 13 rfl (fun KK hK => ?_)
               have x4 := (hR7.nth 0 rfl : Blk _ H _ #[.int .i64 a, .int .i64 kd, .string i1, .string w1, .string s4, .string c1, .int .i64 t1, .int .i64 d1]).cell 5
               have f4 := (hR7.nth 0 rfl : Blk _ H _ #[.int .i64 a, .int .i64 kd, .string i1, .string w1, .string s4, .string c1, .int .i64 t1, .int .i64 d1]).frozen 5
               go_simp
               refine hK.out _ _ trivial (fun hHeld => ?_)
               try simp only [Act.put, List.getElem_toArray, List.getElem_cons_zero, List.getElem_cons_succ, List.setIfInBounds_toArray, List.set_cons_zero, List.set_cons_succ]
               clear x4 f4
               have hR8 := (hR7.front 0 rfl rfl).set_ 5 (.string s6)
               clear hR7
               refine wpAnyH_done (by kernel_rfl) ?_ _
               go_wp2_with fail
               go_meet
               exact ⟨a, kd, i1, w1, s4, s6, t1, d1, _, Lib.hid (ev1X_2 HFV.out HQ.out HS4.out HS6.out), by omega, ⟨hz.i, hz.w, hs4, hs6⟩, hR8⟩
             refine AllReadyH.cons rfl (fun KK hK => ?_) AllReadyH.nil
             go_simp
             refine hK.out _ _ trivial (fun hHeld => ?_)
             try simp only [Act.put, List.getElem_toArray, List.getElem_cons_zero, List.getElem_cons_succ, List.setIfInBounds_toArray, List.set_cons_zero, List.set_cons_succ]
             have hR4 := hR2.add #[.string ⟨#[65]⟩, .string c1] 9
             try simp only [size1] at hR4
             clear hR2
             refine tkC 4 rfl (fun KK hK => ?_)
             go_simp
             go_at_call 10
             refine (spE_someN (n := 2) 1000 hR4.drew 1 [⟨#[]⟩, b1] rfl rfl (by decide) (by decide) rfl (l2_sz (by decide) hz.b) (by omega)).mono ?_
             rintro e w5 ⟨s5, rfl, HS5, hs5, hR5⟩
             refine hK.out _ _ trivial (fun hHeld => ?_)
             try simp only [Act.put, List.getElem_toArray, List.getElem_cons_zero, List.getElem_cons_succ, List.setIfInBounds_toArray, List.set_cons_zero, List.set_cons_succ]
             replace hR5 := hR5.drop 1 rfl rfl
             clear hR4
             refine wpAnyH_take (i := 10) (v := .pointer (some ⟨H, 4, none⟩)) rfl (by kernel_rfl) (by kernel_rfl) (by kernel_rfl) (fun _ _ _ h => h) (Or.inl ⟨by rfl, fun V hV => ?_⟩) hHeld ?_
             · first | (go_simp; done) | (go_simp; rfl) | rfl
             simp only [Act.put, List.getElem_toArray, List.getElem_cons_zero, List.getElem_cons_succ, List.setIfInBounds_toArray, List.set_cons_zero, List.set_cons_succ]
             refine tkC 9 rfl (fun KK hK => ?_)
             go_simp
             go_at_call 10
             refine (spE_someN (n := 2) 1000 hR5 0 [⟨#[65]⟩, c1] rfl rfl (by decide) (by decide) rfl (l2_sz (by decide) hz.c) (by omega)).mono ?_
             rintro e w6 ⟨s6, rfl, HS6, hs6, hR6⟩
             refine hK.out _ _ trivial (fun hHeld => ?_)
             try simp only [Act.put, List.getElem_toArray, List.getElem_cons_zero, List.getElem_cons_succ, List.setIfInBounds_toArray, List.set_cons_zero, List.set_cons_succ]
             replace hR6 := hR6.drop 0 rfl rfl
             clear hR5
             refine tkC 11 rfl (fun KK hK => ?_)
             have x4 := (hR6.nth 0 rfl : Blk _ H _ #[.int .i64 a, .int .i64 kd, .string i1, .string w1, .string b1, .string c1, .int .i64 t1, .int .i64 d1]).cell 4
             have f4 := (hR6.nth 0 rfl : Blk _ H _ #[.int .i64 a, .int .i64 kd, .string i1, .string w1, .string b1, .string c1, .int .i64 t1, .int .i64 d1]).frozen 4
             go_simp
             refine hK.out _ _ trivial (fun hHeld => ?_)
             try simp only [Act.put, List.getElem_toArray, List.getElem_cons_zero, List.getElem_cons_succ, List.setIfInBounds_toArray, List.set_cons_zero, List.set_cons_succ]
             clear x4 f4
             have hR7 := (hR6.front 0 rfl rfl).set_ 4 (.string s5)
             clear hR6
             refine wpAnyH_take (i := 12) (v := .pointer (some ⟨H, 5, none⟩)) rfl (by kernel_rfl) (by kernel_rfl) (by kernel_rfl) (fun _ _ _ h => h) (Or.inl ⟨by rfl, fun V hV => ?_⟩) hHeld ?_
             · first | (go_simp; done) | (go_simp; rfl) | rfl
             simp only [Act.put, List.getElem_toArray, List.getElem_cons_zero, List.getElem_cons_succ, List.setIfInBounds_toArray, List.set_cons_zero, List.set_cons_succ]
             refine tkC 13 rfl (fun KK hK => ?_)
             have x4 := (hR7.nth 0 rfl : Blk _ H _ #[.int .i64 a, .int .i64 kd, .string i1, .string w1, .string s5, .string c1, .int .i64 t1, .int .i64 d1]).cell 5
             have f4 := (hR7.nth 0 rfl : Blk _ H _ #[.int .i64 a, .int .i64 kd, .string i1, .string w1, .string s5, .string c1, .int .i64 t1, .int .i64 d1]).frozen 5
             go_simp
             refine hK.out _ _ trivial (fun hHeld => ?_)
             try simp only [Act.put, List.getElem_toArray, List.getElem_cons_zero, List.getElem_cons_succ, List.setIfInBounds_toArray, List.set_cons_zero, List.set_cons_succ]
             clear x4 f4
             have hR8 := (hR7.front 0 rfl rfl).set_ 5 (.string s6)
             clear hR7
             refine wpAnyH_done (by kernel_rfl) ?_ _
             go_wp2_with fail
             go_meet
             exact ⟨a, kd, i1, w1, s5, s6, t1, d1, _, Lib.hid (ev1X_2 HFV.out HQ.out HS5.out HS6.out), by omega, ⟨hz.i, hz.w, hs5, hs6⟩, hR8⟩
           refine AllReadyH.cons rfl (fun KK hK => ?_) AllReadyH.nil
           have y4 := (hS.nth 0 rfl : Blk _ H _ #[.int .i64 a, .int .i64 kd, .string i1, .string w1, .string b1, .string c1, .int .i64 t1, .int .i64 d1]).cell 5
           go_simp
           refine hK.out _ _ trivial (fun hHeld => ?_)
           try simp only [Act.put, List.getElem_toArray, List.getElem_cons_zero, List.getElem_cons_succ, List.setIfInBounds_toArray, List.set_cons_zero, List.set_cons_succ]
           clear y4
           refine wpAnyH_ready (rs := [3, 8]) (by kernel_rfl) (by simp) ?_
           refine AllReadyH.cons rfl (fun KK hK => ?_) ?_
           · go_simp
             refine hK.out _ _ trivial (fun hHeld => ?_)
             try simp only [Act.put, List.getElem_toArray, List.getElem_cons_zero, List.getElem_cons_succ, List.setIfInBounds_toArray, List.set_cons_zero, List.set_cons_succ]
             have hR3 := hS.add #[.string ⟨#[]⟩, .string b1] 9
             try simp only [size1] at hR3
             refine wpAnyH_ready (rs := [4, 8]) (by kernel_rfl) (by simp) ?_
             refine AllReadyH.cons rfl (fun KK hK => ?_) ?_
             · go_simp
               go_at_call 10
               refine (spE_someN (n := 2) 1000 hR3.drew 0 [⟨#[]⟩, b1] rfl rfl (by decide) (by decide) rfl (l2_sz (by decide) hz.b) (by omega)).mono ?_
               rintro e w4 ⟨s4, rfl, HS4, hs4, hR4⟩
               refine hK.out _ _ trivial (fun hHeld => ?_)
               try simp only [Act.put, List.getElem_toArray, List.getElem_cons_zero, List.getElem_cons_succ, List.setIfInBounds_toArray, List.set_cons_zero, List.set_cons_succ]
               replace hR4 := hR4.drop 0 rfl rfl
               clear hR3
               refine wpAnyH_take (i := 10) (v := .pointer (some ⟨H, 4, none⟩)) rfl (by kernel_rfl) (by kernel_rfl) (by kernel_rfl) (fun _ _ _ h => h) (Or.inl ⟨by rfl, fun V hV => ?_⟩) hHeld ?_
               · first | (go_simp; done) | (go_simp; rfl) | rfl
               simp only [Act.put, List.getElem_toArray, List.getElem_cons_zero, List.getElem_cons_succ, List.setIfInBounds_toArray, List.set_cons_zero, List.set_cons_succ]
               refine tkC 8 rfl (fun KK hK => ?_)
               go_simp
               refine hK.out _ _ trivial (fun hHeld => ?_)
               try simp only [Act.put, List.getElem_toArray, List.getElem_cons_zero, List.getElem_cons_succ, List.setIfInBounds_toArray, List.set_cons_zero, List.set_cons_succ]
               have hR5 := hR4.add #[.string ⟨#[65]⟩, .string c1] 9
               try simp only [size1] at hR5
               clear hR4
               refine tkC 9 rfl (fun KK hK => ?_)
               go_simp
               go_at_call 10
               refine (spE_someN (n := 2) 1000 hR5 0 [⟨#[65]⟩, c1] rfl rfl (by decide) (by decide) rfl (l2_sz (by decide) hz.c) (by omega)).mono ?_
               rintro e w6 ⟨s6, rfl, HS6, hs6, hR6⟩
               refine hK.out _ _ trivial (fun hHeld => ?_)
               try simp only [Act.put, List.getElem_toArray, List.getElem_cons_zero, List.getElem_cons_succ, List.setIfInBounds_toArray, List.set_cons_zero, List.set_cons_succ]
               replace hR6 := hR6.drop 0 rfl rfl
               clear hR5
               refine tkC 11 rfl (fun KK hK => ?_)
               have x4 := (hR6.nth 0 rfl : Blk _ H _ #[.int .i64 a, .int .i64 kd, .string i1, .string w1, .string b1, .string c1, .int .i64 t1, .int .i64 d1]).cell 4
               have f4 := (hR6.nth 0 rfl : Blk _ H _ #[.int .i64 a, .int .i64 kd, .string i1, .string w1, .string b1, .string c1, .int .i64 t1, .int .i64 d1]).frozen 4
               go_simp
               refine hK.out _ _ trivial (fun hHeld => ?_)
               try simp only [Act.put, List.getElem_toArray, List.getElem_cons_zero, List.getElem_cons_succ, List.setIfInBounds_toArray, List.set_cons_zero, List.set_cons_succ]
               clear x4 f4
               have hR7 := (hR6.front 0 rfl rfl).set_ 4 (.string s4)
               clear hR6
               refine wpAnyH_take (i := 12) (v := .pointer (some ⟨H, 5, none⟩)) rfl (by kernel_rfl) (by kernel_rfl) (by kernel_rfl) (fun _ _ _ h => h) (Or.inl ⟨by rfl, fun V hV => ?_⟩) hHeld ?_
               · first | (go_simp; done) | (go_simp; rfl) | rfl
               simp only [Act.put, List.getElem_toArray, List.getElem_cons_zero, List.getElem_cons_succ, List.setIfInBounds_toArray, List.set_cons_zero, List.set_cons_succ]
               refine tkC 13 rfl (fun KK hK => ?_)
               have x4 := (hR7.nth 0 rfl : Blk _ H _ #[.int .i64 a, .int .i64 kd, .string i1, .string w1, .string s4, .string c1, .int .i64 t1, .int .i64 d1]).cell 5
               have f4 := (hR7.nth 0 rfl : Blk _ H _ #[.int .i64 a, .int .i64 kd, .string i1, .string w1, .string s4, .string c1, .int .i64 t1, .int .i64 d1]).frozen 5
               go_simp
               refine hK.out _ _ trivial (fun hHeld => ?_)
               try simp only [Act.put, List.getElem_toArray, List.getElem_cons_zero, List.getElem_cons_succ, List.setIfInBounds_toArray, List.set_cons_zero, List.set_cons_succ]
               clear x4 f4
               have hR8 := (hR7.front 0 rfl rfl).set_ 5 (.string s6)
               clear hR7
               refine wpAnyH_done (by kernel_rfl) ?_ _
               go_wp2_with fail
               go_meet
               exact ⟨a, kd, i1, w1, s4, s6, t1, d1, _, Lib.hid (ev1X_2 HFV.out HQ.out HS4.out HS6.out), by omega, ⟨hz.i, hz.w, hs4, hs6⟩, hR8⟩
             refine AllReadyH.cons rfl (fun KK hK => ?_) AllReadyH.nil
             go_simp
             refine hK.out _ _ trivial (fun hHeld => ?_)
             try simp only [Act.put, List.getElem_toArray, List.getElem_cons_zero, List.getElem_cons_succ, List.setIfInBounds_toArray, List.set_cons_zero, List.set_cons_succ]
             have hR4 := hR3.add #[.string ⟨#[65]⟩, .string c1] 9
             try simp only [size1] at hR4
             clear hR3
             refine tkC 4 rfl (fun KK hK => ?_)
             go_simp
             go_at_call 10
             refine (spE_someN (n := 2) 1000 hR4.drew 1 [⟨#[]⟩, b1] rfl rfl (by decide) (by decide) rfl (l2_sz (by decide) hz.b) (by omega)).mono ?_
             rintro e w5 ⟨s5, rfl, HS5, hs5, hR5⟩
             refine hK.out _ _ trivial (fun hHeld => ?_)
             try simp only [Act.put, List.getElem_toArray, List.getElem_cons_zero, List.getElem_cons_succ, List.setIfInBounds_toArray, List.set_cons_zero, List.set_cons_succ]
             replace hR5 := hR5.drop 1 rfl rfl
             clear hR4
             refine wpAnyH_take (i := 10) (v := .pointer (some ⟨H, 4, none⟩)) rfl (by kernel_rfl) (by kernel_rfl) (by kernel_rfl) (fun _ _ _ h => h) (Or.inl ⟨by rfl, fun V hV => ?_⟩) hHeld ?_
             · first | (go_simp; done) | (go_simp; rfl) | rfl
             simp only [Act.put, List.getElem_toArray, List.getElem_cons_zero, List.getElem_cons_succ, List.setIfInBounds_toArray, List.set_cons_zero, List.set_cons_succ]
             refine tkC 9 rfl (fun KK hK => ?_)
             go_simp
             go_at_call 10
             refine (spE_someN (n := 2) 1000 hR5 0 [⟨#[65]⟩, c1] rfl rfl (by decide) (by decide) rfl (l2_sz (by decide) hz.c) (by omega)).mono ?_
             rintro e w6 ⟨s6, rfl, HS6, hs6, hR6⟩
             refine hK.out _ _ trivial (fun hHeld => ?_)
             try simp only [Act.put, List.getElem_toArray, List.getElem_cons_zero, List.getElem_cons_succ, List.setIfInBounds_toArray, List.set_cons_zero, List.set_cons_succ]
             replace hR6 := hR6.drop 0 rfl rfl
             clear hR5
             refine tkC 11 rfl (fun KK hK => ?_)
             have x4 := (hR6.nth 0 rfl : Blk _ H _ #[.int .i64 a, .int .i64 kd, .string i1, .string w1, .string b1, .string c1, .int .i64 t1, .int .i64 d1]).cell 4
             have f4 := (hR6.nth 0 rfl : Blk _ H _ #[.int .i64 a, .int .i64 kd, .string i1, .string w1, .string b1, .string c1, .int .i64 t1, .int .i64 d1]).frozen 4
             go_simp
             refine hK.out _ _ trivial (fun hHeld => ?_)
             try simp only [Act.put, List.getElem_toArray, List.getElem_cons_zero, List.getElem_cons_succ, List.setIfInBounds_toArray, List.set_cons_zero, List.set_cons_succ]
             clear x4 f4
             have hR7 := (hR6.front 0 rfl rfl).set_ 4 (.string s5)
             clear hR6
             refine wpAnyH_take (i := 12) (v := .pointer (some ⟨H, 5, none⟩)) rfl (by kernel_rfl) (by kernel_rfl) (by kernel_rfl) (fun _ _ _ h => h) (Or.inl ⟨by rfl, fun V hV => ?_⟩) hHeld ?_
             · first | (go_simp; done) | (go_simp; rfl) | rfl
             simp only [Act.put, List.getElem_toArray, List.getElem_cons_zero, List.getElem_cons_succ, List.setIfInBounds_toArray, List.set_cons_zero, List.set_cons_succ]
             refine tkC 13 rfl (fun KK hK => ?_)
             have x4 := (hR7.nth 0 rfl : Blk _ H _ #[.int .i64 a, .int .i64 kd, .string i1, .string w1, .string s5, .string c1, .int .i64 t1, .int .i64 d1]).cell 5
             have f4 := (hR7.nth 0 rfl : Blk _ H _ #[.int .i64 a, .int .i64 kd, .string i1, .string w1, .string s5, .string c1, .int .i64 t1, .int .i64 d1]).frozen 5
             go_simp
             refine hK.out _ _ trivial (fun hHeld => ?_)
             try simp only [Act.put, List.getElem_toArray, List.getElem_cons_zero, List.getElem_cons_succ, List.setIfInBounds_toArray, List.set_cons_zero, List.set_cons_succ]
             clear x4 f4
             have hR8 := (hR7.front 0 rfl rfl).set_ 5 (.string s6)
             clear hR7
             refine wpAnyH_done (by kernel_rfl) ?_ _
             go_wp2_with fail
             go_meet
             exact ⟨a, kd, i1, w1, s5, s6, t1, d1, _, Lib.hid (ev1X_2 HFV.out HQ.out HS5.out HS6.out), by omega, ⟨hz.i, hz.w, hs5, hs6⟩, hR8⟩
           refine AllReadyH.cons rfl (fun KK hK => ?_) AllReadyH.nil
           go_simp
           refine hK.out _ _ trivial (fun hHeld => ?_)
           try simp only [Act.put, List.getElem_toArray, List.getElem_cons_zero, List.getElem_cons_succ, List.setIfInBounds_toArray, List.set_cons_zero, List.set_cons_succ]
           have hR3 := hS.add #[.string ⟨#[65]⟩, .string c1] 9
           try simp only [size1] at hR3
           refine tkC 3 rfl (fun KK hK => ?_)
           go_simp
           refine hK.out _ _ trivial (fun hHeld => ?_)
           try simp only [Act.put, List.getElem_toArray, List.getElem_cons_zero, List.getElem_cons_succ, List.setIfInBounds_toArray, List.set_cons_zero, List.set_cons_succ]
           have hR4 := hR3.add #[.string ⟨#[]⟩, .string b1] 9
           try simp only [size1] at hR4
           clear hR3
           refine tkC 4 rfl (fun KK hK => ?_)
           go_simp
           go_at_call 10
           refine (spE_someN (n := 2) 1000 hR4.drew 0 [⟨#[]⟩, b1] rfl rfl (by decide) (by decide) rfl (l2_sz (by decide) hz.b) (by omega)).mono ?_
           rintro e w5 ⟨s5, rfl, HS5, hs5, hR5⟩
           refine hK.out _ _ trivial (fun hHeld => ?_)
           try simp only [Act.put, List.getElem_toArray, List.getElem_cons_zero, List.getElem_cons_succ, List.setIfInBounds_toArray, List.set_cons_zero, List.set_cons_succ]
           replace hR5 := hR5.drop 0 rfl rfl
           clear hR4
           refine wpAnyH_take (i := 10) (v := .pointer (some ⟨H, 4, none⟩)) rfl (by kernel_rfl) (by kernel_rfl) (by kernel_rfl) (fun _ _ _ h => h) (Or.inl ⟨by rfl, fun V hV => ?_⟩) hHeld ?_
           · first | (go_simp; done) | (go_simp; rfl) | rfl
           simp only [Act.put, List.getElem_toArray, List.getElem_cons_zero, List.getElem_cons_succ, List.setIfInBounds_toArray, List.set_cons_zero, List.set_cons_succ]
           refine tkC 9 rfl (fun KK hK => ?_)
           go_simp
           go_at_call 10
           refine (spE_someN (n := 2) 1000 hR5 0 [⟨#[65]⟩, c1] rfl rfl (by decide) (by decide) rfl (l2_sz (by decide) hz.c) (by omega)).mono ?_
           rintro e w6 ⟨s6, rfl, HS6, hs6, hR6⟩
           refine hK.out _ _ trivial (fun hHeld => ?_)
           try simp only [Act.put, List.getElem_toArray, List.getElem_cons_zero, List.getElem_cons_succ, List.setIfInBounds_toArray, List.set_cons_zero, List.set_cons_succ]
           replace hR6 := hR6.drop 0 rfl rfl
           clear hR5
           refine tkC 11 rfl (fun KK hK => ?_)
           have x4 := (hR6.nth 0 rfl : Blk _ H _ #[.int .i64 a, .int .i64 kd, .string i1, .string w1, .string b1, .string c1, .int .i64 t1, .int .i64 d1]).cell 4
           have f4 := (hR6.nth 0 rfl : Blk _ H _ #[.int .i64 a, .int .i64 kd, .string i1, .string w1, .string b1, .string c1, .int .i64 t1, .int .i64 d1]).frozen 4
           go_simp
           refine hK.out _ _ trivial (fun hHeld => ?_)
           try simp only [Act.put, List.getElem_toArray, List.getElem_cons_zero, List.getElem_cons_succ, List.setIfInBounds_toArray, List.set_cons_zero, List.set_cons_succ]
           clear x4 f4
           have hR7 := (hR6.front 0 rfl rfl).set_ 4 (.string s5)
           clear hR6
           refine wpAnyH_take (i := 12) (v := .pointer (some ⟨H, 5, none⟩)) rfl (by kernel_rfl) (by kernel_rfl) (by kernel_rfl) (fun _ _ _ h => h) (Or.inl ⟨by rfl, fun V hV => ?_⟩) hHeld ?_
           · first | (go_simp; done) | (go_simp; rfl) | rfl
           simp only [Act.put, List.getElem_toArray, List.getElem_cons_zero, List.getElem_cons_succ, List.setIfInBounds_toArray, List.set_cons_zero, List.set_cons_succ]
           refine tkC 13 rfl (fun KK hK => ?_)
           have x4 := (hR7.nth 0 rfl : Blk _ H _ #[.int .i64 a, .int .i64 kd, .string i1, .string w1, .string s5, .string c1, .int .i64 t1, .int .i64 d1]).cell 5
           have f4 := (hR7.nth 0 rfl : Blk _ H _ #[.int .i64 a, .int .i64 kd, .string i1, .string w1, .string s5, .string c1, .int .i64 t1, .int .i64 d1]).frozen 5
           go_simp
           refine hK.out _ _ trivial (fun hHeld => ?_)
           try simp only [Act.put, List.getElem_toArray, List.getElem_cons_zero, List.getElem_cons_succ, List.setIfInBounds_toArray, List.set_cons_zero, List.set_cons_succ]
           clear x4 f4
           have hR8 := (hR7.front 0 rfl rfl).set_ 5 (.string s6)
           clear hR7
           refine wpAnyH_done (by kernel_rfl) ?_ _
           go_wp2_with fail
           go_meet
           exact ⟨a, kd, i1, w1, s5, s6, t1, d1, _, Lib.hid (ev1X_2 HFV.out HQ.out HS5.out HS6.out), by omega, ⟨hz.i, hz.w, hs5, hs6⟩, hR8⟩
         refine AllReadyH.cons rfl (fun KK hK => ?_) AllReadyH.nil
         have y4 := (hS.nth 0 rfl : Blk _ H _ #[.int .i64 a, .int .i64 kd, .string i1, .string w1, .string b1, .string c1, .int .i64 t1, .int .i64 d1]).cell 5
         go_simp
         refine hK.out _ _ trivial (fun hHeld => ?_)
         try simp only [Act.put, List.getElem_toArray, List.getElem_cons_zero, List.getElem_cons_succ, List.setIfInBounds_toArray, List.set_cons_zero, List.set_cons_succ]
         clear y4
         refine wpAnyH_ready (rs := [2, 8]) (by kernel_rfl) (by simp) ?_
         refine AllReadyH.cons rfl (fun KK hK => ?_) ?_
         · have y4 := (hS.nth 0 rfl : Blk _ H _ #[.int .i64 a, .int .i64 kd, .string i1, .string w1, .string b1, .string c1, .int .i64 t1, .int .i64 d1]).cell 4
           go_simp
           refine hK.out _ _ trivial (fun hHeld => ?_)
           try simp only [Act.put, List.getElem_toArray, List.getElem_cons_zero, List.getElem_cons_succ, List.setIfInBounds_toArray, List.set_cons_zero, List.set_cons_succ]
           clear y4
           refine wpAnyH_ready (rs := [3, 8]) (by kernel_rfl) (by simp) ?_
           refine AllReadyH.cons rfl (fun KK hK => ?_) ?_
           · go_simp
             refine hK.out _ _ trivial (fun hHeld => ?_)
             try simp only [Act.put, List.getElem_toArray, List.getElem_cons_zero, List.getElem_cons_succ, List.setIfInBounds_toArray, List.set_cons_zero, List.set_cons_succ]
             have hR3 := hS.add #[.string ⟨#[]⟩, .string b1] 9
             try simp only [size1] at hR3
             refine wpAnyH_ready (rs := [4, 8]) (by kernel_rfl) (by simp) ?_
             refine AllReadyH.cons rfl (fun KK hK => ?_) ?_
             · go_simp
               go_at_call 10
               refine (spE_someN (n := 2) 1000 hR3.drew 0 [⟨#[]⟩, b1] rfl rfl (by decide) (by decide) rfl (l2_sz (by decide) hz.b) (by omega)).mono ?_
               rintro e w4 ⟨s4, rfl, HS4, hs4, hR4⟩
               refine hK.out _ _ trivial (fun hHeld => ?_)
               try simp only [Act.put, List.getElem_toArray, List.getElem_cons_zero, List.getElem_cons_succ, List.setIfInBounds_toArray, List.set_cons_zero, List.set_cons_succ]
               replace hR4 := hR4.drop 0 rfl rfl
               clear hR3
               refine wpAnyH_take (i := 10) (v := .pointer (some ⟨H, 4, none⟩)) rfl (by kernel_rfl) (by kernel_rfl) (by kernel_rfl) (fun _ _ _ h => h) (Or.inl ⟨by rfl, fun V hV => ?_⟩) hHeld ?_
               · first | (go_simp; done) | (go_simp; rfl) | rfl
               simp only [Act.put, List.getElem_toArray, List.getElem_cons_zero, List.getElem_cons_succ, List.setIfInBounds_toArray, List.set_cons_zero, List.set_cons_succ]
               refine tkC 8 rfl (fun KK hK => ?_)
               go_simp
               refine hK.out _ _ trivial (fun hHeld => ?_)
               try simp only [Act.put, List.getElem_toArray, List.getElem_cons_zero, List.getElem_cons_succ, List.setIfInBounds_toArray, List.set_cons_zero, List.set_cons_succ]
               have hR5 := hR4.add #[.string ⟨#[65]⟩, .string c1] 9
               try simp only [size1] at hR5
               clear hR4
               refine tkC 9 rfl (fun KK hK => ?_)
               go_simp
               go_at_call 10
               refine (spE_someN (n := 2) 1000 hR5 0 [⟨#[65]⟩, c1] rfl rfl (by decide) (by decide) rfl (l2_sz (by decide) hz.c) (by omega)).mono ?_
               rintro e w6 ⟨s6, rfl, HS6, hs6, hR6⟩
               refine hK.out _ _ trivial (fun hHeld => ?_)
               try simp only [Act.put, List.getElem_toArray, List.getElem_cons_zero, List.getElem_cons_succ, List.setIfInBounds_toArray, List.set_cons_zero, List.set_cons_succ]
               replace hR6 := hR6.drop 0 rfl rfl
               clear hR5
               refine tkC 11 rfl (fun KK hK => ?_)
               have x4 := (hR6.nth 0 rfl : Blk _ H _ #[.int .i64 a, .int .i64 kd, .string i1, .string w1, .string b1, .string c1, .int .i64 t1, .int .i64 d1]).cell 4
               have f4 := (hR6.nth 0 rfl : Blk _ H _ #[.int .i64 a, .int .i64 kd, .string i1, .string w1, .string b1, .string c1, .int .i64 t1, .int .i64 d1]).frozen 4
               go_simp
               refine hK.out _ _ trivial (fun hHeld => ?_)
               try simp only [Act.put, List.getElem_toArray, List.getElem_cons_zero, List.getElem_cons_succ, List.setIfInBounds_toArray, List.set_cons_zero, List.set_cons_succ]
               clear x4 f4
               have hR7 := (hR6.front 0 rfl rfl).set_ 4 (.string s4)
               clear hR6
               refine wpAnyH_take (i := 12) (v := .pointer (some ⟨H, 5, none⟩)) rfl (by kernel_rfl) (by kernel_rfl) (by kernel_rfl) (fun _ _ _ h => h) (Or.inl ⟨by rfl, fun V hV => ?_⟩) hHeld ?_
               · first | (go_simp; done) | (go_simp; rfl) | rfl
               simp only [Act.put, List.getElem_toArray, List.getElem_cons_zero, List.getElem_cons_succ, List.setIfInBounds_toArray, List.set_cons_zero, List.set_cons_succ]
               refine tkC 13 rfl (fun KK hK => ?_)
               have x4 := (hR7.nth 0 rfl : Blk _ H _ #[.int .i64 a, .int .i64 kd, .string i1, .string w1, .string s4, .string c1, .int .i64 t1, .int .i64 d1]).cell 5
               have f4 := (hR7.nth 0 rfl : Blk _ H _ #[.int .i64 a, .int .i64 kd, .string i1, .string w1, .string s4, .string c1, .int .i64 t1, .int .i64 d1]).frozen 5
               go_simp
               refine hK.out _ _ trivial (fun hHeld => ?_)
               try simp only [Act.put, List.getElem_toArray, List.getElem_cons_zero, List.getElem_cons_succ, List.setIfInBounds_toArray, List.set_cons_zero, List.set_cons_succ]
               clear x4 f4
               have hR8 := (hR7.front 0 rfl rfl).set_ 5 (.string s6)
               clear hR7
               refine wpAnyH_done (by kernel_rfl) ?_ _
               go_wp2_with fail
               go_meet
               exact ⟨a, kd, i1, w1, s4, s6, t1, d1, _, Lib.hid (ev1X_2 HFV.out HQ.out HS4.out HS6.out), by omega, ⟨hz.i, hz.w, hs4, hs6⟩, hR8⟩
             refine AllReadyH.cons rfl (fun KK hK => ?_) AllReadyH.nil
             go_simp
             refine hK.out _ _ trivial (fun hHeld => ?_)
             try simp only [Act.put, List.getElem_toArray, List.getElem_cons_zero, List.getElem_cons_succ, List.setIfInBounds_toArray, List.set_cons_zero, List.set_cons_succ]
             have hR4 := hR3.add #[.string ⟨#[65]⟩, .string c1] 9
             try simp only [size1] at hR4
             clear hR3
             refine tkC 4 rfl (fun KK hK => ?_)
             go_simp
             go_at_call 10
             refine (spE_someN (n := 2) 1000 hR4.drew 1 [⟨#[]⟩, b1] rfl rfl (by decide) (by decide) rfl (l2_sz (by decide) hz.b) (by omega)).mono ?_
             rintro e w5 ⟨s5, rfl, HS5, hs5, hR5⟩
             refine hK.out _ _ trivial (fun hHeld => ?_)
             try simp only [Act.put, List.getElem_toArray, List.getElem_cons_zero, List.getElem_cons_succ, List.setIfInBounds_toArray, List.set_cons_zero, List.set_cons_succ]
             replace hR5 := hR5.drop 1 rfl rfl
             clear hR4
             refine wpAnyH_take (i := 10) (v := .pointer (some ⟨H, 4, none⟩)) rfl (by kernel_rfl) (by kernel_rfl) (by kernel_rfl) (fun _ _ _ h => h) (Or.inl ⟨by rfl, fun V hV => ?_⟩) hHeld ?_
             · first | (go_simp; done) | (go_simp; rfl) | rfl
             simp only [Act.put, List.getElem_toArray, List.getElem_cons_zero, List.getElem_cons_succ, List.setIfInBounds_toArray, List.set_cons_zero, List.set_cons_succ]
             refine tkC 9 rfl (fun KK hK => ?_)
             go_simp
             go_at_call 10
             refine (spE_someN (n := 2) 1000 hR5 0 [⟨#[65]⟩, c1] rfl rfl (by decide) (by decide) rfl (l2_sz (by decide) hz.c) (by omega)).mono ?_
             rintro e w6 ⟨s6, rfl, HS6, hs6, hR6⟩
             refine hK.out _ _ trivial (fun hHeld => ?_)
             try simp only [Act.put, List.getElem_toArray, List.getElem_cons_zero, List.getElem_cons_succ, List.setIfInBounds_toArray, List.set_cons_zero, List.set_cons_succ]
             replace hR6 := hR6.drop 0 rfl rfl
             clear hR5
             refine tkC 11 rfl (fun KK hK => ?_)
             have x4 := (hR6.nth 0 rfl : Blk _ H _ #[.int .i64 a, .int .i64 kd, .string i1, .string w1, .string b1, .string c1, .int .i64 t1, .int .i64 d1]).cell 4
             have f4 := (hR6.nth 0 rfl : Blk _ H _ #[.int .i64 a, .int .i64 kd, .string i1, .string w1, .string b1, .string c1, .int .i64 t1, .int .i64 d1]).frozen 4
             go_simp
             refine hK.out _ _ trivial (fun hHeld => ?_)
             try simp only [Act.put, List.getElem_toArray, List.getElem_cons_zero, List.getElem_cons_succ, List.setIfInBounds_toArray, List.set_cons_zero, List.set_cons_succ]
             clear x4 f4
             have hR7 := (hR6.front 0 rfl rfl).set_ 4 (.string s5)
             clear hR6
             refine wpAnyH_take (i := 12) (v := .pointer (some ⟨H, 5, none⟩)) rfl (by kernel_rfl) (by kernel_rfl) (by kernel_rfl) (fun _ _ _ h => h) (Or.inl ⟨by rfl, fun V hV => ?_⟩) hHeld ?_
             · first | (go_simp; done) | (go_simp; rfl) | rfl
             simp only [Act.put, List.getElem_toArray, List.getElem_cons_zero, List.getElem_cons_succ, List.setIfInBounds_toArray, List.set_cons_zero, List.set_cons_succ]
             refine tkC 13 rfl (fun KK hK => ?_)
             have x4 := (hR7.nth 0 rfl : Blk _ H _ #[.int .i64 a, .int .i64 kd, .string i1, .string w1, .string s5, .string c1, .int .i64 t1, .int .i64 d1]).cell 5
             have f4 := (hR7.nth 0 rfl : Blk _ H _ #[.int .i64 a, .int .i64 kd, .string i1, .string w1, .string s5, .string c1, .int .i64 t1, .int .i64 d1]).frozen 5
             go_simp
             refine hK.out _ _ trivial (fun hHeld => ?_)
             try simp only [Act.put, List.getElem_toArray, List.getElem_cons_zero, List.getElem_cons_succ, List.setIfInBounds_toArray, List.set_cons_zero, List.set_cons_succ]
             clear x4 f4
             have hR8 := (hR7.front 0 rfl rfl).set_ 5 (.string s6)
             clear hR7
             refine wpAnyH_done (by kernel_rfl) ?_ _
             go_wp2_with fail
             go_meet
             exact ⟨a, kd, i1, w1, s5, s6, t1, d1, _, Lib.hid (ev1X_2 HFV.out HQ.out HS5.out HS6.out), by omega, ⟨hz.i, hz.w, hs5, hs6⟩, hR8⟩
           refine AllReadyH.cons rfl (fun KK hK => ?_) AllReadyH.nil
           go_simp
           refine hK.out _ _ trivial (fun hHeld => ?_)
           try simp only [Act.put, List.getElem_toArray, List.getElem_cons_zero, List.getElem_cons_succ, List.setIfInBounds_toArray, List.set_cons_zero, List.set_cons_succ]
           have hR3 := hS.add #[.string ⟨#[65]⟩, .string c1] 9
           try simp only [size1] at hR3
           refine tkC 3 rfl (fun KK hK => ?_)
           go_simp
           refine hK.out _ _ trivial (fun hHeld => ?_)
           try simp only [Act.put, List.getElem_toArray, List.getElem_cons_zero, List.getElem_cons_succ, List.setIfInBounds_toArray, List.set_cons_zero, List.set_cons_succ]
           have hR4 := hR3.add #[.string ⟨#[]⟩, .string b1] 9
           try simp only [size1] at hR4
           clear hR3
           refine tkC 4 rfl (fun KK hK => ?_)
           go_simp
           go_at_call 10
           refine (spE_someN (n := 2) 1000 hR4.drew 0 [⟨#[]⟩, b1] rfl rfl (by decide) (by decide) rfl (l2_sz (by decide) hz.b) (by omega)).mono ?_
           rintro e w5 ⟨s5, rfl, HS5, hs5, hR5⟩
           refine hK.out _ _ trivial (fun hHeld => ?_)
           try simp only [Act.put, List.getElem_toArray, List.getElem_cons_zero, List.getElem_cons_succ, List.setIfInBounds_toArray, List.set_cons_zero, List.set_cons_succ]
           replace hR5 := hR5.drop 0 rfl rfl
           clear hR4
           refine wpAnyH_take (i := 10) (v := .pointer (some ⟨H, 4, none⟩)) rfl (by kernel_rfl) (by kernel_rfl) (by kernel_rfl) (fun _ _ _ h => h) (Or.inl ⟨by rfl, fun V hV => ?_⟩) hHeld ?_
           · first | (go_simp; done) | (go_simp; rfl) | rfl
           simp only [Act.put, List.getElem_toArray, List.getElem_cons_zero, List.getElem_cons_succ, List.setIfInBounds_toArray, List.set_cons_zero, List.set_cons_succ]
           refine tkC 9 rfl (fun KK hK => ?_)
           go_simp
           go_at_call 10
           refine (spE_someN (n := 2) 1000 hR5 0 [⟨#[65]⟩, c1] rfl rfl (by decide) (by decide) rfl (l2_sz (by decide) hz.c) (by omega)).mono ?_
           rintro e w6 ⟨s6, rfl, HS6, hs6, hR6⟩
           refine hK.out _ _ trivial (fun hHeld => ?_)
           try simp only [Act.put, List.getElem_toArray, List.getElem_cons_zero, List.getElem_cons_succ, List.setIfInBounds_toArray, List.set_cons_zero, List.set_cons_succ]
           replace hR6 := hR6.drop 0 rfl rfl
           clear hR5
           refine tkC 11 rfl (fun KK hK => ?_)
           have x4 := (hR6.nth 0 rfl : Blk _ H _ #[.int .i64 a, .int .i64 kd, .string i1, .string w1, .string b1, .string c1, .int .i64 t1, .int .i64 d1]).cell 4
           have f4 := (hR6.nth 0 rfl : Blk _ H _ #[.int .i64 a, .int .i64 kd, .string i1, .string w1, .string b1, .string c1, .int .i64 t1, .int .i64 d1]).frozen 4
           go_simp
           refine hK.out _ _ trivial (fun hHeld => ?_)
           try simp only [Act.put, List.getElem_toArray, List.getElem_cons_zero, List.getElem_cons_succ, List.setIfInBounds_toArray, List.set_cons_zero, List.set_cons_succ]
           clear x4 f4
           have hR7 := (hR6.front 0 rfl rfl).set_ 4 (.string s5)
           clear hR6
           refine wpAnyH_take (i := 12) (v := .pointer (some ⟨H, 5, none⟩)) rfl (by kernel_rfl) (by kernel_rfl) (by kernel_rfl) (fun _ _ _ h => h) (Or.inl ⟨by rfl, fun V hV => ?_⟩) hHeld ?_
           · first | (go_simp; done) | (go_simp; rfl) | rfl
           simp only [Act.put, List.getElem_toArray, List.getElem_cons_zero, List.getElem_cons_succ, List.setIfInBounds_toArray, List.set_cons_zero, List.set_cons_succ]
           refine tkC 13 rfl (fun KK hK => ?_)
           have x4 := (hR7.nth 0 rfl : Blk _ H _ #[.int .i64 a, .int .i64 kd, .string i1, .string w1, .string s5, .string c1, .int .i64 t1, .int .i64 d1]).cell 5
           have f4 := (hR7.nth 0 rfl : Blk _ H _ #[.int .i64 a, .int .i64 kd, .string i1, .string w1, .string s5, .string c1, .int .i64 t1, .int .i64 d1]).frozen 5
           go_simp
           refine hK.out _ _ trivial (fun hHeld => ?_)
           try simp only [Act.put, List.getElem_toArray, List.getElem_cons_zero, List.getElem_cons_succ, List.setIfInBounds_toArray, List.set_cons_zero, List.set_cons_succ]
           clear x4 f4
           have hR8 := (hR7.front 0 rfl rfl).set_ 5 (.string s6)
           clear hR7
           refine wpAnyH_done (by kernel_rfl) ?_ _
           go_wp2_with fail
           go_meet
           exact ⟨a, kd, i1, w1, s5, s6, t1, d1, _, Lib.hid (ev1X_2 HFV.out HQ.out HS5.out HS6.out), by omega, ⟨hz.i, hz.w, hs5, hs6⟩, hR8⟩
         refine AllReadyH.cons rfl (fun KK hK => ?_) AllReadyH.nil
         go_simp
         refine hK.out _ _ trivial (fun hHeld => ?_)
         try simp only [Act.put, List.getElem_toArray, List.getElem_cons_zero, List.getElem_cons_succ, List.setIfInBounds_toArray, List.set_cons_zero, List.set_cons_succ]
         have hR2 := hS.add #[.string ⟨#[65]⟩, .string c1] 9
         try simp only [size1] at hR2
         refine tkC 2 rfl (fun KK hK => ?_)
         have y4 := (hR2.nth 1 rfl : Blk _ H _ #[.int .i64 a, .int .i64 kd, .string i1, .string w1, .string b1, .string c1, .int .i64 t1, .int .i64 d1]).cell 4
         go_simp
         refine hK.out _ _ trivial (fun hHeld => ?_)
         try simp only [Act.put, List.getElem_toArray, List.getElem_cons_zero, List.getElem_cons_succ, List.setIfInBounds_toArray, List.set_cons_zero, List.set_cons_succ]
         clear y4
         refine tkC 3 rfl (fun KK hK => ?_)
         go_simp
         refine hK.out _ _ trivial (fun hHeld => ?_)
         try simp only [Act.put, List.getElem_toArray, List.getElem_cons_zero, List.getElem_cons_succ, List.setIfInBounds_toArray, List.set_cons_zero, List.set_cons_succ]
         have hR4 := hR2.add #[.string ⟨#[]⟩, .string b1] 9
         try simp only [size1] at hR4
         clear hR2
         refine tkC 4 rfl (fun KK hK => ?_)
         go_simp
         go_at_call 10
         refine (spE_someN (n := 2) 1000 hR4.drew 0 [⟨#[]⟩, b1] rfl rfl (by decide) (by decide) rfl (l2_sz (by decide) hz.b) (by omega)).mono ?_
         rintro e w5 ⟨s5, rfl, HS5, hs5, hR5⟩
         refine hK.out _ _ trivial (fun hHeld => ?_)
         try simp only [Act.put, List.getElem_toArray, List.getElem_cons_zero, List.getElem_cons_succ, List.setIfInBounds_toArray, List.set_cons_zero, List.set_cons_succ]
         replace hR5 := hR5.drop 0 rfl rfl
         clear hR4
         refine wpAnyH_take (i := 10) (v := .pointer (some ⟨H, 4, none⟩)) rfl (by kernel_rfl) (by kernel_rfl) (by kernel_rfl) (fun _ _ _ h => h) (Or.inl ⟨by rfl, fun V hV => ?_⟩) hHeld ?_
         · first | (go_simp; done) | (go_simp; rfl) | rfl
         simp only [Act.put, List.getElem_toArray, List.getElem_cons_zero, List.getElem_cons_succ, List.setIfInBounds_toArray, List.set_cons_zero, List.set_cons_succ]
         refine tkC 9 rfl (fun KK hK => ?_)
         go_simp
         go_at_call 10
         refine (spE_someN (n := 2) 1000 hR5 0 [⟨#[65]⟩, c1] rfl rfl (by decide) (by decide) rfl (l2_sz (by decide) hz.c) (by omega)).mono ?_
         rintro e w6 ⟨s6, rfl, HS6, hs6, hR6⟩
         refine hK.out _ _ trivial (fun hHeld => ?_)
         try simp only [Act.put, List.getElem_toArray, List.getElem_cons_zero, List.getElem_cons_succ, List.setIfInBounds_toArray, List.set_cons_zero, List.set_cons_succ]
         replace hR6 := hR6.drop 0 rfl rfl
         clear hR5
         refine tkC 11 rfl (fun KK hK => ?_)
         have x4 := (hR6.nth 0 rfl : Blk _ H _ #[.int .i64 a, .int .i64 kd, .string i1, .string w1, .string b1, .string c1, .int .i64 t1, .int .i64 d1]).cell 4
         have f4 := (hR6.nth 0 rfl : Blk _ H _ #[.int .i64 a, .int .i64 kd, .string i1, .string w1, .string b1, .string c1, .int .i64 t1, .int .i64 d1]).frozen 4
         go_simp
         refine hK.out _ _ trivial (fun hHeld => ?_)
         try simp only [Act.put, List.getElem_toArray, List.getElem_cons_zero, List.getElem_cons_succ, List.setIfInBounds_toArray, List.set_cons_zero, List.set_cons_succ]
         clear x4 f4
         have hR7 := (hR6.front 0 rfl rfl).set_ 4 (.string s5)
         clear hR6
         refine wpAnyH_take (i := 12) (v := .pointer (some ⟨H, 5, none⟩)) rfl (by kernel_rfl) (by kernel_rfl) (by kernel_rfl) (fun _ _ _ h => h) (Or.inl ⟨by rfl, fun V hV => ?_⟩) hHeld ?_
         · first | (go_simp; done) | (go_simp; rfl) | rfl
         simp only [Act.put, List.getElem_toArray, List.getElem_cons_zero, List.getElem_cons_succ, List.setIfInBounds_toArray, List.set_cons_zero, List.set_cons_succ]
         refine tkC 13 rfl (fun KK hK => ?_)
         have x4 := (hR7.nth 0 rfl : Blk _ H _ #[.int .i64 a, .int .i64 kd, .string i1, .string w1, .string s5, .string c1, .int .i64 t1, .int .i64 d1]).cell 5
         have f4 := (hR7.nth 0 rfl : Blk _ H _ #[.int .i64 a, .int .i64 kd, .string i1, .string w1, .string s5, .string c1, .int .i64 t1, .int .i64 d1]).frozen 5
         go_simp
         refine hK.out _ _ trivial (fun hHeld => ?_)
         try simp only [Act.put, List.getElem_toArray, List.getElem_cons_zero, List.getElem_cons_succ, List.setIfInBounds_toArray, List.set_cons_zero, List.set_cons_succ]
         clear x4 f4
         have hR8 := (hR7.front 0 rfl rfl).set_ 5 (.string s6)
         clear hR7
         refine wpAnyH_done (by kernel_rfl) ?_ _
         go_wp2_with fail
         go_meet
         exact ⟨a, kd, i1, w1, s5, s6, t1, d1, _, Lib.hid (ev1X_2 HFV.out HQ.out HS5.out HS6.out), by omega, ⟨hz.i, hz.w, hs5, hs6⟩, hR8⟩
       · go_wp2_with fail
         refine (spE_odd hS 1 100 (by omega) (by omega) (by omega) (by omega)).mono ?_
         rintro e w8 ⟨p8, rfl, H8, _, _, hS8⟩
         clear hS
         go_wp2_with fail
         refine (spE_odd hS8 0 20 (by omega) (by omega) (by omega) (by omega)).mono ?_
         rintro e w9 ⟨p9, rfl, H9, _, _, hS9⟩
         clear hS8
         have hkb : Blk w9 H _ _ := hS9.head
         have z0 := hkb.cell 6
         have z1 := hkb.cell 7
         have f0 := hkb.frozen 6
         have f1 := hkb.frozen 7
         clear hkb
         have hS10 := (hS9.set_ 6 (.int .i64 p8)).set_ 7 (.int .i64 p9)
         go_wp2_with fail
         go_meet
         exact ⟨a, kd, i1, w1, b1, c1, p8, p9, _, Lib.hid (ev1X_3 HFV.out HQ.out H8.out H9.out), by omega, hz, hS10⟩
    obtain ⟨a2, k2, i2, w2, b2, c2, t2, d2, r2, HE1, hr2, hz2', hS2⟩ := hcut
    clear hS1 hz
    have hkb : Blk _ H _ _ := hS2.head
    have z0 := hkb.cell 0
    have z1 := hkb.cell 1
    have z2 := hkb.cell 2
    have z3 := hkb.cell 3
    have z4 := hkb.cell 4
    have z5 := hkb.cell 5
    have z6 := hkb.cell 6
    have z7 := hkb.cell 7
    have hSf := hS2.front 1 rfl rfl
    have hz5 := hSf.size
    have HO5 : wc.ownsRow w.heap.size 78 8 u5 xs.length (xs.flatMap bevC) := hSf.head
    clear hS2 hkb
    go_wp2_with (first
     | (at_builtin; refine wpList_append_own_at _ rfl _ _ 26 rfl w.heap.size 78 i0 (.agg #[.int .i64 0, .int .i64 0, .string ⟨#[]⟩, .string ⟨#[]⟩, .string ⟨#[]⟩, .string ⟨#[]⟩, .int .i64 0, .int .i64 0]) 8 96 Tryz.underlying26 hi hz0 hz1 hz2 rfl (by decide) _ _ _ rfl (HO5.alloc _) ⟨wc.heap.size, 0, none⟩ 1 1 [.int .i64 a2, .int .i64 k2, .string i2, .string w2, .string b2, .string c2, .int .i64 t2, .int .i64 d2] rfl rfl (World.news_of_block (heap_alloc_new _ _)) (one8e rfl rfl rfl rfl rfl rfl rfl rfl) (by unfold maxLen; omega) (by omega) (by simp; omega) ?_; intro v' w11 hown' hgrow _ hblk; have hS9 := (hSf.alloc _).append hown' hgrow hblk; clear hown' hgrow hblk))
    have hS10 : SpX zs w b r2 w11 [rOwn w.heap.size 78 8 v' (xs ++ [(⟨a2, k2, i2, w2, b2, c2, t2, d2⟩ : Bev)]).length ((xs ++ [(⟨a2, k2, i2, w2, b2, c2, t2, d2⟩ : Bev)]).flatMap bevC), rBlk H 78 #[.int .i64 a2, .int .i64 k2, .string i2, .string w2, .string b2, .string c2, .int .i64 t2, .int .i64 d2]] := by
     rw [bev_snoc, List.length_append]; exact hS9
    clear hS9 hSf HO5 z0 z1 z2 z3 z4 z5 z6 z7
    have HST : Hid (evsX zs p (k + 1) = (r2, a, xs ++ [(⟨a2, k2, i2, w2, b2, c2, t2, d2⟩ : Bev)])) := Lib.hid (by
     have h := evsX_step HP.out HDA.out HID.out HWH.out HBY.out HKD.out (by rw [HA.out]; exact HE0.out) HE1.out
     rw [HA.out] at h
     exact h)
    go_roundw
    case rel => exact ⟨k + 1, r2, a, _, by omega, by go_num, rfl, by simp; omega, hab0, by omega, hxz.snoc (x := ⟨a2, k2, i2, w2, b2, c2, t2, d2⟩) hz2', HST, by omega, hS10.drop 1 rfl rfl⟩
    case measure => simp [intOf]; omega
  · obtain rfl : k = m := by omega
    obtain ⟨A, c, hv⟩ := own_form (show wr.ownsRow w.heap.size 78 8 u5 xs.length (xs.flatMap bevC) from hS.head)
    subst hv
    have HXK := Lib.hid hxk
    rw [hxk] at hS ⊢
    have ho : wr.ownsRow w.heap.size 78 8 (.slice A k c) k (xs.flatMap bevC) := hS.head
    have HSO := Lib.hid (sortEv_calls w.heap.size wr A k c xs hxk (by omega) ho)
    clear ho hxk
    go_wp2_with fail
    refine HSO.out.mono ?_
    rintro e w2 ⟨rfl, ho2, hg2⟩
    have hS2 := hS.append ho2 hg2 (.inl rfl)
    have hsl : (sev xs).length = k := by rw [sev_len]; exact HXK.out
    have HCO := Lib.hid (compactEv_calls w.heap.size w2 A k c (sev xs) (by omega) hsl ho2)
    clear ho2 hg2 HSO hS hsl
    go_wp2_with fail
    refine HCO.out.mono ?_
    rintro e w3 ⟨A3, c3, rfl, ho3, hg3, hb3⟩
    have hS3 := hS2.append ho3 hg3 (.inl hb3)
    clear ho3 hg3 hb3 hS2 HCO
    go_wp2_with fail
    go_ret
    exact ⟨A3, c3, xs, a0, r, rfl, HP.out, HXK.out, hxz, hrp, hS3⟩
end Go.Proofs.YtapgnaimbgjcnaaGreatDoor
