/-
  TimersStay: the law's own walk.
-/
import Derived.Test.YtohjapfjkilmoaaGreatDoorZTst1
import Derived.Test.YtohjapfjkilmoaaGreatDoorZPrs8
import Derived.Test.YtohjapfjkilmoaaGreatDoorZKeepPure
import Derived.Test.YtohjapfjkilmoaaGreatDoorZCutLens
import Derived.Test.YtohjapfjkilmoaaGreatDoorZRetime
import Derived.Test.YtohjapfjkilmoaaGreatDoorZReady
import Derived.Test.YtohjapfjkilmoaaGreatDoorZStream
namespace Go.Proofs.YtohjapfjkilmoaaGreatDoor
open Go Go.RowKit

/-- a block that holds a stream which is as it began -/
theorem strmX_of {w w' : World} {a : Option Addr} {len cap b : Nat} {zs : List Int} {t : TypeId} (h : InRow w a len cap zs) (hk : Below w.heap.size w w') (B : Blk w' b t #[.slice a len cap, .int .i64 0]) (hb : w.heap.size ≤ b) :
    StrmX w' b (zs.take len) 0 := by
  have hlz : (zs.take len).length = len := by
    rcases h with ⟨_, h1, _, h2⟩ | ⟨x, _, h1, h2, h3, h4⟩
    · rw [h1, h2]
      rfl
    · rw [List.length_take]
      omega
  refine ⟨a, cap, by rw [hlz]; exact B.two.1, B.two.2.1, B.two.2.2.2, ?_, ?_⟩
  · rw [hlz]
    rcases h with ⟨_, rfl, _, _⟩ | ⟨x, _, h1, h2, _⟩
    · omega
    · unfold maxLen at h2; omega
  · intro hlen
    rw [hlz] at hlen
    rcases h with ⟨_, rfl, _, _⟩ | ⟨x, rfl, h1, h2, h3, h4, _⟩
    · omega
    · have c0 := h4 0 (by omega)
      obtain ⟨g, o, spot⟩ := x
      have hspot : spot = none := by simpa [Addr.add] using World.cell?_spot c0
      subst hspot
      have hadd : ∀ j, (⟨g, o, none⟩ : Addr).add j = ⟨g, o + j, none⟩ := fun j => by unfold Addr.add; split <;> simp_all
      have hg : g < w.heap.size := by have := World.block_lt_of_cell? w _ c0; rw [hadd] at this; exact this
      refine ⟨g, o, rfl, by omega, fun j hj => ?_⟩
      rw [hlz] at hj
      have := h4 j (by omega)
      rw [hadd] at this
      have hjz : j < zs.length := by omega
      rw [List.getElem_take]
      simp [List.getElem?_eq_getElem hjz] at this
      exact (World.cell?_of_block (hk.block g hg)).trans this
def RowI (w : World) (e : Ending) (w' : World) : Prop := ∃ (A : Option Addr) (n c : Nat) (L : List Int) (er : Int), e = .returned (.tuple #[.slice A n c, .int .i64 er]) ∧ w'.ownsRow w.heap.size 3 1 (.slice A n c) n (L.map (Value.int .i64)) ∧ L.length = n ∧ Below w.heap.size w w'
def RowC (w : World) (e : Ending) (w' : World) : Prop := ∃ (A : Option Addr) (n c : Nat) (L : List Cut) (er : Int), e = .returned (.tuple #[.slice A n c, .int .i64 er]) ∧ w'.ownsRow w.heap.size 40 3 (.slice A n c) n (L.flatMap cutC) ∧ L.length = n ∧ Below w.heap.size w w'
set_option maxRecDepth 100000 in
set_option maxHeartbeats 1000000 in
theorem tst_walk (a0 : Option Addr) (len0 cap0 : Nat) (z0 : List Int) (w : World) (w0 : InRow w a0 len0 cap0 z0) (ht : Tab w) :
    Calls Tryz.prog 3 #[.slice a0 len0 cap0] w fun e w' => e = .returned (.bool true) ∧ Below w.heap.size w w' := by
  have BA := (Blk.new w 25 #[.slice a0 len0 cap0, .int .i64 0]).alloc (.cells #[.slice a0 len0 cap0, .int .i64 0] 25)
  have BB := Blk.new (w.alloc (.cells #[.slice a0 len0 cap0, .int .i64 0] 25)) 25 #[.slice a0 len0 cap0, .int .i64 0]
  have hBl : Below w.heap.size w ((w.alloc (.cells #[.slice a0 len0 cap0, .int .i64 0] 25)).alloc (.cells #[.slice a0 len0 cap0, .int .i64 0] 25)) := ((Below.refl _ _).alloc (Nat.le_refl _) _).alloc (by simp) _
  have hsz : ((w.alloc (.cells #[.slice a0 len0 cap0, .int .i64 0] 25)).alloc (.cells #[.slice a0 len0 cap0, .int .i64 0] 25)).heap.size = w.heap.size + 2 := by simp
  have hgb : (w.alloc (.cells #[.slice a0 len0 cap0, .int .i64 0] 25)).heap.size = w.heap.size + 1 := by simp
  rw [hgb] at BB
  clear hgb
  go_enter Tryz.func3, Tryz.ntmps3
  go_wp2_with fail
  obtain ⟨W2, hW2⟩ : ∃ W2, W2 = (w.alloc (.cells #[.slice a0 len0 cap0, .int .i64 0] 25)).alloc (.cells #[.slice a0 len0 cap0, .int .i64 0] 25) := ⟨_, rfl⟩
  rw [← hW2] at BA BB hBl hsz ⊢
  clear hW2
  obtain ⟨ga, hga⟩ : ∃ ga, w.heap.size = ga := ⟨_, rfl⟩
  have hs2 := strmX_of w0 hBl BA (Nat.le_refl _)
  rw [hga] at hs2
  obtain ⟨zs, hzs⟩ : ∃ zs, z0.take len0 = zs := ⟨_, rfl⟩
  have HS0 : Hid (∀ W, Below w.heap.size w W → Blk W (ga + 1) 25 #[.slice a0 len0 cap0, .int .i64 0] → StrmX W (ga + 1) zs 0) := fun W h B => hzs ▸ strmX_of w0 h B (by omega)
  rw [hzs] at hs2
  have HWG := Lib.hid hga
  rw [hga] at BB hsz ⊢
  clear hzs w0 BA
  refine (rightPressesX_calls ga 0 12 zs W2 hs2 (by omega) (by omega) (by omega)).mono ?_
  rintro e w3 ⟨v1, l1, rfl, hl1, hn1, hR1, hS3⟩
  go_wp2_with fail
  refine (rightCutsX_calls ga _ 6 zs w3 hS3.strm (by omega) (by omega)).mono ?_
  rintro e w4 ⟨v2, l2, q2, rfl, hl2, hq2, hqq, hn2, hF2, hS4⟩
  go_wp2_with fail
  refine (partsX_calls ga _ 3 zs w4 hS4.strm (by omega) (by omega)).mono ?_
  rintro e w5 ⟨v3, l3, q3, rfl, hl3, hq3, hqq3, hn3, hI3, hS5⟩
  have hA5 := (hS3.merge hS4).merge hS5
  have BB5 := BB.bx hA5.bx (by omega)
  have hB5 : Below w.heap.size w w5 := ((Bx.of_below hBl ga).call hA5.bx (by omega)).below (by rw [HWG.out]; exact Nat.le_refl _)
  have hs5 := HS0.out _ hB5 BB5
  have n3 := hS3.size
  have n4 := hS4.size
  have n5 := hS5.size
  have r1 : Rd w5 (ga + 1) 2 v1 12 (l1.flatMap pzC) := Rd.own (b := ga + 1) (hA5.nth 2 rfl) (by omega)
  have r2 : Rd w5 (ga + 1) 3 v2 6 (l2.flatMap cutC) := Rd.own (b := ga + 1) (hA5.nth 1 rfl) (by omega)
  have r3 : Rd w5 (ga + 1) 2 v3 3 (l3.flatMap partC) := Rd.own (b := ga + 1) (hA5.nth 0 rfl) (by omega)
  clear HS0 BB5 BB hA5 hS3 hS4 hS5 hs2
  go_wp2_with fail
  refine (rightPressesX_calls (ga + 1) 0 12 zs w5 hs5 (by omega) (by omega) (by omega)).mono ?_
  rintro e w6 ⟨u1, m1, rfl, hm1, hk1, hT1, hU6⟩
  go_wp2_with fail
  refine (rightCutsX_calls (ga + 1) _ 6 zs w6 hU6.strm (by omega) (by omega)).mono ?_
  rintro e w7 ⟨u2, m2, p2, rfl, hm2, hp2, hpp, hk2, hG2, hU7⟩
  go_wp2_with fail
  refine (partsX_calls (ga + 1) _ 3 zs w7 hU7.strm (by omega) (by omega)).mono ?_
  rintro e w8 ⟨u3, m3, p3, rfl, hm3, hp3, hpp3, hk3, hJ3, hU8⟩
  obtain rfl : l1 = m1 := hl1.trans hm1.symm
  obtain rfl : q2 = p2 := hq2.trans hp2.symm
  obtain rfl : l2 = m2 := hl2.trans hm2.symm
  obtain rfl : l3 = m3 := hl3.trans hm3.symm
  have hA8 := (hU6.merge hU7).merge hU8
  have n6 := hU6.size
  have n7 := hU7.size
  have n8 := hU8.size
  replace r1 := hA8.rd r1
  replace r2 := hA8.rd r2
  replace r3 := hA8.rd r3
  have s1 : Rd w8 (ga + 1) 2 u1 12 (l1.flatMap pzC) := Rd.own (b := ga + 1) (hA8.nth 2 rfl) (by omega)
  have s2 : Rd w8 (ga + 1) 3 u2 6 (l2.flatMap cutC) := Rd.own (b := ga + 1) (hA8.nth 1 rfl) (by omega)
  have s3 : Rd w8 (ga + 1) 2 u3 3 (l3.flatMap partC) := Rd.own (b := ga + 1) (hA8.nth 0 rfl) (by omega)
  have hB8 : Below w.heap.size w w8 := ((Bx.of_below hB5 (ga + 1)).call hA8.bx (by omega)).below (by rw [HWG.out]; omega)
  obtain ⟨A1, c1, hv⟩ := own_form (hU6.head)
  obtain ⟨g1, d1, e1⟩ : ∃ A c, v1 = .slice A 12 c := by obtain ⟨A, c, h, _⟩ := r1; exact ⟨A, c, h⟩
  obtain ⟨g2, d2, e2⟩ : ∃ A c, v2 = .slice A 6 c := by obtain ⟨A, c, h, _⟩ := r2; exact ⟨A, c, h⟩
  obtain ⟨g3, d3, e3⟩ : ∃ A c, v3 = .slice A 3 c := by obtain ⟨A, c, h, _⟩ := r3; exact ⟨A, c, h⟩
  obtain ⟨g4, d4, e4⟩ : ∃ A c, u1 = .slice A 12 c := by obtain ⟨A, c, h, _⟩ := s1; exact ⟨A, c, h⟩
  obtain ⟨g5, d5, e5⟩ : ∃ A c, u2 = .slice A 6 c := by obtain ⟨A, c, h, _⟩ := s2; exact ⟨A, c, h⟩
  obtain ⟨g6, d6, e6⟩ : ∃ A c, u3 = .slice A 3 c := by obtain ⟨A, c, h, _⟩ := s3; exact ⟨A, c, h⟩
  subst e1 e2 e3 e4 e5 e6
  clear hv
  have hok := hR1.ok (show (864001000 : Int) ≤ 345686399999 by omega)
  have hci := CutI.of_ok hF2
  have hat := hok.atE (by omega) (n := 3) (by omega) (u := 200) (by omega)
  have C1 : Hid (∀ W, Below w8.heap.size w8 W → Calls Tryz.prog 7 #[.int .i64 3, .slice g1 12 d1] W (RowI W)) := fun W h => (refused_calls (ga + 1) 3 g1 12 d1 l1 W (r1.below h)).mono (fun e w' ⟨v, he, ho, hb⟩ => by obtain ⟨A, c, hv⟩ := own_form ho; subst hv; exact ⟨A, _, c, _, _, he, ho, rfl, hb⟩)
  have C2 : Hid (∀ W, Below w8.heap.size w8 W → Calls Tryz.prog 9 #[.int .i64 3, .slice g1 12 d1, .int .i64 200] W (RowC W)) := fun W h => (cuts_ok (ga + 1) 3 g1 12 d1 l1 200 W (r1.below h) hat (by have := h.size; omega)).mono (fun e w' ⟨v, he, ho, hb⟩ => by obtain ⟨A, c, hv⟩ := own_form ho; subst hv; exact ⟨A, _, c, _, _, he, ho, rfl, hb⟩)
  have C3 : Hid (∀ W, Below w8.heap.size w8 W → Calls Tryz.prog 11 #[.slice g2 6 d2] W (RowC W)) := fun W h => (lengths_calls (ga + 1) g2 6 d2 l2 W (r2.below h) hci).mono (fun e w' ⟨v, he, ho, hb⟩ => by obtain ⟨A, c, hv⟩ := own_form ho; subst hv; exact ⟨A, _, c, _, _, he, ho, rfl, hb⟩)
  have C4 : Hid (∀ W, Below w8.heap.size w8 W → Calls Tryz.prog 12 #[.agg #[.int .i64 0, .int .i64 100], .slice g3 3 d3, .agg #[.int .i64 60, .int .i64 1]] W (fun e w' => ∃ x y z, Three x y z W e w')) := fun W h => (retime_calls (ga + 1) 0 100 g3 3 d3 l3 60 1 W (by unfold I64; omega) (by unfold I64; omega) (r3.below h) hI3).mono (fun e w' hh => ⟨_, _, _, hh⟩)
  have C5 : Hid (∀ W, Below w8.heap.size w8 W → Calls Tryz.prog 13 #[.slice g1 12 d1, .slice g4 12 d4] W (QRet (.bool true) W)) := fun W h => equalPz_calls (ga + 1) g1 g4 12 d1 d4 l1 W (r1.below h) (s1.below h)
  have C6 : Hid (∀ W, Below w8.heap.size w8 W → Calls Tryz.prog 14 #[.slice g2 6 d2, .slice g5 6 d5] W (QRet (.bool true) W)) := fun W h => equalCut_calls (ga + 1) g2 g5 6 d2 d5 l2 W (r2.below h) (s2.below h)
  have C7 : Hid (∀ W, Below w8.heap.size w8 W → Calls Tryz.prog 15 #[.slice g3 3 d3, .slice g6 3 d6] W (QRet (.bool true) W)) := fun W h => equalPart_calls (ga + 1) g3 g6 3 d3 d6 l3 W (r3.below h) (s3.below h)
  have C8 : Hid (∀ W, Below w8.heap.size w8 W → Calls Tryz.prog 16 #[] W (BRet (.bool true) W)) := fun W h => ready_calls (ga + 1) W (by have := h.size; omega) (ht.below (below_call hB8 h (Nat.le_refl _)))
  have C9 : Hid (∀ W W', Below w8.heap.size w8 W → Below W.heap.size W W' → Below w.heap.size w W') := fun W W' h h' => below_call (below_call hB8 h (Nat.le_refl _)) h' (by have := hB8.size; omega)
  clear r1 r2 r3 s1 s2 s3 hA8 hU6 hU7 hU8 hB8 hB5 ht hR1 hok hci hat hI3 hJ3 hF2 hG2 hT1 HWG hBl hga hs5 hl1 hl2 hl3 hq2 hq3 hp3 hp2
  have hz8 : Below w8.heap.size w8 w8 := Below.refl _ _
  go_wp2_with fail
  refine (C1.out _ hz8).mono ?_
  rintro e w9 ⟨A9, n9, k9, L9, E9, rfl, ho9, hl9, hb9⟩
  go_wp2_with fail
  refine (spoilI_calls w8.heap.size n9 A9 k9 L9 w9 ho9 hl9).mono ?_
  rintro e w10 ⟨rfl, hb10⟩
  have hz10 : Below w8.heap.size w8 w10 := hb9.trans hb10
  clear ho9 hb9 hb10 hz8
  go_wp2_with fail
  refine (C2.out _ hz10).mono ?_
  rintro e w11 ⟨A11, n11, k11, L11, E11, rfl, ho11, hl11, hb11⟩
  go_wp2_with fail
  refine (spoilC_calls w10.heap.size n11 A11 k11 L11 w11 ho11 hl11 hb11.size).mono ?_
  rintro e w12 ⟨rfl, hb12⟩
  have hz12 : Below w8.heap.size w8 w12 := below_call hz10 (hb11.trans hb12) (Nat.le_refl _)
  clear ho11 hb11 hb12 hz10
  go_wp2_with fail
  refine (C3.out _ hz12).mono ?_
  rintro e w13 ⟨A13, n13, k13, L13, E13, rfl, ho13, hl13, hb13⟩
  go_wp2_with fail
  refine (spoilC_calls w12.heap.size n13 A13 k13 L13 w13 ho13 hl13 hb13.size).mono ?_
  rintro e w14 ⟨rfl, hb14⟩
  have hz14 : Below w8.heap.size w8 w14 := below_call hz12 (hb13.trans hb14) (Nat.le_refl _)
  clear ho13 hb13 hb14 hz12
  go_wp2_with fail
  refine (C4.out _ hz14).mono ?_
  rintro e w15 ⟨x15, y15, z15, rfl, hb15⟩
  have hz15 : Below w8.heap.size w8 w15 := below_call hz14 hb15 (Nat.le_refl _)
  clear hb15 hz14
  go_wp2_with fail
  refine (C5.out _ hz15).mono ?_
  rintro e w16 ⟨rfl, nq1, rfl⟩
  have hz16 : Below w8.heap.size w8 (w15.drewN nq1) := below_drewN hz15 _
  go_wp2_with fail
  refine (C6.out _ hz16).mono ?_
  rintro e w17 ⟨rfl, nq2, rfl⟩
  have hz17 := below_drewN hz15 (nq1 + nq2)
  go_wp2_with fail
  refine (C7.out _ hz17).mono ?_
  rintro e w18 ⟨rfl, nq3, rfl⟩
  have hz18 := below_drewN hz15 (nq1 + nq2 + nq3)
  go_wp2_with fail
  refine (C8.out _ hz18).mono ?_
  rintro e w19 ⟨rfl, hb19⟩
  go_wp2_with fail
  go_ret
  exact ⟨rfl, C9.out _ _ hz18 hb19⟩
end Go.Proofs.YtohjapfjkilmoaaGreatDoor
