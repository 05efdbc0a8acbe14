/-
  The stream's Versions by a contract.
-/
import Derived.Test.YtlkapcjofgpiiaaGreatDoorZHld3
import Derived.Test.YtlkapcjofgpiiaaGreatDoorZSumS
import Derived.Test.YtlkapcjofgpiiaaGreatDoorZSrn1
import Derived.Test.YtlkapcjofgpiiaaGreatDoorZRatMake4
import Derived.Deep.DeepCutAuto
import Derived.Deep.CutBlock
namespace Go.Proofs.YtlkapcjofgpiiaaGreatDoor
open Go Go.RowKit TxtP
attribute [local go_sem ↓] Go.wp_at_zero Go.wp_at_succ

theorem one3v {x y z : Value} (hx : x.oneCell' = true) (hy : y.oneCell' = true) (hz : z.oneCell' = true) : ∀ u ∈ [x, y, z], u.oneCell' = true := by
  intro u hu
  simp at hu
  rcases hu with rfl | rfl | rfl <;> assumption
def VrZ (v : Vr) : Prop := v.c.size ≤ 1000 ∧ v.r.size ≤ 1000
def VrZs (vs : List Vr) : Prop := ∀ v ∈ vs, VrZ v
theorem VrZs.snoc {vs : List Vr} {v : Vr} (h : VrZs vs) (hv : VrZ v) : VrZs (vs ++ [v]) := by
  intro y hy
  rcases List.mem_append.1 hy with hy | hy
  · exact h y hy
  · simp at hy; subst hy; exact hv
theorem vr_snoc (vs : List Vr) (v : Vr) : (vs ++ [v]).flatMap vrC = vs.flatMap vrC ++ vrC v := by
  rw [List.flatMap_append]; simp
/-- versions in new memory, drawn -/
def VersS (b K m : Nat) (w : World) (e : Ending) (w' : World) : Prop :=
  ∃ (v : Value) (vs : List Vr), e = .returned v ∧ vs.length ≤ m ∧ VrZs vs ∧ Sp w b K w' [rOwn w.heap.size 59 3 v vs.length (vs.flatMap vrC)]
theorem vrs_ofS {w W : World} {b K n c : Nat} {A : Option Addr} {vs : List Vr} {l : List Rsc} (hS : Sp w b K W (rOwn w.heap.size 59 3 (.slice A n c) n (vs.flatMap vrC) :: l)) (hz : VrZs vs) : Vrs W b A n c vs := by
  have h0 : W.ownsRow w.heap.size 59 3 (.slice A n c) n (vs.flatMap vrC) := hS.head
  exact ⟨Rd.own h0 hS.hb, fun v hv => ⟨by have := (hz v hv).1; omega, by have := (hz v hv).2; omega⟩⟩
theorem info_vr : (Tryz.prog.info? 59).map (fun i => (i.zero, i.size, i.bytes)) = some (some (.agg #[.string ⟨#[]⟩, .int .i64 0, .string ⟨#[]⟩]), 3, 40) := by kernel_rfl

set_option maxRecDepth 100000 in
set_option maxHeartbeats 4000000 in
theorem versions_calls (b K : Nat) (w : World) (hs : Strm w b K) (hK : K ≤ 800000) :
    Calls Tryz.prog 5 #[.pointer (some ⟨b, 0, none⟩)] w (VersS b (K + 600) 9 w) := by
  obtain ⟨i0, hi, hz0, hz1, hz2⟩ := info_parts info_vr
  have hS0 := (((Sp.start hs).add #[.string ⟨#[97, 110, 121]⟩, .string ⟨#[102, 97, 115, 116]⟩, .string ⟨#[102, 117, 108, 108]⟩] 9).nil w.heap.size 59 3)
  have HRR : Hid (∀ K w, Strm w b K → K ≤ 890000 → Calls Tryz.prog 34 #[.pointer (some ⟨b, 0, none⟩), .int .i64 2] w (SpS (IsStrN 304) w b (K + 43) [])) := Lib.hid (fun K w h h2 => rightRule_calls 2 (by omega) b K w h (by have : ruK 2 = 43 := rfl; omega))
  clear hs
  go_enter Tryz.func5, Tryz.ntmps5
  go_wp2_with fail
  go_loopw [3, 11] (fun v i wr => ∃ (k : Nat) (xs : List Vr), k ≤ 3 ∧ i = .int .i64 k ∧ xs.length ≤ 3 * k ∧ VrZs xs ∧ Sp w b (K + 200 * k) wr [rOwn w.heap.size 59 3 v xs.length (xs.flatMap vrC), rBlk w.heap.size 9 #[.string ⟨#[97, 110, 121]⟩, .string ⟨#[102, 97, 115, 116]⟩, .string ⟨#[102, 117, 108, 108]⟩]]) (fun _ i _ => 3 - (intOf i).toNat)
  case atStart => exact ⟨0, [], Nat.zero_le _, rfl, Nat.le_refl _, (by intro x hx; cases hx), hS0.more (by omega)⟩
  case round =>
    clear hS0
    obtain ⟨k, xs, hk, rfl, hxk, hz, hS⟩ := hrel
    by_cases hlt : k < 3
    · obtain ⟨s, hcs, hss⟩ := strLit_at (cs := #[.string ⟨#[97, 110, 121]⟩, .string ⟨#[102, 97, 115, 116]⟩, .string ⟨#[102, 117, 108, 108]⟩]) rfl k (by simp; omega)
      have hb5 : Blk wr w.heap.size 9 #[.string ⟨#[97, 110, 121]⟩, .string ⟨#[102, 97, 115, 116]⟩, .string ⟨#[102, 117, 108, 108]⟩] := hS.nth 1 rfl
      have c0 := (hb5.cell k).trans hcs
      have hk0 : (0 : Int) ≤ (k : Int) := by omega
      have hk5 : (k : Int) < 3 := by omega
      clear hcs hb5
      go_wp2_with fail
      refine (sp_pickL hS #[.int .i64 0, .int .i64 10] 3 2 0 10 (by decide) (by decide) rfl rfl (by omega)).mono ?_
      rintro e w1 ⟨_, rfl, ⟨a0, rfl, ha0, ha1⟩, hS1⟩
      clear c0 hS
      go_wp2_with fail
      refine (sp_range hS1 0 3 (by omega) (by omega) (by omega) (by omega)).mono ?_
      rintro e w2 ⟨_, rfl, ⟨q0, rfl, hq0, hq1⟩, hS2⟩
      obtain ⟨q, rfl⟩ := Int.eq_ofNat_of_zero_le hq0
      clear hS1
      go_wp2_with fail
      go_loopw [3, 6, 7, 20] (fun v at' last i wr => ∃ (j : Nat) (ys : List Vr) (a : Int) (ls : ByteArray), j ≤ q ∧ at' = .int .i64 a ∧ last = .string ls ∧ i = .int .i64 j ∧ 0 ≤ a ∧ a ≤ 10 + 50 * (j : Int) ∧ ls.size ≤ 1000 ∧ ys.length ≤ 3 * k + j ∧ VrZs ys ∧ Sp w b (K + 200 * k + 2 + 60 * j) wr [rOwn w.heap.size 59 3 v ys.length (ys.flatMap vrC), rBlk w.heap.size 9 #[.string ⟨#[97, 110, 121]⟩, .string ⟨#[102, 97, 115, 116]⟩, .string ⟨#[102, 117, 108, 108]⟩]]) (fun _ _ _ i _ => q - (intOf i).toNat)
      case atStart => exact ⟨0, xs, a0, ⟨#[]⟩, Nat.zero_le _, rfl, rfl, rfl, ha0, by omega, Nat.zero_le _, by omega, hz, hS2⟩
      case round =>
        clear hS2 hz
        obtain ⟨j, ys, a, ls, hj, rfl, rfl, rfl, hal, hau, hls, hyl, hyz, hS⟩ := hrel
        by_cases hjt : j < q
        · have hKK : K + 200 * k + 2 + 60 * j ≤ 890000 := by omega
          go_upto_region 9 with (first | (go_at_call 34; refine (HRR.out _ _ hS.strm hKK).mono ?_; rintro e w3 ⟨_, rfl, ⟨r, rfl, hrz⟩, hR⟩; have hS3 := (hS.call hR.strm hR.bx).add #[.string s, .int .i64 a, .string r] 59))
          clear hKK
          clear hR hS
          obtain ⟨H, hH⟩ : ∃ H, w3.heap.size = H := ⟨_, rfl⟩
          obtain ⟨W3, hW3⟩ : ∃ W, w3.alloc (.cells #[.string s, .int .i64 a, .string r] 59) = W := ⟨_, rfl⟩
          rw [hH, hW3] at hS3
          rw [hH, hW3]
          clear hH hW3
          replace hS3 := hS3.more (show K + 200 * k + 2 + 60 * j + 43 ≤ K + 200 * k + 2 + 60 * j + 43 from Nat.le_refl _)
          go_cut [32] (fun s32 V => ∃ fb, s32 = .bool fb ∧ Sp w b (K + 200 * k + 2 + 60 * j + 43 + 1) V [rBlk H 59 #[.string s, .int .i64 a, .string r], rOwn w.heap.size 59 3 u3 ys.length (ys.flatMap vrC), rBlk w.heap.size 9 #[.string ⟨#[97, 110, 121]⟩, .string ⟨#[102, 97, 115, 116]⟩, .string ⟨#[102, 117, 108, 108]⟩]])
          case first =>
            cases hle : ls.toList.isEmpty
            · have hne : ¬ ls.toList = [] := by intro e; rw [e] at hle; cases hle
              go_wp2_with fail
              refine (sp_flip hS3 3 (by omega) (by omega) (by omega)).mono ?_
              rintro e w4 ⟨_, rfl, ⟨fv, rfl⟩, hS4⟩
              go_wp2_with fail
              go_meet
              exact ⟨fv, rfl, hS4⟩
            · have hee : ls.toList = [] := List.isEmpty_iff.1 hle
              go_wp2_with fail
              go_meet
              exact ⟨false, rfl, hS3.more (by omega)⟩
          obtain ⟨fb, rfl, hS4⟩ := hcut
          clear hS3
          go_upto_if 32 with (fail)
          go_cut [] (fun V => ∃ r2 : ByteArray, r2.size ≤ 304 ∧ Sp w b (K + 200 * k + 2 + 60 * j + 43 + 1) V [rBlk H 59 #[.string s, .int .i64 a, .string r2], rOwn w.heap.size 59 3 u3 ys.length (ys.flatMap vrC), rBlk w.heap.size 9 #[.string ⟨#[97, 110, 121]⟩, .string ⟨#[102, 97, 115, 116]⟩, .string ⟨#[102, 117, 108, 108]⟩]])
          case first =>
            cases fb
            · go_wp2_with fail
              go_meet
              exact ⟨r, hrz, hS4⟩
            · have hkb : Blk _ H _ _ := hS4.head
              have z2 := hkb.cell 2
              have f2 := hkb.frozen 2
              have hS5 := hS4.set_ 2 (.string ⟨#[]⟩)
              go_wp2_with fail
              go_meet
              exact ⟨⟨#[]⟩, Nat.zero_le _, hS5⟩
          obtain ⟨r2, hrz2, hS5⟩ := hcut
          clear hS4 hrz
          have hkb : Blk _ H _ _ := hS5.head
          have z2 := hkb.cell 2
          obtain ⟨EQ, hEQ⟩ : ∃ z, (r2.toList == ls.toList) = z := ⟨_, rfl⟩
          go_upto_region 11 with (fail)
          go_cut [42] (fun s42 V => ∃ fb, s42 = .bool fb ∧ Sp w b (K + 200 * k + 2 + 60 * j + 43 + 2) V [rBlk H 59 #[.string s, .int .i64 a, .string r2], rOwn w.heap.size 59 3 u3 ys.length (ys.flatMap vrC), rBlk w.heap.size 9 #[.string ⟨#[97, 110, 121]⟩, .string ⟨#[102, 97, 115, 116]⟩, .string ⟨#[102, 117, 108, 108]⟩]])
          case first =>
            cases EQ
            · go_wp2_with fail
              go_meet
              exact ⟨false, rfl, hS5.more (by omega)⟩
            · go_wp2_with fail
              refine (sp_flip hS5 12 (by omega) (by omega) (by omega)).mono ?_
              rintro e w4 ⟨_, rfl, ⟨fv, rfl⟩, hS6⟩
              go_wp2_with fail
              go_meet
              exact ⟨!fv, rfl, hS6⟩
          obtain ⟨fb2, rfl, hS6⟩ := hcut
          clear hS5 hkb z2 hEQ
          cases fb2
          · have hkb : Blk _ H _ _ := hS6.head
            have z2 := hkb.cell 2
            go_upto_if 46 with (first | (refine (sp_flip hS6 50 (by omega) (by omega) (by omega)).mono ?_; rintro e w7 ⟨_, rfl, ⟨fv, rfl⟩, hS7⟩))
            clear hkb z2 hS6
            go_cut [] (fun V => ∃ (c3 : ByteArray) (a3 : Int) (r3 : ByteArray), c3.size ≤ 1000 ∧ r3.size ≤ 1000 ∧ Sp w b (K + 200 * k + 2 + 60 * j + 43 + 7) V [rBlk H 59 #[.string c3, .int .i64 a3, .string r3], rOwn w.heap.size 59 3 u3 ys.length (ys.flatMap vrC), rBlk w.heap.size 9 #[.string ⟨#[97, 110, 121]⟩, .string ⟨#[102, 97, 115, 116]⟩, .string ⟨#[102, 117, 108, 108]⟩]])
            case first =>
              cases fv
              · go_wp2_with fail
                go_meet
                exact ⟨s, a, r2, hss, by omega, hS7.more (by omega)⟩
              · go_wp2_with fail
                refine (sp_someL hS7 #[.string s, .string ⟨#[]⟩, .string ⟨#[97, 110, 121]⟩] 9 3 (by decide) (by decide) rfl (lit_vR hss (strLit_ok (cs := #[.string ⟨#[]⟩, .string ⟨#[97, 110, 121]⟩]) rfl)) (by omega)).mono ?_
                rintro e w8 ⟨_, rfl, ⟨c3, rfl, hc3⟩, hS8⟩
                clear hS7
                go_wp2_with fail
                refine (sp_odd hS8 0 100 (by omega) (by omega) (by omega) (by omega)).mono ?_
                rintro e w9 ⟨_, rfl, ⟨a3, rfl, p0, p1⟩, hS9⟩
                clear hS8
                go_wp2_with fail
                refine (sp_someL hS9 #[.string ⟨#[97, 32, 61]⟩, .string ⟨#[116, 114, 117, 101]⟩, .string ⟨#[]⟩] 9 3 (by decide) (by decide) rfl (strLit_ok rfl) (by omega)).mono ?_
                rintro e w10 ⟨_, rfl, ⟨r3, rfl, hr3⟩, hS10⟩
                clear hS9
                have hkb : Blk _ H _ _ := hS10.head
                have z0 := hkb.cell 0
                have z1 := hkb.cell 1
                have z2 := hkb.cell 2
                have f0 := hkb.frozen 0
                have f1 := hkb.frozen 1
                have f2 := hkb.frozen 2
                have hS11 := ((hS10.set_ 0 (.string c3)).set_ 1 (.int .i64 a3)).set_ 2 (.string r3)
                go_wp2_with fail
                go_meet
                exact ⟨c3, a3, r3, hc3, hr3, hS11.more (by omega)⟩
            obtain ⟨c3, a3, r3, hc3, hr3, hS8⟩ := hcut
            clear hS7
            have hkb : Blk _ H _ _ := hS8.head
            have z0 := hkb.cell 0
            have z1 := hkb.cell 1
            have z2 := hkb.cell 2
            have hSf := hS8.front 1 rfl rfl
            have hz5 := hSf.size
            have HO5 : wc.ownsRow w.heap.size 59 3 u3 ys.length (ys.flatMap vrC) := hSf.head
            clear hS8 hkb
            go_wp2_with (first
              | (at_builtin; refine wpList_append_own_at _ rfl _ _ 26 rfl w.heap.size 59 i0 (.agg #[.string ⟨#[]⟩, .int .i64 0, .string ⟨#[]⟩]) 3 40 Tryz.underlying26 hi hz0 hz1 hz2 rfl (by decide) _ _ _ rfl (HO5.alloc _) ⟨wc.heap.size, 0, none⟩ 1 1 [.string c3, .int .i64 a3, .string r3] rfl rfl (World.news_of_block (heap_alloc_new _ _)) (one3v rfl rfl rfl) (by unfold maxLen; omega) (by omega) (by simp; omega) ?_; intro v' w11 hown' hgrow _ hblk; have hS9 := (hSf.alloc _).append hown' hgrow hblk; clear hown' hgrow hblk))
            have hS10 : Sp w b (K + 200 * k + 2 + 60 * j + 43 + 7) w11 [rOwn w.heap.size 59 3 v' (ys ++ [(⟨c3, a3, r3⟩ : Vr)]).length ((ys ++ [(⟨c3, a3, r3⟩ : Vr)]).flatMap vrC), rBlk H 59 #[.string c3, .int .i64 a3, .string r3], rBlk w.heap.size 9 #[.string ⟨#[97, 110, 121]⟩, .string ⟨#[102, 97, 115, 116]⟩, .string ⟨#[102, 117, 108, 108]⟩]] := by
              rw [vr_snoc, List.length_append]; exact hS9
            clear hS9 hSf HO5 z0 z1 z2
            refine (sp_pickL hS10 #[.int .i64 1, .int .i64 40, .int .i64 50] 3 3 1 50 (by decide) (by decide) rfl rfl (by omega)).mono ?_
            rintro e w12 ⟨_, rfl, ⟨d, rfl, hd0, hd1⟩, hS11⟩
            clear hS10
            go_wp2_with fail
            go_roundw
            case rel => exact ⟨j + 1, _, a + d, r2, by omega, rfl, rfl, by go_num, by omega, by omega, by omega, by simp; omega, hyz.snoc ⟨hc3, hr3⟩, (hS11.drop 1 rfl rfl).more (by omega)⟩
            case measure => simp [intOf]; omega
          · go_wp2_with fail
            go_roundw
            case rel => exact ⟨j + 1, ys, a, ls, by omega, rfl, rfl, by go_num, hal, by omega, hls, by omega, hyz, (hS6.drop 0 rfl rfl).more (by omega)⟩
            case measure => simp [intOf]; omega
        · obtain rfl : j = q := by omega
          go_wp2_with fail
          go_roundw
          case rel => exact ⟨k + 1, ys, by omega, by go_num, by omega, hyz, hS.more (by omega)⟩
          case measure => simp [intOf]; omega
    · obtain rfl : k = 3 := by omega
      go_wp2_with fail
      go_ret
      exact ⟨_, xs, rfl, by omega, hz, (hS.drop 1 rfl rfl).more (by omega)⟩
end Go.Proofs.YtlkapcjofgpiiaaGreatDoor
