/-
  SameOf of right rules by a contract, with its closure and EachChoice at it. (Printed by gen_so.py.)
-/
import Derived.Test.YtfhdknppldobiaaGreatDoorZChc2
import Derived.Deep.DeepCutAuto
namespace Go.Proofs.YtfhdknppldobiaaGreatDoor
open Go Go.RowKit TxtP
attribute [local go_sem ↓] Go.wp_at_zero Go.wp_at_succ

attribute [local go_sem] run_store_fnC
/-- what is asked of a choice -/
def soS (ns : List ByteArray) (s1 s2 : ByteArray) (m : Nat) : Bool := evS ns m s1 == evS ns m s2
set_option maxRecDepth 100000 in
set_option maxHeartbeats 1000000 in
theorem soS_calls (s1 s2 : ByteArray) (hz1 : s1.size ≤ 90000 ∧ (parseE numF s1).2 = 0) (hz2 : s2.size ≤ 90000 ∧ (parseE numF s2).2 = 0) (b g5 g6 g7 ga gb : Nat) (ns : List ByteArray) (m : Nat) (A : Option Addr) (n c : Nat) (W : World) (h : ChM W b g5 g6 ns m A n c) (h7 : W.cell? ⟨g7, 0, none⟩ = some (fnC g5 g6)) (ha : W.cell? ⟨ga, 0, none⟩ = some (.string s1)) (hbb : W.cell? ⟨gb, 0, none⟩ = some (.string s2)) (hm : m < 1000000) (hn : n ≤ 20) :
    Calls Tryz.prog 100 #[.func (.func 152) #[] #[.pointer (some ⟨g7, 0, none⟩)], .pointer (some ⟨ga, 0, none⟩), .pointer (some ⟨gb, 0, none⟩)] W (BRet (.bool (soS ns s1 s2 m)) W) := by
  have HA : Hid (∀ V, Below W.heap.size W V → Calls Tryz.prog 152 #[.string s1, .pointer (some ⟨g7, 0, none⟩)] V (fun e w' => e = .returned (.bool (evS ns m s1)) ∧ Below W.heap.size W w')) := Lib.hid (fun V hV => (ch2_calls s1 hz1.1 hz1.2 b g5 g6 g7 ns m A n c V (h.below hV) (below_cell hV h7) hm hn).mono (fun e w' h2 => ⟨h2.1, below_call hV h2.2 (Nat.le_refl _)⟩))
  have HB : Hid (∀ V, Below W.heap.size W V → Calls Tryz.prog 152 #[.string s2, .pointer (some ⟨g7, 0, none⟩)] V (fun e w' => e = .returned (.bool (evS ns m s2)) ∧ Below W.heap.size W w')) := Lib.hid (fun V hV => (ch2_calls s2 hz2.1 hz2.2 b g5 g6 g7 ns m A n c V (h.below hV) (below_cell hV h7) hm hn).mono (fun e w' h2 => ⟨h2.1, below_call hV h2.2 (Nat.le_refl _)⟩))
  obtain ⟨q1, hq1⟩ : ∃ q, evS ns m s1 = q := ⟨_, rfl⟩
  obtain ⟨q2, hq2⟩ : ∃ q, evS ns m s2 = q := ⟨_, rfl⟩
  rw [hq1] at HA
  rw [hq2] at HB
  have HCE : Hid (∀ V, Below W.heap.size W V → V.cell? ⟨ga, 0, none⟩ = some (.string s1) ∧ V.cell? ⟨gb, 0, none⟩ = some (.string s2)) := Lib.hid (fun V hV => ⟨below_cell hV ha, below_cell hV hbb⟩)
  have HV : Hid (soS ns s1 s2 m = (q1 == q2)) := Lib.hid (by rw [← hq1, ← hq2]; rfl)
  rw [HV.out]
  have S0 : Below W.heap.size W W := Below.refl _ _
  have S1 : Below W.heap.size W W.drew := below_drewN S0 1
  clear h h7 HV hz1 hz2 ha hbb
  obtain ⟨k1, k2⟩ := HCE.out _ S0
  go_enter Tryz.func100, Tryz.ntmps100
  go_wp2_with fail
  go_region_held3 (fun V => V.cell? ⟨ga, 0, none⟩ = some (.string s1) ∧ V.cell? ⟨gb, 0, none⟩ = some (.string s2))
    (first | with_reducible exact HCE.out _ S1 | with_reducible exact HCE.out _ S2 | with_reducible exact HCE.out _ S3)
    (first
      | (go_at_call 152; ((with_reducible refine (HA.out _ S1).mono ?_); rintro e w2 ⟨rfl, S2⟩))
      | (go_at_call 152; ((with_reducible refine (HB.out _ S2).mono ?_); rintro e w3 ⟨rfl, S3⟩)))
  go_wp2_with fail
  go_ret
  exact ⟨rfl, S3⟩
set_option maxRecDepth 100000 in
set_option maxHeartbeats 1000000 in
theorem eachS_calls (s1 s2 : ByteArray) (hz1 : s1.size ≤ 90000 ∧ (parseE numF s1).2 = 0) (hz2 : s2.size ≤ 90000 ∧ (parseE numF s2).2 = 0) (b ga gb : Nat) (A0 : Option Addr) (n0 c0 : Nat) (ss : List ByteArray) (w : World) (hr : Rd w b 1 (.slice A0 n0 c0) n0 (strsV ss)) (hss : ∀ s ∈ ss, s.size ≤ 90000 ∧ (parseE numF s).2 = 0) (hn0 : n0 ≤ 10) (hb : b < w.heap.size) (h12 : (frS ss).length ≤ 12) (ha : w.cell? ⟨ga, 0, none⟩ = some (.string s1)) (hbb : w.cell? ⟨gb, 0, none⟩ = some (.string s2)) :
    Calls Tryz.prog 98 #[.func (.func 100) #[] #[.pointer (some ⟨ga, 0, none⟩), .pointer (some ⟨gb, 0, none⟩)], .slice A0 n0 c0] w (BRet (.bool ((List.range (2 ^ (frS ss).length)).all (soS (frS ss) s1 s2))) w) := by
  have HFR := Lib.hid (free_calls b A0 n0 c0 ss w hr hss hn0 hb)
  unfold DelSt at HFR
  obtain ⟨ns, hns⟩ : ∃ ns, frS ss = ns := ⟨_, rfl⟩
  rw [hns] at HFR h12 ⊢
  obtain ⟨nl, hnl⟩ : ∃ nl, ns.length = nl := ⟨_, rfl⟩
  rw [hnl] at HFR h12 ⊢
  have HSO : Hid (∀ g5 g6 g7 m (A : Option Addr) n c V, Below w.heap.size w V → ChM V b g5 g6 ns m A n c → V.cell? ⟨g7, 0, none⟩ = some (fnC g5 g6) → m < 1000000 → n ≤ 20 → Calls Tryz.prog 100 #[.func (.func 152) #[] #[.pointer (some ⟨g7, 0, none⟩)], .pointer (some ⟨ga, 0, none⟩), .pointer (some ⟨gb, 0, none⟩)] V (BRet (.bool (soS ns s1 s2 m)) V)) :=
    Lib.hid (fun g5 g6 g7 m A n c V hV h1 h2 h3 h4 => soS_calls s1 s2 hz1 hz2 b g5 g6 g7 ga gb ns m A n c V h1 h2 (below_cell hV ha) (below_cell hV hbb) h3 h4)
  obtain ⟨N, hN⟩ : ∃ N, 2 ^ nl = N := ⟨_, rfl⟩
  have hN1 : N ≤ 4096 := by rw [← hN]; exact Nat.pow_le_pow_right (by decide) h12
  have hNw : IntKind.i64.wrap ((2 : Int) ^ nl) = (N : Int) := by
    have : ((2 : Int) ^ nl) = (N : Int) := by rw [← hN]; simp
    rw [this]
    exact IntWalk.i64_in _ (by omega)
  rw [hN]
  obtain ⟨F, hF⟩ : ∃ F : Nat → Bool, soS ns s1 s2 = F := ⟨_, rfl⟩
  rw [hF] at HSO ⊢
  obtain ⟨v9, hv9⟩ : ∃ v, (List.range N).all F = v := ⟨_, rfl⟩
  have HV1 : Hid (∀ k, k < N → F k = false → v9 = false) := Lib.hid (fun k hk h => by
    rw [← hv9, List.all_eq_false]
    exact ⟨k, List.mem_range.2 hk, by rw [h]; decide⟩)
  have HV2 : Hid ((∀ k, k < N → F k = true) → v9 = true) := Lib.hid (fun h => by
    rw [← hv9, List.all_eq_true]
    exact fun k hk => h k (List.mem_range.1 hk))
  rw [hv9]
  clear hr hss hns hv9 hF hN hnl hz1 hz2 ha hbb
  go_enter Tryz.func98, Tryz.ntmps98
  go_upto_region 2 with (first | (go_at_call 97; refine HFR.out.mono ?_; rintro e w2 ⟨A2, m2, c2, rfl, rfl, hr2, hb2⟩))
  have hSa := (Sq.start w2).add #[.slice A2 m2 c2] 37
  have hm20 : m2 ≤ 20 := by omega
  have hr3 := hr2.below hSa.below
  have hc5 := Blk.cell hSa.head 0
  have hb3 := below_call hb2 hSa.below (Nat.le_refl _)
  obtain ⟨w3, hw3⟩ : ∃ w3, w3 = w2.alloc (.cells #[.slice A2 m2 c2] 37) := ⟨_, rfl⟩
  have hg5 : w2.heap.size < w3.heap.size := by rw [hw3]; simp
  rw [← hw3] at hr3 hc5 hb3 ⊢
  replace hc5 : w3.cell? ⟨w2.heap.size, 0, none⟩ = some (.slice A2 m2 c2) := hc5
  clear hSa hw3 HFR hr2 hb2
  have HR3 := Lib.hid hr3
  have HC5 := Lib.hid hc5
  have HB3 := Lib.hid hb3
  clear hr3 hb3 h12
  go_wp2_with fail
  go_loopw [13] (fun i wr => ∃ k : Nat, k ≤ N ∧ i = .int .i64 k ∧ Below w3.heap.size w3 wr ∧ Hid (∀ j, j < k → F j = true)) (fun i _ => N - (intOf i).toNat)
  case atStart => exact ⟨0, Nat.zero_le _, rfl, Below.refl _ _, Lib.hid (fun j h => by omega)⟩
  case round =>
    clear hc5
    obtain ⟨k, hk, rfl, hbr, HF⟩ := hrel
    by_cases hlt : k < N
    · have hS1 := (Sq.start wr).add #[.int .i64 k] 3
      obtain ⟨w4, hw4⟩ : ∃ w4, w4 = wr.alloc (.cells #[.int .i64 k] 3) := ⟨_, rfl⟩
      rw [← hw4] at hS1
      have hS2 := (Sq.start w4).add #[fnC w2.heap.size wr.heap.size] 74
      obtain ⟨w5, hw5⟩ : ∃ w5, w5 = w4.alloc (.cells #[fnC w2.heap.size wr.heap.size] 74) := ⟨_, rfl⟩
      rw [← hw5] at hS2
      have hB5 : Below w3.heap.size w3 w5 := below_call (below_call hbr hS1.below (Nat.le_refl _)) hS2.below (Nat.le_refl _)
      have c6 : w5.cell? ⟨wr.heap.size, 0, none⟩ = some (.int .i64 k) := below_cell hS2.below (Blk.cell hS1.head 0)
      have c7 : w5.cell? ⟨w4.heap.size, 0, none⟩ = some (fnC w2.heap.size wr.heap.size) := Blk.cell hS2.head 0
      have HCH : Hid (ChM w5 b w2.heap.size wr.heap.size ns k A2 m2 c2) := Lib.hid ⟨below_cell hB5 HC5.out, c6, HR3.out.below hB5⟩
      have HSC := Lib.hid (HSO.out _ _ _ k A2 m2 c2 w5 (below_call HB3.out hB5 (Nat.le_refl _)) HCH.out c7 (by omega) hm20)
      have HB5 := Lib.hid hB5
      have h4 : w4.heap.size = wr.heap.size + 1 := by rw [hw4]; simp
      obtain ⟨f, hf⟩ : ∃ f, F k = f := ⟨_, rfl⟩
      rw [hf] at HSC
      have HFK := Lib.hid hf
      clear hS1 hS2 c6 c7 hB5 HCH hf
      rw [h4] at HSC
      go_upto_region 6 with (fail)
      rw [← hw4, ← hw5]
      clear hw4 hw5 h4
      cases f
      · have HR := Lib.hid (HV1.out k hlt HFK.out)
        go_wp2_with fail
        refine HSC.out.mono ?_
        rintro e w6 ⟨rfl, hb6⟩
        go_wp2_with fail
        go_ret
        exact ⟨by rw [HR.out]; rfl, below_call HB3.out (below_call HB5.out hb6 (Nat.le_refl _)) (Nat.le_refl _)⟩
      · have HF2 : Hid (∀ j, j < k + 1 → F j = true) := Lib.hid (fun j hj => by
          by_cases he : j = k
          · subst he; exact HFK.out
          · exact HF.out j (by omega))
        go_wp2_with fail
        refine HSC.out.mono ?_
        rintro e w6 ⟨rfl, hb6⟩
        have hB6 := below_call HB5.out hb6 (Nat.le_refl _)
        go_wp2_with fail
        go_roundw
        case rel => exact ⟨k + 1, by omega, by go_num, hB6, HF2⟩
        case measure => simp [intOf]; omega
    · obtain rfl : k = N := by omega
      have HR := Lib.hid (HV2.out (fun j hj => HF.out j hj))
      go_wp2_with fail
      go_ret
      exact ⟨by rw [HR.out]; rfl, below_call HB3.out hbr (Nat.le_refl _)⟩
set_option maxRecDepth 100000 in
theorem ofS_calls (s1 s2 : ByteArray) (hz1 : s1.size ≤ 90000 ∧ (parseE numF s1).2 = 0) (hz2 : s2.size ≤ 90000 ∧ (parseE numF s2).2 = 0) (w : World) (h12 : (frS [s1, s2]).length ≤ 12) :
    Calls Tryz.prog 49 #[.string s1, .string s2] w (BRet (.bool ((List.range (2 ^ (frS [s1, s2]).length)).all (soS (frS [s1, s2]) s1 s2))) w) := by
  have hSa := (Sq.start w).add #[.string s1] 9
  obtain ⟨W1, hW1⟩ : ∃ W1, W1 = w.alloc (.cells #[.string s1] 9) := ⟨_, rfl⟩
  have hz1w : W1.heap.size = w.heap.size + 1 := by rw [hW1]; simp
  rw [← hW1] at hSa
  have hSb := hSa.add #[.string s2] 9
  obtain ⟨W2, hW2⟩ : ∃ W2, W2 = W1.alloc (.cells #[.string s2] 9) := ⟨_, rfl⟩
  have hz2w : W2.heap.size = w.heap.size + 2 := by rw [hW2]; simp [hz1w]
  rw [← hW2, hz1w] at hSb
  have hca : W2.cell? ⟨w.heap.size, 0, none⟩ = some (.string s1) := Blk.cell (hSb.nth 1 rfl) 0
  have hcb : W2.cell? ⟨w.heap.size + 1, 0, none⟩ = some (.string s2) := Blk.cell (hSb.nth 0 rfl) 0
  have hb2 : Below w.heap.size w W2 := hSb.below
  have HB2 := Lib.hid hb2
  have HC : Hid (Calls Tryz.prog 98 #[.func (.func 100) #[] #[.pointer (some ⟨w.heap.size, 0, none⟩), .pointer (some ⟨w.heap.size + 1, 0, none⟩)], .slice (some ⟨W2.heap.size, 0, none⟩) 2 2] (W2.alloc (.cells #[.string s1, .string s2] 9)) (BRet (.bool ((List.range (2 ^ (frS [s1, s2]).length)).all (soS (frS [s1, s2]) s1 s2))) (W2.alloc (.cells #[.string s1, .string s2] 9)))) :=
    Lib.hid (eachS_calls s1 s2 hz1 hz2 w.heap.size w.heap.size (w.heap.size + 1) _ 2 2 [s1, s2] _ (Rd.lit W2 w.heap.size 1 2 #[.string s1, .string s2] 9 (by omega) (by decide) rfl) (by simpa using And.intro hz1 hz2) (by omega) (by simp; omega) h12 (below_cell ((Below.refl _ _).alloc (Nat.le_refl _) _) hca) (below_cell ((Below.refl _ _).alloc (Nat.le_refl _) _) hcb))
  obtain ⟨v9, hv9⟩ : ∃ v, (List.range (2 ^ (frS [s1, s2]).length)).all (soS (frS [s1, s2]) s1 s2) = v := ⟨_, rfl⟩
  rw [hv9] at HC ⊢
  have HB3 : Hid (Below w.heap.size w (W2.alloc (.cells #[.string s1, .string s2] 9))) := Lib.hid (hb2.alloc hb2.size _)
  clear hv9 h12 hz1 hz2 hSb hb2
  go_enter Tryz.func49, Tryz.ntmps49
  go_upto_region 1 with (fail)
  rw [← hW1, ← hW2]
  clear hW2 hW1 hz2w hz1w
  go_wp2_with (first | (go_at_call 98; refine HC.out.mono ?_; rintro e w9 ⟨rfl, hb9⟩))
  go_ret
  exact ⟨rfl, below_call HB3.out hb9 (Nat.le_refl _)⟩
end Go.Proofs.YtfhdknppldobiaaGreatDoor
