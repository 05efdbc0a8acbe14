/-
  RulesCompared: the law's own walk.
-/
import Derived.Test.YtfhdknppldobiaaGreatDoorZLawStart
import Derived.Test.YtfhdknppldobiaaGreatDoorZImp
import Derived.Test.YtfhdknppldobiaaGreatDoorZHdq4
import Derived.Test.YtfhdknppldobiaaGreatDoorZRng
import Derived.Deep.DeepCutAuto
import Derived.Deep.CutBlock
namespace Go.Proofs.YtfhdknppldobiaaGreatDoor
open Go Go.RowKit TxtP
attribute [local go_sem ↓] Go.wp_at_zero Go.wp_at_succ

theorem two_err (a b : ByteArray) : firstE [(parseE numF a).2, (parseE numF b).2] = twE a b := by
  unfold twE
  by_cases h : (parseE numF a).2 = 0
  · rw [if_pos h, h]
    simp [firstE]
    omega
  · rw [if_neg h]
    simp [firstE, h]
theorem twE_zero {a b : ByteArray} (h : twE a b = 0) : (parseE numF a).2 = 0 ∧ (parseE numF b).2 = 0 := by
  unfold twE at h
  split at h
  · rename_i h1; exact ⟨h1, h⟩
  · rename_i h1; exact absurd h h1
theorem impE_zero {a b : ByteArray} (h : impE a b = 0) : twE a b = 0 ∧ nevE [(tre a, true), (tre b, false)] = 0 := by
  unfold impE at h
  split at h
  · rename_i h1; exact ⟨h1, h⟩
  · rename_i h1; exact absurd h h1
theorem nevE_len {ps : List Nw} (h : nevE ps = 0) : ¬ 12 < (nevN ps).length := by
  unfold nevE at h
  split at h
  · cases h
  · assumption
theorem nevB_no {ps : List Nw} (h : nevE ps ≠ 0) : nevB ps = false := by
  unfold nevE at h
  unfold nevB
  split at h
  · rename_i h1; rw [if_pos h1]
  · exact absurd rfl h
theorem impB_no {a b : ByteArray} (h : impE a b ≠ 0) : impB a b = false ∧ smB a b = false := by
  unfold impB smB
  by_cases h1 : twE a b = 0
  · have h2 : nevE [(tre a, true), (tre b, false)] ≠ 0 := by
      unfold impE at h
      rw [if_pos h1] at h
      exact h
    rw [if_pos h1, if_pos h1, if_neg (fun x => h2 x.1)]
    exact ⟨nevB_no h2, rfl⟩
  · rw [if_neg h1, if_neg h1]
    exact ⟨rfl, rfl⟩
theorem nvrB_no {a : ByteArray} (h : nvrE a ≠ 0) : nvrB a = false := by
  unfold nvrB
  by_cases h1 : (parseE numF a).2 = 0
  · rw [if_pos h1]
    refine nevB_no ?_
    unfold nvrE at h
    rw [if_pos h1] at h
    exact h
  · rw [if_neg h1]
theorem nvrE_zero {a : ByteArray} (h : nvrE a = 0) : (parseE numF a).2 = 0 ∧ nevE [(tre a, true)] = 0 := by
  unfold nvrE at h
  split at h
  · rename_i h1; exact ⟨h1, h⟩
  · rename_i h1; exact absurd h h1
/-- the reference's answers of right rules with few atoms -/
theorem implies_ref {a b : ByteArray} (h : impE a b = 0) (ha : a.size ≤ 90000) (hb : b.size ≤ 90000) (w : World) : Calls Tryz.prog 48 #[.string a, .string b] w (BRet (.bool (impB a b)) w) := by
  obtain ⟨h1, h2⟩ := impE_zero h
  obtain ⟨pa, pb⟩ := twE_zero h1
  have h12 := nevE_len h2
  rw [← frS_two pa pb] at h12
  have := ofI_calls a b ⟨ha, pa⟩ ⟨hb, pb⟩ w (by omega)
  rw [imp_both pa pb h12] at this
  unfold impB
  rw [if_pos h1]
  exact this
theorem same_ref {a b : ByteArray} (h : impE a b = 0) (ha : a.size ≤ 90000) (hb : b.size ≤ 90000) (w : World) : Calls Tryz.prog 49 #[.string a, .string b] w (BRet (.bool (smB a b)) w) := by
  obtain ⟨h1, h2⟩ := impE_zero h
  obtain ⟨pa, pb⟩ := twE_zero h1
  have h12 := nevE_len h2
  rw [← frS_two pa pb] at h12
  have := ofS_calls a b ⟨ha, pa⟩ ⟨hb, pb⟩ w (by omega)
  rw [sm_both pa pb h12] at this
  have e : smB a b = (nevB [(tre a, true), (tre b, false)] && nevB [(tre a, false), (tre b, true)]) := by
    unfold smB
    rw [if_pos h1, h2]
    cases nevB [(tre a, true), (tre b, false)] <;> simp
  rw [e]
  exact this
theorem never_ref {a : ByteArray} (h : nvrE a = 0) (ha : a.size ≤ 90000) (w : World) : Calls Tryz.prog 50 #[.string a] w (BRet (.bool (nvrB a)) w) := by
  obtain ⟨pa, h2⟩ := nvrE_zero h
  have h12 := nevE_len h2
  rw [← frS_one pa] at h12
  have := ofN_calls a ⟨ha, pa⟩ w (by omega)
  rw [nvr_both pa h12] at this
  unfold nvrB
  rw [if_pos pa]
  exact this
set_option maxRecDepth 100000 in
set_option maxHeartbeats 4000000 in
theorem rcm_walk (a0 : Option Addr) (len0 cap0 : Nat) (z0 : List Int) (w : World) (w0 : InRow w a0 len0 cap0 z0) (ht : Tab w) :
    Calls Tryz.prog 5 #[.slice a0 len0 cap0] w fun e w' => e = .returned (.bool true) ∧ Below w.heap.size w w' := by
  have hs0 := Sp.start (strm_start w0 25)
  have hb0 : Bx w.heap.size w.heap.size w (w.alloc (.cells #[.slice a0 len0 cap0, .int .i64 0] 25)) := (Bx.refl _ _ _).alloc (Nat.le_refl _) _
  have HRR := Lib.hid (fun K W (h : Strm W w.heap.size K) (h2 : K ≤ 800000) => rightRule_calls 2 (by omega) w.heap.size K W h (by have := ruK_le 2 (by omega); omega))
  have hZ2 : ruZ 2 ≤ 6000 := by decide
  have hK2 : ruK 2 ≤ 1000 := ruK_le 2 (by omega)
  obtain ⟨Z, hZ⟩ : ∃ z, ruZ 2 = z := ⟨_, rfl⟩
  obtain ⟨KK, hKK⟩ : ∃ z, ruK 2 = z := ⟨_, rfl⟩
  rw [hZ, hKK] at HRR
  rw [hZ] at hZ2
  rw [hKK] at hK2
  clear w0 hZ hKK
  go_enter Tryz.func5, Tryz.ntmps5
  go_wp2_with fail
  refine (ruleS6_calls w.heap.size 0 _ hs0.strm (by omega)).mono ?_
  rintro e w2 ⟨_, rfl, ⟨a1, rfl, hz1⟩, hR2⟩
  have hS2 := hs0.call hR2.strm hR2.bx
  clear hs0 hR2
  go_wp2_with fail
  refine (ruleS6_calls w.heap.size _ _ hS2.strm (by omega)).mono ?_
  rintro e w3 ⟨_, rfl, ⟨b1, rfl, hz2⟩, hR3⟩
  have hS3 := hS2.call hR3.strm hR3.bx
  clear hS2 hR3
  go_wp2_with fail
  refine (sp_flip hS3 3 (by omega) (by omega) (by omega)).mono ?_
  rintro e w4 ⟨_, rfl, ⟨f1, rfl⟩, hS4⟩
  clear hS3
  go_upto_if 24 with (fail)
  go_cut [4, 5] (fun s4 s5 V => ∃ a b : ByteArray, s4 = .string a ∧ s5 = .string b ∧ a.size ≤ 6000 ∧ b.size ≤ 6000 ∧ Sp (w.alloc (.cells #[.slice a0 len0 cap0, .int .i64 0] 25)) w.heap.size 9000 V [])
  case first =>
    cases f1
    · go_wp2_with fail
      go_meet
      exact ⟨a1, b1, rfl, rfl, hz1, hz2, hS4.more (by omega)⟩
    · go_wp2_with fail
      refine (HRR.out _ _ hS4.strm (by omega)).mono ?_
      rintro e w5 ⟨_, rfl, ⟨a2, rfl, hz3⟩, hR5⟩
      have hS5 := hS4.call hR5.strm hR5.bx
      clear hS4 hR5
      go_wp2_with fail
      refine (HRR.out _ _ hS5.strm (by omega)).mono ?_
      rintro e w6 ⟨_, rfl, ⟨b2, rfl, hz4⟩, hR6⟩
      have hS6 := hS5.call hR6.strm hR6.bx
      clear hS5 hR6
      go_wp2_with fail
      go_meet
      exact ⟨a2, b2, rfl, rfl, by omega, by omega, hS6.more (by omega)⟩
  case rest =>
    obtain ⟨a, b, rfl, rfl, hza, hzb, hS5⟩ := hcut
    clear hS4 hz1 hz2
    go_wp2_with fail
    refine (sp_flip hS5 4 (by omega) (by omega) (by omega)).mono ?_
    rintro e w6 ⟨_, rfl, ⟨f2, rfl⟩, hS6⟩
    clear hS5
    go_upto_if 30 with (fail)
    go_cut [5] (fun s5 V => ∃ b : ByteArray, s5 = .string b ∧ b.size ≤ 20000 ∧ Sp (w.alloc (.cells #[.slice a0 len0 cap0, .int .i64 0] 25)) w.heap.size 9100 V [])
    case first =>
      cases f2
      · go_wp2_with fail
        go_meet
        exact ⟨b, rfl, by omega, hS6.more (by omega)⟩
      · obtain ⟨x1, hx1⟩ : ∃ x, (⟨#[110, 111, 116, 32, 40]⟩ : ByteArray) ++ a ++ ⟨#[41]⟩ = x := ⟨_, rfl⟩
        obtain ⟨x2, hx2⟩ : ∃ x, a ++ (⟨#[32, 111, 114, 32]⟩ : ByteArray) ++ b = x := ⟨_, rfl⟩
        obtain ⟨x3, hx3⟩ : ∃ x, (⟨#[40]⟩ : ByteArray) ++ a ++ ⟨#[41, 32, 97, 110, 100, 32]⟩ ++ b = x := ⟨_, rfl⟩
        have hsz : x1.size ≤ 20000 ∧ x2.size ≤ 20000 ∧ x3.size ≤ 20000 := by
          rw [← hx1, ← hx2, ← hx3]
          simp only [ByteArray.size_append]
          refine ⟨?_, ?_, ?_⟩
          · show 5 + a.size + 1 ≤ 20000; omega
          · show a.size + 4 + b.size ≤ 20000; omega
          · show 1 + a.size + 6 + b.size ≤ 20000; omega
        have HSM := Lib.hid (fun (W : World) (h : Sp (w.alloc (.cells #[.slice a0 len0 cap0, .int .i64 0] 25)) w.heap.size (9000 + 1) W []) => sp_someP (fun z => z.size ≤ 20000) h #[.string x1, .string x2, .string x3] 9 3 (by decide) (by decide) rfl (fun v hv => by
          simp at hv
          rcases hv with rfl | rfl | rfl
          · exact ⟨_, rfl, hsz.1⟩
          · exact ⟨_, rfl, hsz.2.1⟩
          · exact ⟨_, rfl, hsz.2.2⟩) (by omega))
        rw [← hx1, ← hx2, ← hx3] at HSM
        clear hx1 hx2 hx3 hsz
        go_wp2_with fail
        refine (HSM.out _ hS6).mono ?_
        rintro e w7 ⟨_, rfl, ⟨b3, rfl, hzb3⟩, hS7⟩
        go_wp2_with fail
        go_meet
        exact ⟨b3, rfl, hzb3, hS7.more (by omega)⟩
    case rest =>
      obtain ⟨b3, rfl, hzb3, hS7⟩ := hcut
      clear hS6 hzb
      go_wp2_with fail
      refine (sp_flip hS7 20 (by omega) (by omega) (by omega)).mono ?_
      rintro e w8 ⟨_, rfl, ⟨f3, rfl⟩, hS8⟩
      clear hS7
      go_upto_if 47 with (fail)
      go_cut [4] (fun s4 V => ∃ x : ByteArray, s4 = .string x ∧ x.size ≤ 7000 ∧ Sp (w.alloc (.cells #[.slice a0 len0 cap0, .int .i64 0] 25)) w.heap.size 9200 V [])
      case first =>
        cases f3
        · go_wp2_with fail
          go_meet
          exact ⟨a, rfl, by omega, hS8.more (by omega)⟩
        · have hSl := hS8.add #[.string ⟨#[100]⟩, .string ⟨#[101]⟩, .string ⟨#[102]⟩, .string ⟨#[103]⟩, .string ⟨#[104]⟩] 9
          obtain ⟨GL, hGL⟩ : ∃ g, w8.heap.size = g := ⟨_, rfl⟩
          go_wp2_with fail
          refine (sp_range hSl 3 5 (by omega) (by omega) (by omega) (by omega)).mono ?_
          rintro e w9 ⟨_, rfl, ⟨r, rfl, hr0, hr1⟩, hS9⟩
          obtain ⟨rn, rfl⟩ : ∃ n : Nat, r = n := ⟨r.toNat, by omega⟩
          have HBL : Hid (∀ j, j < 5 → ∃ k1 : ByteArray, w9.cell? ⟨w8.heap.size, j, none⟩ = some (.string k1) ∧ k1.size ≤ 1) := Lib.hid (fun j hj => by
            have hk : Blk w9 w8.heap.size _ _ := hS9.head
            rcases (show j = 0 ∨ j = 1 ∨ j = 2 ∨ j = 3 ∨ j = 4 by omega) with rfl | rfl | rfl | rfl | rfl
            · exact ⟨_, hk.cell 0, by decide⟩
            · exact ⟨_, hk.cell 1, by decide⟩
            · exact ⟨_, hk.cell 2, by decide⟩
            · exact ⟨_, hk.cell 3, by decide⟩
            · exact ⟨_, hk.cell 4, by decide⟩)
          rw [hGL] at HBL
          have HS9 := Lib.hid hS9.tail
          clear hS8 hSl hS9
          go_wp2_with fail
          go_loopw [4, 53] (fun s4 i wr => ∃ (j : Nat) (x : ByteArray), j ≤ rn ∧ i = .int .i64 j ∧ s4 = .string x ∧ x.size ≤ 6000 + 60 * j ∧ wr = w9) (fun _ i _ => rn - (intOf i).toNat)
          case atStart => exact ⟨0, a, Nat.zero_le _, rfl, rfl, by omega, by first | rfl | trivial⟩
          case round =>
            obtain ⟨j, x, hj, rfl, rfl, hx, rfl⟩ := hrel
            by_cases hlt : j < rn
            · obtain ⟨k1, c0, hk1⟩ := HBL.out j (by omega)
              have hj0 : (0 : Int) ≤ (j : Int) := by omega
              have hj1 : (j : Int) < (rn : Int) := by omega
              go_wp2_with fail
              go_roundw
              case rel => exact ⟨j + 1, _, by omega, by go_num, rfl, by (simp only [ByteArray.size_append]; show x.size + (6 + k1.size + 8 + k1.size + 12 + k1.size + 1) ≤ _; omega), by first | rfl | trivial⟩
              case measure => simp [intOf]; omega
            · obtain rfl : j = rn := by omega
              go_wp2_with fail
              go_meet
              exact ⟨x, rfl, by omega, HS9.out.more (by omega)⟩
      case rest =>
        obtain ⟨a3, rfl, hza3, hS9⟩ := hcut
        have hB9 := (hb0.call hS9.bx (Nat.le_refl _)).below (Nat.le_refl _)
        have HLT := Lib.hid (Nat.lt_of_le_of_lt (Nat.zero_le _) hS9.lt)
        have T0 := Below.refl wc.heap.size wc
        clear hS8 hza hb0 hS9 HRR
        have HI := Lib.hid (fun W => implies_calls a3 b3 W (by omega) (by omega))
        have HSM := Lib.hid (fun W => same_calls a3 b3 W (by omega) (by omega))
        have HNV := Lib.hid (fun W => nvr_calls a3 W (by omega))
        have HFA := Lib.hid (fun W (h : Tab W) => ruleFault_calls a3 W (by omega) h)
        have HFB := Lib.hid (fun W (h : Tab W) => ruleFault_calls b3 W (by omega) h)
        have HER : Hid (∀ W, Calls Tryz.prog 26 #[.slice (some ⟨W.heap.size, 0, none⟩) 2 2] (W.alloc (.cells #[.int .i64 (parseE numF a3).2, .int .i64 (parseE numF b3).2] 30)) (fun e w' => e = .returned (.int .i64 (twE a3 b3)) ∧ Below W.heap.size W w')) := Lib.hid (fun W => by
          have h := errs_calls (W.heap.size + 5) _ 2 2 [(parseE numF a3).2, (parseE numF b3).2] _ (Rd.lit W (W.heap.size + 5) 1 2 #[.int .i64 (parseE numF a3).2, .int .i64 (parseE numF b3).2] 30 (by omega) (by decide) rfl)
          rw [two_err] at h
          refine h.mono ?_
          rintro e w' ⟨he, nq, rfl⟩
          exact ⟨he, below_drewN ((Below.refl _ _).alloc (Nat.le_refl _) _) nq⟩)
        have HF2 : Hid (twE a3 b3 = 0 → ∀ W, 0 < W.heap.size → Calls Tryz.prog 47 #[.slice (some ⟨W.heap.size, 0, none⟩) 2 2] (W.alloc (.cells #[.string a3, .string b3] 9)) (fun e w' => e = .returned (.int .i64 (impE a3 b3)) ∧ Below W.heap.size W w')) := Lib.hid (fun h0 W hW => by
          obtain ⟨pa, pb⟩ := twE_zero h0
          have h := freeFault_calls 0 _ 2 2 [a3, b3] _ (Rd.lit W 0 1 2 #[.string a3, .string b3] 9 (by omega) (by decide) rfl) (by simp; exact ⟨⟨by omega, pa⟩, by omega, pb⟩) (by omega) (by simp)
          rw [freE_two pa pb, show nevE [(tre a3, true), (tre b3, false)] = impE a3 b3 by unfold impE; rw [if_pos h0]] at h
          exact h.mono (fun e w' h2 => ⟨h2.1, below_call ((Below.refl _ _).alloc (Nat.le_refl _) _) h2.2 (Nat.le_refl _)⟩))
        have HF1 : Hid ((parseE numF a3).2 = 0 → ∀ W, 0 < W.heap.size → Calls Tryz.prog 47 #[.slice (some ⟨W.heap.size, 0, none⟩) 1 1] (W.alloc (.cells #[.string a3] 9)) (fun e w' => e = .returned (.int .i64 (nvrE a3)) ∧ Below W.heap.size W w')) := Lib.hid (fun pa W hW => by
          have h := freeFault_calls 0 _ 1 1 [a3] _ (Rd.lit W 0 1 1 #[.string a3] 9 (by omega) (by decide) rfl) (by simp; exact ⟨by omega, pa⟩) (by omega) (by simp)
          rw [freE_one pa, show nevE [(tre a3, true)] = nvrE a3 by unfold nvrE; rw [if_pos pa]] at h
          exact h.mono (fun e w' h2 => ⟨h2.1, below_call ((Below.refl _ _).alloc (Nat.le_refl _) _) h2.2 (Nat.le_refl _)⟩))
        have HRI : Hid (impE a3 b3 = 0 → ∀ W, Calls Tryz.prog 48 #[.string a3, .string b3] W (BRet (.bool (impB a3 b3)) W)) := Lib.hid (fun h W => implies_ref h (by omega) (by omega) W)
        have HRS : Hid (impE a3 b3 = 0 → ∀ W, Calls Tryz.prog 49 #[.string a3, .string b3] W (BRet (.bool (smB a3 b3)) W)) := Lib.hid (fun h W => same_ref h (by omega) (by omega) W)
        have HRN : Hid (nvrE a3 = 0 → ∀ W, Calls Tryz.prog 50 #[.string a3] W (BRet (.bool (nvrB a3)) W)) := Lib.hid (fun h W => never_ref h (by omega) W)
        have HN1 : Hid (impE a3 b3 ≠ 0 → impB a3 b3 = false ∧ smB a3 b3 = false) := Lib.hid (fun h => impB_no h)
        have HN2 : Hid (nvrE a3 ≠ 0 → nvrB a3 = false) := Lib.hid (fun h => nvrB_no h)
        have HT0 : Hid (twE a3 b3 ≠ 0 → impE a3 b3 = twE a3 b3) := Lib.hid (fun h => by unfold impE; rw [if_neg h])
        have HT1 : Hid ((parseE numF a3).2 ≠ 0 → nvrE a3 = (parseE numF a3).2) := Lib.hid (fun h => by unfold nvrE; rw [if_neg h])
        obtain ⟨iE, hiE⟩ : ∃ z, impE a3 b3 = z := ⟨_, rfl⟩
        obtain ⟨iB, hiB⟩ : ∃ z, impB a3 b3 = z := ⟨_, rfl⟩
        obtain ⟨sB, hsB⟩ : ∃ z, smB a3 b3 = z := ⟨_, rfl⟩
        obtain ⟨nE, hnE⟩ : ∃ z, nvrE a3 = z := ⟨_, rfl⟩
        obtain ⟨nB, hnB⟩ : ∃ z, nvrB a3 = z := ⟨_, rfl⟩
        obtain ⟨tE, htE⟩ : ∃ z, twE a3 b3 = z := ⟨_, rfl⟩
        obtain ⟨pA, hpA⟩ : ∃ z, (parseE numF a3).2 = z := ⟨_, rfl⟩
        obtain ⟨pB, hpB⟩ : ∃ z, (parseE numF b3).2 = z := ⟨_, rfl⟩
        rw [hiE, hiB] at HI
        rw [hiE, hsB] at HSM
        rw [hnE, hnB] at HNV
        rw [hpA] at HFA
        rw [hpB] at HFB
        rw [hpA, hpB, htE] at HER
        rw [htE, hiE] at HF2
        rw [hpA, hnE] at HF1
        rw [hiE, hiB] at HRI
        rw [hiE, hsB] at HRS
        rw [hnE, hnB] at HRN
        rw [hiE, hiB, hsB] at HN1
        rw [hnE, hnB] at HN2
        rw [htE, hiE] at HT0
        rw [hpA, hnE] at HT1
        have HB9 := Lib.hid hB9
        have HT9 : Hid (∀ W, Below w.heap.size w W → Tab W) := Lib.hid (fun W h => ht.below h)
        have HRU := Lib.hid (fun V => ruled_calls V)
        clear hiE hiB hsB hnE hnB htE hpA hpB ht hza3 hzb3 hB9
        go_wp2_with fail
        refine (HI.out _).mono ?_
        rintro e w1 ⟨rfl, hb1⟩
        have S1 := below_call T0 hb1 (Nat.le_refl _)
        clear hb1
        go_wp2_with fail
        refine (HSM.out _).mono ?_
        rintro e w2 ⟨rfl, hb2⟩
        have S2 := below_call S1 hb2 (Nat.le_refl _)
        clear hb2 S1
        go_wp2_with fail
        refine (HNV.out _).mono ?_
        rintro e w3 ⟨rfl, hb3⟩
        have S3 := below_call S2 hb3 (Nat.le_refl _)
        clear hb3 S2
        go_wp2_with fail
        refine (HFA.out _ (HT9.out _ (below_call HB9.out S3 (Nat.le_refl _)))).mono ?_
        rintro e w4 ⟨rfl, hb4⟩
        have S4 := below_call S3 hb4 (Nat.le_refl _)
        clear hb4 S3
        go_wp2_with fail
        refine (HFB.out _ (HT9.out _ (below_call HB9.out S4 (Nat.le_refl _)))).mono ?_
        rintro e w5 ⟨rfl, hb5⟩
        have S5 := below_call S4 hb5 (Nat.le_refl _)
        clear hb5 S4
        go_wp2_with fail
        refine (HER.out _).mono ?_
        rintro e w6 ⟨rfl, hb6⟩
        have S6 := below_call S5 hb6 (Nat.le_refl _)
        clear hb6 S5
        go_wp2_with fail
        refine (HFA.out _ (HT9.out _ (below_call HB9.out S6 (Nat.le_refl _)))).mono ?_
        rintro e w7 ⟨rfl, hb7⟩
        have S7 := below_call S6 hb7 (Nat.le_refl _)
        clear hb7 S6 HI HSM HNV HFA HFB HER
        go_upto_if 95 with (fail)
        have HS7 := Lib.hid S7
        clear S7 T0
        go_cut [14] (fun s14 V => ∃ w33, w33 = V ∧ s14 = .int .i64 iE ∧ Below w7.heap.size w7 V)
        case first =>
          by_cases h0 : tE = 0
          · have HC := Lib.hid (HF2.out h0 w7 (Nat.lt_of_lt_of_le HLT.out HS7.out.size))
            subst h0
            clear HF2 HF1 HRI HRS HRN HN1 HN2 HT0 HT1
            go_wp2_with fail
            refine HC.out.mono ?_
            rintro e w8 ⟨rfl, hb8⟩
            go_wp2_with fail
            go_meet
            exact ⟨_, rfl, rfl, hb8⟩
          · have hne : (tE == 0) = false := by rw [beq_eq_false_iff_ne]; exact h0
            have e1 := HT0.out h0
            clear HF2 HF1 HRI HRS HRN HN1 HN2 HT0 HT1
            go_wp2_with fail
            go_meet
            exact ⟨_, rfl, by rw [e1], Below.refl _ _⟩
        case rest =>
          obtain ⟨w8, rfl, rfl, hb8⟩ := hcut
          have HS8 := Lib.hid (below_call HS7.out hb8 (Nat.le_refl _))
          clear HF2 HT0 hb8
          go_upto_if 101 with (fail)
          go_cut [15] (fun s15 V => ∃ w33, w33 = V ∧ s15 = .int .i64 nE ∧ Below w8.heap.size w8 V)
          case first =>
            by_cases h0 : pA = 0
            · have HC := Lib.hid (HF1.out h0 w8 (Nat.lt_of_lt_of_le HLT.out HS8.out.size))
              subst h0
              clear HF1 HRI HRS HRN HN1 HN2 HT1
              go_wp2_with fail
              refine HC.out.mono ?_
              rintro e w9 ⟨rfl, hb9⟩
              go_wp2_with fail
              go_meet
              exact ⟨_, rfl, rfl, hb9⟩
            · have hne : (pA == 0) = false := by rw [beq_eq_false_iff_ne]; exact h0
              have e1 := HT1.out h0
              clear HF1 HRI HRS HRN HN1 HN2 HT1
              go_wp2_with fail
              go_meet
              exact ⟨_, rfl, by rw [e1], Below.refl _ _⟩
          case rest =>
            obtain ⟨w9, rfl, rfl, hb9⟩ := hcut
            have HS9 := Lib.hid (below_call HB9.out (below_call HS8.out hb9 (Nat.le_refl _)) (Nat.le_refl _))
            have n1 : (iE == iE) = true := by simp
            have n2 : (nE == nE) = true := by simp
            have n3 : (iB == iB) = true := by simp
            have n4 : (sB == sB) = true := by simp
            have n5 : (nB == nB) = true := by simp
            clear HF1 HT1 hb9
            by_cases h1 : iE = 0
            · have HI1 := Lib.hid (HRI.out h1)
              have HS1 := Lib.hid (HRS.out h1)
              have m1 : (iE == 0) = true := by rw [beq_iff_eq]; exact h1
              clear HRI HRS HN1
              by_cases h2 : nE = 0
              · have HN3 := Lib.hid (HRN.out h2)
                have m2 : (nE == 0) = true := by rw [beq_iff_eq]; exact h2
                clear HRN HN2 h1 h2
                go_wp2_with (first
                  | (go_at_call 48; refine (HI1.out _).mono ?_; rintro e u1 ⟨rfl, hu1⟩)
                  | (go_at_call 49; refine (HS1.out _).mono ?_; rintro e u2 ⟨rfl, hu2⟩)
                  | (go_at_call 50; refine (HN3.out _).mono ?_; rintro e u3 ⟨rfl, hu3⟩)
                  | (go_at_call 38; refine (HRU.out _).mono ?_; rintro e u4 ⟨rfl, hu4⟩))
                have hfin := below_call (below_call (below_call (below_call HS9.out hu1 (Nat.le_refl _)) hu2 (Nat.le_refl _)) hu3 (Nat.le_refl _)) hu4 (Nat.le_refl _)
                go_ret
                exact ⟨rfl, hfin⟩
              · have m2 : (nE == 0) = false := by rw [beq_eq_false_iff_ne]; exact h2
                obtain rfl := HN2.out h2
                clear HRN HN2 h1 h2
                go_wp2_with (first
                  | (go_at_call 48; refine (HI1.out _).mono ?_; rintro e u1 ⟨rfl, hu1⟩)
                  | (go_at_call 49; refine (HS1.out _).mono ?_; rintro e u2 ⟨rfl, hu2⟩)
                  | (go_at_call 38; refine (HRU.out _).mono ?_; rintro e u4 ⟨rfl, hu4⟩))
                have hfin := below_call (below_call (below_call HS9.out hu1 (Nat.le_refl _)) hu2 (Nat.le_refl _)) hu4 (Nat.le_refl _)
                go_ret
                exact ⟨rfl, hfin⟩
            · have m1 : (iE == 0) = false := by rw [beq_eq_false_iff_ne]; exact h1
              obtain ⟨rfl, rfl⟩ := HN1.out h1
              clear HRI HRS HN1
              by_cases h2 : nE = 0
              · have HN3 := Lib.hid (HRN.out h2)
                have m2 : (nE == 0) = true := by rw [beq_iff_eq]; exact h2
                clear HRN HN2 h1 h2
                go_wp2_with (first
                  | (go_at_call 50; refine (HN3.out _).mono ?_; rintro e u3 ⟨rfl, hu3⟩)
                  | (go_at_call 38; refine (HRU.out _).mono ?_; rintro e u4 ⟨rfl, hu4⟩))
                have hfin := below_call (below_call HS9.out hu3 (Nat.le_refl _)) hu4 (Nat.le_refl _)
                go_ret
                exact ⟨rfl, hfin⟩
              · have m2 : (nE == 0) = false := by rw [beq_eq_false_iff_ne]; exact h2
                obtain rfl := HN2.out h2
                clear HRN HN2 h1 h2
                go_wp2_with (first
                  | (go_at_call 38; refine (HRU.out _).mono ?_; rintro e u4 ⟨rfl, hu4⟩))
                have hfin := below_call HS9.out hu4 (Nat.le_refl _)
                go_ret
                exact ⟨rfl, hfin⟩
end Go.Proofs.YtfhdknppldobiaaGreatDoor
