/-
  TimesWritten: the law's own walk.
-/
import Derived.Test.YticbbehfphnbhaaDoorZStream
import Derived.Test.YticbbehfphnbhaaDoorZTim6
import Derived.Test.YticbbehfphnbhaaDoorZClk
import Derived.Deep.DeepCutAuto
namespace Go.Proofs.YticbbehfphnbhaaDoor
open Go Go.RowKit TxtP

def uniE (u : Int) : Int := if outB u 1 864000000 = true then 1 else 0
def dciE (d : Int) : Int := if outB d 0 3 = true then 1 else 0
def oneE (a u : Int) : Int := firstE [timE a, uniE u]
def twoE (a d : Int) : Int := firstE [timE a, dciE d]
def thrE (a b d : Int) : Int := firstE [timE a, timE b, dciE d]
theorem downR_eq (a u : Int) : downR a u = .tuple #[.int .i64 (if oneE a u = 0 then a - a % u else 0), .int .i64 (oneE a u)] := by
  unfold downR oneE timE uniE
  cases ha : outB a 0 864000000 <;> cases hu : outB u 1 864000000 <;> simp [firstE]
theorem wrtR_eq (a d : Int) : wrtR a d = .tuple #[.string (if twoE a d = 0 then ⟨(writeT a.toNat d.toNat).toArray⟩ else ⟨#[]⟩), .int .i64 (twoE a d)] := by
  unfold wrtR twoE timE dciE
  cases ha : outB a 0 864000000 <;> cases hd : outB d 0 3 <;> simp [firstE]
theorem dltR_eq (a b d : Int) : dltR a b d = .tuple #[.string (if thrE a b d = 0 then ⟨(dltT a b d).toArray⟩ else ⟨#[]⟩), .int .i64 (thrE a b d)] := by
  unfold dltR thrE timE dciE
  cases ha : outB a 0 864000000 <;> cases hb : outB b 0 864000000 <;> cases hd : outB d 0 3 <;> simp [firstE]
theorem oneE_zero {a u : Int} (h : oneE a u = 0) : (0 ≤ a ∧ a ≤ 864000000) ∧ 1 ≤ u ∧ u ≤ 864000000 := by
  unfold oneE timE uniE at h
  cases ha : outB a 0 864000000 <;> cases hu : outB u 1 864000000 <;> rw [ha, hu] at h <;> simp [firstE] at h
  exact ⟨outB_no ha, outB_no hu⟩
theorem twoE_zero {a d : Int} (h : twoE a d = 0) : (0 ≤ a ∧ a ≤ 864000000) ∧ 0 ≤ d ∧ d ≤ 3 := by
  unfold twoE timE dciE at h
  cases ha : outB a 0 864000000 <;> cases hu : outB d 0 3 <;> rw [ha, hu] at h <;> simp [firstE] at h
  exact ⟨outB_no ha, outB_no hu⟩
theorem thrE_zero {a b d : Int} (h : thrE a b d = 0) : (0 ≤ a ∧ a ≤ 864000000) ∧ (0 ≤ b ∧ b ≤ 864000000) ∧ 0 ≤ d ∧ d ≤ 3 := by
  unfold thrE timE dciE at h
  cases ha : outB a 0 864000000 <;> cases hb : outB b 0 864000000 <;> cases hu : outB d 0 3 <;> rw [ha, hb, hu] at h <;> simp [firstE] at h
  exact ⟨outB_no ha, outB_no hb, outB_no hu⟩

set_option maxRecDepth 100000 in
set_option maxHeartbeats 4000000 in
theorem tim_walk (a0 : Option Addr) (len0 cap0 : Nat) (z0 : List Int) (w : World) (w0 : InRow w a0 len0 cap0 z0) (ht : Tab w) (hx : MxL w) (hEr : ErrS w) :
    Calls Tryd.prog 3 #[.slice a0 len0 cap0] w fun e w' => e = .returned (.bool true) ∧ Below w.heap.size w w' := by
  have hs0 := strm_start w0 25
  have hb0 : Bx w.heap.size w.heap.size w (w.alloc (.cells #[.slice a0 len0 cap0, .int .i64 0] 25)) := (Bx.refl _ _ _).alloc (Nat.le_refl _) _
  clear w0
  go_enter Tryd.func3, Tryd.ntmps3
  go_wp2_with fail
  refine (duration_calls w.heap.size 0 _ hs0 (by omega)).mono ?_
  rintro e w1 ⟨a, rfl, a0, a1, hs1, hc1⟩
  have hS1 := (Sp.start hs0).call hs1 hc1
  clear hs0 hs1 hc1
  go_wp2_with fail
  refine (duration_calls w.heap.size 3 _ hS1.strm (by omega)).mono ?_
  rintro e w2 ⟨b, rfl, b0, b1, hs2, hc2⟩
  have hS2 := hS1.call hs2 hc2
  clear hS1 hs2 hc2
  go_wp2_with fail
  refine (sp_pickL hS2 #[.int .i64 1, .int .i64 10, .int .i64 1000, .int .i64 16, .int .i64 0, .int .i64 864000000, .int .i64 864000001] 3 7 0 864000001 (by decide) (by decide) rfl rfl (by omega)).mono ?_
  rintro e w3 ⟨_, rfl, ⟨u, rfl, u0, u1⟩, hS3⟩
  clear hS2
  go_wp2_with fail
  refine (sp_pickL hS3 #[.int .i64 0, .int .i64 1, .int .i64 2, .int .i64 3, .int .i64 (-1), .int .i64 4] 3 6 (-1) 4 (by decide) (by decide) rfl rfl (by omega)).mono ?_
  rintro e w4 ⟨_, rfl, ⟨d, rfl, d0, d1⟩, hS4⟩
  clear hS3
  have hb4 := hb0.call hS4.bx (Nat.le_refl _)
  have hB4 := hb4.below (Nat.le_refl _)
  go_wp2_with fail
  refine (timeText_calls w.heap.size _ w w4 hS4.strm (by omega) ht hB4 (Nat.le_refl _)).mono ?_
  rintro e w5 ⟨_, rfl, ⟨t, rfl, hts⟩, hS5⟩
  have hB5 := (hb4.call hS5.bx (Nat.le_refl _)).below (Nat.le_refl _)
  have hlt5 := hS5.lt
  clear hS4 hS5 hb4 hB4 hb0
  have HW5 : Hid (∀ W, Below w5.heap.size w5 W → Tab W ∧ MxL W ∧ ErrS W ∧ Below w.heap.size w W ∧ w.heap.size < W.heap.size) := by
    refine Lib.hid (fun W h => ?_)
    have hh := below_call hB5 h (Nat.le_refl _)
    exact ⟨ht.below hh, hx.below hh, hEr.below hh, hh, Nat.lt_of_lt_of_le hlt5 h.size⟩
  clear ht hx hEr hB5 hlt5
  obtain ⟨E1, hE1⟩ : ∃ E1, E1 = oneE a u := ⟨_, rfl⟩
  obtain ⟨E2, hE2⟩ : ∃ E2, E2 = twoE a d := ⟨_, rfl⟩
  obtain ⟨E3, hE3⟩ : ∃ E3, E3 = thrE a b d := ⟨_, rfl⟩
  obtain ⟨DN, hDN⟩ : ∃ DN : Int, DN = if oneE a u = 0 then a - a % u else 0 := ⟨_, rfl⟩
  obtain ⟨WS, hWS⟩ : ∃ WS : ByteArray, WS = if twoE a d = 0 then ⟨(writeT a.toNat d.toNat).toArray⟩ else ⟨#[]⟩ := ⟨_, rfl⟩
  obtain ⟨DS, hDS⟩ : ∃ DS : ByteArray, DS = if thrE a b d = 0 then ⟨(dltT a b d).toArray⟩ else ⟨#[]⟩ := ⟨_, rfl⟩
  obtain ⟨PT, hPT⟩ : ∃ PT, PT = parseT t.data.toList := ⟨_, rfl⟩
  obtain ⟨PD, hPD⟩ : ∃ PD, PD = parseD t.data.toList := ⟨_, rfl⟩
  obtain ⟨PE, hPE⟩ : ∃ PE, PE = parseE t.data.toList := ⟨_, rfl⟩
  have H1 : Hid (∀ W, Calls Tryd.prog 7 #[.int .i64 a, .int .i64 u] W (fun e w' => e = .returned (.tuple #[.int .i64 DN, .int .i64 E1]) ∧ W = w')) := by
    rw [hDN, hE1, ← downR_eq]
    exact Lib.hid (fun W => down_calls a u W)
  have H2 : Hid (∀ W, Tab W → Calls Tryd.prog 8 #[.int .i64 a, .int .i64 d] W (BRet (.tuple #[.string WS, .int .i64 E2]) W)) := by
    rw [hWS, hE2, ← wrtR_eq]
    exact Lib.hid (fun W h => timWrite_calls a d W h)
  have H3 : Hid (∀ W, MxL W → ErrS W → Calls Tryd.prog 9 #[.string t] W (BRet (.tuple #[.int .i64 PT, .int .i64 PD, .int .i64 PE]) W)) := by
    rw [hPT, hPD, hPE]
    exact Lib.hid (fun W h1 h2 => parse_calls t W (by omega) h1 h2)
  have H4 : Hid (∀ W, Tab W → Calls Tryd.prog 10 #[.int .i64 a, .int .i64 b, .int .i64 d] W (BRet (.tuple #[.string DS, .int .i64 E3]) W)) := by
    rw [hDS, hE3, ← dltR_eq]
    exact Lib.hid (fun W h => delta_calls a b d W h)
  have H5 : Hid (∀ W, MxL W → Tab W → Calls Tryd.prog 16 #[.string t] W (BRet (.tuple #[.int .i64 PT, .int .i64 PD, .int .i64 PE]) W)) := by
    rw [hPT, hPD, hPE]
    exact Lib.hid (fun W h1 h2 => parsedOf_calls t W (by omega) h1 h2)
  have F1 : Hid (E1 = 0 → DN = a - a % u ∧ (0 ≤ a ∧ a ≤ 864000000) ∧ 1 ≤ u ∧ u ≤ 864000000) := Lib.hid (fun h => ⟨by rw [hDN, if_pos (by rw [← hE1]; exact h)], oneE_zero (by rw [← hE1]; exact h)⟩)
  have F1n : Hid (E1 ≠ 0 → DN = 0) := Lib.hid (fun h => by rw [hDN, if_neg (by rw [← hE1]; exact h)])
  have F2 : Hid (E2 = 0 → ∀ W, Tab W → Calls Tryd.prog 14 #[.int .i64 a, .int .i64 d] W (BRet (.string WS) W)) := by
    refine Lib.hid (fun h W hW => ?_)
    obtain ⟨ha, hd⟩ := twoE_zero (a := a) (d := d) (by rw [← hE2]; exact h)
    obtain ⟨n, rfl⟩ := Int.eq_ofNat_of_zero_le ha.1
    obtain ⟨k, rfl⟩ := Int.eq_ofNat_of_zero_le hd.1
    rw [hWS, if_pos (by rw [← hE2]; exact h)]
    exact written_calls n k (by omega) (by omega) W hW
  have F2n : Hid (E2 ≠ 0 → WS = ⟨#[]⟩) := Lib.hid (fun h => by rw [hWS, if_neg (by rw [← hE2]; exact h)])
  have F3 : Hid (E3 = 0 → ∀ W, Tab W → Calls Tryd.prog 15 #[.int .i64 a, .int .i64 b, .int .i64 d] W (BRet (.string DS) W)) := by
    refine Lib.hid (fun h W hW => ?_)
    obtain ⟨ha, hb, hd⟩ := thrE_zero (a := a) (b := b) (d := d) (by rw [← hE3]; exact h)
    rw [hDS, if_pos (by rw [← hE3]; exact h)]
    exact deltaOf_calls a b d ha hb hd W hW
  have F3n : Hid (E3 ≠ 0 → DS = ⟨#[]⟩) := Lib.hid (fun h => by rw [hDS, if_neg (by rw [← hE3]; exact h)])
  obtain ⟨TA, hTA⟩ : ∃ TA, TA = timE a := ⟨_, rfl⟩
  obtain ⟨TB, hTB⟩ : ∃ TB, TB = timE b := ⟨_, rfl⟩
  obtain ⟨UE, hUE⟩ : ∃ UE, UE = uniE u := ⟨_, rfl⟩
  obtain ⟨ED, hED⟩ : ∃ ED, ED = dciE d := ⟨_, rfl⟩
  have G1 : Hid (∀ V : World, w.heap.size < V.heap.size → Calls Tryd.prog 12 #[.slice (some ⟨V.heap.size, 0, none⟩) 2 2] (V.alloc (.cells #[.int .i64 TA, .int .i64 UE] 29)) (fun e w' => e = .returned (.int .i64 E1) ∧ Below (V.alloc (.cells #[.int .i64 TA, .int .i64 UE] 29)).heap.size (V.alloc (.cells #[.int .i64 TA, .int .i64 UE] 29)) w')) := by
    rw [hE1, hTA, hUE]
    exact Lib.hid (fun V h => errsT_calls w.heap.size [timE a, uniE u] _ V h rfl (by simp))
  have G2 : Hid (∀ V : World, w.heap.size < V.heap.size → Calls Tryd.prog 12 #[.slice (some ⟨V.heap.size, 0, none⟩) 2 2] (V.alloc (.cells #[.int .i64 TA, .int .i64 ED] 29)) (fun e w' => e = .returned (.int .i64 E2) ∧ Below (V.alloc (.cells #[.int .i64 TA, .int .i64 ED] 29)).heap.size (V.alloc (.cells #[.int .i64 TA, .int .i64 ED] 29)) w')) := by
    rw [hE2, hTA, hED]
    exact Lib.hid (fun V h => errsT_calls w.heap.size [timE a, dciE d] _ V h rfl (by simp))
  have G3 : Hid (∀ V : World, w.heap.size < V.heap.size → Calls Tryd.prog 12 #[.slice (some ⟨V.heap.size, 0, none⟩) 3 3] (V.alloc (.cells #[.int .i64 TA, .int .i64 TB, .int .i64 ED] 29)) (fun e w' => e = .returned (.int .i64 E3) ∧ Below (V.alloc (.cells #[.int .i64 TA, .int .i64 TB, .int .i64 ED] 29)).heap.size (V.alloc (.cells #[.int .i64 TA, .int .i64 TB, .int .i64 ED] 29)) w')) := by
    rw [hE3, hTA, hTB, hED]
    exact Lib.hid (fun V h => errsT_calls w.heap.size [timE a, timE b, dciE d] _ V h rfl (by simp))
  have K1 : Hid (∀ W, Calls Tryd.prog 13 #[.int .i64 a] W (fun e w' => e = .returned (.int .i64 TA) ∧ W = w')) := by
    rw [hTA]; exact Lib.hid (fun W => timeFault_calls a W)
  have K2 : Hid (∀ W, Calls Tryd.prog 13 #[.int .i64 b] W (fun e w' => e = .returned (.int .i64 TB) ∧ W = w')) := by
    rw [hTB]; exact Lib.hid (fun W => timeFault_calls b W)
  have HUE := Lib.hid hUE
  have HED := Lib.hid hED
  clear hE1 hE2 hE3 hDN hWS hDS hPT hPD hPE hTA hTB hUE hED hts
  go_wp2_with fail
  refine (H1.out _).mono ?_
  rintro e w6 ⟨rfl, rfl⟩
  go_wp2_with fail
  refine (H2.out _ (HW5.out _ (Below.refl _ _)).1).mono ?_
  rintro e w7 ⟨rfl, hb7⟩
  go_wp2_with fail
  obtain ⟨_, q2, q3, _⟩ := HW5.out _ hb7
  refine (H3.out _ q2 q3).mono ?_
  rintro e w8 ⟨rfl, hb80⟩
  have hb8 := below_call hb7 hb80 (Nat.le_refl _)
  clear q2 q3 hb7 hb80
  go_wp2_with fail
  refine (H4.out _ (HW5.out _ hb8).1).mono ?_
  rintro e w9 ⟨rfl, hb90⟩
  have hb9 := below_call hb8 hb90 (Nat.le_refl _)
  clear hb8 hb90 H1 H2 H3 H4
  go_upto_region 7 with (fail)
  go_cut [18] (fun s18 V => s18 = .int .i64 ED ∧ V = w9)
  case first =>
    by_cases h0 : d < 0
    · have HD : Hid (ED = 1) := by rw [HED.out]; unfold dciE outB; rw [if_pos (by simp; omega)]; exact Lib.hid rfl
      clear HED
      go_wp2_with (first | (go_at_call 11; refine (whenT_calls _ _ _).mono ?_; rintro e w1 ⟨rfl, rfl⟩))
      go_meet
      exact ⟨by rw [HD.out], rfl⟩
    · by_cases h1 : 3 < d
      · have HD : Hid (ED = 1) := by rw [HED.out]; unfold dciE outB; rw [if_pos (by simp; omega)]; exact Lib.hid rfl
        clear HED
        go_wp2_with (first | (go_at_call 11; refine (whenT_calls _ _ _).mono ?_; rintro e w1 ⟨rfl, rfl⟩))
        go_meet
        exact ⟨by rw [HD.out], rfl⟩
      · have HD : Hid (ED = 0) := by rw [HED.out]; unfold dciE outB; rw [if_neg (by simp; omega)]; exact Lib.hid rfl
        clear HED
        go_wp2_with (first | (go_at_call 11; refine (whenT_calls _ _ _).mono ?_; rintro e w1 ⟨rfl, rfl⟩))
        go_meet
        exact ⟨by rw [HD.out], rfl⟩
  case rest =>
    obtain ⟨rfl, rfl⟩ := hcut
    clear HED
    go_upto_region 8 with (fail)
    have hlt9 := (HW5.out _ hb9).2.2.2.2
    have HB9 := Lib.hid hb9
    go_cut [19, 20, 21] (fun s19 s20 s21 V => s19 = .int .i64 E1 ∧ s20 = .int .i64 E2 ∧ s21 = .int .i64 E3 ∧ Below w5.heap.size w5 V)
    case first =>
      have HUX : Hid (∀ B : Bool, B = outB u 1 864000000 → ∀ W, Calls Tryd.prog 11 #[.bool B, .int .i64 1] W (fun e w' => e = .returned (.int .i64 UE) ∧ W = w')) := by
        refine Lib.hid (fun B hB W => ?_)
        rw [HUE.out]
        unfold uniE
        rw [← hB]
        exact whenT_calls B 1 W
      clear H5 F1 F1n F2 F2n F3 F3n HUE
      by_cases h0 : u < 1
      · have HU := Lib.hid (HUX.out true (by unfold outB; simp; omega))
        clear HUX
        go_wp2_with (first
          | (go_at_call 13; ((with_reducible refine (K1.out _).mono ?_)); rintro e wa ⟨rfl, rfl⟩)
          | (go_at_call 13; ((with_reducible refine (K2.out _).mono ?_)); rintro e wa ⟨rfl, rfl⟩)
          | (go_at_call 11; ((with_reducible refine (HU.out _).mono ?_)); rintro e wa ⟨rfl, rfl⟩)
          | (go_at_call 12; ((with_reducible refine (G1.out _ hlt9).mono ?_)); rintro e x1 ⟨rfl, hx1⟩; have hb10 := below_call (hb9.alloc hb9.size _) hx1 (Nat.le_refl _); have hl10 : w.heap.size < x1.heap.size := (HW5.out _ hb10).2.2.2.2)
          | (go_at_call 12; ((with_reducible refine (G2.out _ hl10).mono ?_)); rintro e x2 ⟨rfl, hx2⟩; have hb11 := below_call (hb10.alloc hb10.size _) hx2 (Nat.le_refl _); have hl11 : w.heap.size < x2.heap.size := (HW5.out _ hb11).2.2.2.2)
          | (go_at_call 12; ((with_reducible refine (G3.out _ hl11).mono ?_)); rintro e x3 ⟨rfl, hx3⟩; have hb12 := below_call (hb11.alloc hb11.size _) hx3 (Nat.le_refl _)))
        go_meet
        exact ⟨rfl, rfl, rfl, hb12⟩
      · by_cases h1 : 864000000 < u
        · have HU := Lib.hid (HUX.out true (by unfold outB; simp; omega))
          clear HUX
          go_wp2_with (first
            | (go_at_call 13; ((with_reducible refine (K1.out _).mono ?_)); rintro e wa ⟨rfl, rfl⟩)
            | (go_at_call 13; ((with_reducible refine (K2.out _).mono ?_)); rintro e wa ⟨rfl, rfl⟩)
            | (go_at_call 11; ((with_reducible refine (HU.out _).mono ?_)); rintro e wa ⟨rfl, rfl⟩)
            | (go_at_call 12; ((with_reducible refine (G1.out _ hlt9).mono ?_)); rintro e x1 ⟨rfl, hx1⟩; have hb10 := below_call (hb9.alloc hb9.size _) hx1 (Nat.le_refl _); have hl10 : w.heap.size < x1.heap.size := (HW5.out _ hb10).2.2.2.2)
            | (go_at_call 12; ((with_reducible refine (G2.out _ hl10).mono ?_)); rintro e x2 ⟨rfl, hx2⟩; have hb11 := below_call (hb10.alloc hb10.size _) hx2 (Nat.le_refl _); have hl11 : w.heap.size < x2.heap.size := (HW5.out _ hb11).2.2.2.2)
            | (go_at_call 12; ((with_reducible refine (G3.out _ hl11).mono ?_)); rintro e x3 ⟨rfl, hx3⟩; have hb12 := below_call (hb11.alloc hb11.size _) hx3 (Nat.le_refl _)))
          go_meet
          exact ⟨rfl, rfl, rfl, hb12⟩
        · have HU := Lib.hid (HUX.out (decide (u < 1) || decide (864000000 < u)) (by unfold outB; rw [decide_eq_false h0, decide_eq_false h1, decide_eq_false (by omega)]; rfl))
          clear HUX
          go_wp2_with (first
            | (go_at_call 13; ((with_reducible refine (K1.out _).mono ?_)); rintro e wa ⟨rfl, rfl⟩)
            | (go_at_call 13; ((with_reducible refine (K2.out _).mono ?_)); rintro e wa ⟨rfl, rfl⟩)
            | (go_at_call 11; ((with_reducible refine (HU.out _).mono ?_)); rintro e wa ⟨rfl, rfl⟩)
            | (go_at_call 12; ((with_reducible refine (G1.out _ hlt9).mono ?_)); rintro e x1 ⟨rfl, hx1⟩; have hb10 := below_call (hb9.alloc hb9.size _) hx1 (Nat.le_refl _); have hl10 : w.heap.size < x1.heap.size := (HW5.out _ hb10).2.2.2.2)
            | (go_at_call 12; ((with_reducible refine (G2.out _ hl10).mono ?_)); rintro e x2 ⟨rfl, hx2⟩; have hb11 := below_call (hb10.alloc hb10.size _) hx2 (Nat.le_refl _); have hl11 : w.heap.size < x2.heap.size := (HW5.out _ hb11).2.2.2.2)
            | (go_at_call 12; ((with_reducible refine (G3.out _ hl11).mono ?_)); rintro e x3 ⟨rfl, hx3⟩; have hb12 := below_call (hb11.alloc hb11.size _) hx3 (Nat.le_refl _)))
          go_meet
          exact ⟨rfl, rfl, rfl, hb12⟩
    case rest =>
      obtain ⟨rfl, rfl, rfl, hb12⟩ := hcut
      clear G1 G2 G3 K1 K2 HUE hb9 hlt9 HB9
      go_upto_if 99 with (fail)
      go_cut [22] (fun s22 V => s22 = .int .i64 DN ∧ Below w5.heap.size w5 V)
      case first =>
        by_cases h0 : E1 = 0
        · obtain ⟨f1, f2, f3⟩ := F1.out h0
          obtain ⟨r0, r1⟩ := rem_bd f2.1 f3.1
          have HDN := Lib.hid f1
          have hu0 : ¬ u = 0 := by omega
          have hw0 : IntKind.i64.wrap (a - a % u) = a - a % u := IntWalk.i64_in _ (by omega)
          obtain ⟨fa0, fa1⟩ := f2
          obtain ⟨fu0, fu1⟩ := f3
          clear f1 F1 F1n
          subst h0
          go_wp2_with fail
          go_meet
          exact ⟨by rw [HDN.out], hb12⟩
        · have f1 := F1n.out h0
          have hE0 : (E1 == 0) = false := by simpa using h0
          subst f1
          go_wp2_with fail
          go_meet
          exact ⟨rfl, hb12⟩
      case rest =>
        obtain ⟨rfl, hb13⟩ := hcut
        clear hb12 F1 F1n
        go_upto_if 106 with (fail)
        go_cut [23] (fun s23 V => s23 = .string WS ∧ Below w5.heap.size w5 V)
        case first =>
          by_cases h0 : E2 = 0
          · have HF := Lib.hid (F2.out h0 _ (HW5.out _ hb13).1)
            subst h0
            go_wp2_with fail
            refine HF.out.mono ?_
            rintro e x4 ⟨rfl, hx4⟩
            go_wp2_with fail
            go_meet
            exact ⟨rfl, below_call hb13 hx4 (Nat.le_refl _)⟩
          · have f1 := F2n.out h0
            have hE0 : (E2 == 0) = false := by simpa using h0
            subst f1
            go_wp2_with fail
            go_meet
            exact ⟨rfl, hb13⟩
        case rest =>
          obtain ⟨rfl, hb14⟩ := hcut
          clear hb13 F2 F2n
          go_upto_if 111 with (fail)
          go_cut [24] (fun s24 V => s24 = .string DS ∧ Below w5.heap.size w5 V)
          case first =>
            by_cases h0 : E3 = 0
            · have HF := Lib.hid (F3.out h0 _ (HW5.out _ hb14).1)
              subst h0
              go_wp2_with fail
              refine HF.out.mono ?_
              rintro e x4 ⟨rfl, hx4⟩
              go_wp2_with fail
              go_meet
              exact ⟨rfl, below_call hb14 hx4 (Nat.le_refl _)⟩
            · have f1 := F3n.out h0
              have hE0 : (E3 == 0) = false := by simpa using h0
              subst f1
              go_wp2_with fail
              go_meet
              exact ⟨rfl, hb14⟩
          case rest =>
            obtain ⟨rfl, hb15⟩ := hcut
            clear hb14 F3 F3n
            obtain ⟨q1, q2, _⟩ := HW5.out _ hb15
            go_wp2_with fail
            refine (H5.out _ q2 q1).mono ?_
            rintro e x5 ⟨rfl, hx5⟩
            have hb16 := below_call hb15 hx5 (Nat.le_refl _)
            obtain ⟨q3, _, _, q4, _⟩ := HW5.out _ hb16
            have HCK := Lib.hid (clocked_calls x5 q3)
            have he1 : (WS.toList == WS.toList) = true := by simp
            have he2 : (DS.toList == DS.toList) = true := by simp
            clear hb15 hx5 hb16 H5 HW5 q1 q2
            go_wp2_with fail
            refine HCK.out.mono ?_
            rintro e x6 ⟨rfl, hx6⟩
            have hfin := below_call q4 hx6 (Nat.le_refl _)
            go_wp2_with fail
            go_ret
            exact ⟨rfl, hfin⟩
end Go.Proofs.YticbbehfphnbhaaDoor
