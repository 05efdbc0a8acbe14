/-
  FrameOf and its reference by contracts: the least number of frames that take a time.
-/
import Derived.Test.YtedfieopmjpibaaGreatDoorZFrm2
namespace Go.Proofs.YtedfieopmjpibaaGreatDoor
open Go Go.RowKit

set_option maxRecDepth 100000 in
set_option maxHeartbeats 1000000 in
theorem frameOf_calls (t N D : Int) (w : World) (hN : I64 N) (hD : I64 D) :
    Calls Tryz.prog 9 #[.int .i64 t, .agg #[.int .i64 N, .int .i64 D]] w (FoE t N D w) := by
  obtain ⟨R, hR⟩ : ∃ z, rtF N D = z := ⟨_, rfl⟩
  obtain ⟨o, ho⟩ : ∃ z, outB t 0 864000000 = z := ⟨_, rfl⟩
  have HR := Lib.hid hR
  have HO := Lib.hid ho
  by_cases h0 : R = 0
  · subst h0
    have hok := rtF_ok hR
    have hok1 := hok.1
    have hok2 := hok.2.1
    have HFT : Hid (∀ m : Int, 0 ≤ m → m ≤ 10000000 → ∀ W, Calls Tryz.prog 26 #[.int .i64 m, .agg #[.int .i64 N, .int .i64 D]] W (BRet (.int .i64 (FrmP.ft m N D)) W)) := by
      intro m h1 h2 W
      have := frameTime_calls m N D W (by omega) h2 hok.1 hok.2.1 hok.2.2.1 hok.2.2.2
      rw [FrmP.ftt_eq h1 hok.1 hok.2.1] at this
      exact this
    cases o
    · have hn := of_outB ho
      obtain ⟨T, hT⟩ : ∃ z, FrmP.ft 10000000 N D = z := ⟨_, rfl⟩
      have HFX : Hid (∀ W, Calls Tryz.prog 26 #[.int .i64 10000000, .agg #[.int .i64 N, .int .i64 D]] W (BRet (.int .i64 T) W)) := by
        intro W
        have := HFT.out 10000000 (by omega) (by omega) W
        rw [hT] at this
        exact this
      by_cases hg : T < t
      · have hP : FoP t N D 0 1 := by unfold FoP; rw [if_pos hR, if_pos (.inr (by omega))]; exact ⟨rfl, rfl⟩
        clear hR ho hok hT hok1 hok2
        go_enter Tryz.func9, Tryz.ntmps9
        go_wp2_with fail
        refine (rateFault_calls N D _ hN hD).mono ?_
        rintro e w1 ⟨rfl, hb1⟩
        rw [HR.out]
        have hS1 := ((Bs.start w).add #[.int .i64 N, .int .i64 D] 27).below hb1
        obtain ⟨k0, k1, k2, k3⟩ := hS1.head.two
        have hz1 := hb1.size
        clear hb1
        have hO := HO.out
        go_wp2_with (first | (go_at_call 25; refine (out_calls _ _ _ _).mono ?_; rintro e w1 ⟨rfl, rfl⟩))
        refine (HFX.out _).mono ?_
        rintro e w2 ⟨rfl, hb2⟩
        have hS2 := hS1.below hb2
        clear hO
        go_wp2_with fail
        go_ret2
        exact ⟨0, 1, rfl, hP, hS2.1⟩
      · have hP : Hid (∀ v, FrmP.Least t N D v → FoP t N D v 0) := by
          intro v hv
          unfold FoP
          rw [if_pos hR, if_neg (by rw [ho, hT]; rintro (h | h)
                                    · cases h
                                    · exact hg h)]
          exact ⟨rfl, hv⟩
        have HST : Hid (((0 : Int) ≤ -1 → FrmP.ft (-1) N D < t) ∧ t ≤ FrmP.ft 10000000 N D) := Lib.hid ⟨fun h => by omega, by omega⟩
        clear hR ho hok hT
        go_enter Tryz.func9, Tryz.ntmps9
        go_wp2_with fail
        refine (rateFault_calls N D _ hN hD).mono ?_
        rintro e w1 ⟨rfl, hb1⟩
        rw [HR.out]
        have hS1 := ((Bs.start w).add #[.int .i64 N, .int .i64 D] 27).below hb1
        obtain ⟨k0, k1, k2, k3⟩ := hS1.head.two
        have hz1 := hb1.size
        clear hb1
        have hO := HO.out
        go_wp2_with (first | (go_at_call 25; refine (out_calls _ _ _ _).mono ?_; rintro e w1 ⟨rfl, rfl⟩))
        refine (HFX.out _).mono ?_
        rintro e w2 ⟨rfl, hb2⟩
        have hS2 := hS1.below hb2
        have hlz := hS1.1.size
        clear hO hS1 hb2 k0 k1 k2 k3
        go_wp2_with fail
        go_loopw [7, 8] (fun a c wr => ∃ lo hi : Int, a = .int .i64 lo ∧ c = .int .i64 hi ∧ -1 ≤ lo ∧ lo < hi ∧ hi ≤ 10000000 ∧ Hid ((0 ≤ lo → FrmP.ft lo N D < t) ∧ t ≤ FrmP.ft hi N D) ∧ Bs w wr [(w.heap.size, 27, #[.int .i64 N, .int .i64 D])]) (fun a c _ => (intOf c - intOf a).toNat)
        case atStart => exact ⟨-1, 10000000, rfl, rfl, by omega, by omega, by omega, HST, hS2⟩
        case round =>
          clear HST hS2
          obtain ⟨lo, hi, rfl, rfl, b1, b2, b3, HK, hS3⟩ := hrel
          obtain ⟨k0, k1, k2, k3⟩ := hS3.head.two
          by_cases htest : 1 < hi - lo
          · have hsum : 0 ≤ lo + hi := by omega
            obtain ⟨X, hX⟩ : ∃ z, FrmP.ft ((lo + hi) / 2) N D = z := ⟨_, rfl⟩
            have HX := HFT.out ((lo + hi) / 2) (by omega) (by omega)
            rw [hX] at HX
            have HXX := Lib.hid HX
            by_cases hge : t ≤ X
            · have HN1 := Lib.hid (p := (0 ≤ lo → FrmP.ft lo N D < t) ∧ t ≤ FrmP.ft ((lo + hi) / 2) N D) ⟨HK.out.1, by rw [hX]; exact hge⟩
              clear HX hX HK
              go_wp2_with fail
              refine (HXX.out _).mono ?_
              rintro e w3 ⟨rfl, hb3⟩
              have hS4 := hS3.below hb3
              clear k0 k1 k2 k3 hS3 hb3 HXX
              go_wp2_with fail
              go_roundw
              case rel => exact ⟨lo, (lo + hi) / 2, rfl, rfl, by omega, by omega, by omega, HN1, hS4⟩
              case measure => simp [intOf]; omega
            · have HN1 := Lib.hid (p := (0 ≤ (lo + hi) / 2 → FrmP.ft ((lo + hi) / 2) N D < t) ∧ t ≤ FrmP.ft hi N D) ⟨fun _ => by rw [hX]; omega, HK.out.2⟩
              clear HX hX HK
              go_wp2_with fail
              refine (HXX.out _).mono ?_
              rintro e w3 ⟨rfl, hb3⟩
              have hS4 := hS3.below hb3
              clear k0 k1 k2 k3 hS3 hb3 HXX
              go_wp2_with fail
              go_roundw
              case rel => exact ⟨(lo + hi) / 2, hi, rfl, rfl, by omega, by omega, by omega, HN1, hS4⟩
              case measure => simp [intOf]; omega
          · have hh : lo = hi - 1 := by omega
            have hle : FrmP.Least t N D hi := ⟨by omega, HK.out.2, fun h => by have := HK.out.1 (by omega); rw [hh] at this; exact this⟩
            have hQ := hP.out _ hle
            clear hh hle HK hP
            go_wp2_with fail
            go_ret2
            exact ⟨hi, 0, rfl, hQ, hS3.1⟩
    · have hP : FoP t N D 0 1 := by unfold FoP; rw [if_pos hR, if_pos (.inl ho)]; exact ⟨rfl, rfl⟩
      clear hR ho hok hok1 hok2
      go_enter Tryz.func9, Tryz.ntmps9
      go_wp2_with fail
      refine (rateFault_calls N D _ hN hD).mono ?_
      rintro e w1 ⟨rfl, hb1⟩
      rw [HR.out]
      have hS1 := ((Bs.start w).add #[.int .i64 N, .int .i64 D] 27).below hb1
      obtain ⟨k0, k1, k2, k3⟩ := hS1.head.two
      have hz1 := hb1.size
      clear hb1
      have hO := HO.out
      go_wp2_with (first | (go_at_call 25; refine (out_calls _ _ _ _).mono ?_; rintro e w1 ⟨rfl, rfl⟩))
      go_ret2
      exact ⟨0, 1, rfl, hP, hS1.1⟩
  · have hP : FoP t N D 0 R := by unfold FoP; rw [if_neg (by omega), hR]; exact ⟨rfl, rfl⟩
    have hrb : (R != 0) = true := by rw [bne_iff_ne]; exact h0
    clear hR ho h0
    go_enter Tryz.func9, Tryz.ntmps9
    go_wp2_with fail
    refine (rateFault_calls N D _ hN hD).mono ?_
    rintro e w1 ⟨rfl, hb1⟩
    rw [HR.out]
    have hS1 := ((Bs.start w).alloc (.cells #[.int .i64 N, .int .i64 D] 27)).below hb1
    go_wp2_with fail
    go_ret2
    exact ⟨0, R, rfl, hP, hS1.1⟩

end Go.Proofs.YtedfieopmjpibaaGreatDoor
