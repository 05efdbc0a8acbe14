/-
  splitref2.ExpectedFault by a contract: it answers as known does.
-/
import Derived.Test.YtlfhommeomchoaaZLive13
import Derived.Test.YtlfhommeomchoaaZLive7
namespace Go.Proofs.Ytlfhommeomchoaa
open Go Go.RowKit

theorem expQ_eq {xs : List Slt} {ys : List Lv} {f at_ : Int} (hI : Inv xs (upTo ys at_)) : expF xs f at_ (evQ (upTo ys at_)) (skipQ (upTo ys at_)) = expP xs f ys at_ := by
  unfold expP
  rw [ev_eq hI, skip_eq hI]
theorem placesQ_calls (b : Nat) (A A2 : Option Addr) (n c m c2 : Nat) (xs : List Slt) (ys : List Lv) (f at_ : Int) (w : World) (hr : Slts w b A n c xs) (hn : n ≤ 1000) (hr2 : Rd w b 3 (.slice A2 m c2) m (ys.flatMap lvC)) (hys : ∀ y ∈ ys, LvOk y) (hl : liveF wrongP xs ys = 0) (h1 : momB at_ = true) (h2 : momB f = true) (hb : b < w.heap.size) :
    Calls Try.prog 52 #[.slice A n c, .int .i64 f, .slice A2 m c2, .int .i64 at_] w (PlcsS (expP xs f ys at_) w) := by
  have hf := (momB_iff f).1 h2
  have ha := (momB_iff at_).1 h1
  have h4 := (live_ok hl).2.2.1
  have hml : ys.length = m := (hr2.cells lvC_len (by omega)).1
  have h := expectedPlaces_calls b A A2 n c m c2 xs ys f at_ w hr hn hr2 hys (by omega) (live_upTo hl at_) (by omega) (by omega) hb
  rw [expQ_eq (live_upTo hl at_)] at h
  exact h

set_option maxRecDepth 100000 in
set_option maxHeartbeats 2000000 in
theorem expectedFault_calls (b : Nat) (A A2 : Option Addr) (n c m c2 : Nat) (xs : List Slt) (ys : List Lv) (f at_ : Int) (w : World) (hr : Slts w b A n c xs) (hn : n ≤ 1000) (hr2 : Rd w b 3 (.slice A2 m c2) m (ys.flatMap lvC)) (hys : ∀ y ∈ ys, LvOk y) (hb : b < w.heap.size) :
    Calls Try.prog 51 #[.slice A n c, .int .i64 f, .slice A2 m c2, .int .i64 at_] w (BRet (.int .i64 (knownE xs f ys at_ (expP xs f ys at_))) w) := by
  obtain ⟨E, hE⟩ : ∃ E, liveF wrongP xs ys = E := ⟨_, rfl⟩
  obtain ⟨P, hP⟩ : ∃ P, expP xs f ys at_ = P := ⟨_, rfl⟩
  obtain ⟨MA, hMA⟩ : ∃ M, momB at_ = M := ⟨_, rfl⟩
  obtain ⟨MF, hMF⟩ : ∃ M, momB f = M := ⟨_, rfl⟩
  have hkE : knownE xs f ys at_ P = if E = 0 then if (!MA || !MF) = true then 1 else if P.any (fun p => decide (345686400000 < p.2.2.2)) = true then 1 else 0 else E := by unfold knownE; rw [hE, hMA, hMF]
  have HCL := Lib.hid (liveFault_calls b A A2 n c m c2 xs ys w hr hr2 hys hb)
  rw [← liveF_eq, hE] at HCL
  have HMA : Hid (∀ W, Calls Try.prog 96 #[.int .i64 at_] W (fun e w' => e = .returned (.bool MA) ∧ W = w')) := by rw [← hMA]; exact fun W => momentQ_calls at_ W
  have HMF : Hid (∀ W, Calls Try.prog 96 #[.int .i64 f] W (fun e w' => e = .returned (.bool MF) ∧ W = w')) := by rw [← hMF]; exact fun W => momentQ_calls f W
  have HEX : Hid (E = 0 → MA = true → MF = true → ∀ W, Below w.heap.size w W → Calls Try.prog 52 #[.slice A n c, .int .i64 f, .slice A2 m c2, .int .i64 at_] W (PlcsS P W)) := fun h0 h1 h2 W hW => by
    rw [← hP]
    exact placesQ_calls b A A2 n c m c2 xs ys f at_ W (hr.below hW) hn (hr2.below hW) hys (hE.trans h0) (hMA.trans h1) (hMF.trans h2) (by have := hW.size; omega)
  rw [hP]
  clear hE hP hMA hMF hr hr2 hys
  by_cases hz : E = 0
  · rw [if_pos hz] at hkE
    subst hz
    cases MA
    · have HK := Lib.hid (hkE.trans (if_pos (by simp)))
      clear hkE HEX
      go_enter Try.func51, Try.ntmps51
      go_wp2_with fail
      refine HCL.out.mono ?_
      rintro e w1 ⟨rfl, hb1⟩
      go_wp2_with fail
      refine (HMA.out _).mono ?_
      rintro e w2 ⟨rfl, rfl⟩
      go_wp2_with fail
      go_ret
      exact ⟨ret_int HK.out.symm, hb1⟩
    cases MF
    · have HK := Lib.hid (hkE.trans (if_pos (by simp)))
      clear hkE HEX
      go_enter Try.func51, Try.ntmps51
      go_wp2_with fail
      refine HCL.out.mono ?_
      rintro e w1 ⟨rfl, hb1⟩
      go_wp2_with fail
      refine (HMA.out _).mono ?_
      rintro e w2 ⟨rfl, rfl⟩
      go_wp2_with fail
      refine (HMF.out _).mono ?_
      rintro e w2 ⟨rfl, rfl⟩
      go_wp2_with fail
      go_ret
      exact ⟨ret_int HK.out.symm, hb1⟩
    have HK : Hid (knownE xs f ys at_ P = if P.any (fun p => decide (345686400000 < p.2.2.2)) = true then 1 else 0) := hkE.trans (if_neg (by simp))
    have HE2 := Lib.hid (HEX.out rfl rfl rfl)
    clear hkE HEX
    go_enter Try.func51, Try.ntmps51
    go_wp2_with fail
    refine HCL.out.mono ?_
    rintro e w1 ⟨rfl, hb1⟩
    go_wp2_with fail
    refine (HMA.out _).mono ?_
    rintro e w2 ⟨rfl, rfl⟩
    go_wp2_with fail
    refine (HMF.out _).mono ?_
    rintro e w2 ⟨rfl, rfl⟩
    go_wp2_with fail
    refine (HE2.out _ hb1).mono ?_
    rintro e w3 ⟨v, rfl, hown, hb3⟩
    have hb4 := below_call hb1 hb3 (Nat.le_refl _)
    have hrd := Rd.own (b := b) hown (by have := hb1.size; omega)
    obtain ⟨A3, c3, hv⟩ := own_form hown
    subst hv
    obtain ⟨_, hnc, hcm, hcells⟩ := hrd.cells plcC_len (by omega)
    unfold maxLen at hcm
    obtain ⟨L, hL⟩ : ∃ L, P.length = L := ⟨_, rfl⟩
    have HC := Lib.hid (fun h : 0 < L => hcells (by rw [hL]; exact h))
    rw [hL] at hnc ⊢
    have HL := Lib.hid hL
    clear hcells hown hrd hb1 hb3 hL HE2
    go_wp2_with fail
    go_loopw [32] (fun i wr => ∃ k : Nat, k ≤ L ∧ i = .int .i64 k ∧ Hid (∀ t (ht : t < P.length), t < k → ¬ 345686400000 < P[t].2.2.2) ∧ Below w.heap.size w wr ∧ Below w3.heap.size w3 wr) (fun i _ => L - (intOf i).toNat)
    case atStart => exact ⟨0, Nat.zero_le _, rfl, fun t _ h => absurd h (by omega), hb4, Below.refl _ _⟩
    case round =>
      clear hb4
      obtain ⟨k, hk, rfl, HF, hbr, hbr3⟩ := hrel
      by_cases hlt : k < L
      · have hkr : k < P.length := by rw [HL.out]; exact hlt
        obtain ⟨g, o, hA, _, hcs⟩ := HC.out (by omega)
        subst hA
        obtain ⟨y, hy⟩ : ∃ y, P[k] = y := ⟨_, rfl⟩
        have c0 := below_cell hbr3 (hcs k hkr 0 (by omega))
        have c1 := below_cell hbr3 (hcs k hkr 1 (by omega))
        have c2 := below_cell hbr3 (hcs k hkr 2 (by omega))
        have c3' := below_cell hbr3 (hcs k hkr 3 (by omega))
        rw [hy] at c0 c1 c2 c3'
        obtain ⟨y0, y1, y2, y3⟩ := y
        replace c0 : wr.cell? ⟨g, o + k * 4, none⟩ = some (.string y0) := c0
        replace c1 : wr.cell? ⟨g, o + k * 4 + 1, none⟩ = some (.int .i64 y1) := c1
        replace c2 : wr.cell? ⟨g, o + k * 4 + 2, none⟩ = some (.int .i64 y2) := c2
        replace c3' : wr.cell? ⟨g, o + k * 4 + 3, none⟩ = some (.int .i64 y3) := c3'
        have hba := hbr.alloc hbr.size (.cells #[.string y0, .int .i64 y1, .int .i64 y2, .int .i64 y3] 80)
        have hba3 := hbr3.alloc hbr3.size (.cells #[.string y0, .int .i64 y1, .int .i64 y2, .int .i64 y3] 80)
        by_cases hbig : 345686400000 < y3
        · have HR : Hid (knownE xs f ys at_ P = 1) := by
            rw [HK.out, if_pos]
            · exact Lib.hid rfl
            · rw [List.any_eq_true]
              exact ⟨P[k], List.getElem_mem hkr, by rw [hy]; exact decide_eq_true hbig⟩
          clear hcs hy
          go_wp2_with fail
          go_ret
          exact ⟨ret_int HR.out.symm, hba⟩
        · have HF2 : Hid (∀ t (ht : t < P.length), t < k + 1 → ¬ 345686400000 < P[t].2.2.2) := fun t ht h => by
            by_cases htk : t = k
            · subst htk; rw [hy]; exact hbig
            · exact HF.out t ht (by omega)
          clear hcs hy
          go_wp2_with fail
          go_roundw
          case rel => exact ⟨k + 1, by omega, by go_num, HF2, hba, hba3⟩
          case measure => simp [intOf]; omega
      · obtain rfl : k = L := by omega
        have HR : Hid (knownE xs f ys at_ P = 0) := by
          rw [HK.out, if_neg]
          · exact Lib.hid rfl
          · rw [List.any_eq_true]
            rintro ⟨z, hz, h⟩
            obtain ⟨t, ht, rfl⟩ := List.getElem_of_mem hz
            exact HF.out t ht (by rw [← HL.out]; exact ht) (by simpa using h)
        go_wp2_with fail
        go_ret
        exact ⟨ret_int HR.out.symm, hbr⟩
  · have HK := Lib.hid (hkE.trans (if_neg hz))
    have hz' : (E != 0) = true := by rw [bne_iff_ne]; exact hz
    clear hkE HEX
    go_enter Try.func51, Try.ntmps51
    go_wp2_with fail
    refine HCL.out.mono ?_
    rintro e w1 ⟨rfl, hb1⟩
    go_wp2_with fail
    go_ret
    exact ⟨ret_int HK.out.symm, hb1⟩
end Go.Proofs.Ytlfhommeomchoaa
