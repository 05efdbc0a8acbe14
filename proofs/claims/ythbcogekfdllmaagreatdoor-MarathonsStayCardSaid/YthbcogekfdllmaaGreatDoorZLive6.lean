/-
  slices.ContainsFunc over slots with LiveFault's closure, and over places with those of known. (Printed by gen_live6.py.)
-/
import Derived.Test.YthbcogekfdllmaaGreatDoorZSlot5
import Derived.Deep.DeepCutAuto
import Derived.Deep.RegionHeld3
import Derived.Test.YthbcogekfdllmaaGreatDoorZLive8
import Derived.Test.YthbcogekfdllmaaGreatDoorZLive3
namespace Go.Proofs.YthbcogekfdllmaaGreatDoor
open Go Go.RowKit


set_option maxRecDepth 100000 in
theorem known1_calls (p : Plc) (w : World) : Calls Tryz.prog 138 #[.agg #[.string p.1, .int .i64 p.2.1, .int .i64 p.2.2.1, .int .i64 p.2.2.2]] w (BRet (.bool (decide (345686400000 < p.2.2.2))) w) := by
  have hb : Below w.heap.size w (w.alloc (.cells #[.string p.1, .int .i64 p.2.1, .int .i64 p.2.2.1, .int .i64 p.2.2.2] 71)) := (Below.refl _ _).alloc (Nat.le_refl _) _
  obtain ⟨z, hz⟩ : ∃ z, p.2.2.2 = z := ⟨_, rfl⟩
  rw [hz] at hb ⊢
  clear hz
  by_cases h : 345686400000 < z
  · go_enter Tryz.func138, Tryz.ntmps138
    go_wp2_with fail
    go_ret
    exact ⟨ret_bool (by simp [h]), hb⟩
  · go_enter Tryz.func138, Tryz.ntmps138
    go_wp2_with fail
    go_ret
    exact ⟨ret_bool (by simp [h]), hb⟩

set_option maxRecDepth 100000 in
theorem contK_calls (b : Nat) (A2 : Option Addr) (m c2 : Nat) (hs : List Plc) (p : Plc → Bool) (w : World) (hr2 : Rd w b 4 (.slice A2 m c2) m (hs.flatMap plcC))
    (HC : ∀ W x, Below w.heap.size w W → Calls Tryz.prog 138 #[.agg #[.string x.1, .int .i64 x.2.1, .int .i64 x.2.2.1, .int .i64 x.2.2.2]] W (BRet (.bool (p x)) W)) :
    Calls Tryz.prog 137 #[.slice A2 m c2, .func (.func 138) #[] #[]] w (BRet (.bool (hs.any p)) w) := by
  obtain ⟨hl, hnc, hcm, hcells⟩ := hr2.cells plcC_len (by omega)
  unfold maxLen at hcm
  have HL := Lib.hid hl
  have HCL := Lib.hid hcells
  have HCC := Lib.hid HC
  have HM := Lib.hid (ixOf_mem p hs)
  clear hcells hl hr2 HC
  go_enter Tryz.func137, Tryz.ntmps137
  go_wp2
  go_loopw [8] (fun i wr => ∃ k : Nat, k ≤ m ∧ i = .int .i64 k ∧ Hid (∀ i (_ : i < k) (hi' : i < hs.length), p hs[i] = false) ∧ Below w.heap.size w wr) (fun i _ => m - (intOf i).toNat)
  case atStart => exact ⟨0, Nat.zero_le _, rfl, (fun i hi => absurd hi (by omega)), Below.refl _ _⟩
  case round =>
    obtain ⟨k, hk, rfl, HF, hbr⟩ := hrel
    by_cases hlt : k < m
    · have hkr : k < hs.length := by rw [HL.out]; exact hlt
      obtain ⟨g, o, hA, _, hcs⟩ := HCL.out (by omega)
      subst hA
      have c0 := below_cell hbr (hcs k hkr 0 (by omega))
      have c1 := below_cell hbr (hcs k hkr 1 (by omega))
      have c2 := below_cell hbr (hcs k hkr 2 (by omega))
      have c3 := below_cell hbr (hcs k hkr 3 (by omega))
      obtain ⟨s, hs'⟩ : ∃ s, hs[k] = s := ⟨_, rfl⟩
      rw [hs'] at c0 c1 c2 c3
      replace c0 : wr.cell? ⟨g, o + k * 4, none⟩ = some (.string s.1) := c0
      replace c1 : wr.cell? ⟨g, o + k * 4 + 1, none⟩ = some (.int .i64 s.2.1) := c1
      replace c2 : wr.cell? ⟨g, o + k * 4 + 2, none⟩ = some (.int .i64 s.2.2.1) := c2
      replace c3 : wr.cell? ⟨g, o + k * 4 + 3, none⟩ = some (.int .i64 s.2.2.2) := c3
      have HK := Lib.hid (HCC.out wr s hbr)
      clear hcs
      cases hp : p s
      · rw [hp] at HK
        have HF2 : Hid (∀ i (_ : i < k + 1) (hi' : i < hs.length), p hs[i] = false) := by
          intro i hi hi'
          by_cases hik : i = k
          · subst hik; rw [hs']; exact hp
          · exact HF.out i (by omega) hi'
        clear hp hs'
        go_wp2_with (go_at_call 138; refine HK.out.mono ?_; rintro e w2 ⟨rfl, hb2⟩)
        have hb3 := below_call hbr hb2 (Nat.le_refl _)
        go_roundw
        case rel => exact ⟨k + 1, by omega, by go_num, HF2, hb3⟩
        case measure => simp [intOf]; omega
      · rw [hp] at HK
        have HR : Hid (ixOf p hs = k) := ixOf_at _ hs k hkr (fun i hi => HF.out i hi (by omega)) (by rw [hs']; exact hp)
        have HA : Hid (hs.any p = true) := by
          have := HM.out
          rw [HR.out] at this
          rw [← this]
          exact Lib.hid (decide_eq_true (by omega))
        clear hp hs'
        go_wp2_with (go_at_call 138; refine HK.out.mono ?_; rintro e w2 ⟨rfl, hb2⟩)
        have hb3 := below_call hbr hb2 (Nat.le_refl _)
        go_ret
        exact ⟨ret_bool HA.out.symm, hb3⟩
    · obtain rfl : k = m := by omega
      have HR : Hid (ixOf p hs = -1) := ixOf_no _ hs (fun i hi => HF.out i (by rw [← HL.out]; exact hi) hi)
      have HA : Hid (hs.any p = false) := by
        have := HM.out
        rw [HR.out] at this
        rw [← this]
        exact Lib.hid rfl
      go_wp2
      go_ret
      exact ⟨ret_bool HA.out.symm, hbr⟩
end Go.Proofs.YthbcogekfdllmaaGreatDoor
/-
  marathon.known, Expected and Late by contracts.
-/
namespace Go.Proofs.YthbcogekfdllmaaGreatDoor
open Go Go.RowKit

/-- what known answers -/
def knownE (xs : List Slt) (f : Int) (ys : List Lv) (at_ : Int) (P : List Plc) : Int :=
  if liveF wrongP xs ys = 0 then if (!momB at_ || !momB f) = true then 1 else if P.any (fun p => decide (345686400000 < p.2.2.2)) = true then 1 else 0 else liveF wrongP xs ys
def expP (xs : List Slt) (f : Int) (ys : List Lv) (at_ : Int) : List Plc := expF xs f at_ (evP (stateP (upTo ys at_))) (skipP (stateP (upTo ys at_)))
def knownL (xs : List Slt) (f : Int) (ys : List Lv) (at_ : Int) : List Plc := if knownE xs f ys at_ (expP xs f ys at_) = 0 then expP xs f ys at_ else []
/-- the events of what is right are within their bounds -/
theorem ev_ok {xs : List Slt} {ys : List Lv} {at_ : Int} (hys : ∀ y ∈ ys, LvOk y) (hI : Inv xs (upTo ys at_)) : ∀ e ∈ evP (stateP (upTo ys at_)), EvOk xs e := by
  intro e he
  rw [ev_eq hI] at he
  obtain ⟨y, hy, rfl⟩ := List.mem_map.1 he
  obtain ⟨hm, h1⟩ := List.mem_filter.1 hy
  have hm2 : y ∈ ys := (List.mem_filter.1 hm).1
  have hok := hys y hm2
  have hlo := hI.lo y.2.2
  refine ⟨hok.2.2, hI.fnd y hm, ?_, ?_⟩
  · have := hI.bd y hm
    simp only; omega
  · simp only
    split <;> omega
theorem kinds_ok {xs : List Slt} : ∀ (rest pre : List Lv), liveG wrongP xs pre rest = 0 → ∀ y ∈ rest, y.2.1 = 1 ∨ y.2.1 = 2 ∨ y.2.1 = 3
  | [], _, _ => by intro y hy; cases hy
  | z :: zs, pre, h => by
    rw [liveG] at h
    by_cases h0 : lvE xs pre z = 0
    · rw [if_pos h0] at h
      cases hw : wrongP pre z
      · rw [hw] at h
        simp only [Bool.false_eq_true, if_false] at h
        intro y hy
        rcases List.mem_cons.1 hy with rfl | hy
        · exact (lvE_zero h0).2.1
        · exact kinds_ok zs (pre ++ [z]) h y hy
      · rw [hw] at h; simp at h
    · rw [if_neg h0] at h; exact absurd h h0
theorem live_kinds {xs : List Slt} {ys : List Lv} (h : liveF wrongP xs ys = 0) : ∀ y ∈ ys, y.2.1 = 1 ∨ y.2.1 = 2 ∨ y.2.1 = 3 := by
  unfold liveF at h
  by_cases h0 : slotsF xs = 0
  · rw [if_pos h0] at h
    by_cases h4 : 400 < ys.length
    · rw [if_pos h4] at h; exact absurd h (by decide)
    · rw [if_neg h4] at h; exact kinds_ok ys [] h
  · rw [if_neg h0] at h; exact absurd h h0
def KnownS (l : List Plc) (er : Int) (w : World) (e : Ending) (w' : World) : Prop :=
  ∃ v, e = .returned (.tuple #[v, .int .i64 er]) ∧ w'.ownsRow w.heap.size 71 4 v l.length (l.flatMap plcC) ∧ Below w.heap.size w w'

set_option maxRecDepth 100000 in
set_option maxHeartbeats 2000000 in
theorem known_calls (b : Nat) (A A2 : Option Addr) (n c m c2 : Nat) (xs : List Slt) (ys : List Lv) (f at_ : Int) (w : World) (hr : Slts w b A n c xs) (hn : n ≤ 1000) (hr2 : Rd w b 3 (.slice A2 m c2) m (ys.flatMap lvC)) (hys : ∀ y ∈ ys, LvOk y)
    (hb : b < w.heap.size) :
    Calls Tryz.prog 76 #[.slice A n c, .int .i64 f, .slice A2 m c2, .int .i64 at_] w (KnownS (knownL xs f ys at_) (knownE xs f ys at_ (expP xs f ys at_)) w) := by
  obtain ⟨E, hE⟩ : ∃ E, liveF wrongP xs ys = E := ⟨_, rfl⟩
  obtain ⟨P, hP⟩ : ∃ P, expP xs f ys at_ = P := ⟨_, rfl⟩
  obtain ⟨MA, hMA⟩ : ∃ M, momB at_ = M := ⟨_, rfl⟩
  obtain ⟨MF, hMF⟩ : ∃ M, momB f = M := ⟨_, rfl⟩
  obtain ⟨BG, hBG⟩ : ∃ M, P.any (fun p => decide (345686400000 < p.2.2.2)) = M := ⟨_, rfl⟩
  have hkE : knownE xs f ys at_ P = if E = 0 then if (!MA || !MF) = true then 1 else if BG = true then 1 else 0 else E := by unfold knownE; rw [hE, hMA, hMF, hBG]
  have hkL : knownL xs f ys at_ = if knownE xs f ys at_ P = 0 then P else [] := by unfold knownL; rw [hP]
  have hml : ys.length = m := (hr2.cells lvC_len (by omega)).1
  have HCL := Lib.hid (checkLive_calls b A A2 n c m c2 xs ys w hr hr2 hys hb)
  rw [hE] at HCL
  have HMA : Hid (∀ W, Calls Tryz.prog 110 #[.int .i64 at_] W (fun e w' => e = .returned (.bool MA) ∧ W = w')) := by rw [← hMA]; exact fun W => moment_calls at_ W
  have HMF : Hid (∀ W, Calls Tryz.prog 110 #[.int .i64 f] W (fun e w' => e = .returned (.bool MF) ∧ W = w')) := by rw [← hMF]; exact fun W => moment_calls f W
  have HEX : Hid (E = 0 → MA = true → MF = true → ∀ W, Below w.heap.size w W → Calls Tryz.prog 136 #[.slice A n c, .int .i64 f, .slice A2 m c2, .int .i64 at_] W (PlcsS P W)) := fun h0 h1 h2 W hW => by
    have hf := (momB_iff f).1 (hMF.trans h2)
    have ha := (momB_iff at_).1 (hMA.trans h1)
    have hl0 : liveF wrongP xs ys = 0 := hE.trans h0
    have h4 := (live_ok hl0).2.2.1
    rw [← hP]
    exact expected_calls b A A2 n c m c2 xs ys f at_ W (hr.below hW) hn (hr2.below hW) hys (live_kinds hl0) (by omega) (ev_ok hys (live_upTo hl0 at_)) (by omega) (by omega) (by have := hW.size; omega)
  have HCK : Hid (∀ W A3 c3, Rd W b 4 (.slice A3 P.length c3) P.length (P.flatMap plcC) → Calls Tryz.prog 137 #[.slice A3 P.length c3, .func (.func 138) #[] #[]] W (BRet (.bool BG) W)) := fun W A3 c3 h => by
    have hc := contK_calls b A3 P.length c3 P (fun p => decide (345686400000 < p.2.2.2)) W h (fun W2 x _ => known1_calls x W2)
    rw [hBG] at hc
    exact hc
  rw [hP]
  rw [hkL]
  clear hE hP hMA hMF hBG hkL hr hr2 hys hml
  by_cases hz : E = 0
  · rw [if_pos hz] at hkE
    subst hz
    cases MA
    · have h0 : knownE xs f ys at_ P = 1 := hkE.trans (if_pos (by simp))
      rw [h0]
      simp only [Int.reduceEq, if_false]
      clear hkE h0 HEX
      go_enter Tryz.func76, Tryz.ntmps76
      go_wp2_with fail
      refine HCL.out.mono ?_
      rintro e w1 ⟨rfl, hb1⟩
      go_wp2_with fail
      refine (HMA.out _).mono ?_
      rintro e w2 ⟨rfl, rfl⟩
      go_wp2_with fail
      refine bodyPost_ret (v := .tuple #[.slice none 0 0, .int .i64 1]) (by simp [results, Tryz.results76, go_sem]) rfl ⟨_, rfl, World.ownsRow_nil _ _ _ _, hb1⟩
    · cases MF
      · have h0 : knownE xs f ys at_ P = 1 := hkE.trans (if_pos (by simp))
        rw [h0]
        simp only [Int.reduceEq, if_false]
        clear hkE h0 HEX
        go_enter Tryz.func76, Tryz.ntmps76
        go_wp2_with fail
        refine HCL.out.mono ?_
        rintro e w1 ⟨rfl, hb1⟩
        go_wp2_with fail
        refine (HMA.out _).mono ?_
        rintro e w2 ⟨rfl, rfl⟩
        go_wp2_with fail
        refine (HMF.out _).mono ?_
        rintro e w2 ⟨rfl, rfl⟩
        go_wp2_with fail
        refine bodyPost_ret (v := .tuple #[.slice none 0 0, .int .i64 1]) (by simp [results, Tryz.results76, go_sem]) rfl ⟨_, rfl, World.ownsRow_nil _ _ _ _, hb1⟩
      · have h1 : knownE xs f ys at_ P = if BG = true then 1 else 0 := hkE.trans (if_neg (by simp))
        have HE2 := Lib.hid (HEX.out rfl rfl rfl)
        clear hkE HEX
        cases BG
        · have h0 : knownE xs f ys at_ P = 0 := h1.trans (if_neg (by simp))
          rw [h0]
          simp only [if_true]
          clear h0 h1
          go_enter Tryz.func76, Tryz.ntmps76
          go_wp2_with fail
          refine HCL.out.mono ?_
          rintro e w1 ⟨rfl, hb1⟩
          go_wp2_with fail
          refine (HMA.out _).mono ?_
          rintro e w2 ⟨rfl, rfl⟩
          go_wp2_with fail
          refine (HMF.out _).mono ?_
          rintro e w2 ⟨rfl, rfl⟩
          go_wp2_with fail
          refine (HE2.out _ hb1).mono ?_
          rintro e w3 ⟨v, rfl, hown, hb3⟩
          have hb4 := below_call hb1 hb3 (Nat.le_refl _)
          have hrd := Rd.own (b := b) hown (by have := hb1.size; omega)
          obtain ⟨A3, c3, hv⟩ := own_form hown
          subst hv
          have hown2 := own_base hown hb1.size
          go_wp2_with fail
          refine (HCK.out _ _ _ hrd).mono ?_
          rintro e w4 ⟨rfl, hb5⟩
          have hb6 := below_call hb4 hb5 (Nat.le_refl _)
          have hown3 := own_below hown2 hb5
          go_wp2_with fail
          refine bodyPost_ret (v := .tuple #[.slice A3 P.length c3, .int .i64 0]) (by simp [results, Tryz.results76, go_sem]) rfl ⟨_, rfl, hown3, hb6⟩
        · have h0 : knownE xs f ys at_ P = 1 := h1.trans (if_pos rfl)
          rw [h0]
          simp only [Int.reduceEq, if_false]
          clear h0 h1
          go_enter Tryz.func76, Tryz.ntmps76
          go_wp2_with fail
          refine HCL.out.mono ?_
          rintro e w1 ⟨rfl, hb1⟩
          go_wp2_with fail
          refine (HMA.out _).mono ?_
          rintro e w2 ⟨rfl, rfl⟩
          go_wp2_with fail
          refine (HMF.out _).mono ?_
          rintro e w2 ⟨rfl, rfl⟩
          go_wp2_with fail
          refine (HE2.out _ hb1).mono ?_
          rintro e w3 ⟨v, rfl, hown, hb3⟩
          have hb4 := below_call hb1 hb3 (Nat.le_refl _)
          have hrd := Rd.own (b := b) hown (by have := hb1.size; omega)
          obtain ⟨A3, c3, hv⟩ := own_form hown
          subst hv
          clear hown
          go_wp2_with fail
          refine (HCK.out _ _ _ hrd).mono ?_
          rintro e w4 ⟨rfl, hb5⟩
          have hb6 := below_call hb4 hb5 (Nat.le_refl _)
          go_wp2_with fail
          refine bodyPost_ret (v := .tuple #[.slice none 0 0, .int .i64 1]) (by simp [results, Tryz.results76, go_sem]) rfl ⟨_, rfl, World.ownsRow_nil _ _ _ _, hb6⟩
  · have h0 : knownE xs f ys at_ P = E := hkE.trans (if_neg hz)
    rw [h0, if_neg hz]
    have hz' : (E != 0) = true := by rw [bne_iff_ne]; exact hz
    clear hkE h0 HEX
    go_enter Tryz.func76, Tryz.ntmps76
    go_wp2_with fail
    refine HCL.out.mono ?_
    rintro e w1 ⟨rfl, hb1⟩
    go_wp2_with fail
    refine bodyPost_ret (v := .tuple #[.slice none 0 0, .int .i64 E]) (by simp [results, Tryz.results76, go_sem]) rfl ⟨_, rfl, World.ownsRow_nil _ _ _ _, hb1⟩

set_option maxRecDepth 100000 in
theorem expectedX_calls (b : Nat) (A A2 : Option Addr) (n c m c2 : Nat) (xs : List Slt) (ys : List Lv) (f at_ : Int) (w : World) (hr : Slts w b A n c xs) (hn : n ≤ 1000) (hr2 : Rd w b 3 (.slice A2 m c2) m (ys.flatMap lvC)) (hys : ∀ y ∈ ys, LvOk y) (hb : b < w.heap.size) :
    Calls Tryz.prog 24 #[.slice A n c, .int .i64 f, .slice A2 m c2, .int .i64 at_] w (KnownS (knownL xs f ys at_) (knownE xs f ys at_ (expP xs f ys at_)) w) := by
  have HK := Lib.hid (known_calls b A A2 n c m c2 xs ys f at_ w hr hn hr2 hys hb)
  clear hr hr2 hys
  go_enter Tryz.func24, Tryz.ntmps24
  go_wp2_with fail
  refine HK.out.mono ?_
  rintro e w1 ⟨v, rfl, hown, hb1⟩
  go_wp2_with fail
  refine bodyPost_ret (v := .tuple #[v, .int .i64 _]) (by simp [results, Tryz.results24, go_sem]) rfl ⟨_, rfl, hown, hb1⟩
end Go.Proofs.YthbcogekfdllmaaGreatDoor
