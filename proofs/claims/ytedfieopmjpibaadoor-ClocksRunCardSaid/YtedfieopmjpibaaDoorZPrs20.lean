/-
  CutsAt, FinalOf and ClockOf of the reference by contracts: they answer as the program. (Printed by gen_prs20.py.)
-/
import Derived.Test.YtedfieopmjpibaaDoorZPrs19
import Derived.Deep.DeepCutAuto
import Derived.Test.YtedfieopmjpibaaDoorZPrs14
import Derived.Test.YtedfieopmjpibaaDoorZRat1
import Derived.Test.YtedfieopmjpibaaDoorZStream
import Derived.Test.YtedfieopmjpibaaDoorZPrs13
import Derived.Test.YtedfieopmjpibaaDoorZCutEq
import Derived.Test.YtedfieopmjpibaaDoorZClk
namespace Go.Proofs.YtedfieopmjpibaaDoor
open Go Go.RowKit
attribute [local go_sem ↓] Go.wp_at_zero Go.wp_at_succ

theorem att_at0 {w W : World} {base g : Nat} {a : Option Att} {A1 A2 : Option Addr} {c1 c2 : Nat} {l : List Rsc} (h : Sq w W (attL base a g A1 c1 A2 c2 l)) : ∀ x, a = some x → AttAt W W.heap.size g x A1 c1 A2 c2 := by
  intro x hx
  subst hx
  have hE1 : W.ownsRow base 61 2 (.slice A1 x.ended.length c1) x.ended.length (x.ended.flatMap pzC) := h.nth 1 rfl
  have hE2 : W.ownsRow base 61 2 (.slice A2 x.breaks.length c2) x.breaks.length (x.breaks.flatMap pzC) := h.nth 2 rfl
  exact ⟨h.nth 0 rfl, Rd.of_own hE1 (fun k hk => by have := (hE1.lt k hk).2; omega), Rd.of_own hE2 (fun k hk => by have := (hE2.lt k hk).2; omega)⟩
/-- what played gives at a right moment -/
theorem played_at (b n : Nat) (A : Option Addr) (m c : Nat) (l : List Pz) (u : Int) (w : World) (hr : Rd w b 2 (.slice A m c) m (l.flatMap pzC)) (h0 : segF n l = 0) (hu : 0 ≤ u) :
    Calls Tryd.prog 34 #[.int .i64 n, .slice A m c, .int .i64 u] w (fun e w' => ∃ (a : Option Att) (g : Nat) (A1 : Option Addr) (c1 : Nat) (A2 : Option Addr) (c2 : Nat) (v : Value) (bg dn : Int), e = .returned (.tuple #[attV a g, v, .int .i64 bg, .int .i64 dn]) ∧
      CRel n (atK n l u) a ∧ LK n a ∧ (∀ x, a = some x → AtB x) ∧ (∀ x, a = some x → AttAt w' w'.heap.size g x A1 c1 A2 c2) ∧ Below w.heap.size w w') := by
  have hl := (hr.cells pzC_len (by omega)).1
  obtain ⟨hq, hok, hlm⟩ := segF_ok h0
  refine (played_calls b n A m c l u w hr (by omega) hok (by omega)).mono ?_
  rintro e w1 ⟨K, g, A1, c1, A2, c2, A3, c3, hst, rfl, hS⟩
  exact ⟨_, g, A1, c1, A2, c2, _, _, _, rfl, at_rel (by omega) hok hu hst, pla_lk (by omega) hok K hst.le, pla_atb n hok hlm K hst.le, att_at0 hS, hS.below⟩

set_option maxRecDepth 100000 in
set_option maxHeartbeats 1000000 in
theorem cutsAt_calls (b n : Nat) (A : Option Addr) (m c : Nat) (l : List Pz) (u : Int) (w : World) (hr : Rd w b 2 (.slice A m c) m (l.flatMap pzC)) (h : atE n l u = 0) (hb : b < w.heap.size) :
    Calls Tryd.prog 24 #[.int .i64 n, .slice A m c, .int .i64 u] w (CtsS (ctL (atK n l u).cuts) (longE (atK n l u).cuts) w) := by
  obtain ⟨h0, hm, hu0, hu1⟩ := atE_ok h
  have HP := Lib.hid (played_at b n A m c l u w hr h0 hu0)
  obtain ⟨k, hk⟩ : ∃ k, atK n l u = k := ⟨_, rfl⟩
  rw [hk] at HP ⊢
  clear hr h hk h0 hm
  go_enter Tryd.func24, Tryd.ntmps24
  go_wp2_with fail
  refine HP.out.mono ?_
  rintro e w1 ⟨a, g, A1, c1, A2, c2, v, bg, dn, rfl, hrel, _, hab, hat, hb1⟩
  have HC := Lib.hid (cutsOf_calls _ g a A1 c1 A2 c2 w1 hat hab)
  rw [cuts_alike hrel] at HC
  clear hrel hab hat HP
  obtain ⟨QV, hQV⟩ : ∃ QV, attV a g = QV := ⟨_, rfl⟩
  rw [hQV] at HC ⊢
  clear hQV
  go_wp2_with fail
  refine HC.out.mono ?_
  rintro e w2 ⟨v2, rfl, ho2, hb2⟩
  obtain ⟨A3, c3, hv⟩ := own_form ho2
  subst hv
  have hlt : b < w1.heap.size := by have := hb1.size; omega
  have HLF := Lib.hid (longFault_calls b A3 _ c3 k.cuts w2 (Rd.own ho2 hlt))
  have hf2 := below_call hb1 hb2 (Nat.le_refl _)
  have hO := own_base ho2 hb1.size
  obtain ⟨B, hB⟩ : ∃ B, longB k.cuts = B := ⟨_, rfl⟩
  have HE : Hid (longE k.cuts = if B = true then 12 else 0) := by unfold longE; rw [hB]; exact Lib.hid rfl
  have HL : Hid (ctL k.cuts = if B = true then [] else k.cuts) := by unfold ctL; rw [hB]; exact Lib.hid rfl
  rw [HE.out] at HLF
  clear ho2 HC hb2 hb1 hB
  go_wp2_with fail
  refine HLF.out.mono ?_
  rintro e w3 ⟨rfl, hb3⟩
  have hO3 := own_below hO hb3
  have hf3 := below_call hf2 hb3 (Nat.le_refl _)
  cases B
  · simp only [Bool.false_eq_true, if_false] at HE HL ⊢
    go_wp2_with fail
    refine bodyPost_ret (v := .tuple #[.slice A3 k.cuts.length c3, .int .i64 0]) (by simp [results, Tryd.results24, go_sem]) rfl ?_
    rw [HE.out, HL.out]
    exact ⟨_, rfl, hO3, hf3⟩
  · simp only [if_true] at HE HL ⊢
    go_wp2_with fail
    refine bodyPost_ret (v := .tuple #[.slice none 0 0, .int .i64 12]) (by simp [results, Tryd.results24, go_sem]) rfl ?_
    rw [HE.out, HL.out]
    exact ⟨_, rfl, World.ownsRow_nil _ _ _ _, hf3⟩
end Go.Proofs.YtedfieopmjpibaaDoor
/-
  FinalOf of the reference by a contract. (Printed by gen_prs21.py.)
-/
namespace Go.Proofs.YtedfieopmjpibaaDoor
open Go Go.RowKit
attribute [local go_sem ↓] Go.wp_at_zero Go.wp_at_succ

theorem own_last {w : World} {base b g q c : Nat} {l : List Cut} (h : w.ownsRow base 52 3 (.slice (some ⟨g, 0, none⟩) (q + 1) c) (q + 1) (l.flatMap cutC)) (hq : q < l.length) (hb : b < base) (hc : q + 1 ≤ c ∧ c ≤ maxLen) :
    Rd w b 3 (.slice (some ⟨g, q * 3, none⟩) 1 (c - q)) 1 ([l[q]].flatMap cutC) := by
  refine ⟨_, _, rfl, by omega, by omega, rfl, (fun e => by cases e), fun _ => ⟨g, q * 3, rfl, ?_, fun j u hu => ?_⟩⟩
  · have := (h.lt g rfl).1; omega
  · have hj : j < 3 := by
      have := (List.getElem?_eq_some_iff.1 hu).1
      simpa [cutC] using this
    have hx := own_cell cutC 3 cutC_len h q j hq (by omega) hj
    rw [hx, ← hu]
    simp [cutC]
set_option maxRecDepth 100000 in
set_option maxHeartbeats 2000000 in
theorem finalOf_calls (b n : Nat) (A : Option Addr) (m c : Nat) (l : List Pz) (w : World) (hr : Rd w b 2 (.slice A m c) m (l.flatMap pzC)) (h0 : segF n l = 0) (hb : b < w.heap.size) :
    Calls Tryd.prog 25 #[.int .i64 n, .slice A m c] w (BRet (.tuple #[cutV (fnV (endP_ n l).1), .bool (fnB (endP_ n l).1), .int .i64 (fnE (endP_ n l).1)]) w) := by
  have B0 := Blk.new w 52 #[.int .i64 0, .int .i64 0, .bool false]
  have hB0 := (Below.refl w.heap.size w).alloc (Nat.le_refl _) (.cells #[.int .i64 0, .int .i64 0, .bool false] 52)
  obtain ⟨hq, hok, hlm⟩ := segF_ok h0
  have HP := Lib.hid (played_at b n A m c l 345686400000 _ (hr.below hB0) h0 (by omega))
  obtain ⟨k, hk⟩ : ∃ k, (endP_ n l).1 = k := ⟨_, rfl⟩
  have hph : (atK n l 345686400000).phase = k.phase := by rw [← hk]; rfl
  have hen : (atK n l 345686400000).end_ = k.end_ := by rw [← hk]; rfl
  have hct : (atK n l 345686400000).cuts = k.cuts := by rw [← hk]; rfl
  obtain ⟨k2, hk2⟩ : ∃ k2, atK n l 345686400000 = k2 := ⟨_, rfl⟩
  rw [hk2] at HP hph hen hct
  rw [hk]
  have HPH := Lib.hid hph
  have HEN := Lib.hid hen
  have HCT := Lib.hid hct
  obtain ⟨q, rfl⟩ : ∃ q, n = q + 1 := ⟨n - 1, by omega⟩
  have hq100 : q + 1 ≤ 100 := by omega
  clear hr h0 hok hq hk hk2 hph hen hct
  go_enter Tryd.func25, Tryd.ntmps25
  go_wp2_with fail
  refine HP.out.mono ?_
  rintro e w1 ⟨a, g, A1, c1, A2, c2, v, bg, dn, rfl, hrel, _, hab, hat, hb1⟩
  have HF := Lib.hid (phase_calls _ g (q + 1) a A1 c1 A2 c2 w1 hat)
  rw [← hrel.phase, HPH.out] at HF
  have HC := Lib.hid (fun W (hW : Below w1.heap.size w1 W) => cutsOf_calls _ g a A1 c1 A2 c2 W (fun x hx => (hat x hx).below hW) hab)
  rw [cuts_alike hrel, HCT.out] at HC
  have B1 := B0.below hb1
  have hB1 := below_call hB0 hb1 (Nat.le_refl _)
  have HLAST : Hid (k.phase = 3 → k.cuts.length = q + 1 ∧ k.cuts.getLast? = some k.end_) := by
    intro h3
    rw [← HCT.out, ← HEN.out]
    have hp := hrel.phase
    rw [HPH.out, h3] at hp
    cases a with
    | none => simp [phaseQ] at hp
    | some x =>
      obtain ⟨_, _, hcu, _, _, _, _, h8⟩ := hrel.some_ x rfl
      have hle : x.ended.length = q + 1 := by
        rcases phase_cases (q + 1) x with ⟨_, k2⟩ | ⟨k1, _⟩ | ⟨k1, _⟩ <;> omega
      exact ⟨by rw [hcu, List.length_map, hle], (h8 hle).2⟩
  obtain ⟨QV, hQV⟩ : ∃ QV, attV a g = QV := ⟨_, rfl⟩
  rw [hQV] at HF HC ⊢
  have hz1 : b < w1.heap.size := by have := hb1.size; simp at this; omega
  clear hrel hab hat HP hQV B0 hB0 hb1
  obtain ⟨ph, hph⟩ : ∃ ph, k.phase = ph := ⟨_, rfl⟩
  rw [hph] at HF HLAST
  by_cases h3 : ph = 3
  · subst h3
    obtain ⟨hcl, hla⟩ := HLAST.out (by first | rfl | trivial)
    have hql : q < k.cuts.length := by omega
    have hlq : k.cuts[q] = k.end_ := by
      rw [List.getLast?_eq_getElem?, hcl, Nat.add_sub_cancel, List.getElem?_eq_getElem hql] at hla
      injection hla
    have HLQ := Lib.hid hlq
    have HCLN := Lib.hid hcl
    go_wp2_with fail
    refine HF.out.mono ?_
    rintro e w2 ⟨rfl, hb2⟩
    go_wp2_with fail
    refine (HC.out _ hb2).mono ?_
    rintro e w3 ⟨v3, rfl, ho3, hb3⟩
    have hb23 := below_call hb2 hb3 (Nat.le_refl _)
    have B3 := B1.below hb23
    have hB3 := below_call hB1 hb23 (Nat.le_refl _)
    have hz2 : b < w2.heap.size := by have := hb2.size; omega
    rw [HCLN.out] at ho3
    obtain ⟨g9, c9, hv9, hg9, _⟩ := ho3.form (by omega)
    subst hv9
    have hc9 := own_cap ho3
    have hcq : ¬ c9 = q := by omega
    have hRL := own_last ho3 hql hz2 hc9
    rw [HLQ.out] at hRL
    have HLF := Lib.hid (longFault_calls b _ 1 _ [k.end_] w3 hRL)
    have x0 := own_cell cutC 3 cutC_len ho3 q 0 hql (by omega) (by omega)
    have x1 := own_cell cutC 3 cutC_len ho3 q 1 hql (by omega) (by omega)
    have x2 := own_cell cutC 3 cutC_len ho3 q 2 hql (by omega) (by omega)
    rw [HLQ.out] at x0 x1 x2
    obtain ⟨en, hen⟩ : ∃ en, k.end_ = en := ⟨_, rfl⟩
    rw [hen] at x0 x1 x2 HLF
    obtain ⟨e1, e2, e3⟩ := en
    replace x0 : w3.cell? ⟨g9, q * 3, none⟩ = some (.int .i64 e1) := x0
    replace x1 : w3.cell? ⟨g9, q * 3 + 1, none⟩ = some (.int .i64 e2) := x1
    replace x2 : w3.cell? ⟨g9, q * 3 + 2, none⟩ = some (.bool e3) := x2
    have hgw : w.heap.size < g9 := by have h1 := B1.lt; have h2 := hb2.size; omega
    have hLB : longE [((e1, e2, e3) : Cut)] = if 864000000 < e1 then 12 else 0 := by
      unfold longE longB
      simp
    rw [hLB] at HLF
    clear ho3 hRL HC hb2 hb3 hb23 B1 hB1 hla hlq hcl
    by_cases hbg : 864000000 < e1
    · have HB := Lib.hid (show fnB k = false by unfold fnB; rw [hph, hen]; simp [hbg])
      have HE : Hid (fnE k = 12) := by unfold fnE; rw [hph, hen, if_pos rfl, if_pos hbg]; exact Lib.hid rfl
      have HV : Hid (cutV (fnV k) = .agg #[.int .i64 0, .int .i64 0, .bool false]) := by unfold fnV; rw [HB.out, if_neg (by decide)]; exact Lib.hid rfl
      rw [if_pos hbg] at HLF
      clear hph hen hLB
      go_wp2_with fail
      refine HLF.out.mono ?_
      rintro e w4 ⟨rfl, hb4⟩
      obtain ⟨b0, b1, b2, f0, f1, f2⟩ := (B3.below hb4).three
      have hB4 := below_call hB3 hb4 (Nat.le_refl _)
      go_wp2_with fail
      refine bodyPost_ret (v := .tuple #[.agg #[.int .i64 0, .int .i64 0, .bool false], .bool false, .int .i64 12]) (by simp [results, Tryd.results25, go_sem, b0, b1, b2]) rfl ⟨by rw [HV.out, HB.out, HE.out], ?_⟩
      exact ((hB4.setCell (p := ⟨w.heap.size, 0, none⟩) (Nat.le_refl _) (.int .i64 0)).setCell (p := ⟨w.heap.size, 1, none⟩) (Nat.le_refl _) (.int .i64 0)).setCell (p := ⟨w.heap.size, 2, none⟩) (Nat.le_refl _) (.bool false)
    · have HB := Lib.hid (show fnB k = true by unfold fnB; rw [hph, hen]; simp; omega)
      have HE : Hid (fnE k = 0) := by unfold fnE; rw [hph, hen, if_pos rfl, if_neg hbg]; exact Lib.hid rfl
      have HV : Hid (cutV (fnV k) = .agg #[.int .i64 e1, .int .i64 e2, .bool e3]) := by unfold fnV; rw [HB.out, if_pos rfl, hen]; exact Lib.hid rfl
      rw [if_neg hbg] at HLF
      clear hph hen hLB
      go_wp2_with fail
      refine HLF.out.mono ?_
      rintro e w4 ⟨rfl, hb4⟩
      obtain ⟨b0, b1, b2, f0, f1, f2⟩ := (B3.below hb4).three
      have hB4 := below_call hB3 hb4 (Nat.le_refl _)
      have y0 := below_cell hb4 x0
      have y1 := below_cell hb4 x1
      have y2 := below_cell hb4 x2
      clear x0 x1 x2
      go_wp2_with fail
      refine bodyPost_ret (v := .tuple #[.agg #[.int .i64 e1, .int .i64 e2, .bool e3], .bool true, .int .i64 0]) (by simp [results, Tryd.results25, go_sem, b0, b1, b2]) rfl ⟨by rw [HV.out, HB.out, HE.out], ?_⟩
      exact ((hB4.setCell (p := ⟨w.heap.size, 0, none⟩) (Nat.le_refl _) (.int .i64 e1)).setCell (p := ⟨w.heap.size, 1, none⟩) (Nat.le_refl _) (.int .i64 e2)).setCell (p := ⟨w.heap.size, 2, none⟩) (Nat.le_refl _) (.bool e3)
  · have e3 : (ph != 3) = true := by simpa using h3
    have HB := Lib.hid (show fnB k = false by unfold fnB; rw [hph]; simp [h3])
    have HE : Hid (fnE k = 0) := by unfold fnE; rw [hph, if_neg h3]; exact Lib.hid rfl
    have HV : Hid (cutV (fnV k) = .agg #[.int .i64 0, .int .i64 0, .bool false]) := by unfold fnV; rw [HB.out, if_neg (by decide)]; exact Lib.hid rfl
    clear hph h3
    go_wp2_with fail
    refine HF.out.mono ?_
    rintro e w2 ⟨rfl, hb2⟩
    obtain ⟨b0, b1, b2, f0, f1, f2⟩ := (B1.below hb2).three
    have hB4 := below_call hB1 hb2 (Nat.le_refl _)
    go_wp2_with fail
    refine bodyPost_ret (v := .tuple #[.agg #[.int .i64 0, .int .i64 0, .bool false], .bool false, .int .i64 0]) (by simp [results, Tryd.results25, go_sem, b0, b1, b2]) rfl ⟨by rw [HV.out, HB.out, HE.out], ?_⟩
    exact ((hB4.setCell (p := ⟨w.heap.size, 0, none⟩) (Nat.le_refl _) (.int .i64 0)).setCell (p := ⟨w.heap.size, 1, none⟩) (Nat.le_refl _) (.int .i64 0)).setCell (p := ⟨w.heap.size, 2, none⟩) (Nat.le_refl _) (.bool false)
end Go.Proofs.YtedfieopmjpibaaDoor
/-
  ClockOf of the reference by a contract. (Printed by gen_prs22.py.)
-/
namespace Go.Proofs.YtedfieopmjpibaaDoor
open Go Go.RowKit
attribute [local go_sem ↓] Go.wp_at_zero Go.wp_at_succ

theorem Blk.five {W : World} {g : Nat} {t : TypeId} {a b c d e : Value} (h : Blk W g t #[a, b, c, d, e]) : (W.cell? ⟨g, 0, none⟩ = some a ∧ W.cell? ⟨g, 1, none⟩ = some b ∧ W.cell? ⟨g, 2, none⟩ = some c ∧ W.cell? ⟨g, 3, none⟩ = some d ∧ W.cell? ⟨g, 4, none⟩ = some e) ∧
    W.frozen? ⟨g, 0, none⟩ = false ∧ W.frozen? ⟨g, 1, none⟩ = false ∧ W.frozen? ⟨g, 2, none⟩ = false ∧ W.frozen? ⟨g, 3, none⟩ = false ∧ W.frozen? ⟨g, 4, none⟩ = false :=
  ⟨⟨h.cell 0, h.cell 1, h.cell 2, h.cell 3, h.cell 4⟩, h.frozen 0, h.frozen 1, h.frozen 2, h.frozen 3, h.frozen 4⟩
theorem ck_none {n : Nat} {c : Clk} (h : CRel n c none) : ckE c = 0 ∧ ckV c = .agg #[.int .i64 0, .int .i64 0, .int .i64 0, .int .i64 0, .bool false] := by
  obtain ⟨h1, h2, h3, h4⟩ := h.none_ rfl
  have hp : c.phase = 0 := h.phase
  have ht : timesP c = (0, 0) := by unfold timesP; rw [hp, if_neg (by decide), h2, h3]
  have hE : ckE c = 0 := by unfold ckE; rw [ht]; rfl
  refine ⟨hE, ?_⟩
  unfold ckV
  rw [if_pos hE, ht, hp, h1, h4]
  rfl
set_option maxRecDepth 100000 in
set_option maxHeartbeats 4000000 in
theorem clockOf_calls (b n : Nat) (A : Option Addr) (m c : Nat) (l : List Pz) (u : Int) (w : World) (hr : Rd w b 2 (.slice A m c) m (l.flatMap pzC)) (h : atE n l u = 0) :
    Calls Tryd.prog 23 #[.int .i64 n, .slice A m c, .int .i64 u] w (BRet (.tuple #[ckV (atK n l u), .int .i64 (ckE (atK n l u))]) w) := by
  have B0 := Blk.new w 45 #[.int .i64 0, .int .i64 0, .int .i64 0, .int .i64 0, .bool false]
  have hB0 := (Below.refl w.heap.size w).alloc (Nat.le_refl _) (.cells #[.int .i64 0, .int .i64 0, .int .i64 0, .int .i64 0, .bool false] 45)
  obtain ⟨h0, hm, hu0, hu1⟩ := atE_ok h
  have hq := (segF_ok h0).1
  have HP := Lib.hid (played_at b n A m c l u _ (hr.below hB0) h0 hu0)
  have hat := atK_at n l u
  obtain ⟨k, hk⟩ : ∃ k, atK n l u = k := ⟨_, rfl⟩
  rw [hk] at HP hat ⊢
  have HAT := Lib.hid hat
  clear hr h hk h0 hm hat
  go_enter Tryd.func23, Tryd.ntmps23
  go_wp2_with fail
  refine HP.out.mono ?_
  rintro e w1 ⟨a, g, A1, c1, A2, c2, v, bg, dn, rfl, hrel, hlk, hab, hatt, hb1⟩
  have HF := Lib.hid (phase_calls _ g n a A1 c1 A2 c2 w1 hatt)
  have B1 := B0.below hb1
  have hB1 := below_call hB0 hb1 (Nat.le_refl _)
  clear HP B0 hB0 hb1
  cases a with
  | none =>
    obtain ⟨e1, e2⟩ := ck_none hrel
    have HE1 := Lib.hid e1
    have HE2 := Lib.hid e2
    have HF : Hid (Calls Tryd.prog 44 #[.pointer none, .int .i64 n] w1 (BRet (.int .i64 0) w1)) := HF
    clear hrel hlk hab hatt e1 e2
    dsimp only [attV]
    go_wp2_with fail
    refine HF.out.mono ?_
    rintro e w2 ⟨rfl, hb2⟩
    have hB2 := below_call hB1 hb2 (Nat.le_refl _)
    have hB3 := hB2.alloc hB2.size (.cells #[.int .i64 0, .int .i64 0, .int .i64 0, .int .i64 0, .bool false] 45)
    have B3 := (B1.below hb2).alloc (.cells #[.int .i64 0, .int .i64 0, .int .i64 0, .int .i64 0, .bool false] 45)
    obtain ⟨⟨c0, c1, c2, c3, c4⟩, z0, z1, z2, z3, z4⟩ := (Blk.new w2 45 #[.int .i64 0, .int .i64 0, .int .i64 0, .int .i64 0, .bool false]).five
    obtain ⟨⟨b0, b1, b2, b3, b4⟩, f0, f1, f2, f3, f4⟩ := B3.five
    clear B1 hB1 hB2 B3
    obtain ⟨W3, hW3⟩ : ∃ W3, W3 = w2.alloc (.cells #[.int .i64 0, .int .i64 0, .int .i64 0, .int .i64 0, .bool false] 45) := ⟨_, rfl⟩
    go_upto_region 4 with (fail)
    rw [← hW3] at hB3 b0 b1 b2 b3 b4 f0 f1 f2 f3 f4 c0 c1 c2 c3 c4 z0 z1 z2 z3 z4 ⊢
    clear hW3
    go_wp2_with fail
    refine bodyPost_ret (v := .tuple #[.agg #[.int .i64 0, .int .i64 0, .int .i64 0, .int .i64 0, .bool false], .int .i64 0]) (by simp [results, Tryd.results23, go_sem, b0, b1, b2, b3, b4]) rfl ⟨by rw [HE1.out, HE2.out], ?_⟩
    exact (((((hB3.setCell (p := ⟨w.heap.size, 0, none⟩) (Nat.le_refl _) (.int .i64 0)).setCell (p := ⟨w.heap.size, 1, none⟩) (Nat.le_refl _) (.int .i64 0)).setCell (p := ⟨w.heap.size, 2, none⟩) (Nat.le_refl _) (.int .i64 0)).setCell (p := ⟨w.heap.size, 3, none⟩) (Nat.le_refl _) (.int .i64 0)).setCell (p := ⟨w.heap.size, 4, none⟩) (Nat.le_refl _) (.bool false))
  | some x =>
    have hph := hrel.phase
    have hta := times_alike (by omega) hrel hlk
    rw [HAT.out] at hta
    have hld := (hrel.some_ x rfl).1
    have hcl : k.cuts.length = x.ended.length := by rw [(hrel.some_ x rfl).2.2.1]; simp
    have hx := hatt x rfl
    have hB := hab x rfl
    obtain ⟨ph, hP⟩ : ∃ ph, phaseQ n (some x) = ph := ⟨_, rfl⟩
    have hp3 : (ph = 1 ∨ ph = 2 ∨ ph = 3) ∧ (ph = 3 → x.ended.length = n) ∧ (ph ≠ 3 → x.ended.length ≠ n) := by
      rcases phase_cases n x with ⟨h, h'⟩ | ⟨h, h', _⟩ | ⟨h, h', _⟩
      · exact ⟨by omega, fun _ => h', fun e => absurd (hP.symm.trans h) e⟩
      · exact ⟨by omega, fun e => by omega, fun _ => h'⟩
      · exact ⟨by omega, fun e => by omega, fun _ => h'⟩
    obtain ⟨hp3, hpd, hpn⟩ := hp3
    rw [hP] at HF hph
    have HF : Hid (Calls Tryd.prog 44 #[.pointer (some ⟨g, 0, none⟩), .int .i64 n] w1 (BRet (.int .i64 ph) w1)) := HF
    have HX := Lib.hid (fun W (hW : Below w1.heap.size w1 W) => hx.below hW)
    have HTI := Lib.hid (fun W t (hW : Below w1.heap.size w1 W) (ht : 0 ≤ t ∧ t ≤ 345686400000) => times_calls _ g x A1 c1 A2 c2 t W (hx.below hW) hB.start ht hB.breaks hB.many)
    have HLO := Lib.hid (fun W (hW : Below w1.heap.size w1 W) => loads_calls _ g x A1 c1 A2 c2 W (hx.below hW))
    have HEB := Lib.hid hB.ended
    have hm2 := hB.many2
    have hgl : g < w1.heap.size := hx.blk.lt
    have hgw : w.heap.size < w1.heap.size := B1.lt
    obtain ⟨T, hT⟩ : ∃ T, timesP k = T := ⟨_, rfl⟩
    rw [hT] at hta
    obtain ⟨R, G⟩ := T
    have HTA := Lib.hid hta
    have HE : Hid (ckE k = if 864000000 < R then 12 else 0) := by unfold ckE; rw [hT]; exact Lib.hid rfl
    have HV : Hid (ckE k = 0 → ckV k = .agg #[.int .i64 ph, .int .i64 R, .int .i64 G, .int .i64 x.ended.length, .bool (loadsQ x.breaks)]) := by
      intro h
      unfold ckV
      rw [if_pos h, hT, hph, hcl, hld]
    have HV2 : Hid (ckE k = 12 → ckV k = .agg #[.int .i64 0, .int .i64 0, .int .i64 0, .int .i64 0, .bool false]) := by
      intro h
      unfold ckV
      rw [if_neg (by omega)]
    have e0 : (ph == 0) = false := by simp; omega
    clear hrel hlk hab hatt hx hB hT hta hph hld hcl hP
    dsimp only [attV]
    go_wp2_with fail
    refine HF.out.mono ?_
    rintro e w2 ⟨rfl, hb2⟩
    have hS2 := (Sq.start w2).add #[.int .i64 ph, .int .i64 0, .int .i64 0, .int .i64 0, .bool false] 45
    have hw2 : Below w1.heap.size w1 (w2.alloc (.cells #[.int .i64 ph, .int .i64 0, .int .i64 0, .int .i64 0, .bool false] 45)) := hb2.alloc hb2.size _
    have hz2 := hb2.size
    obtain ⟨⟨y0, y1, y2, y3, y4⟩, z0, z1, z2, z3, z4⟩ := (show Blk _ w2.heap.size 45 #[.int .i64 ph, .int .i64 0, .int .i64 0, .int .i64 0, .bool false] from hS2.head).five
    have g1 := (HX.out _ hw2).cells.2.1
    obtain ⟨W3, hW3⟩ : ∃ W3, W3 = w2.alloc (.cells #[.int .i64 ph, .int .i64 0, .int .i64 0, .int .i64 0, .bool false] 45) := ⟨_, rfl⟩
    go_upto_region 5 with (fail)
    rw [← hW3] at hS2 hw2 y0 y1 y2 y3 y4 z0 z1 z2 z3 z4 g1 ⊢
    clear hW3
    have hd3 : Below w1.heap.size w1 W3.drew := below_drewN hw2 1
    have hdr : Below W3.heap.size W3 W3.drew := below_drewN (Below.refl _ _) 1
    have HLD := Lib.hid (HLO.out _ hd3)
    have HCL : Hid (∀ W, Below W3.heap.size W3 W → W.cell? ⟨g, 1, none⟩ = some (.slice A1 x.ended.length c1) ∧ W.cell? ⟨w2.heap.size, 3, none⟩ = some (.int .i64 0) ∧ W.cell? ⟨w2.heap.size, 4, none⟩ = some (.bool false) ∧ W.frozen? ⟨w2.heap.size, 3, none⟩ = false ∧ W.frozen? ⟨w2.heap.size, 4, none⟩ = false) := by
      intro W hW
      have hk : Blk W3 w2.heap.size 45 #[.int .i64 ph, .int .i64 0, .int .i64 0, .int .i64 0, .bool false] := hS2.head
      exact ⟨below_cell hW g1, below_cell hW y3, below_cell hW y4, (hk.below hW).frozen 3, (hk.below hW).frozen 4⟩
    go_region_law (first
      | (go_simp; go_at_call 45; (go_loud (refine HLD.out.mono ?_; rintro e w4 ⟨rfl, hb4⟩); have hb5 := below_call hdr hb4 (Nat.le_refl _); obtain ⟨g1', y3', y4', z3', z4'⟩ := HCL.out _ hb5)))
    all_goals
      have hS4 := ((hS2.drew.callB hb4).set_ 3 (.int .i64 x.ended.length)).set_ 4 (.bool (loadsQ x.breaks))
      have hw4 := ((below_call hd3 hb4 (Nat.le_refl _)).setCell (p := ⟨w2.heap.size, 3, none⟩) hz2 (.int .i64 x.ended.length)).setCell (p := ⟨w2.heap.size, 4, none⟩) hz2 (.bool (loadsQ x.breaks))
      obtain ⟨W5, hW5⟩ : ∃ W5, W5 = (w4.setCell ⟨w2.heap.size, 3, none⟩ (.int .i64 x.ended.length)).setCell ⟨w2.heap.size, 4, none⟩ (.bool (loadsQ x.breaks)) := ⟨_, rfl⟩
      rw [← hW5] at hS4 hw4 ⊢
      clear hW5 HLD HLO hd3 hdr HCL g1' y3' y4' z3' z4' y0 y1 y2 y3 y4 z0 z1 z2 z3 z4 g1 hS2 hw2 hb4 hb5
      have K4 : Blk W5 w2.heap.size 45 #[.int .i64 ph, .int .i64 0, .int .i64 0, .int .i64 x.ended.length, .bool (loadsQ x.breaks)] := hS4.head
      have y0 := K4.cell 0
      have g1 := (HX.out _ hw4).cells.2.1
      have hgw2 : w.heap.size < w2.heap.size := by omega
      by_cases h3 : ph = 3
      · have e3 : (ph == 3) = true := by simp [h3]
        have hlen := hpd h3
        obtain ⟨_, _, _, hcl⟩ := (HX.out _ hw4).ended.cells pzC_len (by omega)
        obtain ⟨gq, o, hA, _, hcs⟩ := hcl (by omega)
        obtain ⟨M, hM⟩ : ∃ M, x.ended.length = M + 1 := ⟨x.ended.length - 1, by omega⟩
        have hMl : M < x.ended.length := by omega
        obtain ⟨z, hz⟩ : ∃ z, x.ended[M] = z := ⟨_, rfl⟩
        have p0 := hcs M hMl 0 (by omega)
        rw [hz] at p0
        replace p0 : W5.cell? ⟨gq, o + M * 2, none⟩ = some (.int .i64 z.1) := p0
        have hzb := HEB.out z (hz ▸ List.getElem_mem hMl)
        have hla : lastAt n x u = z.1 := by
          unfold lastAt
          rw [if_pos hlen, List.getLastD_eq_getLast?, List.getLast?_eq_getElem?, show x.ended.length - 1 = M by omega, List.getElem?_eq_getElem hMl, hz]
          rfl
        have HT3 : ∀ N, Calls Tryd.prog 46 #[.pointer (some ⟨g, 0, none⟩), .int .i64 z.1] (W5.drewN N) (BRet (.tuple #[.int .i64 R, .int .i64 G]) (W5.drewN N)) := by
          intro N
          have h := HTI.out (W5.drewN N) z.1 (below_drewN hw4 N) hzb
          rw [← hla, ← HTA.out] at h
          rw [hla] at h
          exact h
        have HT3 := Lib.hid HT3
        have eM : (x.ended.length : Int) - 1 = (M : Int) := by omega
        have i0 : (0 : Int) ≤ (M : Int) := by omega
        have i1 : (M : Int) < (x.ended.length : Int) := by omega
        subst hA
        clear hcs hcl hz hM hMl hla HTI hlen h3 hzb
        go_wp2_with fail
        go_quiet (fail)
        go_wp2_with fail
        refine (HT3.out _).mono ?_
        rintro e w6 ⟨rfl, hb6⟩
        have hS6 := (hS4.drewN _).callB hb6
        have hw6 := below_call (below_drewN hw4 _) hb6 (Nat.le_refl _)
        have K6 : Blk w6 w2.heap.size 45 #[.int .i64 ph, .int .i64 0, .int .i64 0, .int .i64 x.ended.length, .bool (loadsQ x.breaks)] := hS6.head
        obtain ⟨⟨k0, k1, k2, k3, k4⟩, q0, q1, q2, q3, q4⟩ := K6.five
        obtain ⟨⟨b0, b1, b2, b3, b4⟩, f0, f1, f2, f3, f4⟩ := (B1.below hw6).five
        have hw7 := ((below_call hB1 hw6 (Nat.le_refl _)).setCell (p := ⟨w2.heap.size, 1, none⟩) (Nat.le_of_lt hgw2) (.int .i64 R)).setCell (p := ⟨w2.heap.size, 2, none⟩) (Nat.le_of_lt hgw2) (.int .i64 G)
        clear y0 K4 hS4 hS6 K6 HT3 hw4
        by_cases hR : 864000000 < R
        · have hE : ckE k = 12 := by rw [HE.out, if_pos hR]
          have HE2 := Lib.hid hE
          have HV3 := Lib.hid (HV2.out hE)
          clear hE
          go_wp2_with fail
          refine bodyPost_ret (v := .tuple #[.agg #[.int .i64 0, .int .i64 0, .int .i64 0, .int .i64 0, .bool false], .int .i64 12]) (by simp [results, Tryd.results23, go_sem, b0, b1, b2, b3, b4]) rfl ⟨by rw [HE2.out, HV3.out], ?_⟩
          exact (((((hw7.setCell (p := ⟨w.heap.size, 0, none⟩) (Nat.le_refl _) (.int .i64 0)).setCell (p := ⟨w.heap.size, 1, none⟩) (Nat.le_refl _) (.int .i64 0)).setCell (p := ⟨w.heap.size, 2, none⟩) (Nat.le_refl _) (.int .i64 0)).setCell (p := ⟨w.heap.size, 3, none⟩) (Nat.le_refl _) (.int .i64 0)).setCell (p := ⟨w.heap.size, 4, none⟩) (Nat.le_refl _) (.bool false))
        · have hE : ckE k = 0 := by rw [HE.out, if_neg hR]
          have HE2 := Lib.hid hE
          have HV3 := Lib.hid (HV.out hE)
          clear hE
          go_wp2_with fail
          refine bodyPost_ret (v := .tuple #[.agg #[.int .i64 ph, .int .i64 R, .int .i64 G, .int .i64 x.ended.length, .bool (loadsQ x.breaks)], .int .i64 0]) (by simp [results, Tryd.results23, go_sem, b0, b1, b2, b3, b4]) rfl ⟨by rw [HE2.out, HV3.out], ?_⟩
          exact (((((hw7.setCell (p := ⟨w.heap.size, 0, none⟩) (Nat.le_refl _) (.int .i64 ph)).setCell (p := ⟨w.heap.size, 1, none⟩) (Nat.le_refl _) (.int .i64 R)).setCell (p := ⟨w.heap.size, 2, none⟩) (Nat.le_refl _) (.int .i64 G)).setCell (p := ⟨w.heap.size, 3, none⟩) (Nat.le_refl _) (.int .i64 x.ended.length)).setCell (p := ⟨w.heap.size, 4, none⟩) (Nat.le_refl _) (.bool (loadsQ x.breaks)))
      · have e3 : (ph == 3) = false := by simp [h3]
        have hla : lastAt n x u = u := by unfold lastAt; rw [if_neg (hpn h3)]
        have HT3 := HTI.out W5 u hw4 ⟨hu0, by omega⟩
        rw [← hla, ← HTA.out] at HT3
        rw [hla] at HT3
        have HT3 := Lib.hid HT3
        clear hla HTI h3
        go_wp2_with fail
        refine HT3.out.mono ?_
        rintro e w6 ⟨rfl, hb6⟩
        have hS6 := hS4.callB hb6
        have hw6 := below_call hw4 hb6 (Nat.le_refl _)
        have K6 : Blk w6 w2.heap.size 45 #[.int .i64 ph, .int .i64 0, .int .i64 0, .int .i64 x.ended.length, .bool (loadsQ x.breaks)] := hS6.head
        obtain ⟨⟨k0, k1, k2, k3, k4⟩, q0, q1, q2, q3, q4⟩ := K6.five
        obtain ⟨⟨b0, b1, b2, b3, b4⟩, f0, f1, f2, f3, f4⟩ := (B1.below hw6).five
        have hw7 := ((below_call hB1 hw6 (Nat.le_refl _)).setCell (p := ⟨w2.heap.size, 1, none⟩) (Nat.le_of_lt hgw2) (.int .i64 R)).setCell (p := ⟨w2.heap.size, 2, none⟩) (Nat.le_of_lt hgw2) (.int .i64 G)
        clear y0 K4 hS4 hS6 K6 HT3 hw4
        by_cases hR : 864000000 < R
        · have hE : ckE k = 12 := by rw [HE.out, if_pos hR]
          have HE2 := Lib.hid hE
          have HV3 := Lib.hid (HV2.out hE)
          clear hE
          go_wp2_with fail
          refine bodyPost_ret (v := .tuple #[.agg #[.int .i64 0, .int .i64 0, .int .i64 0, .int .i64 0, .bool false], .int .i64 12]) (by simp [results, Tryd.results23, go_sem, b0, b1, b2, b3, b4]) rfl ⟨by rw [HE2.out, HV3.out], ?_⟩
          exact (((((hw7.setCell (p := ⟨w.heap.size, 0, none⟩) (Nat.le_refl _) (.int .i64 0)).setCell (p := ⟨w.heap.size, 1, none⟩) (Nat.le_refl _) (.int .i64 0)).setCell (p := ⟨w.heap.size, 2, none⟩) (Nat.le_refl _) (.int .i64 0)).setCell (p := ⟨w.heap.size, 3, none⟩) (Nat.le_refl _) (.int .i64 0)).setCell (p := ⟨w.heap.size, 4, none⟩) (Nat.le_refl _) (.bool false))
        · have hE : ckE k = 0 := by rw [HE.out, if_neg hR]
          have HE2 := Lib.hid hE
          have HV3 := Lib.hid (HV.out hE)
          clear hE
          go_wp2_with fail
          refine bodyPost_ret (v := .tuple #[.agg #[.int .i64 ph, .int .i64 R, .int .i64 G, .int .i64 x.ended.length, .bool (loadsQ x.breaks)], .int .i64 0]) (by simp [results, Tryd.results23, go_sem, b0, b1, b2, b3, b4]) rfl ⟨by rw [HE2.out, HV3.out], ?_⟩
          exact (((((hw7.setCell (p := ⟨w.heap.size, 0, none⟩) (Nat.le_refl _) (.int .i64 ph)).setCell (p := ⟨w.heap.size, 1, none⟩) (Nat.le_refl _) (.int .i64 R)).setCell (p := ⟨w.heap.size, 2, none⟩) (Nat.le_refl _) (.int .i64 G)).setCell (p := ⟨w.heap.size, 3, none⟩) (Nat.le_refl _) (.int .i64 x.ended.length)).setCell (p := ⟨w.heap.size, 4, none⟩) (Nat.le_refl _) (.bool (loadsQ x.breaks)))
end Go.Proofs.YtedfieopmjpibaaDoor
/-
  ClocksRun: program and reference by pairs of contracts, for the law's own walk.
-/
namespace Go.Proofs.YtedfieopmjpibaaDoor
open Go Go.RowKit

/-- the clock at a moment: program and reference answer alike -/
theorem clk_pair (b : Nat) (q : Int) (A : Option Addr) (m c : Nat) (l : List Pz) (u : Int) (w : World) (hr : Rd w b 2 (.slice A m c) m (l.flatMap pzC)) :
    ∃ (c0 c1 c2 c3 : Int) (c4 : Bool) (E : Int),
      (∀ W, Below w.heap.size w W → Calls Tryd.prog 18 #[.int .i64 q, .slice A m c, .int .i64 u] W (BRet (.tuple #[.agg #[.int .i64 c0, .int .i64 c1, .int .i64 c2, .int .i64 c3, .bool c4], .int .i64 E]) W)) ∧
      (atE q l u = 0 → ∀ W, Below w.heap.size w W → Calls Tryd.prog 23 #[.int .i64 q, .slice A m c, .int .i64 u] W (BRet (.tuple #[.agg #[.int .i64 c0, .int .i64 c1, .int .i64 c2, .int .i64 c3, .bool c4], .int .i64 E]) W)) ∧
      (atE q l u ≠ 0 → c0 = 0 ∧ c1 = 0 ∧ c2 = 0 ∧ c3 = 0 ∧ c4 = false ∧ E = atE q l u) := by
  by_cases h : atE q l u = 0
  · have hq := (segF_ok (atE_ok h).1).1
    obtain ⟨n, rfl⟩ := Int.eq_ofNat_of_zero_le (show 0 ≤ q by omega)
    have hc : ∃ (c0 c1 c2 c3 : Int) (c4 : Bool), ckV (atK n l u) = .agg #[.int .i64 c0, .int .i64 c1, .int .i64 c2, .int .i64 c3, .bool c4] := by
      unfold ckV
      split
      · exact ⟨_, _, _, _, _, rfl⟩
      · exact ⟨_, _, _, _, _, rfl⟩
    obtain ⟨c0, c1, c2, c3, c4, hc⟩ := hc
    refine ⟨c0, c1, c2, c3, c4, ckE (atK n l u), ?_, ?_, fun h' => absurd h h'⟩
    · intro W hW
      rw [← hc]
      exact clockAt_ok b n A m c l u W (hr.below hW) h
    · intro _ W hW
      rw [← hc]
      exact clockOf_calls b n A m c l u W (hr.below hW) h
  · exact ⟨0, 0, 0, 0, false, atE q l u, fun W hW => clockAt_no b q A m c l u W (hr.below hW) h, fun h' => absurd h' h, fun _ => ⟨rfl, rfl, rfl, rfl, rfl, rfl⟩⟩

/-- the cuts at a moment -/
theorem cut_pair (b : Nat) (q : Int) (A : Option Addr) (m c : Nat) (l : List Pz) (u : Int) (w : World) (hr : Rd w b 2 (.slice A m c) m (l.flatMap pzC)) (hb : b < w.heap.size) :
    ∃ (L : List Cut) (E : Int),
      (∀ W, Below w.heap.size w W → Calls Tryd.prog 19 #[.int .i64 q, .slice A m c, .int .i64 u] W (CtsS L E W)) ∧
      (atE q l u = 0 → ∀ W, Below w.heap.size w W → Calls Tryd.prog 24 #[.int .i64 q, .slice A m c, .int .i64 u] W (CtsS L E W)) ∧
      (atE q l u ≠ 0 → L = [] ∧ E = atE q l u) := by
  by_cases h : atE q l u = 0
  · have hq := (segF_ok (atE_ok h).1).1
    obtain ⟨n, rfl⟩ := Int.eq_ofNat_of_zero_le (show 0 ≤ q by omega)
    exact ⟨_, _, fun W hW => cuts_ok b n A m c l u W (hr.below hW) h (Nat.lt_of_lt_of_le hb hW.size), fun _ W hW => cutsAt_calls b n A m c l u W (hr.below hW) h (Nat.lt_of_lt_of_le hb hW.size), fun h' => absurd h h'⟩
  · exact ⟨[], atE q l u, fun W hW => cuts_no b q A m c l u W (hr.below hW) h, fun h' => absurd h' h, fun _ => ⟨rfl, rfl⟩⟩

/-- the final -/
theorem fin_pair (b : Nat) (q : Int) (A : Option Addr) (m c : Nat) (l : List Pz) (w : World) (hr : Rd w b 2 (.slice A m c) m (l.flatMap pzC)) (hb : b < w.heap.size) :
    ∃ (c0 c1 : Int) (c2 : Bool) (B : Bool) (E : Int),
      (∀ W, Below w.heap.size w W → Calls Tryd.prog 20 #[.int .i64 q, .slice A m c] W (BRet (.tuple #[.agg #[.int .i64 c0, .int .i64 c1, .bool c2], .bool B, .int .i64 E]) W)) ∧
      (segF q l = 0 → ∀ W, Below w.heap.size w W → Calls Tryd.prog 25 #[.int .i64 q, .slice A m c] W (BRet (.tuple #[.agg #[.int .i64 c0, .int .i64 c1, .bool c2], .bool B, .int .i64 E]) W)) ∧
      (segF q l ≠ 0 → c0 = 0 ∧ c1 = 0 ∧ c2 = false ∧ B = false ∧ E = segF q l) := by
  by_cases h : segF q l = 0
  · have hq := (segF_ok h).1
    obtain ⟨n, rfl⟩ := Int.eq_ofNat_of_zero_le (show 0 ≤ q by omega)
    exact ⟨_, _, _, _, _, fun W hW => final_ok b n A m c l W (hr.below hW) h, fun _ W hW => finalOf_calls b n A m c l W (hr.below hW) h (Nat.lt_of_lt_of_le hb hW.size), fun h' => absurd h h'⟩
  · exact ⟨0, 0, false, false, segF q l, fun W hW => final_no b q A m c l W (hr.below hW) h, fun h' => absurd h' h, fun _ => ⟨rfl, rfl, rfl, rfl, rfl⟩⟩

/-- the moment's own fault, of the reference -/
theorem momentFault_calls (u : Int) (w : World) : Calls Tryd.prog 22 #[.int .i64 u] w fun e w' => e = .returned (.int .i64 (if momB u = true then 0 else 1)) ∧ w = w' := by
  have HM := Lib.hid (momentQ_calls u w)
  cases hm : momB u
  · rw [hm] at HM
    clear hm
    go_enter Tryd.func22, Tryd.ntmps22
    go_wp2_with fail
    refine HM.out.mono ?_
    rintro e w1 ⟨rfl, rfl⟩
    go_wp2_with fail
    go_ret
    exact ⟨rfl, rfl⟩
  · rw [hm] at HM
    clear hm
    go_enter Tryd.func22, Tryd.ntmps22
    go_wp2_with fail
    refine HM.out.mono ?_
    rintro e w1 ⟨rfl, rfl⟩
    go_wp2_with fail
    go_ret
    exact ⟨rfl, rfl⟩
/-- errs of both faults is the fault of the whole -/
theorem errs_at (q : Int) (l : List Pz) (u : Int) : firstE [segF q l, if momB u = true then 0 else 1] = atE q l u := by
  unfold atE
  by_cases h : segF q l = 0
  · rw [h]
    cases momB u <;> rfl
  · rw [if_neg h]
    simp [firstE, h]
end Go.Proofs.YtedfieopmjpibaaDoor
/-
  ClocksRun: the law's own walk. (Printed by gen_lawclk.py.)
-/
namespace Go.Proofs.YtedfieopmjpibaaDoor
open Go Go.RowKit

theorem Blk.tri {W : World} {g : Nat} {t : TypeId} {a b c : Value} (h : Blk W g t #[a, b, c]) : (W.cell? ⟨g, 0, none⟩ = some a ∧ W.cell? ⟨g, 1, none⟩ = some b ∧ W.cell? ⟨g, 2, none⟩ = some c) ∧
    W.frozen? ⟨g, 0, none⟩ = false ∧ W.frozen? ⟨g, 1, none⟩ = false ∧ W.frozen? ⟨g, 2, none⟩ = false :=
  ⟨⟨h.cell 0, h.cell 1, h.cell 2⟩, h.frozen 0, h.frozen 1, h.frozen 2⟩
set_option maxRecDepth 100000 in
set_option maxHeartbeats 4000000 in
theorem clk_walk (a0 : Option Addr) (len0 cap0 : Nat) (z0 : List Int) (w : World) (w0 : InRow w a0 len0 cap0 z0) (ht : Tab w) :
    Calls Tryd.prog 4 #[.slice a0 len0 cap0] w fun e w' => e = .returned (.bool true) ∧ Below w.heap.size w w' := by
  have hs0 := strm_start w0 25
  have hb0 : Bx w.heap.size w.heap.size w (w.alloc (.cells #[.slice a0 len0 cap0, .int .i64 0] 25)) := (Bx.refl _ _ _).alloc (Nat.le_refl _) _
  clear w0
  go_enter Tryd.func4, Tryd.ntmps4
  go_wp2_with fail
  refine (segments_calls w.heap.size 0 _ hs0 (by omega)).mono ?_
  rintro e w1 ⟨_, rfl, ⟨q, rfl, q0, q1⟩, hS1⟩
  have hs1 := hS1.strm
  have hb1 := hb0.call hS1.bx (Nat.le_refl _)
  clear hs0 hb0 hS1
  go_wp2_with fail
  refine (range_calls w.heap.size _ 0 20 _ (by omega) (by omega) (by omega) hs1 (by omega)).mono ?_
  rintro e w2 ⟨m, rfl, m0, m1, hs2, hc2⟩
  obtain ⟨m, rfl⟩ := Int.eq_ofNat_of_zero_le m0
  have hb2 := hb1.call hc2 (Nat.le_refl _)
  have hlt2 := hs2.lt
  clear hs1 hb1 hc2
  go_wp2_with fail
  refine (presses_calls w.heap.size _ m _ hs2 (by omega) (by omega)).mono ?_
  rintro e w3 ⟨v, l, rfl, hlm, hS3⟩
  go_wp2_with fail
  refine (sp_pickL hS3 #[.int .i64 0, .int .i64 10, .int .i64 30, .int .i64 60, .int .i64 100, .int .i64 200, .int .i64 500, .int .i64 345686399999, .int .i64 (-1)] 3 9 (-1) 345686399999 (by decide) (by decide) rfl rfl (by omega)).mono ?_
  rintro e w4 ⟨_, rfl, ⟨u, rfl, _, _⟩, hS4⟩
  have hO : w4.ownsRow w2.heap.size 61 2 v m (l.flatMap pzC) := hS4.head
  have HB4 := ((hb2.call hS4.bx (Nat.le_refl _)).below (Nat.le_refl _))
  have hlt4 := hS4.lt
  obtain ⟨A, c, hv⟩ := own_form hO
  subst hv
  have hr4 := Rd.own (b := w.heap.size) hO hlt2
  clear hs2 hb2 hS3 hO hS4 hlt2 hlm
  obtain ⟨c0, c1, c2, c3, c4, CE, P1, P2, P3⟩ := clk_pair w.heap.size q A m c l u w4 hr4
  obtain ⟨L, LE, Q1, Q2, Q3⟩ := cut_pair w.heap.size q A m c l u w4 hr4 hlt4
  obtain ⟨f0, f1, f2, FB, FE, R1, R2, R3⟩ := fin_pair w.heap.size q A m c l w4 hr4 hlt4
  have h3 : ∀ W, Below w4.heap.size w4 W → Calls Tryd.prog 10 #[.int .i64 q, .slice A m c] W (BRet (.int .i64 (segF q l)) W) := fun W h => segmentsFault_calls w.heap.size q A m c l W (hr4.below h)
  have hea : atE q l u = 0 → segF q l = 0 := fun h => (atE_ok h).1
  have her := errs_at q l u
  obtain ⟨EA, hEA⟩ : ∃ EA, atE q l u = EA := ⟨_, rfl⟩
  obtain ⟨E, hE⟩ : ∃ E, segF q l = E := ⟨_, rfl⟩
  have hmf := momentFault_calls u
  obtain ⟨MF, hMF⟩ : ∃ MF, (if momB u = true then (0 : Int) else 1) = MF := ⟨_, rfl⟩
  rw [hMF] at her hmf
  rw [hE, hEA] at her
  rw [hEA, hE] at hea
  rw [hEA] at P2 P3 Q2 Q3
  rw [hE] at R2 R3 h3
  have P1 := Lib.hid P1
  have P2 := Lib.hid P2
  have P3 := Lib.hid P3
  have Q1 := Lib.hid Q1
  have Q2 := Lib.hid Q2
  have Q3 := Lib.hid Q3
  have R1 := Lib.hid R1
  have R2 := Lib.hid R2
  have R3 := Lib.hid R3
  have H3 := Lib.hid h3
  have HEA := Lib.hid hea
  have HMF := Lib.hid hmf
  have HER : Hid (∀ W : World, w.heap.size < W.heap.size → Calls Tryd.prog 21 #[.slice (some ⟨W.heap.size, 0, none⟩) 2 2] (W.alloc (.cells #[.int .i64 E, .int .i64 MF] 30)) (QRet (.int .i64 EA) (W.alloc (.cells #[.int .i64 E, .int .i64 MF] 30)))) := by
    intro W hW
    have h := errs_calls w.heap.size _ 2 2 [E, MF] _ (Rd.lit0 (w := W) (b := w.heap.size) (n := 2) (cs := #[.int .i64 E, .int .i64 MF]) (t := 30) (size := 1) hW (by decide) rfl)
    rw [her] at h
    exact h
  clear hr4 h3 hea her hmf hEA hE hMF
  go_wp2_with fail
  refine (P1.out _ (Below.refl _ _)).mono ?_
  rintro e w5 ⟨rfl, hb5⟩
  have hQ5 := ((Sq.start w4).callB hb5).add #[.int .i64 c0, .int .i64 c1, .int .i64 c2, .int .i64 c3, .bool c4] 45
  go_wp2_with fail
  refine (Q1.out _ hQ5.below).mono ?_
  rintro e w6 ⟨v6, rfl, ho6, hb6⟩
  obtain ⟨A6, k6, hv6⟩ := own_form ho6
  subst hv6
  have hQ6 := hQ5.ownB hb6 ho6
  clear ho6 hb5 hb6 hQ5
  go_wp2_with fail
  refine (R1.out _ hQ6.below).mono ?_
  rintro e w7 ⟨rfl, hb7⟩
  have hQ7 := (hQ6.callB hb7).add #[.int .i64 f0, .int .i64 f1, .bool f2] 52
  clear hb7 hQ6
  go_wp2_with fail
  refine (H3.out _ hQ7.below).mono ?_
  rintro e w8 ⟨rfl, hb8⟩
  have hQ8 := hQ7.callB hb8
  clear hb8 hQ7
  go_wp2_with fail
  refine (HMF.out _).mono ?_
  rintro e _ ⟨rfl, rfl⟩
  go_wp2_with fail
  refine (HER.out w8 (by have := hQ8.below.size; omega)).mono ?_
  rintro e w9 ⟨rfl, nq, h9⟩
  have hl9 : Below w8.heap.size w8 w9 := by rw [h9]; exact below_drewN ((Below.refl _ _).alloc (Nat.le_refl _) _) nq
  have hQ9 := hQ8.callB hl9
  clear h9 hl9 hQ8 HER HMF H3 P1 Q1 R1
  go_upto_if 68 with (fail)
  have hQ10 := (hQ9.add #[.int .i64 0, .int .i64 0, .int .i64 0, .int .i64 0, .bool false] 45).add #[.int .i64 0, .int .i64 0, .bool false] 52
  rw [World.size_alloc] at hQ10
  obtain ⟨W, hW⟩ : ∃ W, W = (w9.alloc (.cells #[.int .i64 0, .int .i64 0, .int .i64 0, .int .i64 0, .bool false] 45)).alloc (.cells #[.int .i64 0, .int .i64 0, .bool false] 52) := ⟨_, rfl⟩
  rw [← hW] at hQ10 ⊢
  obtain ⟨g8, hg8⟩ : ∃ g8, w9.heap.size = g8 := ⟨_, rfl⟩
  rw [hg8] at hQ10 ⊢
  obtain ⟨g9, hg9⟩ : ∃ g9, g8 + 1 = g9 := ⟨_, rfl⟩
  rw [hg9] at hQ10 ⊢
  have hne89 : g8 < g9 := by omega
  clear hW hg8 hg9 hQ9
  have HT := Lib.hid (fun W (h : Below w4.heap.size w4 W) => clocked_calls W (ht.below (below_call HB4 h (Nat.le_refl _))))
  have HBW := Lib.hid (fun W (h : Below w4.heap.size w4 W) => below_call HB4 h (Nat.le_refl _))
  clear ht
  by_cases hEA : EA = 0
  · subst hEA
    have hE := HEA.out (by first | rfl | trivial)
    subst hE
    go_wp2_with fail
    refine (P2.out (by first | rfl | trivial) _ hQ10.below).mono ?_
    rintro e w11 ⟨rfl, hb11⟩
    have hQ11 := hQ10.callB hb11
    obtain ⟨⟨x0, x1, x2, x3, x4⟩, z0, z1, z2, z3, z4⟩ := (show Blk w11 g8 45 #[.int .i64 0, .int .i64 0, .int .i64 0, .int .i64 0, .bool false] from hQ11.nth 1 rfl).five
    have hQ12 := (((((hQ11.front 1 rfl rfl).set_ 0 (.int .i64 c0)).set_ 1 (.int .i64 c1)).set_ 2 (.int .i64 c2)).set_ 3 (.int .i64 c3)).set_ 4 (.bool c4)
    clear hQ10 hQ11 hb11
    go_wp2_with fail
    refine (Q2.out (by first | rfl | trivial) _ hQ12.below).mono ?_
    rintro e w13 ⟨v13, rfl, ho13, hb13⟩
    obtain ⟨A13, k13, hv13⟩ := own_form ho13
    subst hv13
    have hQ13 := hQ12.ownB hb13 ho13
    clear ho13 hb13 hQ12 x0 x1 x2 x3 x4 z0 z1 z2 z3 z4
    go_wp2_with fail
    refine (R2.out (by first | rfl | trivial) _ hQ13.below).mono ?_
    rintro e w14 ⟨rfl, hb14⟩
    have hQ14 := hQ13.callB hb14
    obtain ⟨⟨x0, x1, x2⟩, z0, z1, z2⟩ := (show Blk w14 g9 52 #[.int .i64 0, .int .i64 0, .bool false] from hQ14.nth 2 rfl).tri
    have hQ15 := (((hQ14.front 2 rfl rfl).set_ 0 (.int .i64 f0)).set_ 1 (.int .i64 f1)).set_ 2 (.bool f2)
    clear hQ13 hQ14 hb14
    go_upto_region 16 with (fail)
    obtain ⟨W15, h15⟩ : ∃ W15, W15 = ((w14.setCell ⟨g9, 0, none⟩ (.int .i64 f0)).setCell ⟨g9, 1, none⟩ (.int .i64 f1)).setCell ⟨g9, 2, none⟩ (.bool f2) := ⟨_, rfl⟩
    rw [← h15] at hQ15 ⊢
    clear h15 x0 x1 x2 z0 z1 z2
    have K18 : Blk W15 g8 45 #[.int .i64 c0, .int .i64 c1, .int .i64 c2, .int .i64 c3, .bool c4] := hQ15.nth 2 rfl
    have K19 : Blk W15 g9 52 #[.int .i64 f0, .int .i64 f1, .bool f2] := hQ15.head
    have K11 : Blk W15 w7.heap.size 52 #[.int .i64 f0, .int .i64 f1, .bool f2] := hQ15.nth 3 rfl
    have K7 : Blk W15 w5.heap.size 45 #[.int .i64 c0, .int .i64 c1, .int .i64 c2, .int .i64 c3, .bool c4] := hQ15.nth 5 rfl
    have r6 := Rd.own (b := w.heap.size) (show W15.ownsRow w4.heap.size 52 3 (.slice A6 L.length k6) L.length (L.flatMap cutC) from hQ15.nth 4 rfl) hlt4
    have r13 := Rd.own (b := w.heap.size) (show W15.ownsRow w4.heap.size 52 3 (.slice A13 L.length k13) L.length (L.flatMap cutC) from hQ15.nth 1 rfl) hlt4
    obtain ⟨⟨x0, x1, x2, x3, x4⟩, _⟩ := K18.five
    obtain ⟨⟨y0, y1, y2, y3, y4⟩, _⟩ := K7.five
    obtain ⟨⟨u0, u1, u2⟩, _⟩ := K19.tri
    obtain ⟨⟨v0, v1, v2⟩, _⟩ := K11.tri
    have HEQ := Lib.hid (equalCut_calls w.heap.size A6 A13 L.length k6 k13 L W15 r6 r13)
    have hbl := hQ15.below
    clear K18 K7 K19 K11 r6 r13 hQ15 P2 P3 Q2 Q3 R2 R3 HEA
    go_wp2_with fail
    refine HEQ.out.mono ?_
    rintro e w16 ⟨rfl, nq, rfl⟩
    have hb16 := below_drewN hbl nq
    go_wp2_with fail
    refine (HT.out _ hb16).mono ?_
    rintro e w17 ⟨rfl, hb17⟩
    have hfin := HBW.out _ (below_call hb16 hb17 (Nat.le_refl _))
    go_wp2_with fail
    go_ret
    exact ⟨rfl, hfin⟩
  · have hx : (EA == 0) = false := by simpa using hEA
    obtain ⟨e0, e1, e2, e3, e4, e5⟩ := P3.out hEA
    obtain ⟨e6, e7⟩ := Q3.out hEA
    subst e0 e1 e2 e3 e4 e5 e6 e7
    by_cases hE : E = 0
    · subst hE
      go_wp2_with fail
      refine (R2.out (by first | rfl | trivial) _ hQ10.below).mono ?_
      rintro e w14 ⟨rfl, hb14⟩
      have hQ14 := hQ10.callB hb14
      obtain ⟨⟨x0, x1, x2⟩, z0, z1, z2⟩ := (show Blk w14 g9 52 #[.int .i64 0, .int .i64 0, .bool false] from hQ14.head).tri
      have hQ15 := ((hQ14.set_ 0 (.int .i64 f0)).set_ 1 (.int .i64 f1)).set_ 2 (.bool f2)
      clear hQ10 hQ14 hb14
      go_upto_region 16 with (fail)
      obtain ⟨W15, h15⟩ : ∃ W15, W15 = ((w14.setCell ⟨g9, 0, none⟩ (.int .i64 f0)).setCell ⟨g9, 1, none⟩ (.int .i64 f1)).setCell ⟨g9, 2, none⟩ (.bool f2) := ⟨_, rfl⟩
      rw [← h15] at hQ15 ⊢
      clear h15 x0 x1 x2 z0 z1 z2
      have K18 : Blk W15 g8 45 #[.int .i64 0, .int .i64 0, .int .i64 0, .int .i64 0, .bool false] := hQ15.nth 1 rfl
      have K19 : Blk W15 g9 52 #[.int .i64 f0, .int .i64 f1, .bool f2] := hQ15.head
      have K11 : Blk W15 w7.heap.size 52 #[.int .i64 f0, .int .i64 f1, .bool f2] := hQ15.nth 2 rfl
      have K7 : Blk W15 w5.heap.size 45 #[.int .i64 0, .int .i64 0, .int .i64 0, .int .i64 0, .bool false] := hQ15.nth 4 rfl
      have r6 := Rd.own (b := w.heap.size) (show W15.ownsRow w4.heap.size 52 3 (.slice A6 0 k6) 0 [] from hQ15.nth 3 rfl) hlt4
      have r13 := Rd.nil W15 w.heap.size 3
      obtain ⟨⟨x0, x1, x2, x3, x4⟩, _⟩ := K18.five
      obtain ⟨⟨y0, y1, y2, y3, y4⟩, _⟩ := K7.five
      obtain ⟨⟨u0, u1, u2⟩, _⟩ := K19.tri
      obtain ⟨⟨v0, v1, v2⟩, _⟩ := K11.tri
      have HEQ := Lib.hid (equalCut_calls w.heap.size A6 none 0 k6 0 [] W15 r6 r13)
      have hbl := hQ15.below
      clear K18 K7 K19 K11 r6 r13 hQ15 P2 P3 Q2 Q3 R2 R3 HEA
      go_wp2_with fail
      refine HEQ.out.mono ?_
      rintro e w16 ⟨rfl, nq, rfl⟩
      have hb16 := below_drewN hbl nq
      go_wp2_with fail
      refine (HT.out _ hb16).mono ?_
      rintro e w17 ⟨rfl, hb17⟩
      have hfin := HBW.out _ (below_call hb16 hb17 (Nat.le_refl _))
      go_wp2_with fail
      go_ret
      exact ⟨rfl, hfin⟩
    · have hy : (E == 0) = false := by simpa using hE
      obtain ⟨e0, e1, e2, e3, e4⟩ := R3.out hE
      subst e0 e1 e2 e3 e4
      go_upto_region 16 with (fail)
      obtain ⟨W15, h15⟩ : ∃ W15, W15 = W := ⟨_, rfl⟩
      rw [← h15] at hQ10 ⊢
      clear h15
      have hQ15 := hQ10
      have K18 : Blk W15 g8 45 #[.int .i64 0, .int .i64 0, .int .i64 0, .int .i64 0, .bool false] := hQ15.nth 1 rfl
      have K19 : Blk W15 g9 52 #[.int .i64 0, .int .i64 0, .bool false] := hQ15.head
      have K11 : Blk W15 w7.heap.size 52 #[.int .i64 0, .int .i64 0, .bool false] := hQ15.nth 2 rfl
      have K7 : Blk W15 w5.heap.size 45 #[.int .i64 0, .int .i64 0, .int .i64 0, .int .i64 0, .bool false] := hQ15.nth 4 rfl
      have r6 := Rd.own (b := w.heap.size) (show W15.ownsRow w4.heap.size 52 3 (.slice A6 0 k6) 0 [] from hQ15.nth 3 rfl) hlt4
      have r13 := Rd.nil W15 w.heap.size 3
      obtain ⟨⟨x0, x1, x2, x3, x4⟩, _⟩ := K18.five
      obtain ⟨⟨y0, y1, y2, y3, y4⟩, _⟩ := K7.five
      obtain ⟨⟨u0, u1, u2⟩, _⟩ := K19.tri
      obtain ⟨⟨v0, v1, v2⟩, _⟩ := K11.tri
      have HEQ := Lib.hid (equalCut_calls w.heap.size A6 none 0 k6 0 [] W15 r6 r13)
      have hbl := hQ15.below
      clear K18 K7 K19 K11 r6 r13 hQ15 P2 P3 Q2 Q3 R2 R3 HEA
      go_wp2_with fail
      refine HEQ.out.mono ?_
      rintro e w16 ⟨rfl, nq, rfl⟩
      have hb16 := below_drewN hbl nq
      go_wp2_with fail
      refine (HT.out _ hb16).mono ?_
      rintro e w17 ⟨rfl, hb17⟩
      have hfin := HBW.out _ (below_call hb16 hb17 (Nat.le_refl _))
      go_wp2_with fail
      go_ret
      exact ⟨rfl, hfin⟩
end Go.Proofs.YtedfieopmjpibaaDoor
