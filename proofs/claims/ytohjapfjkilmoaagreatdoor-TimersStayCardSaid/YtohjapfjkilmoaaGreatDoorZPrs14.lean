/-
  The program's at, ClockAt and Final by contracts. (Printed by gen_prs14.py.)
-/
import Derived.Test.YtohjapfjkilmoaaGreatDoorZPrs8
import Derived.Test.YtohjapfjkilmoaaGreatDoorZSlot6
import Derived.Test.YtohjapfjkilmoaaGreatDoorZPrs6
import Derived.Test.YtohjapfjkilmoaaGreatDoorZPrsLow
import Derived.Test.YtohjapfjkilmoaaGreatDoorZSlotPure
import Derived.Lib.SliceRun
namespace Go.Proofs.YtohjapfjkilmoaaGreatDoor
open Go Go.RowKit
attribute [local go_sem ↓] Go.wp_at_zero Go.wp_at_succ

def atE (q : Int) (l : List Pz) (u : Int) : Int := if segF q l = 0 then (if momB u = true then 0 else 1) else segF q l
def atK (n : Nat) (l : List Pz) (u : Int) : Clk := advP (folP n u l l.length).1 u
theorem atE_ok {q : Int} {l : List Pz} {u : Int} (h : atE q l u = 0) : segF q l = 0 ∧ momB u = true ∧ 0 ≤ u ∧ u ≤ 345686399999 := by
  unfold atE at h
  by_cases h0 : segF q l = 0
  · rw [if_pos h0] at h
    cases hm : momB u
    · rw [hm] at h; exact absurd h (by decide)
    · have := hm
      unfold momB outB at this
      simp at this
      exact ⟨h0, rfl, by omega, by omega⟩
  · rw [if_neg h0] at h
    exact absurd h h0
/-- a clock in new memory -/
def AtS (n : Nat) (c : Clk) (w : World) (e : Ending) (w' : World) : Prop :=
  ∃ (gc : Nat) (A1 : Option Addr) (cap1 : Nat), e = .returned (.tuple #[.pointer (some ⟨gc, 0, none⟩), .int .i64 0]) ∧
    Sq w w' [rBlk gc 66 (clkC n c (.slice A1 c.cuts.length cap1)), rOwn w.heap.size 40 3 (.slice A1 c.cuts.length cap1) c.cuts.length (c.cuts.flatMap cutC)]

set_option maxRecDepth 100000 in
set_option maxHeartbeats 1000000 in
theorem at_ok (b n : Nat) (A : Option Addr) (m c : Nat) (l : List Pz) (u : Int) (w : World) (hr : Rd w b 2 (.slice A m c) m (l.flatMap pzC)) (h : atE n l u = 0) :
    Calls Tryz.prog 23 #[.int .i64 n, .slice A m c, .int .i64 u] w (AtS n (atK n l u) w) := by
  obtain ⟨h0, hm, hu0, hu1⟩ := atE_ok h
  obtain ⟨hq, hok, hlm⟩ := segF_ok h0
  have hl := (hr.cells pzC_len (by omega)).1
  have HF := Lib.hid (clockFault_calls b n A m c l w hr)
  rw [h0] at HF
  have HFO := Lib.hid (fun W (hW : Below w.heap.size w W) => followT_calls b n A m c l u W (hr.below hW) (by omega) hok (by omega))
  have hfb := (fol_bd n u hok l.length (Nat.le_refl _)).1
  have hpb := hfb.pbd (n := n) (t := u) (by omega) (by omega) (by omega) (by omega)
  have HA : Hid (atK n l u = advP (folP n u l l.length).1 u) := rfl
  rw [HA.out]
  obtain ⟨f, hf⟩ : ∃ f, folP n u l l.length = f := ⟨_, rfl⟩
  rw [hf] at HFO hpb ⊢
  have HPB := Lib.hid hpb
  have HM := Lib.hid hm
  clear hr h h0 hok hl hf hfb hpb hm HA
  go_enter Tryz.func23, Tryz.ntmps23
  go_wp2_with fail
  refine HF.out.mono ?_
  rintro e w1 ⟨rfl, hb1⟩
  go_wp2_with fail
  refine (moment_calls u _).mono ?_
  rintro e w2 ⟨rfl, rfl⟩
  rw [HM.out]
  go_wp2_with fail
  refine (HFO.out _ hb1).mono ?_
  rintro e w3 ⟨gc, A1, cap1, A2, cap2, rfl, hS⟩
  have hC : ClkAt w3 gc n f.1 (.slice A1 f.1.cuts.length cap1) := hS.head
  have HADV := Lib.hid (advance_calls gc n f.1 (.slice A1 f.1.cuts.length cap1) u w3 hC HPB.out.bd HPB.out.t_)
  clear hC
  go_wp2_with fail
  refine HADV.out.mono ?_
  rintro e w4 ⟨rfl, hC4, hbx⟩
  have hS4 := (hS.turnB hbx hC4).drop 2 rfl rfl
  clear hS hC4 hbx HADV
  go_wp2_with fail
  go_ret2
  have hM := ((Sq.start w).callB hb1).merge hS4
  have hM2 := ((hM.front 1 rfl rfl).weak (r' := rOwn w.heap.size 40 3 (.slice A1 f.1.cuts.length cap1) f.1.cuts.length (f.1.cuts.flatMap cutC)) (fun h => own_base h hb1.size) (rOwn_ok _ _ _ _ _ _) (fun _ hk => hk)).front 1 rfl rfl
  exact ⟨gc, A1, cap1, rfl, hM2⟩
set_option maxRecDepth 100000 in
theorem at_no (b : Nat) (q : Int) (A : Option Addr) (m c : Nat) (l : List Pz) (u : Int) (w : World) (hr : Rd w b 2 (.slice A m c) m (l.flatMap pzC)) (h : atE q l u ≠ 0) :
    Calls Tryz.prog 23 #[.int .i64 q, .slice A m c, .int .i64 u] w (BRet (.tuple #[.pointer none, .int .i64 (atE q l u)]) w) := by
  have HF := Lib.hid (clockFault_calls b q A m c l w hr)
  by_cases h0 : segF q l = 0
  · rw [h0] at HF
    have hm : momB u = false := by
      unfold atE at h
      rw [if_pos h0] at h
      cases hm : momB u
      · rfl
      · rw [hm] at h; exact absurd rfl h
    have HE : Hid (atE q l u = 1) := by unfold atE; rw [if_pos h0, hm]; exact Lib.hid rfl
    have HM := Lib.hid hm
    rw [HE.out]
    clear h hr h0 hm
    go_enter Tryz.func23, Tryz.ntmps23
    go_wp2_with fail
    refine HF.out.mono ?_
    rintro e w1 ⟨rfl, hb1⟩
    go_wp2_with fail
    refine (moment_calls u _).mono ?_
    rintro e w2 ⟨rfl, rfl⟩
    rw [HM.out]
    go_wp2_with fail
    go_ret2
    exact ⟨rfl, hb1⟩
  · have HE : Hid (atE q l u = segF q l) := by unfold atE; rw [if_neg h0]; exact Lib.hid rfl
    rw [HE.out]
    obtain ⟨E, hE⟩ : ∃ E, segF q l = E := ⟨_, rfl⟩
    rw [hE] at HF h0 ⊢
    have hx : (E != 0) = true := by simpa using h0
    clear h hr hE HE
    go_enter Tryz.func23, Tryz.ntmps23
    go_wp2_with fail
    refine HF.out.mono ?_
    rintro e w1 ⟨rfl, hb1⟩
    go_wp2_with fail
    go_ret2
    exact ⟨rfl, hb1⟩

/-- what ClockAt answers of a clock -/
def ckE (c : Clk) : Int := if 864000000 < (timesP c).1 then 12 else 0
def ckV (c : Clk) : Value := if ckE c = 0 then .agg #[.int .i64 c.phase, .int .i64 (timesP c).1, .int .i64 (timesP c).2, .int .i64 c.cuts.length, .bool c.loads] else .agg #[.int .i64 0, .int .i64 0, .int .i64 0, .int .i64 0, .bool false]
end Go.Proofs.YtohjapfjkilmoaaGreatDoor
/-
  slices.Clone of cuts and of presses, ContainsFunc of cuts; Cuts, Final, ClockAt's refusals. (Printed by gen_prs15.py.)
-/
namespace Go.Proofs.YtohjapfjkilmoaaGreatDoor
open Go Go.RowKit
attribute [local go_sem ↓] Go.wp_at_zero Go.wp_at_succ

theorem pzC_one (l : List Pz) : ∀ u ∈ l.flatMap pzC, u.oneCell' = true := by
  intro u hu
  obtain ⟨y, _, hy⟩ := List.mem_flatMap.1 hu
  simp [pzC] at hy
  rcases hy with rfl | rfl <;> rfl
theorem cutC_one (l : List Cut) : ∀ u ∈ l.flatMap cutC, u.oneCell' = true := by
  intro u hu
  obtain ⟨y, _, hy⟩ := List.mem_flatMap.1 hu
  simp [cutC] at hy
  rcases hy with rfl | rfl | rfl <;> rfl
set_option maxRecDepth 100000 in
theorem cloneCut_calls (b : Nat) (A : Option Addr) (n c : Nat) (xs : List Value) (w : World) (hr : Rd w b 3 (.slice A n c) n xs) (h1 : ∀ u ∈ xs, u.oneCell' = true) (hn : n ≤ 100000) :
    Calls Tryz.prog 26 #[.slice A n c] w fun e w' => ∃ v, e = .returned v ∧ w'.ownsRow w.heap.size 40 3 v n xs ∧ Below w.heap.size w w' := by
  obtain ⟨i0, hi, hz0, hz1, hz2⟩ := info_parts info_cut
  have q29 : ∀ (w : World) (a : Option Addr) (n c n' c' : Nat), (binOp .eql 28 (.slice a n c) (.slice none n' c')).run Tryz.prog w = .ok (.bool a.isNone) w := fun w a n c n' c' => Lib.run_eql_slice_nil w _ _ a n c n' c' Tryz.underlying28
  obtain ⟨A', c', e1, e2, e3, e4, e5, e6⟩ := hr
  injection e1 with ea eb ec
  subst ea ec
  cases A with
  | none =>
    obtain ⟨rfl, rfl⟩ := e5 rfl
    have hx : xs = [] := List.eq_nil_of_length_eq_zero (by simpa using e4)
    subst hx
    clear e6
    go_enter Tryz.func26, Tryz.ntmps26
    go_wp2
    go_ret
    exact ⟨_, rfl, World.ownsRow_nil _ _ _ _, Below.refl _ _⟩
  | some a =>
    have hcells : ∀ j u, xs[j]? = some u → w.cell? (a.add j) = some u := by
      intro j u hu
      have hpos : 0 < n := by
        rcases Nat.eq_zero_or_pos n with h | h
        · subst h
          have hx : xs = [] := List.eq_nil_of_length_eq_zero (by simpa using e4)
          subst hx
          simp at hu
        · exact h
      obtain ⟨g, o, f1, _, f3⟩ := e6 hpos
      injection f1 with f1
      subst f1
      have hadd : (⟨g, o, none⟩ : Addr).add j = ⟨g, o + j, none⟩ := by unfold Addr.add; split <;> simp_all
      rw [hadd]
      exact f3 j u hu
    have hcells2 : ∀ ob : Obj, ∀ j u, xs[j]? = some u → (w.alloc ob).cell? (a.add j) = some u := fun ob j u hu =>
      (World.cell?_alloc_lt w ob (a.add j) (World.block_lt_of_cell? w _ (hcells j u hu))).trans (hcells j u hu)
    clear e6 hcells
    go_enter Tryz.func26, Tryz.ntmps26
    go_wp2_with (first
      | (at_builtin; refine wpList_append_own _ rfl _ _ 28 rfl w.heap.size 40 i0 (.agg #[.int .i64 0, .int .i64 0, .bool false]) 3 24 Tryz.underlying28 hi hz0 hz1 hz2 rfl (by decide) _ 0 [] rfl (World.ownsRow_lit (base := w.heap.size) w #[] 0 (Nat.le_refl _) (by decide) rfl) a n c xs rfl (by simpa using e4) (hcells2 _) h1 (by unfold maxLen; omega) (by omega) (by simp) ?_; intro v' w1 hown' hgrow hnil))
    go_ret
    refine ⟨_, rfl, by simpa using hown', ((Below.refl _ _).alloc (Nat.le_refl _) _).grown hgrow (by simp) (fun q hq => ?_)⟩
    have h2 : some w.heap.size = some q := hq
    injection h2 with h2
    omega
set_option maxRecDepth 100000 in
theorem cuts1_calls (p : Cut) (w : World) : Calls Tryz.prog 25 #[.agg #[.int .i64 p.1, .int .i64 p.2.1, .bool p.2.2]] w (BRet (.bool (decide (864000000 < p.1))) w) := by
  have hb : Below w.heap.size w (w.alloc (.cells #[.int .i64 p.1, .int .i64 p.2.1, .bool p.2.2] 40)) := (Below.refl _ _).alloc (Nat.le_refl _) _
  obtain ⟨z, hz⟩ : ∃ z, p.1 = z := ⟨_, rfl⟩
  rw [hz] at hb ⊢
  clear hz
  by_cases h : 864000000 < z
  · go_enter Tryz.func25, Tryz.ntmps25
    go_wp2_with fail
    go_ret
    exact ⟨ret_bool (by simp [h]), hb⟩
  · go_enter Tryz.func25, Tryz.ntmps25
    go_wp2_with fail
    go_ret
    exact ⟨ret_bool (by simp [h]), hb⟩

set_option maxRecDepth 100000 in
theorem cont_cuts (b : Nat) (A2 : Option Addr) (m c2 : Nat) (hs : List Cut) (p : Cut → Bool) (w : World) (hr2 : Rd w b 3 (.slice A2 m c2) m (hs.flatMap cutC))
    (HC : ∀ W x, Below w.heap.size w W → Calls Tryz.prog 25 #[.agg #[.int .i64 x.1, .int .i64 x.2.1, .bool x.2.2]] W (BRet (.bool (p x)) W)) :
    Calls Tryz.prog 24 #[.slice A2 m c2, .func (.func 25) #[] #[]] w (BRet (.bool (hs.any p)) w) := by
  obtain ⟨hl, hnc, hcm, hcells⟩ := hr2.cells cutC_len (by omega)
  unfold maxLen at hcm
  have HL := Lib.hid hl
  have HCL := Lib.hid hcells
  have HCC := Lib.hid HC
  have HM := Lib.hid (ixOf_mem p hs)
  clear hcells hl hr2 HC
  go_enter Tryz.func24, Tryz.ntmps24
  go_wp2
  go_loopw [8] (fun i wr => ∃ k : Nat, k ≤ m ∧ i = .int .i64 k ∧ Hid (∀ i (_ : i < k) (hi' : i < hs.length), p hs[i] = false) ∧ Below w.heap.size w wr) (fun i _ => m - (intOf i).toNat)
  case atStart => exact ⟨0, Nat.zero_le _, rfl, (fun i hi => absurd hi (by omega)), Below.refl _ _⟩
  case round =>
    obtain ⟨k, hk, rfl, HF, hbr⟩ := hrel
    by_cases hlt : k < m
    · have hkr : k < hs.length := by rw [HL.out]; exact hlt
      obtain ⟨g, o, hA, _, hcs⟩ := HCL.out (by omega)
      subst hA
      have c0 := below_cell hbr (hcs k hkr 0 (by omega))
      have c1 := below_cell hbr (hcs k hkr 1 (by omega))
      have c2 := below_cell hbr (hcs k hkr 2 (by omega))
      obtain ⟨s, hs'⟩ : ∃ s, hs[k] = s := ⟨_, rfl⟩
      rw [hs'] at c0 c1 c2
      replace c0 : wr.cell? ⟨g, o + k * 3, none⟩ = some (.int .i64 s.1) := c0
      replace c1 : wr.cell? ⟨g, o + k * 3 + 1, none⟩ = some (.int .i64 s.2.1) := c1
      replace c2 : wr.cell? ⟨g, o + k * 3 + 2, none⟩ = some (.bool s.2.2) := c2
      have HK := Lib.hid (HCC.out wr s hbr)
      clear hcs
      cases hp : p s
      · rw [hp] at HK
        have HF2 : Hid (∀ i (_ : i < k + 1) (hi' : i < hs.length), p hs[i] = false) := by
          intro i hi hi'
          by_cases hik : i = k
          · subst hik; rw [hs']; exact hp
          · exact HF.out i (by omega) hi'
        clear hp hs'
        go_wp2_with (go_at_call 25; refine HK.out.mono ?_; rintro e w2 ⟨rfl, hb2⟩)
        have hb3 := below_call hbr hb2 (Nat.le_refl _)
        go_roundw
        case rel => exact ⟨k + 1, by omega, by go_num, HF2, hb3⟩
        case measure => simp [intOf]; omega
      · rw [hp] at HK
        have HR : Hid (ixOf p hs = k) := ixOf_at _ hs k hkr (fun i hi => HF.out i hi (by omega)) (by rw [hs']; exact hp)
        have HA : Hid (hs.any p = true) := by
          have := HM.out
          rw [HR.out] at this
          rw [← this]
          exact Lib.hid (decide_eq_true (by omega))
        clear hp hs'
        go_wp2_with (go_at_call 25; refine HK.out.mono ?_; rintro e w2 ⟨rfl, hb2⟩)
        have hb3 := below_call hbr hb2 (Nat.le_refl _)
        go_ret
        exact ⟨ret_bool HA.out.symm, hb3⟩
    · obtain rfl : k = m := by omega
      have HR : Hid (ixOf p hs = -1) := ixOf_no _ hs (fun i hi => HF.out i (by rw [← HL.out]; exact hi) hi)
      have HA : Hid (hs.any p = false) := by
        have := HM.out
        rw [HR.out] at this
        rw [← this]
        exact Lib.hid rfl
      go_wp2
      go_ret
      exact ⟨ret_bool HA.out.symm, hbr⟩
/-- is one of the cuts too long? -/
def longB (l : List Cut) : Bool := l.any (fun x => decide (864000000 < x.1))
theorem longCuts_calls (b : Nat) (A : Option Addr) (m c : Nat) (l : List Cut) (w : World) (hr : Rd w b 3 (.slice A m c) m (l.flatMap cutC)) :
    Calls Tryz.prog 24 #[.slice A m c, .func (.func 25) #[] #[]] w (BRet (.bool (longB l)) w) :=
  cont_cuts b A m c l _ w hr (fun W x _ => cuts1_calls x W)
def longE (l : List Cut) : Int := if longB l = true then 12 else 0
def ctL (l : List Cut) : List Cut := if longB l = true then [] else l
/-- cuts in new memory -/
def CtsS (l : List Cut) (er : Int) (w : World) (e : Ending) (w' : World) : Prop :=
  ∃ v, e = .returned (.tuple #[v, .int .i64 er]) ∧ w'.ownsRow w.heap.size 40 3 v l.length (l.flatMap cutC) ∧ Below w.heap.size w w'
set_option maxRecDepth 100000 in
set_option maxHeartbeats 1000000 in
theorem cuts_ok (b n : Nat) (A : Option Addr) (m c : Nat) (l : List Pz) (u : Int) (w : World) (hr : Rd w b 2 (.slice A m c) m (l.flatMap pzC)) (h : atE n l u = 0) (hb : b < w.heap.size) :
    Calls Tryz.prog 9 #[.int .i64 n, .slice A m c, .int .i64 u] w (CtsS (ctL (atK n l u).cuts) (longE (atK n l u).cuts) w) := by
  have HAT := Lib.hid (at_ok b n A m c l u _ hr h)
  obtain ⟨h0, hm, hu0, hu1⟩ := atE_ok h
  obtain ⟨hq, hok, hlm⟩ := segF_ok h0
  have hfb := (fol_bd n u hok l.length (Nat.le_refl _)).1.cuts
  have hkl : (atK n l u).cuts.length ≤ 2000 := by
    have : (atK n l u).cuts = (folP n u l l.length).1.cuts := rfl
    rw [this]; omega
  obtain ⟨k, hk⟩ : ∃ k, atK n l u = k := ⟨_, rfl⟩
  rw [hk] at HAT hkl ⊢
  clear hr h hk h0 hm hok hfb
  go_enter Tryz.func9, Tryz.ntmps9
  go_wp2_with fail
  refine HAT.out.mono ?_
  rintro e w1 ⟨gc, A1, cap1, rfl, hS⟩
  have hC : ClkAt w1 gc n k (.slice A1 k.cuts.length cap1) := hS.head
  have hO : w1.ownsRow w.heap.size 40 3 (.slice A1 k.cuts.length cap1) k.cuts.length (k.cuts.flatMap cutC) := hS.nth 1 rfl
  have hR := Rd.own (b := b) hO hb
  have HLC := Lib.hid (longCuts_calls b A1 k.cuts.length cap1 k.cuts w1 hR)
  have hfin := hS.below
  obtain ⟨_, _, _, _, _, _, k6, _⟩ := hC.cells
  obtain ⟨B, hB⟩ : ∃ B, longB k.cuts = B := ⟨_, rfl⟩
  have HE : Hid (longE k.cuts = if B = true then 12 else 0) := by unfold longE; rw [hB]; exact Lib.hid rfl
  have HL : Hid (ctL k.cuts = if B = true then [] else k.cuts) := by unfold ctL; rw [hB]; exact Lib.hid rfl
  rw [hB] at HLC
  have HR := Lib.hid hR
  have HCC := Lib.hid hC
  clear hS hC hO hR hB HAT
  go_wp2_with fail
  refine HLC.out.mono ?_
  rintro e w2 ⟨rfl, hb2⟩
  have hf2 := below_call hfin hb2 (Nat.le_refl _)
  cases B
  · have k7 := below_cell hb2 k6
    have HCL := Lib.hid (cloneCut_calls b A1 k.cuts.length cap1 _ w2 (HR.out.below hb2) (cutC_one _) (by omega))
    clear k6
    go_wp2_with fail
    refine HCL.out.mono ?_
    rintro e w3 ⟨v, rfl, ho3, hb3⟩
    go_wp2_with fail
    refine bodyPost_ret (v := .tuple #[v, .int .i64 0]) (by simp [results, Tryz.results9, go_sem]) rfl ?_
    rw [HE.out, HL.out]
    exact ⟨v, rfl, own_base ho3 hf2.size, below_call hf2 hb3 (Nat.le_refl _)⟩
  · go_wp2_with fail
    refine bodyPost_ret (v := .tuple #[.slice none 0 0, .int .i64 12]) (by simp [results, Tryz.results9, go_sem]) rfl ?_
    rw [HE.out, HL.out]
    exact ⟨_, rfl, World.ownsRow_nil _ _ _ _, hf2⟩
set_option maxRecDepth 100000 in
theorem cuts_no (b : Nat) (q : Int) (A : Option Addr) (m c : Nat) (l : List Pz) (u : Int) (w : World) (hr : Rd w b 2 (.slice A m c) m (l.flatMap pzC)) (h : atE q l u ≠ 0) :
    Calls Tryz.prog 9 #[.int .i64 q, .slice A m c, .int .i64 u] w (CtsS [] (atE q l u) w) := by
  have HAT := Lib.hid (at_no b q A m c l u _ hr h)
  obtain ⟨E, hE⟩ : ∃ E, atE q l u = E := ⟨_, rfl⟩
  rw [hE] at HAT h ⊢
  have hx : (E != 0) = true := by simpa using h
  clear hr hE
  go_enter Tryz.func9, Tryz.ntmps9
  go_wp2_with fail
  refine HAT.out.mono ?_
  rintro e w1 ⟨rfl, hb1⟩
  go_wp2_with fail
  refine bodyPost_ret (v := .tuple #[.slice none 0 0, .int .i64 E]) (by simp [results, Tryz.results9, go_sem]) rfl ?_
  exact ⟨_, rfl, World.ownsRow_nil _ _ _ _, hb1⟩
/-- what Final answers of a clock -/
def fnE (c : Clk) : Int := if c.phase = 3 then (if 864000000 < c.end_.1 then 12 else 0) else 0
def fnB (c : Clk) : Bool := decide (c.phase = 3) && !decide (864000000 < c.end_.1)
def fnV (c : Clk) : Cut := if fnB c = true then c.end_ else (0, 0, false)
end Go.Proofs.YtohjapfjkilmoaaGreatDoor
