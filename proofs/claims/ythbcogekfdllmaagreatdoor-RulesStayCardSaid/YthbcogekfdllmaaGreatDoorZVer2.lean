/-
  The rule of a category at a moment: rule.ruleAt, splitref2.RuleFor, rule.RuleAt by contracts. (Printed by gen_ver2.py.)
-/
import Derived.Test.YthbcogekfdllmaaGreatDoorZVer1
import Derived.Test.YthbcogekfdllmaaGreatDoorZHld3
import Derived.Test.YthbcogekfdllmaaGreatDoorZSlot1
import Derived.Test.YthbcogekfdllmaaGreatDoorZSepX
import Derived.Test.YthbcogekfdllmaaGreatDoorZSlotPure
import Derived.Deep.DeepCutAuto
import Derived.Deep.MidRow
namespace Go.Proofs.YthbcogekfdllmaaGreatDoor
open Go Go.RowKit TxtP

set_option maxRecDepth 100000 in
set_option maxHeartbeats 4000000 in
theorem ruleAtI_calls (b : Nat) (A : Option Addr) (n c : Nat) (vs : List Vr) (cat : ByteArray) (t : Int) (w : World) (hr : Vrs w b A n c vs) :
    Calls Tryz.prog 97 #[.slice A n c, .string cat, .int .i64 t] w (BRet (.tuple #[.string (rulAt vs cat t), .bool (!isE (rulAt vs cat t))]) w) := by
  obtain ⟨hl, hnc, hcm, hcells⟩ := hr.rd.cells vrC_len (by omega)
  unfold maxLen at hcm
  have HL := Lib.hid hl
  have HC := Lib.hid hcells
  have HF : Hid (rulAt vs cat t = rulA (vs.drop 0) cat t ⟨#[]⟩) := Lib.hid rfl
  obtain ⟨R, hR⟩ : ∃ z, rulAt vs cat t = z := ⟨_, rfl⟩
  rw [hR] at HF ⊢
  clear hcells hl hr hR
  go_enter Tryz.func97, Tryz.ntmps97
  go_wp2_with fail
  go_loopw [8, 13] (fun s i wr => ∃ (k : Nat) (out : ByteArray), k ≤ n ∧ s = .string out ∧ i = .int .i64 k ∧ Hid (R = rulA (vs.drop k) cat t out) ∧ Below w.heap.size w wr) (fun _ i _ => n - (intOf i).toNat)
  case atStart => exact ⟨0, ⟨#[]⟩, Nat.zero_le _, rfl, rfl, HF, Below.refl _ _⟩
  case round =>
    clear HF
    obtain ⟨k, out, hk, rfl, rfl, HG, hbr⟩ := hrel
    by_cases hlt : k < n
    · have hkr : k < vs.length := by rw [HL.out]; exact hlt
      obtain ⟨g, o, hA, _, hcs⟩ := HC.out (by omega)
      subst hA
      have hst := HG.out.trans (rulA_step vs cat t out k hkr)
      have c0 := below_cell hbr (hcs k hkr 0 (by omega))
      have c1 := below_cell hbr (hcs k hkr 1 (by omega))
      have c2 := below_cell hbr (hcs k hkr 2 (by omega))
      obtain ⟨x, hx⟩ : ∃ x, vs[k] = x := ⟨_, rfl⟩
      rw [hx] at c0 c1 c2 hst
      obtain ⟨vc, vf, vr⟩ := x
      replace c0 : wr.cell? ⟨g, o + k * 3, none⟩ = some (.string vc) := c0
      replace c1 : wr.cell? ⟨g, o + k * 3 + 1, none⟩ = some (.int .i64 vf) := c1
      replace c2 : wr.cell? ⟨g, o + k * 3 + 2, none⟩ = some (.string vr) := c2
      have hA := (Sq.start wr).add #[.string vc, .int .i64 vf, .string vr] 106
      have hk : Blk _ _ _ _ := hA.head
      have z0 := hk.cell 0
      have z1 := hk.cell 1
      have z2 := hk.cell 2
      have HB := Lib.hid (below_call hbr hA.below (Nat.le_refl _))
      have hk0 : (0 : Int) ≤ (k : Int) := by omega
      have hkn : (k : Int) < (n : Int) := by omega
      simp only at hst
      obtain ⟨EQ, hEQ⟩ : ∃ z, (vc.toList == cat.toList) = z := ⟨_, rfl⟩
      rw [hEQ] at hst
      clear hcs hx hA hk hbr HG
      cases EQ
      · have HST := Lib.hid (hst.trans (congrArg (rulA _ _ _) (if_neg (by simp))))
        clear hst
        go_wp2_with fail
        go_roundw
        case rel => exact ⟨k + 1, out, by omega, rfl, by go_num, HST, HB.out⟩
        case measure => simp [intOf]; omega
      · by_cases hle : vf ≤ t
        · have HST := Lib.hid (hst.trans (congrArg (rulA _ _ _) (if_pos (by simp [hle]))))
          clear hst
          go_wp2_with fail
          go_roundw
          case rel => exact ⟨k + 1, vr, by omega, rfl, by go_num, HST, HB.out⟩
          case measure => simp [intOf]; omega
        · have HST := Lib.hid (hst.trans (congrArg (rulA _ _ _) (if_neg (by simp [hle]))))
          replace hle : t < vf := by omega
          clear hst
          go_wp2_with fail
          go_roundw
          case rel => exact ⟨k + 1, out, by omega, rfl, by go_num, HST, HB.out⟩
          case measure => simp [intOf]; omega
    · obtain rfl : k = n := by omega
      have HS := Lib.hid (HG.out.trans (by rw [List.drop_of_length_le (by rw [HL.out]; exact Nat.le_refl _)]; rfl : _ = out))
      clear HG
      go_wp2_with fail
      go_ret2
      rw [HS.out]
      exact ⟨by unfold isE; rfl, hbr⟩
end Go.Proofs.YthbcogekfdllmaaGreatDoor
/-
  Does a run count for a category: rule.counts by a contract.
-/
namespace Go.Proofs.YthbcogekfdllmaaGreatDoor
open Go Go.RowKit TxtP
attribute [local go_sem ↓] Go.wp_at_zero Go.wp_at_succ

/-- a run where it lies -/
structure RnP (w : World) (b g o : Nat) (x : Rn) : Prop where
  c0 : w.cell? ⟨g, o, none⟩ = some (.string x.id)
  c1 : w.cell? ⟨g, o + 1, none⟩ = some (.string x.who)
  c2 : w.cell? ⟨g, o + 2, none⟩ = some (.int .i64 x.time)
  c3 : w.cell? ⟨g, o + 3, none⟩ = some (.int .i64 x.date)
  c4 : w.cell? ⟨g, o + 4, none⟩ = some (.slice x.fa x.fs.length x.fc)
  ok : RnW w b x
theorem RnP.below {w W : World} {b g o : Nat} {x : Rn} (h : RnP w b g o x) (hb : Below w.heap.size w W) : RnP W b g o x :=
  ⟨below_cell hb h.c0, below_cell hb h.c1, below_cell hb h.c2, below_cell hb h.c3, below_cell hb h.c4, h.ok.below hb⟩
theorem RnP.of {w : World} {b g : Nat} {x : Rn} (h : RunB w b g x) : RnP w b g 0 x := ⟨h.1.cell 0, h.1.cell 1, h.1.cell 2, h.1.cell 3, h.1.cell 4, h.2⟩
theorem RnP.rnA {w w3 : World} {b g o bx : Nat} {x : Rn} (h : RnP w b g o x) (hb : Below w.heap.size w w3) (hc : w3.cell? ⟨bx, 0, none⟩ = some (.pointer (some ⟨g, o, none⟩))) : RnA w3 bx x.time x.fs := by
  have h := h.below hb
  exact ⟨g, o, b, _, _, _, hc, h.c2, h.c4, h.ok.rd⟩
theorem truthO_calls (g o : Nat) (W : World) : Calls Tryz.prog 101 #[.pointer (some ⟨g, o, none⟩)] W fun e w' => e = .returned (.func (.func 153) #[] #[.pointer (some ⟨W.heap.size, 0, none⟩)]) ∧
    w'.cell? ⟨W.heap.size, 0, none⟩ = some (.pointer (some ⟨g, o, none⟩)) ∧ Below W.heap.size W w' := by
  have hS := (Sq.start W).add #[.pointer (some ⟨g, o, none⟩)] 172
  have HF := Lib.hid (And.intro (Blk.cell hS.head 0) hS.below)
  clear hS
  go_enter Tryz.func101, Tryz.ntmps101
  go_wp2_with fail
  go_ret
  exact ⟨rfl, HF.out.1, HF.out.2⟩
theorem hldV_of {s : ByteArray} {x : Rn} (h1 : (parseE numF s).2 = 0) (h2 : runF x = 0) : hldV numF s x = holF (atP x.time x.fs) (parseT numF s).1 := by
  have h : rulE numF s x = 0 := by unfold rulE; rw [if_pos h1, h2]
  unfold hldV
  rw [if_pos h]
set_option maxRecDepth 100000 in
set_option maxHeartbeats 4000000 in
theorem countsI_calls (b b2 : Nat) (A : Option Addr) (n c : Nat) (vs : List Vr) (cat : ByteArray) (g o : Nat) (x : Rn) (w : World) (hr : Vrs w b A n c vs) (hg : RgtV vs) (hx : RnP w b2 g o x) (h0 : runF x = 0) :
    Calls Tryz.prog 99 #[.slice A n c, .pointer (some ⟨g, o, none⟩), .string cat] w (BRet (.bool (cntV vs cat x)) w) := by
  have HI := Lib.hid (ruleAtI_calls b A n c vs cat x.date w hr)
  have hV : cntV vs cat x = (!isE (rulAt vs cat x.date) && hldV numF (rulAt vs cat x.date) x) := rfl
  have hsz := rulAt_size hr.ok cat x.date
  have hrg := rulAt_rgt hg cat x.date
  have c3 := hx.c3
  have HX := Lib.hid hx
  obtain ⟨xd, hxd⟩ : ∃ z, x.date = z := ⟨_, rfl⟩
  rw [hxd] at HI hV hsz hrg c3
  obtain ⟨R, hR⟩ : ∃ z, rulAt vs cat xd = z := ⟨_, rfl⟩
  rw [hR] at HI hV hsz hrg
  clear hR hr hg hx hxd
  cases hE : isE R
  · have h1 := hrg hE
    rw [hE] at HI
    rw [hldV_of h1 h0, hE] at hV
    have HK := Lib.hid ((check_parse numF numF_ok R).2 h1).1
    have HP := Lib.hid (fun W => parse_calls numF R W (by omega) (.inr numF_c))
    obtain ⟨q, hq⟩ : ∃ z, parseE numF R = z := ⟨_, rfl⟩
    obtain ⟨q1, q2⟩ := q
    rw [hq] at h1
    simp only at h1
    subst h1
    have HQ := Lib.hid hq
    obtain ⟨t, ht⟩ : ∃ t, (parseT numF R).1 = t := ⟨_, rfl⟩
    rw [ht] at hV HK
    have HTT := Lib.hid ht
    obtain ⟨V, hVV⟩ : ∃ z, cntV vs cat x = z := ⟨_, rfl⟩
    rw [hVV] at hV ⊢
    have HV : Hid (holF (atP x.time x.fs) t = V) := Lib.hid (by rw [hV]; rfl)
    have HTR := Lib.hid (fun W => truthO_calls g o W)
    have HOL : Hid (∀ w2 w3 bx g1 lo hi, Below w.heap.size w w2 → NodeAt w2 lo hi g1 t → hi ≤ w2.heap.size → Below w2.heap.size w2 w3 → w3.cell? ⟨bx, 0, none⟩ = some (.pointer (some ⟨g, o, none⟩)) →
      Calls Tryz.prog 100 #[.pointer (some ⟨g1, 0, none⟩), .func (.func 153) #[] #[.pointer (some ⟨bx, 0, none⟩)]] w3 (BRet (.bool V) w3)) := Lib.hid (fun w2 w3 bx g1 lo hi hb h2 h3 h4 h5 => by
        rw [← HV.out]
        exact hol_calls _ _ HK.out w3 bx g1 lo hi w3 (h2.keep (fun k _ hk => h4.block k (by omega))) (Nat.le_trans h3 h4.size) ((HX.out.below hb).rnA h4 h5) (Below.refl _ _))
    clear hV hVV ht hq hE hrg h0 HX HV HK
    go_enter Tryz.func99, Tryz.ntmps99
    go_wp2_with fail
    refine HI.out.mono ?_
    rintro e w1 ⟨rfl, hb1⟩
    clear HI c3
    go_wp2_with fail
    refine (HP.out _).mono ?_
    rintro e w2 ⟨v, rfl, hb2, hN⟩
    rw [HQ.out] at hN ⊢
    obtain ⟨g1, rfl, hnode⟩ := hN rfl
    rw [HTT.out] at hnode
    have hb2' := below_call hb1 hb2 (Nat.le_refl _)
    have HH := Lib.hid (fun w3 bx => HOL.out w2 w3 bx g1 _ _ hb2' hnode (Nat.le_refl _))
    have HB2 := Lib.hid hb2'
    clear hN hnode HP HOL hb1 hb2 hb2'
    go_wp2_with fail
    refine (HTR.out _).mono ?_
    rintro e w3 ⟨rfl, hc3, hb3⟩
    have HH3 := Lib.hid (HH.out w3 _ hb3 hc3)
    have HB3 := Lib.hid (below_call HB2.out hb3 (Nat.le_refl _))
    clear hc3 hb3 HH HTR
    go_wp2_with fail
    refine HH3.out.mono ?_
    rintro e w4 ⟨rfl, hb4⟩
    go_wp2_with fail
    go_ret
    exact ⟨rfl, below_call HB3.out hb4 (Nat.le_refl _)⟩
  · rw [hE] at HI
    rw [hE] at hV
    obtain ⟨V, hVV⟩ : ∃ z, cntV vs cat x = z := ⟨_, rfl⟩
    rw [hVV] at hV ⊢
    replace hV : V = false := hV
    subst hV
    clear hVV hE hrg h0 HX
    go_enter Tryz.func99, Tryz.ntmps99
    go_wp2_with fail
    refine HI.out.mono ?_
    rintro e w1 ⟨rfl, hb1⟩
    clear HI c3
    go_wp2_with fail
    go_ret
    exact ⟨rfl, hb1⟩
end Go.Proofs.YthbcogekfdllmaaGreatDoor
/-
  The categories of versions, each once, of which those stay that a run counts for: the program's answer and the reference's are one. No Go text is walked here.
-/
namespace Go.Proofs.YthbcogekfdllmaaGreatDoor
open Go Go.RowKit TxtP

def endT : Int := 345686400000
/-- what is lost: runs that count, but not by the last rule -/
def lostL (vs : List Vr) (xs : List Rn) (c : ByteArray) : List ByteArray :=
  xs.flatMap fun x => if (cntV vs c x && !(!isE (rulAt vs c endT) && hldV numF (rulAt vs c endT) x)) = true then [x.id] else []
/-- is there a version of this category? -/
def hasC (vs : List Vr) (c : ByteArray) : Bool := vs.any fun v => v.c.toList == c.toList
def lostE (vs : List Vr) (xs : List Rn) (c : ByteArray) : Int :=
  if versF vs = 0 then if keyB c.data.toList = true then if runsF xs = 0 then if hasC vs c = true then 0 else 8 else runsF xs else 5 else versF vs
end Go.Proofs.YthbcogekfdllmaaGreatDoor
/-
  slices.ContainsFunc of versions at rule.Lost's closure, by a contract. (Printed by gen_ver5.py.)
-/
namespace Go.Proofs.YthbcogekfdllmaaGreatDoor
open Go Go.RowKit

set_option maxRecDepth 100000 in
theorem hasL1_calls (gb : Nat) (cat : ByteArray) (v : Vr) (w : World) (hg : Blk w gb 9 #[.string cat]) :
    Calls Tryz.prog 96 #[.agg #[.string v.c, .int .i64 v.f, .string v.r], .pointer (some ⟨gb, 0, none⟩)] w (BRet (.bool (v.c.toList == cat.toList)) w) := by
  have hb : Below w.heap.size w (w.alloc (.cells #[.string v.c, .int .i64 v.f, .string v.r] 106)) := (Below.refl _ _).alloc (Nat.le_refl _) _
  have g0 := hg.cell 0
  have gl := hg.lt
  clear hg
  go_enter Tryz.func96, Tryz.ntmps96
  go_wp2_with fail
  go_ret
  exact ⟨rfl, hb⟩
set_option maxRecDepth 100000 in
theorem hasL_calls (b gb : Nat) (cat : ByteArray) (A2 : Option Addr) (m c2 : Nat) (hs : List Vr) (w : World) (hg : Blk w gb 9 #[.string cat]) (hr2 : Rd w b 3 (.slice A2 m c2) m (hs.flatMap vrC)) :
    Calls Tryz.prog 95 #[.slice A2 m c2, .func (.func 96) #[] #[.pointer (some ⟨gb, 0, none⟩)]] w (BRet (.bool (hasC hs cat)) w) := by
  obtain ⟨hl, hnc, hcm, hcells⟩ := hr2.cells vrC_len (by omega)
  unfold maxLen at hcm
  have HB : Hid (hasC hs cat = hs.any (fun x : Vr => x.c.toList == cat.toList)) := rfl
  rw [HB.out]
  obtain ⟨p, hpp⟩ : ∃ p : Vr → Bool, (fun x : Vr => x.c.toList == cat.toList) = p := ⟨_, rfl⟩
  have HCC : Hid (∀ W (x : Vr), Below w.heap.size w W → Calls Tryz.prog 96 #[.agg #[.string x.c, .int .i64 x.f, .string x.r], .pointer (some ⟨gb, 0, none⟩)] W (BRet (.bool (p x)) W)) := fun W x hW => by
    rw [← hpp]
    exact hasL1_calls gb cat x W (hg.below hW)
  have HL := Lib.hid hl
  have HCL := Lib.hid hcells
  rw [hpp]
  have HM := Lib.hid (ixOf_mem p hs)
  clear hcells hl hr2 hg hpp HB
  go_enter Tryz.func95, Tryz.ntmps95
  go_wp2
  go_loopw [8] (fun i wr => ∃ k : Nat, k ≤ m ∧ i = .int .i64 k ∧ Hid (∀ i (_ : i < k) (hi' : i < hs.length), p hs[i] = false) ∧ Below w.heap.size w wr) (fun i _ => m - (intOf i).toNat)
  case atStart => exact ⟨0, Nat.zero_le _, rfl, (fun i hi => absurd hi (by omega)), Below.refl _ _⟩
  case round =>
    obtain ⟨k, hk, rfl, HF, hbr⟩ := hrel
    by_cases hlt : k < m
    · have hkr : k < hs.length := by rw [HL.out]; exact hlt
      obtain ⟨g, o, hA, _, hcs⟩ := HCL.out (by omega)
      subst hA
      have c0 := below_cell hbr (hcs k hkr 0 (by omega))
      have c1 := below_cell hbr (hcs k hkr 1 (by omega))
      have c2 := below_cell hbr (hcs k hkr 2 (by omega))
      obtain ⟨s, hs'⟩ : ∃ s, hs[k] = s := ⟨_, rfl⟩
      rw [hs'] at c0 c1 c2
      replace c0 : wr.cell? ⟨g, o + k * 3, none⟩ = some (.string s.c) := c0
      replace c1 : wr.cell? ⟨g, o + k * 3 + 1, none⟩ = some (.int .i64 s.f) := c1
      replace c2 : wr.cell? ⟨g, o + k * 3 + 2, none⟩ = some (.string s.r) := c2
      have HK := Lib.hid (HCC.out wr s hbr)
      clear hcs
      cases hp : p s
      · rw [hp] at HK
        have HF2 : Hid (∀ i (_ : i < k + 1) (hi' : i < hs.length), p hs[i] = false) := by
          intro i hi hi'
          by_cases hik : i = k
          · subst hik; rw [hs']; exact hp
          · exact HF.out i (by omega) hi'
        clear hp hs'
        go_wp2_with (go_at_call 96; refine HK.out.mono ?_; rintro e w2 ⟨rfl, hb2⟩)
        have hb3 := below_call hbr hb2 (Nat.le_refl _)
        go_roundw
        case rel => exact ⟨k + 1, by omega, by go_num, HF2, hb3⟩
        case measure => simp [intOf]; omega
      · rw [hp] at HK
        have HR : Hid (ixOf p hs = k) := ixOf_at _ hs k hkr (fun i hi => HF.out i hi (by omega)) (by rw [hs']; exact hp)
        have HA : Hid (hs.any p = true) := by
          have := HM.out
          rw [HR.out] at this
          rw [← this]
          exact Lib.hid (decide_eq_true (by omega))
        clear hp hs'
        go_wp2_with (go_at_call 96; refine HK.out.mono ?_; rintro e w2 ⟨rfl, hb2⟩)
        have hb3 := below_call hbr hb2 (Nat.le_refl _)
        go_ret
        exact ⟨ret_bool HA.out.symm, hb3⟩
    · obtain rfl : k = m := by omega
      have HR : Hid (ixOf p hs = -1) := ixOf_no _ hs (fun i hi => HF.out i (by rw [← HL.out]; exact hi) hi)
      have HA : Hid (hs.any p = false) := by
        have := HM.out
        rw [HR.out] at this
        rw [← this]
        exact Lib.hid rfl
      go_wp2
      go_ret
      exact ⟨ret_bool HA.out.symm, hbr⟩
end Go.Proofs.YthbcogekfdllmaaGreatDoor
