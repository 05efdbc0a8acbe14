/-
  The reference's attempt in memory; phase and loads by contracts. (Printed by gen_prs9.py.)
-/
import Derived.Test.YtedfieopmjpibaaDoorZPrs8
namespace Go.Proofs.YtedfieopmjpibaaDoor
open Go Go.RowKit
attribute [local go_sem ↓] Go.wp_at_zero Go.wp_at_succ

/-- the cells of an attempt -/
def attC (x : Att) (A1 : Option Addr) (c1 : Nat) (A2 : Option Addr) (c2 : Nat) : Array Value := #[.int .i64 x.start, .slice A1 x.ended.length c1, .slice A2 x.breaks.length c2]
/-- an attempt that can be read; b: a block that is none of its own -/
structure AttAt (W : World) (b g : Nat) (x : Att) (A1 : Option Addr) (c1 : Nat) (A2 : Option Addr) (c2 : Nat) : Prop where
  blk : Blk W g 82 (attC x A1 c1 A2 c2)
  ended : Rd W b 2 (.slice A1 x.ended.length c1) x.ended.length (x.ended.flatMap pzC)
  breaks : Rd W b 2 (.slice A2 x.breaks.length c2) x.breaks.length (x.breaks.flatMap pzC)
section
variable {W W' : World} {b g : Nat} {x : Att} {A1 A2 : Option Addr} {c1 c2 : Nat}
theorem AttAt.below (h : AttAt W b g x A1 c1 A2 c2) (hb : Below W.heap.size W W') : AttAt W' b g x A1 c1 A2 c2 := ⟨h.blk.below hb, h.ended.below hb, h.breaks.below hb⟩
theorem AttAt.cells (h : AttAt W b g x A1 c1 A2 c2) : W.cell? ⟨g, 0, none⟩ = some (.int .i64 x.start) ∧ W.cell? ⟨g, 1, none⟩ = some (.slice A1 x.ended.length c1) ∧ W.cell? ⟨g, 2, none⟩ = some (.slice A2 x.breaks.length c2) :=
  ⟨h.blk.cell 0, h.blk.cell 1, h.blk.cell 2⟩
end
/-- the attempt's value, and what it holds of memory -/
def attV (a : Option Att) (g : Nat) : Value := match a with
  | none => .pointer none
  | some _ => .pointer (some ⟨g, 0, none⟩)
def attL (base : Nat) (a : Option Att) (g : Nat) (A1 : Option Addr) (c1 : Nat) (A2 : Option Addr) (c2 : Nat) (l : List Rsc) : List Rsc := match a with
  | none => l
  | some x => rBlk g 82 (attC x A1 c1 A2 c2) :: rOwn base 61 2 (.slice A1 x.ended.length c1) x.ended.length (x.ended.flatMap pzC) :: rOwn base 61 2 (.slice A2 x.breaks.length c2) x.breaks.length (x.breaks.flatMap pzC) :: l

theorem runsTo (bs : List Pz) (k : Nat) (hk : k < bs.length) : runsQ (bs.take (k + 1)) = runS (runsQ (bs.take k)) bs[k] := by
  rw [List.take_succ_eq_append_getElem hk, runs_snoc]
theorem loadsTo (bs : List Pz) (k : Nat) (hk : k < bs.length) : loadsQ (bs.take (k + 1)) = loadS (loadsQ (bs.take k)) bs[k] := by
  rw [List.take_succ_eq_append_getElem hk, loads_snoc]
def phV (r : Bool) : Int := if r = true then 1 else 2

theorem phase0_calls (n : Nat) (w : World) : Calls Tryd.prog 44 #[.pointer none, .int .i64 n] w (BRet (.int .i64 0) w) := by
  go_enter Tryd.func44, Tryd.ntmps44
  go_wp2_with fail
  go_ret
  exact ⟨rfl, Below.refl _ _⟩
set_option maxRecDepth 100000 in
set_option maxHeartbeats 1000000 in
theorem phase1_calls (b g n : Nat) (x : Att) (A1 : Option Addr) (c1 : Nat) (A2 : Option Addr) (c2 : Nat) (w : World) (h : AttAt w b g x A1 c1 A2 c2) :
    Calls Tryd.prog 44 #[.pointer (some ⟨g, 0, none⟩), .int .i64 n] w (BRet (.int .i64 (phaseQ n (some x))) w) := by
  obtain ⟨k0, k1, k2⟩ := h.cells
  obtain ⟨m, hm⟩ : ∃ m, x.ended.length = m := ⟨_, rfl⟩
  obtain ⟨q, hq⟩ : ∃ q, x.breaks.length = q := ⟨_, rfl⟩
  rw [hm] at k1
  rw [hq] at k2
  by_cases hmn : m = n
  · have HP : Hid (phaseQ n (some x) = 3) := by unfold phaseQ; simp only; rw [hm, if_pos hmn]; exact Lib.hid rfl
    rw [HP.out]
    subst hmn
    have hqq : ((m : Int) == (m : Int)) = true := by simp
    clear hm hq
    go_enter Tryd.func44, Tryd.ntmps44
    go_wp2_with fail
    go_ret
    exact ⟨rfl, Below.refl _ _⟩
  · have HP : Hid (phaseQ n (some x) = phV (runsQ x.breaks)) := by unfold phaseQ phV; simp only; rw [hm, if_neg hmn]; exact Lib.hid rfl
    rw [HP.out]
    have hqq : ((m : Int) == (n : Int)) = false := by simp; omega
    have hrd := h.breaks
    rw [hq] at hrd
    obtain ⟨hl, hnc, hcm, hcells⟩ := hrd.cells pzC_len (by omega)
    unfold maxLen at hcm
    have HL := Lib.hid hl
    have HC := Lib.hid hcells
    have h00 : Hid ((1 : Int) = phV (runsQ (x.breaks.take 0))) := rfl
    obtain ⟨bs, hbs⟩ : ∃ bs, x.breaks = bs := ⟨_, rfl⟩
    rw [hbs] at HL HC h00 ⊢
    clear h hm hq hl hcells hrd hbs hmn
    go_enter Tryd.func44, Tryd.ntmps44
    go_wp2_with fail
    go_loopw [5, 22] (fun p i wr => ∃ (k : Nat) (v : Int), k ≤ q ∧ i = .int .i64 k ∧ p = .int .i64 v ∧ Hid (v = phV (runsQ (bs.take k))) ∧ Below w.heap.size w wr) (fun _ i _ => q - (intOf i).toNat)
    case atStart => exact ⟨0, 1, Nat.zero_le _, rfl, rfl, h00, Below.refl _ _⟩
    case round =>
      clear h00
      obtain ⟨k, v, hk, rfl, rfl, HV, hb⟩ := hrel
      by_cases hlt : k < q
      · have hkr : k < bs.length := by rw [HL.out]; exact hlt
        obtain ⟨gg, o, hA, _, hcs⟩ := HC.out (by omega)
        subst hA
        have hst := runsTo bs k hkr
        have x0 := below_cell hb (hcs k hkr 0 (by omega))
        have x1 := below_cell hb (hcs k hkr 1 (by omega))
        obtain ⟨p, hp⟩ : ∃ p, bs[k] = p := ⟨_, rfl⟩
        rw [hp] at hst x0 x1
        obtain ⟨t, kd⟩ := p
        replace x0 : wr.cell? ⟨gg, o + k * 2, none⟩ = some (.int .i64 t) := x0
        replace x1 : wr.cell? ⟨gg, o + k * 2 + 1, none⟩ = some (.int .i64 kd) := x1
        have hb2 := hb.alloc hb.size (.cells #[.int .i64 t, .int .i64 kd] 61)
        clear hcs hp
        by_cases h5 : kd = 5
        · subst h5
          have HN : Hid ((2 : Int) = phV (runsQ (bs.take (k + 1)))) := by rw [hst]; exact Lib.hid rfl
          clear hst
          go_wp2_with fail
          go_roundw
          case rel => exact ⟨k + 1, 2, by omega, by go_num, rfl, HN, hb2⟩
          case measure => simp [intOf]; omega
        · have e5 : (kd == 5) = false := by simpa using h5
          by_cases h6 : kd = 6
          · subst h6
            have HN : Hid ((1 : Int) = phV (runsQ (bs.take (k + 1)))) := by rw [hst]; exact Lib.hid rfl
            clear hst h5
            go_wp2_with fail
            go_roundw
            case rel => exact ⟨k + 1, 1, by omega, by go_num, rfl, HN, hb2⟩
            case measure => simp [intOf]; omega
          · have e6 : (kd == 6) = false := by simpa using h6
            have HN : Hid (v = phV (runsQ (bs.take (k + 1)))) := by
              rw [hst]
              unfold runS
              rw [if_neg h5, if_neg h6]
              exact HV
            clear hst h5 h6
            go_wp2_with fail
            go_roundw
            case rel => exact ⟨k + 1, v, by omega, by go_num, rfl, HN, hb2⟩
            case measure => simp [intOf]; omega
      · obtain rfl : k = q := by omega
        have HT : Hid (bs.take k = bs) := List.take_of_length_le (by rw [HL.out]; exact Nat.le_refl _)
        go_wp2_with fail
        go_ret
        exact ⟨by rw [HV.out, HT.out]; rfl, hb⟩
theorem phase_calls (b g n : Nat) (a : Option Att) (A1 : Option Addr) (c1 : Nat) (A2 : Option Addr) (c2 : Nat) (w : World) (h : ∀ x, a = some x → AttAt w b g x A1 c1 A2 c2) :
    Calls Tryd.prog 44 #[attV a g, .int .i64 n] w (BRet (.int .i64 (phaseQ n a)) w) := by
  cases a with
  | none => exact phase0_calls n w
  | some x => exact phase1_calls b g n x A1 c1 A2 c2 w (h x rfl)

set_option maxRecDepth 100000 in
set_option maxHeartbeats 1000000 in
theorem loads_calls (b g : Nat) (x : Att) (A1 : Option Addr) (c1 : Nat) (A2 : Option Addr) (c2 : Nat) (w : World) (h : AttAt w b g x A1 c1 A2 c2) :
    Calls Tryd.prog 45 #[.pointer (some ⟨g, 0, none⟩)] w (BRet (.bool (loadsQ x.breaks)) w) := by
  obtain ⟨k0, k1, k2⟩ := h.cells
  obtain ⟨q, hq⟩ : ∃ q, x.breaks.length = q := ⟨_, rfl⟩
  have hrd := h.breaks
  rw [hq] at hrd k2
  obtain ⟨hl, hnc, hcm, hcells⟩ := hrd.cells pzC_len (by omega)
  unfold maxLen at hcm
  have HL := Lib.hid hl
  have HC := Lib.hid hcells
  have h00 : Hid (false = loadsQ (x.breaks.take 0)) := rfl
  obtain ⟨bs, hbs⟩ : ∃ bs, x.breaks = bs := ⟨_, rfl⟩
  rw [hbs] at HL HC h00 ⊢
  clear h hq hl hcells hrd hbs
  go_enter Tryd.func45, Tryd.ntmps45
  go_wp2_with fail
  go_loopw [3, 11] (fun p i wr => ∃ (k : Nat) (v : Bool), k ≤ q ∧ i = .int .i64 k ∧ p = .bool v ∧ Hid (v = loadsQ (bs.take k)) ∧ Below w.heap.size w wr) (fun _ i _ => q - (intOf i).toNat)
  case atStart => exact ⟨0, false, Nat.zero_le _, rfl, rfl, h00, Below.refl _ _⟩
  case round =>
    clear h00
    obtain ⟨k, v, hk, rfl, rfl, HV, hb⟩ := hrel
    by_cases hlt : k < q
    · have hkr : k < bs.length := by rw [HL.out]; exact hlt
      obtain ⟨gg, o, hA, _, hcs⟩ := HC.out (by omega)
      subst hA
      have hst := loadsTo bs k hkr
      have x0 := below_cell hb (hcs k hkr 0 (by omega))
      have x1 := below_cell hb (hcs k hkr 1 (by omega))
      obtain ⟨p, hp⟩ : ∃ p, bs[k] = p := ⟨_, rfl⟩
      rw [hp] at hst x0 x1
      obtain ⟨t, kd⟩ := p
      replace x0 : wr.cell? ⟨gg, o + k * 2, none⟩ = some (.int .i64 t) := x0
      replace x1 : wr.cell? ⟨gg, o + k * 2 + 1, none⟩ = some (.int .i64 kd) := x1
      have hb2 := hb.alloc hb.size (.cells #[.int .i64 t, .int .i64 kd] 61)
      clear hcs hp
      by_cases h7 : kd = 7
      · subst h7
        have HN : Hid (true = loadsQ (bs.take (k + 1))) := by rw [hst]; exact Lib.hid rfl
        clear hst
        go_wp2_with fail
        go_roundw
        case rel => exact ⟨k + 1, true, by omega, by go_num, rfl, HN, hb2⟩
        case measure => simp [intOf]; omega
      · have e7 : (kd == 7) = false := by simpa using h7
        by_cases h8 : kd = 8
        · subst h8
          have HN : Hid (false = loadsQ (bs.take (k + 1))) := by rw [hst]; exact Lib.hid rfl
          clear hst h7
          go_wp2_with fail
          go_roundw
          case rel => exact ⟨k + 1, false, by omega, by go_num, rfl, HN, hb2⟩
          case measure => simp [intOf]; omega
        · have e8 : (kd == 8) = false := by simpa using h8
          have HN : Hid (v = loadsQ (bs.take (k + 1))) := by
            rw [hst]
            unfold loadS
            rw [if_neg h7, if_neg h8]
            exact HV
          clear hst h7 h8
          go_wp2_with fail
          go_roundw
          case rel => exact ⟨k + 1, v, by omega, by go_num, rfl, HN, hb2⟩
          case measure => simp [intOf]; omega
    · obtain rfl : k = q := by omega
      have HT : Hid (bs.take k = bs) := List.take_of_length_le (by rw [HL.out]; exact Nat.le_refl _)
      go_wp2_with fail
      go_ret
      exact ⟨by rw [HV.out, HT.out]; rfl, hb⟩
end Go.Proofs.YtedfieopmjpibaaDoor
