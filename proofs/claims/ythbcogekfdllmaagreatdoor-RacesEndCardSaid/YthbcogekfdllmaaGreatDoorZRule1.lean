/-
  The parser of rules: isWordByte, next, take, nest by contracts. (Printed by gen_rule1.py.)
-/
import Derived.Test.YthbcogekfdllmaaGreatDoorZPx
import Derived.Test.YthbcogekfdllmaaGreatDoorZNum2
import Derived.Deep.DeepCutAuto
import Derived.Deep.RegionLaw
import Derived.Deep.CutBlock
namespace Go.Proofs.YthbcogekfdllmaaGreatDoor
open Go Go.RowKit

theorem isWordByte_calls (c : UInt8) (w : World) : Calls Tryz.prog 195 #[.int .u8 c.toNat] w fun e w' => e = .returned (.bool (wordB c)) ∧ w = w' := by
  by_cases k0 : c.toNat = 45
  · have hb : wordB c = true := by unfold wordB; simp; omega
    have t0 : ¬ (97 : Int) ≤ (c.toNat : Int) := by omega
    have t1 : ¬ (48 : Int) ≤ (c.toNat : Int) := by omega
    have t2 : ((c.toNat : Int) == 45) = true := by simp; omega
    rw [hb]
    clear hb k0
    go_enter Tryz.func195, Tryz.ntmps195
    go_wp2_with fail
    go_ret
    exact ⟨rfl, rfl⟩
  by_cases k1 : c.toNat = 46
  · have hb : wordB c = true := by unfold wordB; simp; omega
    have t0 : ¬ (97 : Int) ≤ (c.toNat : Int) := by omega
    have t1 : ¬ (48 : Int) ≤ (c.toNat : Int) := by omega
    have t2 : ((c.toNat : Int) == 45) = false := by simp; omega
    have t3 : ((c.toNat : Int) == 95) = false := by simp; omega
    have t4 : ((c.toNat : Int) == 46) = true := by simp; omega
    rw [hb]
    clear hb k0 k1
    go_enter Tryz.func195, Tryz.ntmps195
    go_wp2_with fail
    go_ret
    exact ⟨rfl, rfl⟩
  by_cases k2 : c.toNat < 48
  · have hb : wordB c = false := by unfold wordB; simp; omega
    have t0 : ¬ (97 : Int) ≤ (c.toNat : Int) := by omega
    have t1 : ¬ (48 : Int) ≤ (c.toNat : Int) := by omega
    have t2 : ((c.toNat : Int) == 45) = false := by simp; omega
    have t3 : ((c.toNat : Int) == 95) = false := by simp; omega
    have t4 : ((c.toNat : Int) == 46) = false := by simp; omega
    rw [hb]
    clear hb k0 k1 k2
    go_enter Tryz.func195, Tryz.ntmps195
    go_wp2_with fail
    go_ret
    exact ⟨rfl, rfl⟩
  by_cases k3 : c.toNat ≤ 57
  · have hb : wordB c = true := by unfold wordB; simp; omega
    have t0 : ¬ (97 : Int) ≤ (c.toNat : Int) := by omega
    have t1 : (48 : Int) ≤ (c.toNat : Int) := by omega
    have t2 : (c.toNat : Int) ≤ 57 := by omega
    rw [hb]
    clear hb k0 k1 k2 k3
    go_enter Tryz.func195, Tryz.ntmps195
    go_wp2_with fail
    go_ret
    exact ⟨rfl, rfl⟩
  by_cases k4 : c.toNat = 95
  · have hb : wordB c = true := by unfold wordB; simp; omega
    have t0 : ¬ (97 : Int) ≤ (c.toNat : Int) := by omega
    have t1 : (48 : Int) ≤ (c.toNat : Int) := by omega
    have t2 : ¬ (c.toNat : Int) ≤ 57 := by omega
    have t3 : ((c.toNat : Int) == 45) = false := by simp; omega
    have t4 : ((c.toNat : Int) == 95) = true := by simp; omega
    rw [hb]
    clear hb k0 k1 k2 k3 k4
    go_enter Tryz.func195, Tryz.ntmps195
    go_wp2_with fail
    go_ret
    exact ⟨rfl, rfl⟩
  by_cases k5 : c.toNat < 97
  · have hb : wordB c = false := by unfold wordB; simp; omega
    have t0 : ¬ (97 : Int) ≤ (c.toNat : Int) := by omega
    have t1 : (48 : Int) ≤ (c.toNat : Int) := by omega
    have t2 : ¬ (c.toNat : Int) ≤ 57 := by omega
    have t3 : ((c.toNat : Int) == 45) = false := by simp; omega
    have t4 : ((c.toNat : Int) == 95) = false := by simp; omega
    have t5 : ((c.toNat : Int) == 46) = false := by simp; omega
    rw [hb]
    clear hb k0 k1 k2 k3 k4 k5
    go_enter Tryz.func195, Tryz.ntmps195
    go_wp2_with fail
    go_ret
    exact ⟨rfl, rfl⟩
  by_cases k6 : c.toNat ≤ 122
  · have hb : wordB c = true := by unfold wordB; simp; omega
    have t0 : (97 : Int) ≤ (c.toNat : Int) := by omega
    have t1 : (c.toNat : Int) ≤ 122 := by omega
    rw [hb]
    clear hb k0 k1 k2 k3 k4 k5 k6
    go_enter Tryz.func195, Tryz.ntmps195
    go_wp2_with fail
    go_ret
    exact ⟨rfl, rfl⟩
  have hb : wordB c = false := by unfold wordB; simp; omega
  have t0 : (97 : Int) ≤ (c.toNat : Int) := by omega
  have t1 : ¬ (c.toNat : Int) ≤ 122 := by omega
  have t2 : (48 : Int) ≤ (c.toNat : Int) := by omega
  have t3 : ¬ (c.toNat : Int) ≤ 57 := by omega
  have t4 : ((c.toNat : Int) == 45) = false := by simp; omega
  have t5 : ((c.toNat : Int) == 95) = false := by simp; omega
  have t6 : ((c.toNat : Int) == 46) = false := by simp; omega
  rw [hb]
  clear hb k0 k1 k2 k3 k4 k5 k6
  go_enter Tryz.func195, Tryz.ntmps195
  go_wp2_with fail
  go_ret
  exact ⟨rfl, rfl⟩

theorem marks_eq (c : UInt8) : ([40, 41, 61, 60, 62] : List UInt8).contains c = markB c := by
  have := bytes_all (fun c => ([40, 41, 61, 60, 62] : List UInt8).contains c == markB c) (by decide +kernel) c
  simpa using this

theorem PAt.cells {W : World} {b : Nat} {s : ByteArray} {t : PSt} (h : PAt W b s t) :
    W.cell? ⟨b, 0, none⟩ = some (.string s) ∧ W.cell? ⟨b, 1, none⟩ = some (.int .i64 t.at_) ∧ W.cell? ⟨b, 2, none⟩ = some (.string t.tok) ∧ W.cell? ⟨b, 3, none⟩ = some (.int .i64 t.deep) ∧ W.cell? ⟨b, 4, none⟩ = some (.bool t.bad) ∧
    W.frozen? ⟨b, 1, none⟩ = false ∧ W.frozen? ⟨b, 2, none⟩ = false ∧ W.frozen? ⟨b, 3, none⟩ = false ∧ W.frozen? ⟨b, 4, none⟩ = false :=
  ⟨Blk.cell h 0, Blk.cell h 1, Blk.cell h 2, Blk.cell h 3, Blk.cell h 4, Blk.frozen h 1, Blk.frozen h 2, Blk.frozen h 3, Blk.frozen h 4⟩
theorem PAt.drewN {W : World} {b : Nat} {s : ByteArray} {t : PSt} (h : PAt W b s t) (n : Nat) : PAt (W.drewN n) b s t := h
theorem PAt.setAt {W : World} {b : Nat} {s : ByteArray} {t : PSt} (h : PAt W b s t) (k : Nat) : PAt (W.setCell ⟨b, 1, none⟩ (.int .i64 k)) b s { t with at_ := k } := Blk.set_ h 1 _
theorem PAt.setTok {W : World} {b : Nat} {s : ByteArray} {t : PSt} (h : PAt W b s t) (x : ByteArray) : PAt (W.setCell ⟨b, 2, none⟩ (.string x)) b s { t with tok := x } := Blk.set_ h 2 _
theorem PAt.setDeep {W : World} {b : Nat} {s : ByteArray} {t : PSt} (h : PAt W b s t) (k : Int) : PAt (W.setCell ⟨b, 3, none⟩ (.int .i64 k)) b s { t with deep := k } := Blk.set_ h 3 _
theorem PAt.setBad {W : World} {b : Nat} {s : ByteArray} {t : PSt} (h : PAt W b s t) (k : Bool) : PAt (W.setCell ⟨b, 4, none⟩ (.bool k)) b s { t with bad := k } := Blk.set_ h 4 _
/-- the parser stands at t' ; only its block has turned -/
def ParS (b : Nat) (s : ByteArray) (t' : PSt) (v : Value) (w : World) (e : Ending) (w' : World) : Prop := e = .returned v ∧ PAt w' b s t' ∧ Bx w.heap.size b w w'
def atCell (W : World) (b : Nat) : Nat := (intOf ((W.cell? ⟨b, 1, none⟩).getD undef)).toNat
theorem PAt.at_cell {W : World} {b : Nat} {s : ByteArray} {t : PSt} (h : PAt W b s t) : atCell W b = t.at_ := by
  unfold atCell
  rw [h.cells.2.1]
  simp [intOf]

set_option maxRecDepth 100000 in
set_option maxHeartbeats 1000000 in
theorem next_calls_ (b : Nat) (s : ByteArray) (t : PSt) (w : World) (h : PAt w b s t) (hok : POk s t) (hs : s.size ≤ 100000) :
    Calls Tryz.prog 151 #[.pointer (some ⟨b, 0, none⟩)] w (ParS b s (nextF s t) (.tuple #[]) w) := by
  obtain ⟨c0, c1, c2, c3, c4, f1, f2, f3, f4⟩ := h.cells
  have ha := hok.at_
  obtain ⟨E, hE⟩ : ∃ E, spanF blankB s (t.at_ + t.tok.size) = E := ⟨_, rfl⟩
  have hEs : E ≤ s.size := by rw [← hE]; exact span_le _ _ _ ha
  have HE := Lib.hid hE
  have P1 : PAt (w.setCell ⟨b, 1, none⟩ (.int .i64 ((t.at_ : Int) + t.tok.size))).drew b s { t with at_ := t.at_ + t.tok.size } := by
    have := h.setAt (t.at_ + t.tok.size)
    rw [Int.natCast_add] at this
    exact this
  have B1 : Bx w.heap.size b w (w.setCell ⟨b, 1, none⟩ (.int .i64 ((t.at_ : Int) + t.tok.size))).drew := ((Bx.refl _ _ _).setCell (p := ⟨b, 1, none⟩) (.inl rfl) _).drew
  have HR : Hid (nextF s t = { t with at_ := E, tok := s.extract E (tokE s E) }) := by unfold nextF; rw [hE]; exact Lib.hid rfl
  clear hE
  go_enter Tryz.func151, Tryz.ntmps151
  go_wp2_with fail
  go_region
  go_upto_block 0 with (fail)
  clear c0 c1 c2 c3 c4 f1 f2 f3 f4 h
  go_cut [] (fun W => PAt W b s { t with at_ := E } ∧ Bx w.heap.size b w W)
  case first =>
    go_wp2_with fail
    go_loopw [] (fun wr => ∃ k : Nat, k ≤ s.size ∧ Hid (spanF blankB s k = E) ∧ PAt wr b s { t with at_ := k } ∧ Bx w.heap.size b w wr) (fun wr => s.size - atCell wr b)
    case atStart => exact ⟨_, ha, HE, P1, B1⟩
    case round =>
      clear P1 B1
      obtain ⟨k, hk, HK, P, B⟩ := hrel
      obtain ⟨c0, c1, c2, c3, c4, f1, f2, f3, f4⟩ := P.cells
      simp only at c0 c1 c2 c3 c4
      have m0 : atCell wr b = k := P.at_cell
      have HM := Lib.hid m0
      clear m0
      by_cases hlt : k < s.size
      · by_cases hbl : s[k].toNat = 32
        · have HK2 : Hid (spanF blankB s (k + 1) = E) := by rw [← span_yes blankB s k hlt (by unfold blankB; simp [hbl])]; exact HK
          have t0 : ((s[k].toNat : Int) == 32) = true := by simp; omega
          clear hbl
          have P2 : PAt (wr.setCell ⟨b, 1, none⟩ (.int .i64 ((k : Int) + 1))) b s { t with at_ := k + 1 } := P.setAt (k + 1)
          go_wp2_with fail
          go_quiet (fail)
          go_wp2_with fail
          go_roundw
          case rel => exact ⟨k + 1, hlt, HK2, P2, (B.drewN _).setCell (p := ⟨b, 1, none⟩) (.inl rfl) _⟩
          case measure =>
            have m1 : atCell (wr.setCell ⟨b, 1, none⟩ (.int .i64 ((k : Int) + 1))) b = k + 1 := P2.at_cell
            show s.size - atCell (wr.setCell ⟨b, 1, none⟩ (.int .i64 ((k : Int) + 1))) b < s.size - atCell wr b
            rw [m1, HM.out]
            omega
        · have hkE : k = E := by rw [← HK.out, span_no blankB s k hlt (by unfold blankB; simp; exact hbl)]
          subst hkE
          have t0 : ((s[k].toNat : Int) == 32) = false := by simp; omega
          clear hbl
          go_wp2_with fail
          go_quiet (fail)
          go_wp2_with fail
          go_meet
          exact ⟨P, B.drewN _⟩
      · have hkE : k = E := by rw [← HK.out, span_end blankB s k (by omega)]
        subst hkE
        go_wp2_with fail
        go_quiet (fail)
        go_wp2_with fail
        go_meet
        exact ⟨P, B.drewN _⟩
  case rest =>
    obtain ⟨P, B⟩ := hcut
    clear P1 B1
    obtain ⟨c0, c1, c2, c3, c4, f1, f2, f3, f4⟩ := P.cells
    simp only at c0 c1 c2 c3 c4
    obtain ⟨D, hD⟩ : ∃ D, spanF wordB s E = D := ⟨_, rfl⟩
    have hDs : D ≤ s.size := by rw [← hD]; exact span_le _ _ _ hEs
    have hED : E ≤ D := by rw [← hD]; exact span_ge _ _ _
    have HD := Lib.hid hD
    have HF : Hid (tokE s E = if D = E then (if markAt s E = true then E + 1 else E) else D) := by unfold tokE; rw [hD]; exact Lib.hid rfl
    clear hD
    go_upto_block 2 with (fail)
    go_cut [2] (fun s2 W => s2 = .int .i64 D ∧ W = wc)
    case first =>
      go_wp2_with fail
      go_loop [2] (fun s2 => ∃ k : Nat, k ≤ s.size ∧ s2 = .int .i64 k ∧ Hid (spanF wordB s k = D)) (fun s2 => s.size - (intOf s2).toNat)
      case atStart => exact ⟨E, hEs, rfl, HD⟩
      case round =>
        obtain ⟨k, hk, rfl, HK⟩ := hrel
        by_cases hlt : k < s.size
        · have HW := Lib.hid (isWordByte_calls s[k] wc)
          cases hw : wordB s[k]
          · have hkD : k = D := by rw [← HK.out, span_no wordB s k hlt hw]
            subst hkD
            rw [hw] at HW
            clear hw
            go_wp2_with (go_at_call 195; refine HW.out.mono ?_; rintro e w2 ⟨rfl, rfl⟩)
            go_meet
            exact ⟨rfl, rfl⟩
          · have HK2 : Hid (spanF wordB s (k + 1) = D) := by rw [← span_yes wordB s k hlt hw]; exact HK
            rw [hw] at HW
            clear hw
            go_wp2_with (go_at_call 195; refine HW.out.mono ?_; rintro e w2 ⟨rfl, rfl⟩)
            go_round
            case rel => exact ⟨k + 1, hlt, by go_num, HK2⟩
            case measure => simp [intOf]; omega
        · have hkD : k = D := by rw [← HK.out, span_end wordB s k (by omega)]
          subst hkD
          go_wp2_with fail
          go_meet
          exact ⟨rfl, rfl⟩
    case rest =>
      obtain ⟨rfl, rfl⟩ := hcut
      obtain ⟨F, hF⟩ : ∃ F, tokE s E = F := ⟨_, rfl⟩
      have hEF : E ≤ F := by rw [← hF]; exact tokE_ge _ _
      have hFs : F ≤ s.size := by rw [← hF]; exact tokE_le _ _ hEs
      have HFF := Lib.hid hF
      obtain ⟨B0, hB0⟩ : ∃ B0, (decide (D = E) && markAt s E) = B0 := ⟨_, rfl⟩
      have HB := Lib.hid hB0
      have HG : Hid (F = if B0 = true then E + 1 else D) := by
        rw [← hF, HF.out, ← hB0]
        by_cases h1 : D = E
        · subst h1
          cases markAt s D <;> exact Lib.hid (by simp)
        · exact Lib.hid (by simp [h1])
      clear hF hB0
      have HDE : Hid (B0 = true → D = E) := fun h => by rw [← HB.out] at h; simp at h; exact h.1
      go_upto_region 6 with (fail)
      go_cut [90] (fun s90 W => s90 = .bool B0 ∧ W = wc)
      case first =>
        clear hEF hFs
        by_cases hDE : D = E
        · subst hDE
          clear hED
          by_cases hlt : D < s.size
          · have hc := Lib.contains_iff_indexByte [40, 41, 61, 60, 62] s[D]
            rw [marks_eq, ← markAt_in s D hlt] at hc
            have hc' := fun W => indexByte_calls ⟨#[40, 41, 61, 60, 62]⟩ (s[D].toNat : Int) W
            rw [byte_back] at hc'
            obtain ⟨z, hz⟩ : ∃ z, Lib.indexByte [40, 41, 61, 60, 62] s[D] = z := ⟨_, rfl⟩
            have hc2 : ∀ W, Calls Tryz.prog 196 #[.string ⟨#[40, 41, 61, 60, 62]⟩, .int .u8 s[D].toNat] W fun e w' => e = .returned (.int .i64 z) ∧ W = w' := fun W => by rw [← hz]; exact hc' W
            have HC := Lib.hid hc2
            rw [hz] at hc
            cases hm : markAt s D
            · rw [hm] at hc
              have hz0 : z < 0 := by have := of_decide_eq_false hc.symm; omega
              have HB2 : Hid (B0 = false) := by rw [← HB.out, hm]; exact Lib.hid (by simp)
              clear hc hm hc' hc2 hz
              go_wp2_with (go_at_call 196; refine (HC.out _).mono ?_; rintro e w2 ⟨rfl, rfl⟩)
              go_meet
              exact ⟨by (rw [HB2.out]) <;> (simp <;> omega), rfl⟩
            · rw [hm] at hc
              have hz0 : 0 ≤ z := of_decide_eq_true hc.symm
              have HB2 : Hid (B0 = true) := by rw [← HB.out, hm]; exact Lib.hid (by simp)
              clear hc hm hc' hc2 hz
              go_wp2_with (go_at_call 196; refine (HC.out _).mono ?_; rintro e w2 ⟨rfl, rfl⟩)
              go_meet
              exact ⟨by (rw [HB2.out]) <;> (simp <;> omega), rfl⟩
          · have HB2 : Hid (B0 = false) := by rw [← HB.out, markAt_out s D (by omega)]; exact Lib.hid (by simp)
            go_wp2_with fail
            go_meet
            exact ⟨by rw [HB2.out], rfl⟩
        · have HB2 : Hid (B0 = false) := by rw [← HB.out]; exact Lib.hid (by simp [hDE])
          have t0 : ((D : Int) == (E : Int)) = false := by simp; omega
          go_wp2_with fail
          go_meet
          exact ⟨by rw [HB2.out], rfl⟩
      case rest =>
        obtain ⟨rfl, rfl⟩ := hcut
        clear HB
        cases B0
        · obtain rfl : F = D := HG.out
          go_wp2_with fail
          go_region
          go_wp2_with fail
          go_end0
          refine ⟨rfl, ?_, ?_⟩
          · rw [HR.out, HFF.out]
            exact P.setTok _
          · exact (B.setCell (p := ⟨b, 2, none⟩) (.inl rfl) _).drew
        · obtain rfl : F = E + 1 := HG.out
          obtain rfl : D = E := HDE.out rfl
          go_wp2_with fail
          go_region
          go_wp2_with fail
          go_end0
          refine ⟨rfl, ?_, ?_⟩
          · rw [HR.out, HFF.out]
            exact P.setTok _
          · exact (B.setCell (p := ⟨b, 2, none⟩) (.inl rfl) _).drew
end Go.Proofs.YthbcogekfdllmaaGreatDoor
