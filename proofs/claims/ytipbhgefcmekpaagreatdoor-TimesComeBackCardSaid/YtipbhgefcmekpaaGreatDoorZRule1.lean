/-
  The parser of rules: isWordByte, next, take, nest by contracts. (Printed by gen_rule1.py.)
-/
import Derived.Test.YtipbhgefcmekpaaGreatDoorZRulPure
import Derived.Test.YtipbhgefcmekpaaGreatDoorZKey
import Derived.Deep.DeepCutAuto
import Derived.Deep.RegionLaw
import Derived.Deep.CutBlock
import Derived.Test.YtipbhgefcmekpaaGreatDoorZSlot1
namespace Go.Proofs.YtipbhgefcmekpaaGreatDoor
open Go Go.RowKit

theorem isWordByte_calls (c : UInt8) (w : World) : Calls Tryz.prog 87 #[.int .u8 c.toNat] w fun e w' => e = .returned (.bool (wordB c)) ∧ w = w' := by
  by_cases k0 : c.toNat = 45
  · have hb : wordB c = true := by unfold wordB; simp; omega
    have t0 : ¬ (97 : Int) ≤ (c.toNat : Int) := by omega
    have t1 : ¬ (48 : Int) ≤ (c.toNat : Int) := by omega
    have t2 : ((c.toNat : Int) == 45) = true := by simp; omega
    rw [hb]
    clear hb k0
    go_enter Tryz.func87, Tryz.ntmps87
    go_wp2_with fail
    go_ret
    exact ⟨rfl, rfl⟩
  by_cases k1 : c.toNat = 46
  · have hb : wordB c = true := by unfold wordB; simp; omega
    have t0 : ¬ (97 : Int) ≤ (c.toNat : Int) := by omega
    have t1 : ¬ (48 : Int) ≤ (c.toNat : Int) := by omega
    have t2 : ((c.toNat : Int) == 45) = false := by simp; omega
    have t3 : ((c.toNat : Int) == 95) = false := by simp; omega
    have t4 : ((c.toNat : Int) == 46) = true := by simp; omega
    rw [hb]
    clear hb k0 k1
    go_enter Tryz.func87, Tryz.ntmps87
    go_wp2_with fail
    go_ret
    exact ⟨rfl, rfl⟩
  by_cases k2 : c.toNat < 48
  · have hb : wordB c = false := by unfold wordB; simp; omega
    have t0 : ¬ (97 : Int) ≤ (c.toNat : Int) := by omega
    have t1 : ¬ (48 : Int) ≤ (c.toNat : Int) := by omega
    have t2 : ((c.toNat : Int) == 45) = false := by simp; omega
    have t3 : ((c.toNat : Int) == 95) = false := by simp; omega
    have t4 : ((c.toNat : Int) == 46) = false := by simp; omega
    rw [hb]
    clear hb k0 k1 k2
    go_enter Tryz.func87, Tryz.ntmps87
    go_wp2_with fail
    go_ret
    exact ⟨rfl, rfl⟩
  by_cases k3 : c.toNat ≤ 57
  · have hb : wordB c = true := by unfold wordB; simp; omega
    have t0 : ¬ (97 : Int) ≤ (c.toNat : Int) := by omega
    have t1 : (48 : Int) ≤ (c.toNat : Int) := by omega
    have t2 : (c.toNat : Int) ≤ 57 := by omega
    rw [hb]
    clear hb k0 k1 k2 k3
    go_enter Tryz.func87, Tryz.ntmps87
    go_wp2_with fail
    go_ret
    exact ⟨rfl, rfl⟩
  by_cases k4 : c.toNat = 95
  · have hb : wordB c = true := by unfold wordB; simp; omega
    have t0 : ¬ (97 : Int) ≤ (c.toNat : Int) := by omega
    have t1 : (48 : Int) ≤ (c.toNat : Int) := by omega
    have t2 : ¬ (c.toNat : Int) ≤ 57 := by omega
    have t3 : ((c.toNat : Int) == 45) = false := by simp; omega
    have t4 : ((c.toNat : Int) == 95) = true := by simp; omega
    rw [hb]
    clear hb k0 k1 k2 k3 k4
    go_enter Tryz.func87, Tryz.ntmps87
    go_wp2_with fail
    go_ret
    exact ⟨rfl, rfl⟩
  by_cases k5 : c.toNat < 97
  · have hb : wordB c = false := by unfold wordB; simp; omega
    have t0 : ¬ (97 : Int) ≤ (c.toNat : Int) := by omega
    have t1 : (48 : Int) ≤ (c.toNat : Int) := by omega
    have t2 : ¬ (c.toNat : Int) ≤ 57 := by omega
    have t3 : ((c.toNat : Int) == 45) = false := by simp; omega
    have t4 : ((c.toNat : Int) == 95) = false := by simp; omega
    have t5 : ((c.toNat : Int) == 46) = false := by simp; omega
    rw [hb]
    clear hb k0 k1 k2 k3 k4 k5
    go_enter Tryz.func87, Tryz.ntmps87
    go_wp2_with fail
    go_ret
    exact ⟨rfl, rfl⟩
  by_cases k6 : c.toNat ≤ 122
  · have hb : wordB c = true := by unfold wordB; simp; omega
    have t0 : (97 : Int) ≤ (c.toNat : Int) := by omega
    have t1 : (c.toNat : Int) ≤ 122 := by omega
    rw [hb]
    clear hb k0 k1 k2 k3 k4 k5 k6
    go_enter Tryz.func87, Tryz.ntmps87
    go_wp2_with fail
    go_ret
    exact ⟨rfl, rfl⟩
  have hb : wordB c = false := by unfold wordB; simp; omega
  have t0 : (97 : Int) ≤ (c.toNat : Int) := by omega
  have t1 : ¬ (c.toNat : Int) ≤ 122 := by omega
  have t2 : (48 : Int) ≤ (c.toNat : Int) := by omega
  have t3 : ¬ (c.toNat : Int) ≤ 57 := by omega
  have t4 : ((c.toNat : Int) == 45) = false := by simp; omega
  have t5 : ((c.toNat : Int) == 95) = false := by simp; omega
  have t6 : ((c.toNat : Int) == 46) = false := by simp; omega
  rw [hb]
  clear hb k0 k1 k2 k3 k4 k5 k6
  go_enter Tryz.func87, Tryz.ntmps87
  go_wp2_with fail
  go_ret
  exact ⟨rfl, rfl⟩

theorem marks_eq (c : UInt8) : ([40, 41, 61, 60, 62] : List UInt8).contains c = markB c := by
  have := bytes_all (fun c => ([40, 41, 61, 60, 62] : List UInt8).contains c == markB c) (by decide +kernel) c
  simpa using this

theorem PAt.cells {W : World} {b : Nat} {s : ByteArray} {t : PSt} (h : PAt W b s t) :
    W.cell? ⟨b, 0, none⟩ = some (.string s) ∧ W.cell? ⟨b, 1, none⟩ = some (.int .i64 t.at_) ∧ W.cell? ⟨b, 2, none⟩ = some (.string t.tok) ∧ W.cell? ⟨b, 3, none⟩ = some (.int .i64 t.deep) ∧ W.cell? ⟨b, 4, none⟩ = some (.bool t.bad) ∧
    W.frozen? ⟨b, 1, none⟩ = false ∧ W.frozen? ⟨b, 2, none⟩ = false ∧ W.frozen? ⟨b, 3, none⟩ = false ∧ W.frozen? ⟨b, 4, none⟩ = false :=
  ⟨Blk.cell h 0, Blk.cell h 1, Blk.cell h 2, Blk.cell h 3, Blk.cell h 4, Blk.frozen h 1, Blk.frozen h 2, Blk.frozen h 3, Blk.frozen h 4⟩
theorem PAt.drewN {W : World} {b : Nat} {s : ByteArray} {t : PSt} (h : PAt W b s t) (n : Nat) : PAt (W.drewN n) b s t := h
theorem PAt.setAt {W : World} {b : Nat} {s : ByteArray} {t : PSt} (h : PAt W b s t) (k : Nat) : PAt (W.setCell ⟨b, 1, none⟩ (.int .i64 k)) b s { t with at_ := k } := Blk.set_ h 1 _
theorem PAt.setTok {W : World} {b : Nat} {s : ByteArray} {t : PSt} (h : PAt W b s t) (x : ByteArray) : PAt (W.setCell ⟨b, 2, none⟩ (.string x)) b s { t with tok := x } := Blk.set_ h 2 _
theorem PAt.setDeep {W : World} {b : Nat} {s : ByteArray} {t : PSt} (h : PAt W b s t) (k : Int) : PAt (W.setCell ⟨b, 3, none⟩ (.int .i64 k)) b s { t with deep := k } := Blk.set_ h 3 _
theorem PAt.setBad {W : World} {b : Nat} {s : ByteArray} {t : PSt} (h : PAt W b s t) (k : Bool) : PAt (W.setCell ⟨b, 4, none⟩ (.bool k)) b s { t with bad := k } := Blk.set_ h 4 _
/-- the parser stands at t' ; only its block has turned -/
def ParS (b : Nat) (s : ByteArray) (t' : PSt) (v : Value) (w : World) (e : Ending) (w' : World) : Prop := e = .returned v ∧ PAt w' b s t' ∧ Bx w.heap.size b w w'
def atCell (W : World) (b : Nat) : Nat := (intOf ((W.cell? ⟨b, 1, none⟩).getD undef)).toNat
theorem PAt.at_cell {W : World} {b : Nat} {s : ByteArray} {t : PSt} (h : PAt W b s t) : atCell W b = t.at_ := by
  unfold atCell
  rw [h.cells.2.1]
  simp [intOf]

set_option maxRecDepth 100000 in
set_option maxHeartbeats 1000000 in
theorem next_calls_ (b : Nat) (s : ByteArray) (t : PSt) (w : World) (h : PAt w b s t) (hok : POk s t) (hs : s.size ≤ 100000) :
    Calls Tryz.prog 62 #[.pointer (some ⟨b, 0, none⟩)] w (ParS b s (nextF s t) (.tuple #[]) w) := by
  obtain ⟨c0, c1, c2, c3, c4, f1, f2, f3, f4⟩ := h.cells
  have ha := hok.at_
  obtain ⟨E, hE⟩ : ∃ E, spanF blankB s (t.at_ + t.tok.size) = E := ⟨_, rfl⟩
  have hEs : E ≤ s.size := by rw [← hE]; exact span_le _ _ _ ha
  have HE := Lib.hid hE
  have P1 : PAt (w.setCell ⟨b, 1, none⟩ (.int .i64 ((t.at_ : Int) + t.tok.size))).drew b s { t with at_ := t.at_ + t.tok.size } := by
    have := h.setAt (t.at_ + t.tok.size)
    rw [Int.natCast_add] at this
    exact this
  have B1 : Bx w.heap.size b w (w.setCell ⟨b, 1, none⟩ (.int .i64 ((t.at_ : Int) + t.tok.size))).drew := ((Bx.refl _ _ _).setCell (p := ⟨b, 1, none⟩) (.inl rfl) _).drew
  have HR : Hid (nextF s t = { t with at_ := E, tok := s.extract E (tokE s E) }) := by unfold nextF; rw [hE]; exact Lib.hid rfl
  clear hE
  go_enter Tryz.func62, Tryz.ntmps62
  go_wp2_with fail
  go_region
  go_upto_block 0 with (fail)
  clear c0 c1 c2 c3 c4 f1 f2 f3 f4 h
  go_cut [] (fun W => PAt W b s { t with at_ := E } ∧ Bx w.heap.size b w W)
  case first =>
    go_wp2_with fail
    go_loopw [] (fun wr => ∃ k : Nat, k ≤ s.size ∧ Hid (spanF blankB s k = E) ∧ PAt wr b s { t with at_ := k } ∧ Bx w.heap.size b w wr) (fun wr => s.size - atCell wr b)
    case atStart => exact ⟨_, ha, HE, P1, B1⟩
    case round =>
      clear P1 B1
      obtain ⟨k, hk, HK, P, B⟩ := hrel
      obtain ⟨c0, c1, c2, c3, c4, f1, f2, f3, f4⟩ := P.cells
      simp only at c0 c1 c2 c3 c4
      have m0 : atCell wr b = k := P.at_cell
      have HM := Lib.hid m0
      clear m0
      by_cases hlt : k < s.size
      · by_cases hbl : s[k].toNat = 32
        · have HK2 : Hid (spanF blankB s (k + 1) = E) := by rw [← span_yes blankB s k hlt (by unfold blankB; simp [hbl])]; exact HK
          have t0 : ((s[k].toNat : Int) == 32) = true := by simp; omega
          clear hbl
          have P2 : PAt (wr.setCell ⟨b, 1, none⟩ (.int .i64 ((k : Int) + 1))) b s { t with at_ := k + 1 } := P.setAt (k + 1)
          go_wp2_with fail
          go_quiet (fail)
          go_wp2_with fail
          go_roundw
          case rel => exact ⟨k + 1, hlt, HK2, P2, (B.drewN _).setCell (p := ⟨b, 1, none⟩) (.inl rfl) _⟩
          case measure =>
            have m1 : atCell (wr.setCell ⟨b, 1, none⟩ (.int .i64 ((k : Int) + 1))) b = k + 1 := P2.at_cell
            show s.size - atCell (wr.setCell ⟨b, 1, none⟩ (.int .i64 ((k : Int) + 1))) b < s.size - atCell wr b
            rw [m1, HM.out]
            omega
        · have hkE : k = E := by rw [← HK.out, span_no blankB s k hlt (by unfold blankB; simp; exact hbl)]
          subst hkE
          have t0 : ((s[k].toNat : Int) == 32) = false := by simp; omega
          clear hbl
          go_wp2_with fail
          go_quiet (fail)
          go_wp2_with fail
          go_meet
          exact ⟨P, B.drewN _⟩
      · have hkE : k = E := by rw [← HK.out, span_end blankB s k (by omega)]
        subst hkE
        go_wp2_with fail
        go_quiet (fail)
        go_wp2_with fail
        go_meet
        exact ⟨P, B.drewN _⟩
  case rest =>
    obtain ⟨P, B⟩ := hcut
    clear P1 B1
    obtain ⟨c0, c1, c2, c3, c4, f1, f2, f3, f4⟩ := P.cells
    simp only at c0 c1 c2 c3 c4
    obtain ⟨D, hD⟩ : ∃ D, spanF wordB s E = D := ⟨_, rfl⟩
    have hDs : D ≤ s.size := by rw [← hD]; exact span_le _ _ _ hEs
    have hED : E ≤ D := by rw [← hD]; exact span_ge _ _ _
    have HD := Lib.hid hD
    have HF : Hid (tokE s E = if D = E then (if markAt s E = true then E + 1 else E) else D) := by unfold tokE; rw [hD]; exact Lib.hid rfl
    clear hD
    go_upto_block 2 with (fail)
    go_cut [2] (fun s2 W => s2 = .int .i64 D ∧ W = wc)
    case first =>
      go_wp2_with fail
      go_loop [2] (fun s2 => ∃ k : Nat, k ≤ s.size ∧ s2 = .int .i64 k ∧ Hid (spanF wordB s k = D)) (fun s2 => s.size - (intOf s2).toNat)
      case atStart => exact ⟨E, hEs, rfl, HD⟩
      case round =>
        obtain ⟨k, hk, rfl, HK⟩ := hrel
        by_cases hlt : k < s.size
        · have HW := Lib.hid (isWordByte_calls s[k] wc)
          cases hw : wordB s[k]
          · have hkD : k = D := by rw [← HK.out, span_no wordB s k hlt hw]
            subst hkD
            rw [hw] at HW
            clear hw
            go_wp2_with (go_at_call 87; refine HW.out.mono ?_; rintro e w2 ⟨rfl, rfl⟩)
            go_meet
            exact ⟨rfl, rfl⟩
          · have HK2 : Hid (spanF wordB s (k + 1) = D) := by rw [← span_yes wordB s k hlt hw]; exact HK
            rw [hw] at HW
            clear hw
            go_wp2_with (go_at_call 87; refine HW.out.mono ?_; rintro e w2 ⟨rfl, rfl⟩)
            go_round
            case rel => exact ⟨k + 1, hlt, by go_num, HK2⟩
            case measure => simp [intOf]; omega
        · have hkD : k = D := by rw [← HK.out, span_end wordB s k (by omega)]
          subst hkD
          go_wp2_with fail
          go_meet
          exact ⟨rfl, rfl⟩
    case rest =>
      obtain ⟨rfl, rfl⟩ := hcut
      obtain ⟨F, hF⟩ : ∃ F, tokE s E = F := ⟨_, rfl⟩
      have hEF : E ≤ F := by rw [← hF]; exact tokE_ge _ _
      have hFs : F ≤ s.size := by rw [← hF]; exact tokE_le _ _ hEs
      have HFF := Lib.hid hF
      obtain ⟨B0, hB0⟩ : ∃ B0, (decide (D = E) && markAt s E) = B0 := ⟨_, rfl⟩
      have HB := Lib.hid hB0
      have HG : Hid (F = if B0 = true then E + 1 else D) := by
        rw [← hF, HF.out, ← hB0]
        by_cases h1 : D = E
        · subst h1
          cases markAt s D <;> exact Lib.hid (by simp)
        · exact Lib.hid (by simp [h1])
      clear hF hB0
      have HDE : Hid (B0 = true → D = E) := fun h => by rw [← HB.out] at h; simp at h; exact h.1
      go_upto_region 6 with (fail)
      go_cut [90] (fun s90 W => s90 = .bool B0 ∧ W = wc)
      case first =>
        clear hEF hFs
        by_cases hDE : D = E
        · subst hDE
          clear hED
          by_cases hlt : D < s.size
          · have hc := Lib.contains_iff_indexByte [40, 41, 61, 60, 62] s[D]
            rw [marks_eq, ← markAt_in s D hlt] at hc
            have hc' := fun W => indexByte_calls ⟨#[40, 41, 61, 60, 62]⟩ (s[D].toNat : Int) W
            rw [byte_back] at hc'
            obtain ⟨z, hz⟩ : ∃ z, Lib.indexByte [40, 41, 61, 60, 62] s[D] = z := ⟨_, rfl⟩
            have hc2 : ∀ W, Calls Tryz.prog 88 #[.string ⟨#[40, 41, 61, 60, 62]⟩, .int .u8 s[D].toNat] W fun e w' => e = .returned (.int .i64 z) ∧ W = w' := fun W => by rw [← hz]; exact hc' W
            have HC := Lib.hid hc2
            rw [hz] at hc
            cases hm : markAt s D
            · rw [hm] at hc
              have hz0 : z < 0 := by have := of_decide_eq_false hc.symm; omega
              have HB2 : Hid (B0 = false) := by rw [← HB.out, hm]; exact Lib.hid (by simp)
              clear hc hm hc' hc2 hz
              go_wp2_with (go_at_call 88; refine (HC.out _).mono ?_; rintro e w2 ⟨rfl, rfl⟩)
              go_meet
              exact ⟨by (rw [HB2.out]) <;> (simp <;> omega), rfl⟩
            · rw [hm] at hc
              have hz0 : 0 ≤ z := of_decide_eq_true hc.symm
              have HB2 : Hid (B0 = true) := by rw [← HB.out, hm]; exact Lib.hid (by simp)
              clear hc hm hc' hc2 hz
              go_wp2_with (go_at_call 88; refine (HC.out _).mono ?_; rintro e w2 ⟨rfl, rfl⟩)
              go_meet
              exact ⟨by (rw [HB2.out]) <;> (simp <;> omega), rfl⟩
          · have HB2 : Hid (B0 = false) := by rw [← HB.out, markAt_out s D (by omega)]; exact Lib.hid (by simp)
            go_wp2_with fail
            go_meet
            exact ⟨by rw [HB2.out], rfl⟩
        · have HB2 : Hid (B0 = false) := by rw [← HB.out]; exact Lib.hid (by simp [hDE])
          have t0 : ((D : Int) == (E : Int)) = false := by simp; omega
          go_wp2_with fail
          go_meet
          exact ⟨by rw [HB2.out], rfl⟩
      case rest =>
        obtain ⟨rfl, rfl⟩ := hcut
        clear HB
        cases B0
        · obtain rfl : F = D := HG.out
          go_wp2_with fail
          go_region
          go_wp2_with fail
          go_end0
          refine ⟨rfl, ?_, ?_⟩
          · rw [HR.out, HFF.out]
            exact P.setTok _
          · exact (B.setCell (p := ⟨b, 2, none⟩) (.inl rfl) _).drew
        · obtain rfl : F = E + 1 := HG.out
          obtain rfl : D = E := HDE.out rfl
          go_wp2_with fail
          go_region
          go_wp2_with fail
          go_end0
          refine ⟨rfl, ?_, ?_⟩
          · rw [HR.out, HFF.out]
            exact P.setTok _
          · exact (B.setCell (p := ⟨b, 2, none⟩) (.inl rfl) _).drew
end Go.Proofs.YtipbhgefcmekpaaGreatDoor
/-
  The parser of rules, on: take, nest, isName, isValue by contracts. (Printed by gen_rule1.py.)
-/
namespace Go.Proofs.YtipbhgefcmekpaaGreatDoor
open Go Go.RowKit

set_option maxRecDepth 100000 in
theorem take_calls_ (b : Nat) (s : ByteArray) (t : PSt) (ok : Bool) (w : World) (h : PAt w b s t) (hok : POk s t) (hs : s.size ≤ 100000) :
    Calls Tryz.prog 109 #[.pointer (some ⟨b, 0, none⟩), .bool ok] w (ParS b s (takeF s t ok) (.string (takeS t ok)) w) := by
  obtain ⟨c0, c1, c2, c3, c4, f1, f2, f3, f4⟩ := h.cells
  have HN := Lib.hid (next_calls_ b s t w h hok hs)
  have P2 := h.setBad true
  have B2 : Bx w.heap.size b w (w.setCell ⟨b, 4, none⟩ (.bool true)) := (Bx.refl _ _ _).setCell (p := ⟨b, 4, none⟩) (.inl rfl) _
  obtain ⟨bd, hbd⟩ : ∃ bd, t.bad = bd := ⟨_, rfl⟩
  rw [hbd] at c4
  have HD := Lib.hid hbd
  clear h hbd
  cases bd
  · cases ok
    · have HR : Hid (takeF s t false = { t with bad := true } ∧ takeS t false = ⟨#[]⟩) := by unfold takeF takeS; exact Lib.hid ⟨by simp, by simp⟩
      rw [HR.out.1, HR.out.2]
      go_enter Tryz.func109, Tryz.ntmps109
      go_wp2_with fail
      go_ret
      exact ⟨rfl, P2, B2⟩
    · have HR : Hid (takeF s t true = nextF s t ∧ takeS t true = t.tok) := by unfold takeF takeS; rw [HD.out]; exact Lib.hid ⟨by simp, by simp⟩
      rw [HR.out.1, HR.out.2]
      go_enter Tryz.func109, Tryz.ntmps109
      go_wp2_with fail
      refine HN.out.mono ?_
      rintro e w2 ⟨rfl, P3, B3⟩
      go_wp2_with fail
      go_ret
      exact ⟨rfl, P3, B3⟩
  · have HR : Hid (takeF s t ok = { t with bad := true } ∧ takeS t ok = ⟨#[]⟩) := by unfold takeF takeS; rw [HD.out]; exact Lib.hid ⟨by simp, by simp⟩
    rw [HR.out.1, HR.out.2]
    go_enter Tryz.func109, Tryz.ntmps109
    go_wp2_with fail
    go_ret
    exact ⟨rfl, P2, B2⟩

set_option maxRecDepth 100000 in
theorem nest_calls_ (b : Nat) (s : ByteArray) (t : PSt) (d : Int) (w : World) (h : PAt w b s t) :
    Calls Tryz.prog 110 #[.pointer (some ⟨b, 0, none⟩), .int .i64 d] w (ParS b s (nestF d t) (.tuple #[]) w) := by
  obtain ⟨c0, c1, c2, c3, c4, f1, f2, f3, f4⟩ := h.cells
  by_cases h1 : 20 < d
  · by_cases h2 : t.deep < 0
    · have HR : Hid (nestF d t = { t with deep := t.at_ }) := by unfold nestF; rw [if_pos ⟨h1, h2⟩]; exact Lib.hid rfl
      rw [HR.out]
      have P2 := h.setDeep t.at_
      have B2 : Bx w.heap.size b w (w.setCell ⟨b, 3, none⟩ (.int .i64 t.at_)) := (Bx.refl _ _ _).setCell (p := ⟨b, 3, none⟩) (.inl rfl) _
      go_enter Tryz.func110, Tryz.ntmps110
      go_wp2_with fail
      go_end0
      exact ⟨rfl, P2, B2⟩
    · have HR : Hid (nestF d t = t) := by unfold nestF; rw [if_neg (by omega)]; exact Lib.hid rfl
      rw [HR.out]
      go_enter Tryz.func110, Tryz.ntmps110
      go_wp2_with fail
      go_end0
      exact ⟨rfl, h, Bx.refl _ _ _⟩
  · have HR : Hid (nestF d t = t) := by unfold nestF; rw [if_neg (by omega)]; exact Lib.hid rfl
    rw [HR.out]
    go_enter Tryz.func110, Tryz.ntmps110
    go_wp2_with fail
    go_end0
    exact ⟨rfl, h, Bx.refl _ _ _⟩

def words6 : List ByteArray := [sTime, sAnd, sOr, sNot, sHas, sTrue]
set_option maxRecDepth 100000 in
theorem isName_calls (x : ByteArray) (w : World) (hx : x.size ≤ 100000) : Calls Tryz.prog 120 #[.string x] w (BRet (.bool (nameB x)) w) := by
  have hK := fun W : World => key_calls x W (by unfold maxLen; omega)
  have hC := fun W : World => containsS_calls (W.heap.size + 1) (some ⟨W.heap.size, 0, none⟩) 6 6 words6 x (W.alloc (.cells #[.string ⟨#[116, 105, 109, 101]⟩, .string ⟨#[97, 110, 100]⟩, .string ⟨#[111, 114]⟩, .string ⟨#[110, 111, 116]⟩, .string ⟨#[104, 97, 115]⟩, .string ⟨#[116, 114, 117, 101]⟩] 9)) (Rd.lit W (W.heap.size + 1) 1 6 _ _ (by omega) (by decide) rfl)
  obtain ⟨M, hM⟩ : ∃ M, memS words6 x = M := ⟨_, rfl⟩
  obtain ⟨B, hB⟩ : ∃ B, keyB x.data.toList = B := ⟨_, rfl⟩
  rw [hM] at hC
  rw [hB] at hK
  have HC := Lib.hid hC
  have HK := Lib.hid hK
  have HR : Hid (nameB x = (B && !M)) := by rw [← hM, ← hB]; exact Lib.hid rfl
  rw [HR.out]
  clear hC hK hM hB HR
  cases B
  · go_enter Tryz.func120, Tryz.ntmps120
    go_wp2_with fail
    refine (HK.out _).mono ?_
    rintro e w2 ⟨rfl, rfl⟩
    go_wp2_with fail
    go_ret
    exact ⟨rfl, Below.refl _ _⟩
  · go_enter Tryz.func120, Tryz.ntmps120
    go_wp2_with fail
    refine (HK.out _).mono ?_
    rintro e w2 ⟨rfl, rfl⟩
    go_wp2_with fail
    refine (HC.out _).mono ?_
    rintro e w2 ⟨rfl, nq, rfl⟩
    go_wp2_with fail
    go_ret
    exact ⟨ret_bool (by cases M <;> rfl), below_drewN ((Below.refl _ _).alloc (Nat.le_refl _) _) nq⟩

theorem all_snoc_w (l : List UInt8) (c : UInt8) : (l ++ [c]).all wordB = (l.all wordB && wordB c) := by simp
theorem all_no_w {l : List UInt8} {c : UInt8} (h : c ∈ l) (h' : wordB c = false) : l.all wordB = false := by
  rw [List.all_eq_false]
  exact ⟨c, h, by simpa using h'⟩
set_option maxRecDepth 100000 in
theorem isValue_calls (s : ByteArray) (w : World) (hs : s.size ≤ 100000) : Calls Tryz.prog 121 #[.string s] w fun e w' => e = .returned (.bool (valueB s)) ∧ w = w' := by
  by_cases h0 : 1 ≤ s.size ∧ s.size ≤ 40
  · have HO := Lib.hid (show outB (s.size : Int) 1 40 = false from outB_f (by omega) (by omega))
    have HV : Hid (valueB s = s.data.toList.all wordB) := by unfold valueB; rw [decide_eq_true h0]; exact Lib.hid rfl
    go_enter Tryz.func121, Tryz.ntmps121
    go_wp2_with fail
    refine (out_calls _ _ _ _).mono ?_
    rintro e w' ⟨rfl, rfl⟩
    rw [HO.out]
    go_wp2_with fail
    go_loop [9] (fun i => ∃ k : Nat, k ≤ s.size ∧ i = .int .i64 k ∧ Hid ((s.data.toList.take k).all wordB = true)) (fun i => s.size - (intOf i).toNat)
    case atStart => exact ⟨0, Nat.zero_le _, rfl, by simp [Hid]⟩
    case round =>
      obtain ⟨k, hk, rfl, HA⟩ := hrel
      by_cases hlt : k < s.size
      · have hsn := all_snoc_w (s.data.toList.take k) s[k]
        rw [← take_snoc s k hlt] at hsn
        have hmem : s[k] ∈ s.data.toList := by
          show s.data.toList[k]'(by simpa using hlt) ∈ _
          exact List.getElem_mem _
        have hno := all_no_w hmem
        have HW := Lib.hid (isWordByte_calls s[k] w)
        clear hmem
        cases hw : wordB s[k]
        · have HN := Lib.hid (hno hw)
          rw [hw] at HW
          clear hw hno hsn
          go_wp2_with (go_at_call 87; refine HW.out.mono ?_; rintro e w2 ⟨rfl, rfl⟩)
          go_ret
          exact ⟨ret_bool (HV.out.trans HN.out).symm, rfl⟩
        · rw [hw, Bool.and_true, HA.out] at hsn
          have HS := Lib.hid hsn
          rw [hw] at HW
          clear hw hno hsn
          go_wp2_with (go_at_call 87; refine HW.out.mono ?_; rintro e w2 ⟨rfl, rfl⟩)
          go_round
          case rel => exact ⟨k + 1, by omega, by go_num, HS⟩
          case measure => simp [intOf]; omega
      · go_wp2_with fail
        go_ret
        exact ⟨ret_bool (by rw [HV.out, ← HA.out, List.take_of_length_le (by simp; omega)]), rfl⟩
  · have HO := Lib.hid (show outB (s.size : Int) 1 40 = true from outB_t (by omega))
    have HV : Hid (valueB s = false) := by unfold valueB; rw [decide_eq_false h0]; exact Lib.hid rfl
    rw [HV.out]
    clear h0
    go_enter Tryz.func121, Tryz.ntmps121
    go_wp2_with fail
    refine (out_calls _ _ _ _).mono ?_
    rintro e w' ⟨rfl, rfl⟩
    rw [HO.out]
    go_wp2_with fail
    go_ret
    exact ⟨rfl, rfl⟩
end Go.Proofs.YtipbhgefcmekpaaGreatDoor
/-
  The parser of rules, on: atom by a contract, where no token is 'time'. (Printed by gen_rule1.py.)
-/
namespace Go.Proofs.YtipbhgefcmekpaaGreatDoor
open Go Go.RowKit

theorem tokB (x : ByteArray) (l : List UInt8) (y : ByteArray) (hy : y.data.toList = l) : (x.toList == l) = decide (x = y) := by
  rw [Lib.toList_data, ← hy]
  by_cases h : x = y
  · subst h; simp
  · rw [decide_eq_false h]
    have : x.data.toList ≠ y.data.toList := fun e => h (by cases x; cases y; congr; exact Array.toList_inj.1 e)
    simpa using this
def atmV (a : Atm) : Value := .agg #[.string a.word, .string a.name, .string a.value, .int .i64 a.n]
def AtomS (b : Nat) (s : ByteArray) (r : Atm × PSt) (w : World) (e : Ending) (w' : World) : Prop := e = .returned (atmV r.1) ∧ PAt w' b s r.2 ∧ Bx w.heap.size b w w'
theorem PAt.below {W W' : World} {b : Nat} {s : ByteArray} {t : PSt} (h : PAt W b s t) (k : Below W.heap.size W W') : PAt W' b s t := Blk.below h k
theorem PAt.lt {W : World} {b : Nat} {s : ByteArray} {t : PSt} (h : PAt W b s t) : b < W.heap.size := Blk.lt h

theorem PAt.far {W : World} {b : Nat} {s : ByteArray} {t : PSt} (h : PAt W b s t) {g : Nat} (hg : b ≠ g) (i : Nat) (u : Value) : PAt (W.setCell ⟨g, i, none⟩ u) b s t := Blk.far (p := ⟨g, i, none⟩) h hg u
theorem Blk.four {w : World} {g : Nat} {t : TypeId} {x y z u : Value} (h : Blk w g t #[x, y, z, u]) :
    w.cell? ⟨g, 0, none⟩ = some x ∧ w.cell? ⟨g, 1, none⟩ = some y ∧ w.cell? ⟨g, 2, none⟩ = some z ∧ w.cell? ⟨g, 3, none⟩ = some u ∧ w.frozen? ⟨g, 0, none⟩ = false ∧ w.frozen? ⟨g, 1, none⟩ = false ∧ w.frozen? ⟨g, 2, none⟩ = false ∧ w.frozen? ⟨g, 3, none⟩ = false :=
  ⟨h.cell 0, h.cell 1, h.cell 2, h.cell 3, h.frozen 0, h.frozen 1, h.frozen 2, h.frozen 3⟩
/-- four cells of the first block are stored -/
theorem Px.four {w W : World} {b : Nat} {l : List Rsc} {g : Nat} {t : TypeId} {x y z u : Value} (h : Px w b W (rBlk g t #[x, y, z, u] :: l)) (x' y' z' u' : Value) :
    Px w b ((((W.setCell ⟨g, 0, none⟩ x').setCell ⟨g, 1, none⟩ y').setCell ⟨g, 2, none⟩ z').setCell ⟨g, 3, none⟩ u') (rBlk g t #[x', y', z', u'] :: l) :=
  (((h.set_ 0 x').set_ 1 y').set_ 2 z').set_ 3 u'
theorem PAt.four {W : World} {b : Nat} {s : ByteArray} {t : PSt} (h : PAt W b s t) {g : Nat} (hg : b ≠ g) (x' y' z' u' : Value) :
    PAt ((((W.setCell ⟨g, 0, none⟩ x').setCell ⟨g, 1, none⟩ y').setCell ⟨g, 2, none⟩ z').setCell ⟨g, 3, none⟩ u') b s t :=
  (((h.far hg 0 x').far hg 1 y').far hg 2 z').far hg 3 u'

set_option maxRecDepth 100000 in
set_option maxHeartbeats 1000000 in
theorem atom_calls (num : ByteArray → Int × Bool) (b : Nat) (s : ByteArray) (t : PSt) (w : World) (h : PAt w b s t) (hok : POk s t) (hs : s.size ≤ 100000) (hT : t.tok ≠ sTime) :
    Calls Tryz.prog 111 #[.pointer (some ⟨b, 0, none⟩)] w (AtomS b s (atomF num s t) w) := by
  have hb := h.lt
  have hbz : b ≠ w.heap.size := by omega
  have hS0 := (Px.start w h.lt).add #[.string ⟨#[]⟩, .string ⟨#[]⟩, .string ⟨#[]⟩, .int .i64 0] 104
  have P0 := h.below ((Below.refl _ _).alloc (Nat.le_refl _) (.cells #[.string ⟨#[]⟩, .string ⟨#[]⟩, .string ⟨#[]⟩, .int .i64 0] 104))
  have HTK : Hid (∀ W t, PAt W b s t → POk s t → ∀ ok, Calls Tryz.prog 109 #[.pointer (some ⟨b, 0, none⟩), .bool ok] W (ParS b s (takeF s t ok) (.string (takeS t ok)) W)) := fun W t h k ok => take_calls_ b s t ok W h k hs
  have HNM : Hid (∀ W x, x.size ≤ 100000 → Calls Tryz.prog 120 #[.string x] W (BRet (.bool (nameB x)) W)) := fun W x hx => isName_calls x W hx
  have HVL : Hid (∀ W x, x.size ≤ 100000 → Calls Tryz.prog 121 #[.string x] W fun e w' => e = .returned (.bool (valueB x)) ∧ W = w') := fun W x hx => isValue_calls x W hx
  obtain ⟨c0, c1, c2, c3, c4, f1, f2, f3, f4⟩ := P0.cells
  obtain ⟨T, hTT⟩ : ∃ T, t.tok = T := ⟨_, rfl⟩
  rw [hTT] at c2
  have sT : T.size ≤ 100000 := by have := hok.at_; rw [hTT] at this; omega
  have e4 : (T.toList == [116, 105, 109, 101]) = false := (tokB _ [116, 105, 109, 101] sTime rfl).trans (decide_eq_false (by rw [← hTT]; exact hT))
  by_cases h1 : t.tok = sTrue
  · have e1 : (T.toList == [116, 114, 117, 101]) = true := (tokB _ [116, 114, 117, 101] sTrue rfl).trans (decide_eq_true (hTT.symm.trans h1))
    have HR : Hid (atomF num s t = (⟨sTrue, ⟨#[]⟩, ⟨#[]⟩, 0⟩, takeF s t true)) := by unfold atomF; rw [if_pos h1]; exact Lib.hid rfl
    rw [HR.out]
    clear hTT h1 hT
    go_enter Tryz.func111, Tryz.ntmps111
    go_wp2_with fail
    refine (HTK.out _ _ P0 hok true).mono ?_
    rintro e w2 ⟨rfl, P2, B2⟩
    have hS2 := hS0.call B2
    clear c0 c1 c2 c3 c4 f1 f2 f3 f4
    obtain ⟨z0, z1, z2, z3, y0, y1, y2, y3⟩ := Blk.four (hS2.nth 0 rfl)
    have hS3 := hS2.four (.string ⟨#[116, 114, 117, 101]⟩) (.string ⟨#[]⟩) (.string ⟨#[]⟩) (.int .i64 0)
    have P3 := P2.four hbz (.string ⟨#[116, 114, 117, 101]⟩) (.string ⟨#[]⟩) (.string ⟨#[]⟩) (.int .i64 0)
    obtain ⟨r0, r1, r2, r3, _⟩ := Blk.four (hS3.nth 0 rfl)
    have hS4 := hS3.bx
    clear hS3 hS2
    go_wp2_with fail
    exact bodyPost_ret (v := .agg #[.string ⟨#[116, 114, 117, 101]⟩, .string ⟨#[]⟩, .string ⟨#[]⟩, .int .i64 0]) (by simp [results, Tryz.results111, go_sem, r0, r1, r2, r3]) rfl ⟨rfl, P3, hS4⟩
  by_cases h2 : t.tok = sHas
  · have e1 : (T.toList == [116, 114, 117, 101]) = false := (tokB _ [116, 114, 117, 101] sTrue rfl).trans (decide_eq_false (by rw [← hTT]; exact h1))
    have e2 : (T.toList == [104, 97, 115]) = true := (tokB _ [104, 97, 115] sHas rfl).trans (decide_eq_true (hTT.symm.trans h2))
    obtain ⟨t1, ht1⟩ : ∃ t1, takeF s t true = t1 := ⟨_, rfl⟩
    have hok1 : POk s t1 := by rw [← ht1]; exact hok.take true
    obtain ⟨T1, hT1⟩ : ∃ T1, t1.tok = T1 := ⟨_, rfl⟩
    obtain ⟨nb, hnb⟩ : ∃ nb, nameB T1 = nb := ⟨_, rfl⟩
    have sT1 : T1.size ≤ 100000 := by have := hok1.at_; rw [hT1] at this; omega
    obtain ⟨x1, hx1⟩ : ∃ x1, takeS t1 nb = x1 := ⟨_, rfl⟩
    have HR : Hid (atomF num s t = (⟨sHas, x1, ⟨#[]⟩, 0⟩, takeF s t1 nb)) := by unfold atomF; rw [if_neg h1, if_pos h2, ht1, hT1, hnb, hx1]; exact Lib.hid rfl
    rw [HR.out]
    have HTA : Hid (∀ W, PAt W b s t1 → Calls Tryz.prog 109 #[.pointer (some ⟨b, 0, none⟩), .bool nb] W (ParS b s (takeF s t1 nb) (.string x1) W)) := fun W h => by rw [← hx1]; exact HTK.out W t1 h hok1 nb
    have HT1 := Lib.hid (HTK.out _ _ P0 hok true)
    rw [ht1] at HT1
    have HN1 : Hid (∀ W, Calls Tryz.prog 120 #[.string T1] W (BRet (.bool nb) W)) := fun W => by rw [← hnb]; exact HNM.out W T1 sT1
    have HTT := Lib.hid hT1
    clear hTT h1 h2 hT ht1 hT1 hnb HNM HTK hx1
    go_enter Tryz.func111, Tryz.ntmps111
    go_wp2_with fail
    refine HT1.out.mono ?_
    rintro e w2 ⟨rfl, P2, B2⟩
    have hS2 := hS0.call B2
    clear c0 c1 c2 c3 c4 f1 f2 f3 f4
    obtain ⟨c0, c1, c2, c3, c4, f1, f2, f3, f4⟩ := P2.cells
    rw [HTT.out] at c2
    go_wp2_with fail
    refine (HN1.out _).mono ?_
    rintro e w3 ⟨rfl, b3⟩
    have hS3 := hS2.callB b3
    have P3 := P2.below b3
    clear c0 c1 c2 c3 c4 f1 f2 f3 f4 hS2
    go_wp2_with fail
    refine (HTA.out _ P3).mono ?_
    rintro e w4 ⟨rfl, P4, B4⟩
    have hS4 := hS3.call B4
    obtain ⟨z0, z1, z2, z3, y0, y1, y2, y3⟩ := Blk.four (hS4.nth 0 rfl)
    have hS5 := hS4.four (.string ⟨#[104, 97, 115]⟩) (.string x1) (.string ⟨#[]⟩) (.int .i64 0)
    have P5 := P4.four hbz (.string ⟨#[104, 97, 115]⟩) (.string x1) (.string ⟨#[]⟩) (.int .i64 0)
    obtain ⟨r0, r1, r2, r3, _⟩ := Blk.four (hS5.nth 0 rfl)
    have hS6 := hS5.bx
    clear hS5 hS4 hS3
    go_wp2_with fail
    exact bodyPost_ret (v := .agg #[.string ⟨#[104, 97, 115]⟩, .string x1, .string ⟨#[]⟩, .int .i64 0]) (by simp [results, Tryz.results111, go_sem, r0, r1, r2, r3]) rfl ⟨rfl, P5, hS6⟩
  · have e1 : (T.toList == [116, 114, 117, 101]) = false := (tokB _ [116, 114, 117, 101] sTrue rfl).trans (decide_eq_false (by rw [← hTT]; exact h1))
    have e2 : (T.toList == [104, 97, 115]) = false := (tokB _ [104, 97, 115] sHas rfl).trans (decide_eq_false (by rw [← hTT]; exact h2))
    obtain ⟨nb, hnb⟩ : ∃ nb, nameB T = nb := ⟨_, rfl⟩
    obtain ⟨t1, ht1⟩ : ∃ t1, takeF s t nb = t1 := ⟨_, rfl⟩
    have hok1 : POk s t1 := by rw [← ht1]; exact hok.take nb
    obtain ⟨T1, hT1⟩ : ∃ T1, t1.tok = T1 := ⟨_, rfl⟩
    obtain ⟨q, hq⟩ : ∃ q, decide (T1 = sEq) = q := ⟨_, rfl⟩
    obtain ⟨t2, ht2⟩ : ∃ t2, takeF s t1 q = t2 := ⟨_, rfl⟩
    have hok2 : POk s t2 := by rw [← ht2]; exact hok1.take q
    obtain ⟨T2, hT2⟩ : ∃ T2, t2.tok = T2 := ⟨_, rfl⟩
    have sT2 : T2.size ≤ 100000 := by have := hok2.at_; rw [hT2] at this; omega
    obtain ⟨vb, hvb⟩ : ∃ vb, valueB T2 = vb := ⟨_, rfl⟩
    obtain ⟨x1, hx1⟩ : ∃ x1, takeS t nb = x1 := ⟨_, rfl⟩
    obtain ⟨x2, hx2⟩ : ∃ x2, takeS t2 vb = x2 := ⟨_, rfl⟩
    have HR : Hid (atomF num s t = (⟨sEq, x1, x2, 0⟩, takeF s t2 vb)) := by
      unfold atomF
      rw [if_neg h1, if_neg h2, if_neg hT]
      simp only [hTT, hnb, ht1, hT1, hq, ht2, hT2, hvb, hx1, hx2]
      exact Lib.hid trivial
    rw [HR.out]
    have HN1 : Hid (∀ W, Calls Tryz.prog 120 #[.string T] W (BRet (.bool nb) W)) := fun W => by rw [← hnb]; exact HNM.out W T sT
    have HV1 : Hid (∀ W, Calls Tryz.prog 121 #[.string T2] W fun e w' => e = .returned (.bool vb) ∧ W = w') := fun W => by rw [← hvb]; exact HVL.out W T2 sT2
    have HTA : Hid (∀ W, PAt W b s t → Calls Tryz.prog 109 #[.pointer (some ⟨b, 0, none⟩), .bool nb] W (ParS b s t1 (.string x1) W)) := fun W h => by rw [← ht1, ← hx1]; exact HTK.out W t h hok nb
    have HTB : Hid (∀ W, PAt W b s t1 → Calls Tryz.prog 109 #[.pointer (some ⟨b, 0, none⟩), .bool q] W (ParS b s t2 (.string (takeS t1 q)) W)) := fun W h => by rw [← ht2]; exact HTK.out W t1 h hok1 q
    have HTC : Hid (∀ W, PAt W b s t2 → Calls Tryz.prog 109 #[.pointer (some ⟨b, 0, none⟩), .bool vb] W (ParS b s (takeF s t2 vb) (.string x2) W)) := fun W h => by rw [← hx2]; exact HTK.out W t2 h hok2 vb
    have eq1 : (T1.toList == [61]) = q := (tokB _ [61] sEq rfl).trans hq
    have HT1 := Lib.hid hT1
    have HT2 := Lib.hid hT2
    have HQ := Lib.hid eq1
    clear hTT h1 h2 hT ht1 hT1 hnb HNM HVL HTK hx1 hx2 hvb hT2 ht2 hq eq1
    go_enter Tryz.func111, Tryz.ntmps111
    go_wp2_with fail
    refine (HN1.out _).mono ?_
    rintro e w2 ⟨rfl, b2⟩
    have hS2 := hS0.callB b2
    have P2 := P0.below b2
    clear c0 c1 c2 c3 c4 f1 f2 f3 f4
    go_wp2_with fail
    refine (HTA.out _ P2).mono ?_
    rintro e w3 ⟨rfl, P3, B3⟩
    have hS3 := hS2.call B3
    obtain ⟨c0, c1, c2, c3, c4, f1, f2, f3, f4⟩ := P3.cells
    rw [HT1.out] at c2
    have hlt3 := P3.lt
    have hb3 : b ≠ w3.heap.size := by omega
    have hS4 := hS3.add #[.string ⟨#[61]⟩, .string x1, .string ⟨#[]⟩, .int .i64 0] 104
    have P4 := P3.below ((Below.refl _ _).alloc (Nat.le_refl _) (.cells #[.string ⟨#[61]⟩, .string x1, .string ⟨#[]⟩, .int .i64 0] 104))
    go_wp2_with fail
    rw [HQ.out]
    refine (HTB.out _ P4).mono ?_
    rintro e w5 ⟨rfl, P5, B5⟩
    have hS5 := hS4.call B5
    clear c0 c1 c2 c3 c4 f1 f2 f3 f4 hS2 hS3 hS4 P4 P2
    obtain ⟨c0, c1, c2, c3, c4, f1, f2, f3, f4⟩ := P5.cells
    rw [HT2.out] at c2
    go_wp2_with fail
    refine (HV1.out _).mono ?_
    rintro e w6 ⟨rfl, rfl⟩
    go_wp2_with fail
    refine (HTC.out _ P5).mono ?_
    rintro e w7 ⟨rfl, P7, B7⟩
    have hS7 := hS5.call B7
    clear c0 c1 c2 c3 c4 f1 f2 f3 f4 hS5
    obtain ⟨z0, z1, z2, z3, y0, y1, y2, y3⟩ := Blk.four (hS7.nth 1 rfl)
    obtain ⟨v0, v1, v2, v3, u0, u1, u2, u3⟩ := Blk.four (hS7.nth 0 rfl)
    have hS9 := (((hS7.set_ 2 (.string x2)).front 1 rfl rfl).four (.string ⟨#[61]⟩) (.string x1) (.string x2) (.int .i64 0))
    have P9 := (P7.far hb3 2 (.string x2)).four hbz (.string ⟨#[61]⟩) (.string x1) (.string x2) (.int .i64 0)
    obtain ⟨r0, r1, r2, r3, _⟩ := Blk.four (hS9.nth 0 rfl)
    have hS10 := hS9.bx
    have hzz : w.heap.size ≠ w3.heap.size := by have := hS7.ge 0 rfl (g := w3.heap.size) rfl; have := B3.size; have := b2.size; simp at *; omega
    clear hS9 hS7
    go_wp2_with fail
    exact bodyPost_ret (v := .agg #[.string ⟨#[61]⟩, .string x1, .string x2, .int .i64 0]) (by simp [results, Tryz.results111, go_sem, r0, r1, r2, r3]) rfl ⟨rfl, P9, hS10⟩
end Go.Proofs.YtipbhgefcmekpaaGreatDoor
