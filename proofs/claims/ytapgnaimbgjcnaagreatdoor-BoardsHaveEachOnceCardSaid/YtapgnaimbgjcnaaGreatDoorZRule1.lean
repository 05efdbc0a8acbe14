/-
  The parser of rules: isWordByte, next, take, nest by contracts. (Printed by gen_rule1.py.)
-/
import Derived.Test.YtapgnaimbgjcnaaGreatDoorZPx
import Derived.Test.YtapgnaimbgjcnaaGreatDoorZFlat
import Derived.Deep.DeepCutAuto
import Derived.Deep.RegionLaw
import Derived.Deep.CutBlock
import Derived.Test.YtapgnaimbgjcnaaGreatDoorZSlot1
namespace Go.Proofs.YtapgnaimbgjcnaaGreatDoor
open Go Go.RowKit
theorem isWordByte_calls (c : UInt8) (w : World) : Calls Tryz.prog 244 #[.int .u8 c.toNat] w fun e w' => e = .returned (.bool (wordB c)) ∧ w = w' := by
 by_cases k0 : c.toNat = 45
 · have hb : wordB c = true := by unfold wordB; simp; omega
   have t0 : ¬ (97 : Int) ≤ (c.toNat : Int) := by omega
   have t1 : ¬ (48 : Int) ≤ (c.toNat : Int) := by omega
   have t2 : ((c.toNat : Int) == 45) = true := by simp; omega
   rw [hb]
   clear hb k0
   go_enter Tryz.func244, Tryz.ntmps244
   go_wp2_with fail
   go_ret
   exact ⟨rfl, rfl⟩
 by_cases k1 : c.toNat = 46
 · have hb : wordB c = true := by unfold wordB; simp; omega
   have t0 : ¬ (97 : Int) ≤ (c.toNat : Int) := by omega
   have t1 : ¬ (48 : Int) ≤ (c.toNat : Int) := by omega
   have t2 : ((c.toNat : Int) == 45) = false := by simp; omega
   have t3 : ((c.toNat : Int) == 95) = false := by simp; omega
   have t4 : ((c.toNat : Int) == 46) = true := by simp; omega
   rw [hb]
   clear hb k0 k1
   go_enter Tryz.func244, Tryz.ntmps244
   go_wp2_with fail
   go_ret
   exact ⟨rfl, rfl⟩
 by_cases k2 : c.toNat < 48
 · have hb : wordB c = false := by unfold wordB; simp; omega
   have t0 : ¬ (97 : Int) ≤ (c.toNat : Int) := by omega
   have t1 : ¬ (48 : Int) ≤ (c.toNat : Int) := by omega
   have t2 : ((c.toNat : Int) == 45) = false := by simp; omega
   have t3 : ((c.toNat : Int) == 95) = false := by simp; omega
   have t4 : ((c.toNat : Int) == 46) = false := by simp; omega
   rw [hb]
   clear hb k0 k1 k2
   go_enter Tryz.func244, Tryz.ntmps244
   go_wp2_with fail
   go_ret
   exact ⟨rfl, rfl⟩
 by_cases k3 : c.toNat ≤ 57
 · have hb : wordB c = true := by unfold wordB; simp; omega
   have t0 : ¬ (97 : Int) ≤ (c.toNat : Int) := by omega
   have t1 : (48 : Int) ≤ (c.toNat : Int) := by omega
   have t2 : (c.toNat : Int) ≤ 57 := by omega
   rw [hb]
   clear hb k0 k1 k2 k3
   go_enter Tryz.func244, Tryz.ntmps244
   go_wp2_with fail
   go_ret
   exact ⟨rfl, rfl⟩
 by_cases k4 : c.toNat = 95
 · have hb : wordB c = true := by unfold wordB; simp; omega
   have t0 : ¬ (97 : Int) ≤ (c.toNat : Int) := by omega
   have t1 : (48 : Int) ≤ (c.toNat : Int) := by omega
   have t2 : ¬ (c.toNat : Int) ≤ 57 := by omega
   have t3 : ((c.toNat : Int) == 45) = false := by simp; omega
   have t4 : ((c.toNat : Int) == 95) = true := by simp; omega
   rw [hb]
   clear hb k0 k1 k2 k3 k4
   go_enter Tryz.func244, Tryz.ntmps244
   go_wp2_with fail
   go_ret
   exact ⟨rfl, rfl⟩
 by_cases k5 : c.toNat < 97
 · have hb : wordB c = false := by unfold wordB; simp; omega
   have t0 : ¬ (97 : Int) ≤ (c.toNat : Int) := by omega
   have t1 : (48 : Int) ≤ (c.toNat : Int) := by omega
   have t2 : ¬ (c.toNat : Int) ≤ 57 := by omega
   have t3 : ((c.toNat : Int) == 45) = false := by simp; omega
   have t4 : ((c.toNat : Int) == 95) = false := by simp; omega
   have t5 : ((c.toNat : Int) == 46) = false := by simp; omega
   rw [hb]
   clear hb k0 k1 k2 k3 k4 k5
   go_enter Tryz.func244, Tryz.ntmps244
   go_wp2_with fail
   go_ret
   exact ⟨rfl, rfl⟩
 by_cases k6 : c.toNat ≤ 122
 · have hb : wordB c = true := by unfold wordB; simp; omega
   have t0 : (97 : Int) ≤ (c.toNat : Int) := by omega
   have t1 : (c.toNat : Int) ≤ 122 := by omega
   rw [hb]
   clear hb k0 k1 k2 k3 k4 k5 k6
   go_enter Tryz.func244, Tryz.ntmps244
   go_wp2_with fail
   go_ret
   exact ⟨rfl, rfl⟩
 have hb : wordB c = false := by unfold wordB; simp; omega
 have t0 : (97 : Int) ≤ (c.toNat : Int) := by omega
 have t1 : ¬ (c.toNat : Int) ≤ 122 := by omega
 have t2 : (48 : Int) ≤ (c.toNat : Int) := by omega
 have t3 : ¬ (c.toNat : Int) ≤ 57 := by omega
 have t4 : ((c.toNat : Int) == 45) = false := by simp; omega
 have t5 : ((c.toNat : Int) == 95) = false := by simp; omega
 have t6 : ((c.toNat : Int) == 46) = false := by simp; omega
 rw [hb]
 clear hb k0 k1 k2 k3 k4 k5 k6
 go_enter Tryz.func244, Tryz.ntmps244
 go_wp2_with fail
 go_ret
 exact ⟨rfl, rfl⟩
theorem marks_eq (c : UInt8) : ([40, 41, 61, 60, 62] : List UInt8).contains c = markB c := by
 have := bytes_all (fun c => ([40, 41, 61, 60, 62] : List UInt8).contains c == markB c) (by decide +kernel) c
 simpa using this
theorem PAt.cells {W : World} {b : Nat} {s : ByteArray} {t : PSt} (h : PAt W b s t) :
 W.cell? ⟨b, 0, none⟩ = some (.string s) ∧ W.cell? ⟨b, 1, none⟩ = some (.int .i64 t.at_) ∧ W.cell? ⟨b, 2, none⟩ = some (.string t.tok) ∧ W.cell? ⟨b, 3, none⟩ = some (.int .i64 t.deep) ∧ W.cell? ⟨b, 4, none⟩ = some (.bool t.bad) ∧
 W.frozen? ⟨b, 1, none⟩ = false ∧ W.frozen? ⟨b, 2, none⟩ = false ∧ W.frozen? ⟨b, 3, none⟩ = false ∧ W.frozen? ⟨b, 4, none⟩ = false :=
 ⟨Blk.cell h 0, Blk.cell h 1, Blk.cell h 2, Blk.cell h 3, Blk.cell h 4, Blk.frozen h 1, Blk.frozen h 2, Blk.frozen h 3, Blk.frozen h 4⟩
theorem PAt.drewN {W : World} {b : Nat} {s : ByteArray} {t : PSt} (h : PAt W b s t) (n : Nat) : PAt (W.drewN n) b s t := h
theorem PAt.setAt {W : World} {b : Nat} {s : ByteArray} {t : PSt} (h : PAt W b s t) (k : Nat) : PAt (W.setCell ⟨b, 1, none⟩ (.int .i64 k)) b s { t with at_ := k } := Blk.set_ h 1 _
theorem PAt.setTok {W : World} {b : Nat} {s : ByteArray} {t : PSt} (h : PAt W b s t) (x : ByteArray) : PAt (W.setCell ⟨b, 2, none⟩ (.string x)) b s { t with tok := x } := Blk.set_ h 2 _
theorem PAt.setDeep {W : World} {b : Nat} {s : ByteArray} {t : PSt} (h : PAt W b s t) (k : Int) : PAt (W.setCell ⟨b, 3, none⟩ (.int .i64 k)) b s { t with deep := k } := Blk.set_ h 3 _
theorem PAt.setBad {W : World} {b : Nat} {s : ByteArray} {t : PSt} (h : PAt W b s t) (k : Bool) : PAt (W.setCell ⟨b, 4, none⟩ (.bool k)) b s { t with bad := k } := Blk.set_ h 4 _
def ParS (b : Nat) (s : ByteArray) (t' : PSt) (v : Value) (w : World) (e : Ending) (w' : World) : Prop := e = .returned v ∧ PAt w' b s t' ∧ Bx w.heap.size b w w'
def atCell (W : World) (b : Nat) : Nat := (intOf ((W.cell? ⟨b, 1, none⟩).getD undef)).toNat
theorem PAt.at_cell {W : World} {b : Nat} {s : ByteArray} {t : PSt} (h : PAt W b s t) : atCell W b = t.at_ := by
 unfold atCell
 rw [h.cells.2.1]
 simp [intOf]
set_option maxRecDepth 100000 in
set_option maxHeartbeats 1000000 in
theorem next_calls_ (b : Nat) (s : ByteArray) (t : PSt) (w : World) (h : PAt w b s t) (hok : POk s t) (hs : s.size ≤ 100000) :
 Calls Tryz.prog 197 #[.pointer (some ⟨b, 0, none⟩)] w (ParS b s (nextF s t) (.tuple #[]) w) := by
 obtain ⟨c0, c1, c2, c3, c4, f1, f2, f3, f4⟩ := h.cells
 have ha := hok.at_
 obtain ⟨E, hE⟩ : ∃ E, spanF blankB s (t.at_ + t.tok.size) = E := ⟨_, rfl⟩
 have hEs : E ≤ s.size := by rw [← hE]; exact span_le _ _ _ ha
 have HE := Lib.hid hE
 have P1 : PAt (w.setCell ⟨b, 1, none⟩ (.int .i64 ((t.at_ : Int) + t.tok.size))).drew b s { t with at_ := t.at_ + t.tok.size } := by
  have := h.setAt (t.at_ + t.tok.size)
  rw [Int.natCast_add] at this
  exact this
 have B1 : Bx w.heap.size b w (w.setCell ⟨b, 1, none⟩ (.int .i64 ((t.at_ : Int) + t.tok.size))).drew := ((Bx.refl _ _ _).setCell (p := ⟨b, 1, none⟩) (.inl rfl) _).drew
 have HR : Hid (nextF s t = { t with at_ := E, tok := s.extract E (tokE s E) }) := by unfold nextF; rw [hE]; exact Lib.hid rfl
 clear hE
 go_enter Tryz.func197, Tryz.ntmps197
 go_wp2_with fail
 go_region
 go_upto_block 0 with (fail)
 clear c0 c1 c2 c3 c4 f1 f2 f3 f4 h
 go_cut [] (fun W => PAt W b s { t with at_ := E } ∧ Bx w.heap.size b w W)
 case first =>
  go_wp2_with fail
  go_loopw [] (fun wr => ∃ k : Nat, k ≤ s.size ∧ Hid (spanF blankB s k = E) ∧ PAt wr b s { t with at_ := k } ∧ Bx w.heap.size b w wr) (fun wr => s.size - atCell wr b)
  case atStart => exact ⟨_, ha, HE, P1, B1⟩
  case round =>
   clear P1 B1
   obtain ⟨k, hk, HK, P, B⟩ := hrel
   obtain ⟨c0, c1, c2, c3, c4, f1, f2, f3, f4⟩ := P.cells
   simp only at c0 c1 c2 c3 c4
   have m0 : atCell wr b = k := P.at_cell
   have HM := Lib.hid m0
   clear m0
   by_cases hlt : k < s.size
   · by_cases hbl : s[k].toNat = 32
     · have HK2 : Hid (spanF blankB s (k + 1) = E) := by rw [← span_yes blankB s k hlt (by unfold blankB; simp [hbl])]; exact HK
       have t0 : ((s[k].toNat : Int) == 32) = true := by simp; omega
       clear hbl
       have P2 : PAt (wr.setCell ⟨b, 1, none⟩ (.int .i64 ((k : Int) + 1))) b s { t with at_ := k + 1 } := P.setAt (k + 1)
       go_wp2_with fail
       go_quiet (fail)
       go_wp2_with fail
       go_roundw
       case rel => exact ⟨k + 1, hlt, HK2, P2, (B.drewN _).setCell (p := ⟨b, 1, none⟩) (.inl rfl) _⟩
       case measure =>
        have m1 : atCell (wr.setCell ⟨b, 1, none⟩ (.int .i64 ((k : Int) + 1))) b = k + 1 := P2.at_cell
        show s.size - atCell (wr.setCell ⟨b, 1, none⟩ (.int .i64 ((k : Int) + 1))) b < s.size - atCell wr b
        rw [m1, HM.out]
        omega
     · have hkE : k = E := by rw [← HK.out, span_no blankB s k hlt (by unfold blankB; simp; exact hbl)]
       subst hkE
       have t0 : ((s[k].toNat : Int) == 32) = false := by simp; omega
       clear hbl
       go_wp2_with fail
       go_quiet (fail)
       go_wp2_with fail
       go_meet
       exact ⟨P, B.drewN _⟩
   · have hkE : k = E := by rw [← HK.out, span_end blankB s k (by omega)]
     subst hkE
     go_wp2_with fail
     go_quiet (fail)
     go_wp2_with fail
     go_meet
     exact ⟨P, B.drewN _⟩
 case rest =>
  obtain ⟨P, B⟩ := hcut
  clear P1 B1
  obtain ⟨c0, c1, c2, c3, c4, f1, f2, f3, f4⟩ := P.cells
  simp only at c0 c1 c2 c3 c4
  obtain ⟨D, hD⟩ : ∃ D, spanF wordB s E = D := ⟨_, rfl⟩
  have hDs : D ≤ s.size := by rw [← hD]; exact span_le _ _ _ hEs
  have hED : E ≤ D := by rw [← hD]; exact span_ge _ _ _
  have HD := Lib.hid hD
  have HF : Hid (tokE s E = if D = E then (if markAt s E = true then E + 1 else E) else D) := by unfold tokE; rw [hD]; exact Lib.hid rfl
  clear hD
  go_upto_block 2 with (fail)
  go_cut [2] (fun s2 W => s2 = .int .i64 D ∧ W = wc)
  case first =>
   go_wp2_with fail
   go_loop [2] (fun s2 => ∃ k : Nat, k ≤ s.size ∧ s2 = .int .i64 k ∧ Hid (spanF wordB s k = D)) (fun s2 => s.size - (intOf s2).toNat)
   case atStart => exact ⟨E, hEs, rfl, HD⟩
   case round =>
    obtain ⟨k, hk, rfl, HK⟩ := hrel
    by_cases hlt : k < s.size
    · have HW := Lib.hid (isWordByte_calls s[k] wc)
      cases hw : wordB s[k]
      · have hkD : k = D := by rw [← HK.out, span_no wordB s k hlt hw]
        subst hkD
        rw [hw] at HW
        clear hw
        go_wp2_with (go_at_call 244; refine HW.out.mono ?_; rintro e w2 ⟨rfl, rfl⟩)
        go_meet
        exact ⟨rfl, rfl⟩
      · have HK2 : Hid (spanF wordB s (k + 1) = D) := by rw [← span_yes wordB s k hlt hw]; exact HK
        rw [hw] at HW
        clear hw
        go_wp2_with (go_at_call 244; refine HW.out.mono ?_; rintro e w2 ⟨rfl, rfl⟩)
        go_round
        case rel => exact ⟨k + 1, hlt, by go_num, HK2⟩
        case measure => simp [intOf]; omega
    · have hkD : k = D := by rw [← HK.out, span_end wordB s k (by omega)]
      subst hkD
      go_wp2_with fail
      go_meet
      exact ⟨rfl, rfl⟩
  case rest =>
   obtain ⟨rfl, rfl⟩ := hcut
   obtain ⟨F, hF⟩ : ∃ F, tokE s E = F := ⟨_, rfl⟩
   have hEF : E ≤ F := by rw [← hF]; exact tokE_ge _ _
   have hFs : F ≤ s.size := by rw [← hF]; exact tokE_le _ _ hEs
   have HFF := Lib.hid hF
   obtain ⟨B0, hB0⟩ : ∃ B0, (decide (D = E) && markAt s E) = B0 := ⟨_, rfl⟩
   have HB := Lib.hid hB0
   have HG : Hid (F = if B0 = true then E + 1 else D) := by
    rw [← hF, HF.out, ← hB0]
    by_cases h1 : D = E
    · subst h1
      cases markAt s D <;> exact Lib.hid (by simp)
    · exact Lib.hid (by simp [h1])
   clear hF hB0
   have HDE : Hid (B0 = true → D = E) := fun h => by rw [← HB.out] at h; simp at h; exact h.1
   go_upto_region 6 with (fail)
   go_cut [90] (fun s90 W => s90 = .bool B0 ∧ W = wc)
   case first =>
    clear hEF hFs
    by_cases hDE : D = E
    · subst hDE
      clear hED
      by_cases hlt : D < s.size
      · have hc := Lib.contains_iff_indexByte [40, 41, 61, 60, 62] s[D]
        rw [marks_eq, ← markAt_in s D hlt] at hc
        have hc' := fun W => indexByte_calls ⟨#[40, 41, 61, 60, 62]⟩ (s[D].toNat : Int) W
        rw [byte_back] at hc'
        obtain ⟨z, hz⟩ : ∃ z, Lib.indexByte [40, 41, 61, 60, 62] s[D] = z := ⟨_, rfl⟩
        have hc2 : ∀ W, Calls Tryz.prog 165 #[.string ⟨#[40, 41, 61, 60, 62]⟩, .int .u8 s[D].toNat] W fun e w' => e = .returned (.int .i64 z) ∧ W = w' := fun W => by rw [← hz]; exact hc' W
        have HC := Lib.hid hc2
        rw [hz] at hc
        cases hm : markAt s D
        · rw [hm] at hc
          have hz0 : z < 0 := by have := of_decide_eq_false hc.symm; omega
          have HB2 : Hid (B0 = false) := by rw [← HB.out, hm]; exact Lib.hid (by simp)
          clear hc hm hc' hc2 hz
          go_wp2_with (go_at_call 165; refine (HC.out _).mono ?_; rintro e w2 ⟨rfl, rfl⟩)
          go_meet
          exact ⟨by (rw [HB2.out]) <;> (simp <;> omega), rfl⟩
        · rw [hm] at hc
          have hz0 : 0 ≤ z := of_decide_eq_true hc.symm
          have HB2 : Hid (B0 = true) := by rw [← HB.out, hm]; exact Lib.hid (by simp)
          clear hc hm hc' hc2 hz
          go_wp2_with (go_at_call 165; refine (HC.out _).mono ?_; rintro e w2 ⟨rfl, rfl⟩)
          go_meet
          exact ⟨by (rw [HB2.out]) <;> (simp <;> omega), rfl⟩
      · have HB2 : Hid (B0 = false) := by rw [← HB.out, markAt_out s D (by omega)]; exact Lib.hid (by simp)
        go_wp2_with fail
        go_meet
        exact ⟨by rw [HB2.out], rfl⟩
    · have HB2 : Hid (B0 = false) := by rw [← HB.out]; exact Lib.hid (by simp [hDE])
      have t0 : ((D : Int) == (E : Int)) = false := by simp; omega
      go_wp2_with fail
      go_meet
      exact ⟨by rw [HB2.out], rfl⟩
   case rest =>
    obtain ⟨rfl, rfl⟩ := hcut
    clear HB
    cases B0
    · obtain rfl : F = D := HG.out
      go_wp2_with fail
      go_region
      go_wp2_with fail
      go_end0
      refine ⟨rfl, ?_, ?_⟩
      · rw [HR.out, HFF.out]
        exact P.setTok _
      · exact (B.setCell (p := ⟨b, 2, none⟩) (.inl rfl) _).drew
    · obtain rfl : F = E + 1 := HG.out
      obtain rfl : D = E := HDE.out rfl
      go_wp2_with fail
      go_region
      go_wp2_with fail
      go_end0
      refine ⟨rfl, ?_, ?_⟩
      · rw [HR.out, HFF.out]
        exact P.setTok _
      · exact (B.setCell (p := ⟨b, 2, none⟩) (.inl rfl) _).drew
end Go.Proofs.YtapgnaimbgjcnaaGreatDoor
/-
  The parser of rules, on: take, nest, isName, isValue by contracts. (Printed by gen_rule1.py.)
-/
namespace Go.Proofs.YtapgnaimbgjcnaaGreatDoor
open Go Go.RowKit
set_option maxRecDepth 100000 in
theorem take_calls_ (b : Nat) (s : ByteArray) (t : PSt) (ok : Bool) (w : World) (h : PAt w b s t) (hok : POk s t) (hs : s.size ≤ 100000) :
 Calls Tryz.prog 277 #[.pointer (some ⟨b, 0, none⟩), .bool ok] w (ParS b s (takeF s t ok) (.string (takeS t ok)) w) := by
 obtain ⟨c0, c1, c2, c3, c4, f1, f2, f3, f4⟩ := h.cells
 have HN := Lib.hid (next_calls_ b s t w h hok hs)
 have P2 := h.setBad true
 have B2 : Bx w.heap.size b w (w.setCell ⟨b, 4, none⟩ (.bool true)) := (Bx.refl _ _ _).setCell (p := ⟨b, 4, none⟩) (.inl rfl) _
 obtain ⟨bd, hbd⟩ : ∃ bd, t.bad = bd := ⟨_, rfl⟩
 rw [hbd] at c4
 have HD := Lib.hid hbd
 clear h hbd
 cases bd
 · cases ok
   · have HR : Hid (takeF s t false = { t with bad := true } ∧ takeS t false = ⟨#[]⟩) := by unfold takeF takeS; exact Lib.hid ⟨by simp, by simp⟩
     rw [HR.out.1, HR.out.2]
     go_enter Tryz.func277, Tryz.ntmps277
     go_wp2_with fail
     go_ret
     exact ⟨rfl, P2, B2⟩
   · have HR : Hid (takeF s t true = nextF s t ∧ takeS t true = t.tok) := by unfold takeF takeS; rw [HD.out]; exact Lib.hid ⟨by simp, by simp⟩
     rw [HR.out.1, HR.out.2]
     go_enter Tryz.func277, Tryz.ntmps277
     go_wp2_with fail
     refine HN.out.mono ?_
     rintro e w2 ⟨rfl, P3, B3⟩
     go_wp2_with fail
     go_ret
     exact ⟨rfl, P3, B3⟩
 · have HR : Hid (takeF s t ok = { t with bad := true } ∧ takeS t ok = ⟨#[]⟩) := by unfold takeF takeS; rw [HD.out]; exact Lib.hid ⟨by simp, by simp⟩
   rw [HR.out.1, HR.out.2]
   go_enter Tryz.func277, Tryz.ntmps277
   go_wp2_with fail
   go_ret
   exact ⟨rfl, P2, B2⟩
set_option maxRecDepth 100000 in
theorem nest_calls_ (b : Nat) (s : ByteArray) (t : PSt) (d : Int) (w : World) (h : PAt w b s t) :
 Calls Tryz.prog 278 #[.pointer (some ⟨b, 0, none⟩), .int .i64 d] w (ParS b s (nestF d t) (.tuple #[]) w) := by
 obtain ⟨c0, c1, c2, c3, c4, f1, f2, f3, f4⟩ := h.cells
 by_cases h1 : 20 < d
 · by_cases h2 : t.deep < 0
   · have HR : Hid (nestF d t = { t with deep := t.at_ }) := by unfold nestF; rw [if_pos ⟨h1, h2⟩]; exact Lib.hid rfl
     rw [HR.out]
     have P2 := h.setDeep t.at_
     have B2 : Bx w.heap.size b w (w.setCell ⟨b, 3, none⟩ (.int .i64 t.at_)) := (Bx.refl _ _ _).setCell (p := ⟨b, 3, none⟩) (.inl rfl) _
     go_enter Tryz.func278, Tryz.ntmps278
     go_wp2_with fail
     go_end0
     exact ⟨rfl, P2, B2⟩
   · have HR : Hid (nestF d t = t) := by unfold nestF; rw [if_neg (by omega)]; exact Lib.hid rfl
     rw [HR.out]
     go_enter Tryz.func278, Tryz.ntmps278
     go_wp2_with fail
     go_end0
     exact ⟨rfl, h, Bx.refl _ _ _⟩
 · have HR : Hid (nestF d t = t) := by unfold nestF; rw [if_neg (by omega)]; exact Lib.hid rfl
   rw [HR.out]
   go_enter Tryz.func278, Tryz.ntmps278
   go_wp2_with fail
   go_end0
   exact ⟨rfl, h, Bx.refl _ _ _⟩
def words6 : List ByteArray := [sTime, sAnd, sOr, sNot, sHas, sTrue]
set_option maxRecDepth 100000 in
theorem isName_calls (x : ByteArray) (w : World) (hx : x.size ≤ 1000000) : Calls Tryz.prog 289 #[.string x] w (BRet (.bool (nameB x)) w) := by
 have hK := fun W : World => key_calls x W (by unfold maxLen; omega)
 have hC := fun W : World => containsS_calls (W.heap.size + 1) (some ⟨W.heap.size, 0, none⟩) 6 6 words6 x (W.alloc (.cells #[.string ⟨#[116, 105, 109, 101]⟩, .string ⟨#[97, 110, 100]⟩, .string ⟨#[111, 114]⟩, .string ⟨#[110, 111, 116]⟩, .string ⟨#[104, 97, 115]⟩, .string ⟨#[116, 114, 117, 101]⟩] 9)) (Rd.lit W (W.heap.size + 1) 1 6 _ _ (by omega) (by decide) rfl)
 obtain ⟨M, hM⟩ : ∃ M, memS words6 x = M := ⟨_, rfl⟩
 obtain ⟨B, hB⟩ : ∃ B, keyB x.data.toList = B := ⟨_, rfl⟩
 rw [hM] at hC
 rw [hB] at hK
 have HC := Lib.hid hC
 have HK := Lib.hid hK
 have HR : Hid (nameB x = (B && !M)) := by rw [← hM, ← hB]; exact Lib.hid rfl
 rw [HR.out]
 clear hC hK hM hB HR
 cases B
 · go_enter Tryz.func289, Tryz.ntmps289
   go_wp2_with fail
   refine (HK.out _).mono ?_
   rintro e w2 ⟨rfl, rfl⟩
   go_wp2_with fail
   go_ret
   exact ⟨rfl, Below.refl _ _⟩
 · go_enter Tryz.func289, Tryz.ntmps289
   go_wp2_with fail
   refine (HK.out _).mono ?_
   rintro e w2 ⟨rfl, rfl⟩
   go_wp2_with fail
   refine (HC.out _).mono ?_
   rintro e w2 ⟨rfl, nq, rfl⟩
   go_wp2_with fail
   go_ret
   exact ⟨ret_bool (by cases M <;> rfl), below_drewN ((Below.refl _ _).alloc (Nat.le_refl _) _) nq⟩
theorem all_snoc_w (l : List UInt8) (c : UInt8) : (l ++ [c]).all wordB = (l.all wordB && wordB c) := by simp
theorem all_no_w {l : List UInt8} {c : UInt8} (h : c ∈ l) (h' : wordB c = false) : l.all wordB = false := by
 rw [List.all_eq_false]
 exact ⟨c, h, by simpa using h'⟩
set_option maxRecDepth 100000 in
theorem isValue_calls (s : ByteArray) (w : World) (hs : s.size ≤ 1000000) : Calls Tryz.prog 291 #[.string s] w fun e w' => e = .returned (.bool (valueB s)) ∧ w = w' := by
 by_cases h0 : 1 ≤ s.size ∧ s.size ≤ 40
 · have HO := Lib.hid (show outB (s.size : Int) 1 40 = false from outB_f (by omega) (by omega))
   have HV : Hid (valueB s = s.data.toList.all wordB) := by unfold valueB; rw [decide_eq_true h0]; exact Lib.hid rfl
   go_enter Tryz.func291, Tryz.ntmps291
   go_wp2_with fail
   refine (out_calls _ _ _ _).mono ?_
   rintro e w' ⟨rfl, rfl⟩
   rw [HO.out]
   go_wp2_with fail
   go_loop [9] (fun i => ∃ k : Nat, k ≤ s.size ∧ i = .int .i64 k ∧ Hid ((s.data.toList.take k).all wordB = true)) (fun i => s.size - (intOf i).toNat)
   case atStart => exact ⟨0, Nat.zero_le _, rfl, by simp [Hid]⟩
   case round =>
    obtain ⟨k, hk, rfl, HA⟩ := hrel
    by_cases hlt : k < s.size
    · have hsn := all_snoc_w (s.data.toList.take k) s[k]
      rw [← take_snoc s k hlt] at hsn
      have hmem : s[k] ∈ s.data.toList := by
       show s.data.toList[k]'(by simpa using hlt) ∈ _
       exact List.getElem_mem _
      have hno := all_no_w hmem
      have HW := Lib.hid (isWordByte_calls s[k] w)
      clear hmem
      cases hw : wordB s[k]
      · have HN := Lib.hid (hno hw)
        rw [hw] at HW
        clear hw hno hsn
        go_wp2_with (go_at_call 244; refine HW.out.mono ?_; rintro e w2 ⟨rfl, rfl⟩)
        go_ret
        exact ⟨ret_bool (HV.out.trans HN.out).symm, rfl⟩
      · rw [hw, Bool.and_true, HA.out] at hsn
        have HS := Lib.hid hsn
        rw [hw] at HW
        clear hw hno hsn
        go_wp2_with (go_at_call 244; refine HW.out.mono ?_; rintro e w2 ⟨rfl, rfl⟩)
        go_round
        case rel => exact ⟨k + 1, by omega, by go_num, HS⟩
        case measure => simp [intOf]; omega
    · go_wp2_with fail
      go_ret
      exact ⟨ret_bool (by rw [HV.out, ← HA.out, List.take_of_length_le (by simp; omega)]), rfl⟩
 · have HO := Lib.hid (show outB (s.size : Int) 1 40 = true from outB_t (by omega))
   have HV : Hid (valueB s = false) := by unfold valueB; rw [decide_eq_false h0]; exact Lib.hid rfl
   rw [HV.out]
   clear h0
   go_enter Tryz.func291, Tryz.ntmps291
   go_wp2_with fail
   refine (out_calls _ _ _ _).mono ?_
   rintro e w' ⟨rfl, rfl⟩
   rw [HO.out]
   go_wp2_with fail
   go_ret
   exact ⟨rfl, rfl⟩
end Go.Proofs.YtapgnaimbgjcnaaGreatDoor
