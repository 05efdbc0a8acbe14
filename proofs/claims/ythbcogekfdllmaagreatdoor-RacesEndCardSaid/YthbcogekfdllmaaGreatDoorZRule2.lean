/-
  The parser of rules, on: take, nest, isName, isValue by contracts. (Printed by gen_rule1.py.)
-/
import Derived.Test.YthbcogekfdllmaaGreatDoorZRule1
import Derived.Test.YthbcogekfdllmaaGreatDoorZSlot1
namespace Go.Proofs.YthbcogekfdllmaaGreatDoor
open Go Go.RowKit

set_option maxRecDepth 100000 in
theorem take_calls_ (b : Nat) (s : ByteArray) (t : PSt) (ok : Bool) (w : World) (h : PAt w b s t) (hok : POk s t) (hs : s.size ≤ 100000) :
    Calls Tryz.prog 234 #[.pointer (some ⟨b, 0, none⟩), .bool ok] w (ParS b s (takeF s t ok) (.string (takeS t ok)) w) := by
  obtain ⟨c0, c1, c2, c3, c4, f1, f2, f3, f4⟩ := h.cells
  have HN := Lib.hid (next_calls_ b s t w h hok hs)
  have P2 := h.setBad true
  have B2 : Bx w.heap.size b w (w.setCell ⟨b, 4, none⟩ (.bool true)) := (Bx.refl _ _ _).setCell (p := ⟨b, 4, none⟩) (.inl rfl) _
  obtain ⟨bd, hbd⟩ : ∃ bd, t.bad = bd := ⟨_, rfl⟩
  rw [hbd] at c4
  have HD := Lib.hid hbd
  clear h hbd
  cases bd
  · cases ok
    · have HR : Hid (takeF s t false = { t with bad := true } ∧ takeS t false = ⟨#[]⟩) := by unfold takeF takeS; exact Lib.hid ⟨by simp, by simp⟩
      rw [HR.out.1, HR.out.2]
      go_enter Tryz.func234, Tryz.ntmps234
      go_wp2_with fail
      go_ret
      exact ⟨rfl, P2, B2⟩
    · have HR : Hid (takeF s t true = nextF s t ∧ takeS t true = t.tok) := by unfold takeF takeS; rw [HD.out]; exact Lib.hid ⟨by simp, by simp⟩
      rw [HR.out.1, HR.out.2]
      go_enter Tryz.func234, Tryz.ntmps234
      go_wp2_with fail
      refine HN.out.mono ?_
      rintro e w2 ⟨rfl, P3, B3⟩
      go_wp2_with fail
      go_ret
      exact ⟨rfl, P3, B3⟩
  · have HR : Hid (takeF s t ok = { t with bad := true } ∧ takeS t ok = ⟨#[]⟩) := by unfold takeF takeS; rw [HD.out]; exact Lib.hid ⟨by simp, by simp⟩
    rw [HR.out.1, HR.out.2]
    go_enter Tryz.func234, Tryz.ntmps234
    go_wp2_with fail
    go_ret
    exact ⟨rfl, P2, B2⟩

set_option maxRecDepth 100000 in
theorem nest_calls_ (b : Nat) (s : ByteArray) (t : PSt) (d : Int) (w : World) (h : PAt w b s t) :
    Calls Tryz.prog 235 #[.pointer (some ⟨b, 0, none⟩), .int .i64 d] w (ParS b s (nestF d t) (.tuple #[]) w) := by
  obtain ⟨c0, c1, c2, c3, c4, f1, f2, f3, f4⟩ := h.cells
  by_cases h1 : 20 < d
  · by_cases h2 : t.deep < 0
    · have HR : Hid (nestF d t = { t with deep := t.at_ }) := by unfold nestF; rw [if_pos ⟨h1, h2⟩]; exact Lib.hid rfl
      rw [HR.out]
      have P2 := h.setDeep t.at_
      have B2 : Bx w.heap.size b w (w.setCell ⟨b, 3, none⟩ (.int .i64 t.at_)) := (Bx.refl _ _ _).setCell (p := ⟨b, 3, none⟩) (.inl rfl) _
      go_enter Tryz.func235, Tryz.ntmps235
      go_wp2_with fail
      go_end0
      exact ⟨rfl, P2, B2⟩
    · have HR : Hid (nestF d t = t) := by unfold nestF; rw [if_neg (by omega)]; exact Lib.hid rfl
      rw [HR.out]
      go_enter Tryz.func235, Tryz.ntmps235
      go_wp2_with fail
      go_end0
      exact ⟨rfl, h, Bx.refl _ _ _⟩
  · have HR : Hid (nestF d t = t) := by unfold nestF; rw [if_neg (by omega)]; exact Lib.hid rfl
    rw [HR.out]
    go_enter Tryz.func235, Tryz.ntmps235
    go_wp2_with fail
    go_end0
    exact ⟨rfl, h, Bx.refl _ _ _⟩

def words6 : List ByteArray := [sTime, sAnd, sOr, sNot, sHas, sTrue]
set_option maxRecDepth 100000 in
theorem isName_calls (x : ByteArray) (w : World) (hx : x.size ≤ 1000000) : Calls Tryz.prog 88 #[.string x] w (BRet (.bool (nameB x)) w) := by
  have hK := fun W : World => key_calls x W (by unfold maxLen; omega)
  have hC := fun W : World => containsS_calls (W.heap.size + 1) (some ⟨W.heap.size, 0, none⟩) 6 6 words6 x (W.alloc (.cells #[.string ⟨#[116, 105, 109, 101]⟩, .string ⟨#[97, 110, 100]⟩, .string ⟨#[111, 114]⟩, .string ⟨#[110, 111, 116]⟩, .string ⟨#[104, 97, 115]⟩, .string ⟨#[116, 114, 117, 101]⟩] 9)) (Rd.lit W (W.heap.size + 1) 1 6 _ _ (by omega) (by decide) rfl)
  obtain ⟨M, hM⟩ : ∃ M, memS words6 x = M := ⟨_, rfl⟩
  obtain ⟨B, hB⟩ : ∃ B, keyB x.data.toList = B := ⟨_, rfl⟩
  rw [hM] at hC
  rw [hB] at hK
  have HC := Lib.hid hC
  have HK := Lib.hid hK
  have HR : Hid (nameB x = (B && !M)) := by rw [← hM, ← hB]; exact Lib.hid rfl
  rw [HR.out]
  clear hC hK hM hB HR
  cases B
  · go_enter Tryz.func88, Tryz.ntmps88
    go_wp2_with fail
    refine (HK.out _).mono ?_
    rintro e w2 ⟨rfl, rfl⟩
    go_wp2_with fail
    go_ret
    exact ⟨rfl, Below.refl _ _⟩
  · go_enter Tryz.func88, Tryz.ntmps88
    go_wp2_with fail
    refine (HK.out _).mono ?_
    rintro e w2 ⟨rfl, rfl⟩
    go_wp2_with fail
    refine (HC.out _).mono ?_
    rintro e w2 ⟨rfl, nq, rfl⟩
    go_wp2_with fail
    go_ret
    exact ⟨ret_bool (by cases M <;> rfl), below_drewN ((Below.refl _ _).alloc (Nat.le_refl _) _) nq⟩

theorem all_snoc_w (l : List UInt8) (c : UInt8) : (l ++ [c]).all wordB = (l.all wordB && wordB c) := by simp
theorem all_no_w {l : List UInt8} {c : UInt8} (h : c ∈ l) (h' : wordB c = false) : l.all wordB = false := by
  rw [List.all_eq_false]
  exact ⟨c, h, by simpa using h'⟩
set_option maxRecDepth 100000 in
theorem isValue_calls (s : ByteArray) (w : World) (hs : s.size ≤ 1000000) : Calls Tryz.prog 185 #[.string s] w fun e w' => e = .returned (.bool (valueB s)) ∧ w = w' := by
  by_cases h0 : 1 ≤ s.size ∧ s.size ≤ 40
  · have HO := Lib.hid (show outB (s.size : Int) 1 40 = false from outB_f (by omega) (by omega))
    have HV : Hid (valueB s = s.data.toList.all wordB) := by unfold valueB; rw [decide_eq_true h0]; exact Lib.hid rfl
    go_enter Tryz.func185, Tryz.ntmps185
    go_wp2_with fail
    refine (out_calls _ _ _ _).mono ?_
    rintro e w' ⟨rfl, rfl⟩
    rw [HO.out]
    go_wp2_with fail
    go_loop [9] (fun i => ∃ k : Nat, k ≤ s.size ∧ i = .int .i64 k ∧ Hid ((s.data.toList.take k).all wordB = true)) (fun i => s.size - (intOf i).toNat)
    case atStart => exact ⟨0, Nat.zero_le _, rfl, by simp [Hid]⟩
    case round =>
      obtain ⟨k, hk, rfl, HA⟩ := hrel
      by_cases hlt : k < s.size
      · have hsn := all_snoc_w (s.data.toList.take k) s[k]
        rw [← take_snoc s k hlt] at hsn
        have hmem : s[k] ∈ s.data.toList := by
          show s.data.toList[k]'(by simpa using hlt) ∈ _
          exact List.getElem_mem _
        have hno := all_no_w hmem
        have HW := Lib.hid (isWordByte_calls s[k] w)
        clear hmem
        cases hw : wordB s[k]
        · have HN := Lib.hid (hno hw)
          rw [hw] at HW
          clear hw hno hsn
          go_wp2_with (go_at_call 195; refine HW.out.mono ?_; rintro e w2 ⟨rfl, rfl⟩)
          go_ret
          exact ⟨ret_bool (HV.out.trans HN.out).symm, rfl⟩
        · rw [hw, Bool.and_true, HA.out] at hsn
          have HS := Lib.hid hsn
          rw [hw] at HW
          clear hw hno hsn
          go_wp2_with (go_at_call 195; refine HW.out.mono ?_; rintro e w2 ⟨rfl, rfl⟩)
          go_round
          case rel => exact ⟨k + 1, by omega, by go_num, HS⟩
          case measure => simp [intOf]; omega
      · go_wp2_with fail
        go_ret
        exact ⟨ret_bool (by rw [HV.out, ← HA.out, List.take_of_length_le (by simp; omega)]), rfl⟩
  · have HO := Lib.hid (show outB (s.size : Int) 1 40 = true from outB_t (by omega))
    have HV : Hid (valueB s = false) := by unfold valueB; rw [decide_eq_false h0]; exact Lib.hid rfl
    rw [HV.out]
    clear h0
    go_enter Tryz.func185, Tryz.ntmps185
    go_wp2_with fail
    refine (out_calls _ _ _ _).mono ?_
    rintro e w' ⟨rfl, rfl⟩
    rw [HO.out]
    go_wp2_with fail
    go_ret
    exact ⟨rfl, rfl⟩
end Go.Proofs.YthbcogekfdllmaaGreatDoor
