/-
  strings.Trim at the digits and strconv.Atoi at any string, and timer.Parse by contracts.
-/
import Derived.Test.YtipbhgefcmekpaaGreatDoorZTim1
import Derived.Shelf.Strings.SlTrimAscii
import Derived.Lib.AtoiTie
import Derived.Lib.AtoiAllCases
namespace Go.Proofs.YtipbhgefcmekpaaGreatDoor
open Go Go.RowKit TxtP
attribute [local go_sem ↓ high] run_sumS

theorem dropW_all {p : UInt8 → Bool} : ∀ {l : List UInt8}, (∀ x ∈ l.dropWhile p, p x = true) → ∀ x ∈ l, p x = true
  | [], _, x, hx => by cases hx
  | a :: t, h, x, hx => by
    by_cases ha : p a = true
    · rw [List.dropWhile_cons, if_pos ha] at h
      rcases List.mem_cons.1 hx with rfl | hx
      · exact ha
      · exact dropW_all h x hx
    · rw [List.dropWhile_cons, if_neg ha] at h
      exact absurd (h a (List.mem_cons_self ..)) ha
theorem dropW_nil {p : UInt8 → Bool} : ∀ {l : List UInt8}, l.dropWhile p = [] ↔ ∀ x ∈ l, p x = true
  | [] => by simp
  | a :: t => by
    rw [List.dropWhile_cons]
    by_cases ha : p a = true
    · rw [if_pos ha, dropW_nil]
      constructor
      · intro h x hx
        rcases List.mem_cons.1 hx with rfl | hx
        · exact ha
        · exact h x hx
      · intro h x hx
        exact h x (List.mem_cons_of_mem _ hx)
    · rw [if_neg ha]
      constructor
      · intro h; cases h
      · intro h; exact absurd (h a (List.mem_cons_self ..)) ha
theorem trim_nil (l : List UInt8) : Lib.trimS l digitsL = [] ↔ l.all isDig = true := by
  have hp : ∀ x, digitsL.contains x = isDig x := digits_eq
  unfold Lib.trimS Lib.trimLeftS Lib.trimRightS
  rw [dropW_nil, List.all_eq_true]
  constructor
  · intro h x hx
    have h2 : ∀ y ∈ l.reverse.dropWhile (digitsL.contains ·), digitsL.contains y = true := fun y hy => h y (List.mem_reverse.2 hy)
    rw [← hp]
    exact dropW_all h2 x (List.mem_reverse.2 hx)
  · intro h x hx
    have h2 : l.reverse.dropWhile (digitsL.contains ·) = [] := dropW_nil.2 (fun y hy => by
      show digitsL.contains y = true
      rw [hp]; exact h y (List.mem_reverse.1 hy))
    rw [h2] at hx
    cases hx
theorem trimS_calls (s : ByteArray) (w : World) (hs : s.size ≤ 100000) : Calls Tryz.prog 15 #[.string s, .string ⟨#[48, 49, 50, 51, 52, 53, 54, 55, 56, 57]⟩] w (fun e w' => ∃ t : ByteArray, e = .returned (.string t) ∧ (s.data.toList.all isDig = true → t = ⟨#[]⟩) ∧ (s.data.toList.all isDig = false → 0 < t.size) ∧ Below w.heap.size w w') := by
  refine (Any.strings_Trim_laid Tryz.lays160 (by kernel_rfl) s ⟨#[48, 49, 50, 51, 52, 53, 54, 55, 56, 57]⟩ w (by omega) (by decide) ?_).mono ?_
  · intro j b hj
    have hm := List.mem_of_getElem? hj
    simp at hm
    rcases hm with rfl | rfl | rfl | rfl | rfl | rfl | rfl | rfl | rfl | rfl <;> decide
  · rintro e w' ⟨rfl, hb⟩
    have hcs : (⟨#[48, 49, 50, 51, 52, 53, 54, 55, 56, 57]⟩ : ByteArray).data.toList = digitsL := rfl
    refine ⟨_, rfl, fun h => ?_, fun h => ?_, hb⟩
    · rw [hcs, (trim_nil _).2 h]
    · rw [hcs, ba_size]
      refine List.length_pos_iff.2 (fun e => ?_)
      rw [(trim_nil _).1 e] at h; cases h
/-- what the library's error variables hold -/
def ErrS (w : World) : Prop := (∃ ev : Value, w.cell? ⟨1, 0, none⟩ = some ev ∧ (ev = .nilIface ∨ ∃ te pe, ev = .iface te pe)) ∧ ∃ ev : Value, w.cell? ⟨2, 0, none⟩ = some ev ∧ (ev = .nilIface ∨ ∃ te pe, ev = .iface te pe)
theorem ErrS.below {w w' : World} (h : ErrS w) (k : Below w.heap.size w w') : ErrS w' := by
  obtain ⟨⟨e1, h1, h2⟩, e2, h3, h4⟩ := h
  exact ⟨⟨e1, below_cell k h1, h2⟩, e2, below_cell k h3, h4⟩
def AtoR (s : ByteArray) (w : World) (e : Ending) (w' : World) : Prop :=
  ∃ (z : Int) (ev : Value), e = .returned (.tuple #[.int .i64 z, ev]) ∧ -9223372036854775808 ≤ z ∧ z ≤ 9223372036854775807 ∧ (s.size ≤ 18 → ∀ n, Lib.atoi s.data.toList = some n → z = n) ∧ Below w.heap.size w w'
theorem atoiAny_calls (s : ByteArray) (w : World) (hs : s.size ≤ 100000) (hE : ErrS w) : Calls Tryz.prog 18 #[.string s] w (AtoR s w) := by
  obtain ⟨⟨e1, h1, h2⟩, e2, h3, h4⟩ := hE
  have hsh : s.size ≤ 18 → Lib.atoiAll s.data.toList = Lib.NumEnd.ofOption (Lib.atoi s.data.toList) := fun h => Lib.atoiAll_short _ (by simpa using h)
  cases hA : Lib.atoiAll s.data.toList
  · rename_i v
    refine (Tryz.strconv_Atoi_ok s (by omega) v hA w).mono ?_
    rintro e w' ⟨rfl, hb⟩
    have hbd := Lib.atoiAll_bounds hA
    refine ⟨v, .nilIface, rfl, hbd.1, hbd.2, fun h18 n hn => ?_, ?_⟩
    · have := hsh h18
      rw [hA, hn] at this
      simp [Lib.NumEnd.ofOption] at this
      exact this
    · rcases hb with rfl | ⟨t, rfl⟩
      · exact Below.refl _ _
      · exact Lib.bytesWorld_below w _ t
  · refine (Any.strconv_Atoi_syntax Tryz.laysC172 s (by omega) hA e1 w h1 h2).mono ?_
    rintro e w' ⟨N, rfl, _, _, hb⟩
    refine ⟨0, _, rfl, by decide, by decide, fun h18 n hn => ?_, hb⟩
    have := hsh h18
    rw [hA, hn] at this
    simp [Lib.NumEnd.ofOption] at this
  · refine (Tryz.strconv_Atoi_range s (by omega) hA e2 w h3 h4).mono ?_
    rintro e w' ⟨N, rfl, _, _, hb⟩
    have hbd := Lib.atoiSat_bounds s.data.toList
    refine ⟨_, _, rfl, hbd.1, hbd.2, fun h18 n hn => ?_, hb⟩
    have := hsh h18
    rw [hA, hn] at this
    simp [Lib.NumEnd.ofOption] at this
end Go.Proofs.YtipbhgefcmekpaaGreatDoor
