/-
  slices.Contains of ints by a contract. (Lines of XKeep2, for seats without presses.)
-/
import Derived.Test.YtejadhehmcifoaaZSlot1
namespace Go.Proofs.Ytejadhehmcifoaa
open Go Go.RowKit

def memI (hs : List Int) (x : Int) : Bool := hs.any (fun y => x == y)
theorem memI_dec (hs : List Int) (x : Int) : memI hs x = decide (x ∈ hs) := by
  unfold memI
  induction hs with
  | nil => simp
  | cons y hs ih => rw [List.any_cons, ih]; by_cases h : x = y <;> simp [h]
theorem ints_cells {w : World} {b n c : Nat} {A : Option Addr} {hs : List Int} (h : Rd w b 1 (.slice A n c) n (hs.map (Value.int .i64))) :
    hs.length = n ∧ n ≤ c ∧ c ≤ maxLen ∧ (0 < n → ∃ g o, A = some ⟨g, o, none⟩ ∧ g ≠ b ∧ ∀ i (hi : i < hs.length), w.cell? ⟨g, o + i, none⟩ = some (.int .i64 hs[i])) := by
  obtain ⟨A', c', e1, e2, e3, e4, e5, e6⟩ := h
  injection e1 with ea eb ec
  subst ea ec
  refine ⟨by simpa using e4, e2, e3, fun hn => ?_⟩
  obtain ⟨g, o, f1, f2, f3⟩ := e6 hn
  exact ⟨g, o, f1, f2, fun i hi => f3 i _ (by rw [List.getElem?_map, List.getElem?_eq_getElem hi]; rfl)⟩
set_option maxRecDepth 100000 in
theorem indexI_calls (b : Nat) (A : Option Addr) (n c : Nat) (hs : List Int) (x : Int) (w : World) (hr : Rd w b 1 (.slice A n c) n (hs.map (Value.int .i64))) :
    Calls Try.prog 75 #[.slice A n c, .int .i64 x] w (QRet (.int .i64 (ixOf (fun y => x == y) hs)) w) := by
  obtain ⟨hl, hnc, hcm, hcells⟩ := ints_cells hr
  unfold maxLen at hcm
  have HL := Lib.hid hl
  have HC := Lib.hid hcells
  clear hcells hl hr
  go_enter Try.func75, Try.ntmps75
  go_wp2_with fail
  go_loopw [8] (fun i wr => ∃ k : Nat, k ≤ n ∧ i = .int .i64 k ∧ Hid (∀ i (_ : i < k) (hi' : i < hs.length), (x == hs[i]) = false) ∧ wr = w) (fun i _ => n - (intOf i).toNat)
  case atStart => exact ⟨0, Nat.zero_le _, rfl, (fun i hi => absurd hi (by omega)), rfl⟩
  case round =>
    obtain ⟨k, hk, rfl, HF, rfl⟩ := hrel
    by_cases hlt : k < n
    · have hkr : k < hs.length := by rw [HL.out]; exact hlt
      obtain ⟨g, o, hA, _, hcs⟩ := HC.out (by omega)
      subst hA
      have c0 := hcs k hkr
      obtain ⟨s, hs'⟩ : ∃ s, hs[k] = s := ⟨_, rfl⟩
      rw [hs'] at c0
      clear hcs
      cases he : (x == s)
      · have HF2 : Hid (∀ i (_ : i < k + 1) (hi' : i < hs.length), (x == hs[i]) = false) := by
          intro i hi hi'
          by_cases hik : i = k
          · subst hik; rw [hs']; exact he
          · exact HF.out i (by omega) hi'
        clear hs'
        go_wp2_with fail
        go_roundw
        case rel => exact ⟨k + 1, by omega, by go_num, HF2, trivial⟩
        case measure => simp [intOf]; omega
      · have HR : Hid (ixOf (fun y => x == y) hs = k) := ixOf_at _ hs k hkr (fun i hi => HF.out i hi (by omega)) (by rw [hs']; exact he)
        clear hs'
        go_wp2_with fail
        go_ret
        exact ⟨ret_int HR.out.symm, 0, rfl⟩
    · obtain rfl : k = n := by omega
      have HR : Hid (ixOf (fun y => x == y) hs = -1) := ixOf_no _ hs (fun i hi => HF.out i (by rw [← HL.out]; exact hi) hi)
      go_wp2_with fail
      go_ret
      exact ⟨ret_int HR.out.symm, 0, rfl⟩
set_option maxRecDepth 100000 in
theorem containsI_calls (b : Nat) (A : Option Addr) (n c : Nat) (hs : List Int) (x : Int) (w : World) (hr : Rd w b 1 (.slice A n c) n (hs.map (Value.int .i64))) :
    Calls Try.prog 44 #[.slice A n c, .int .i64 x] w (QRet (.bool (memI hs x)) w) := by
  have HM := Lib.hid (ixOf_mem (fun y => x == y) hs)
  go_enter Try.func44, Try.ntmps44
  go_wp2_with fail
  refine (indexI_calls b A n c hs x _ hr).mono ?_
  rintro e w1 ⟨rfl, nq, rfl⟩
  go_wp2_with fail
  go_ret
  exact ⟨ret_bool HM.out, nq, rfl⟩

end Go.Proofs.Ytejadhehmcifoaa
