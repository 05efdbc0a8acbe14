/-
  splitref2.RatedFault by a contract: it answers ratedF.
-/
import Derived.Test.YtedfieopmjpibaaGreatDoorZRatFault
namespace Go.Proofs.YtedfieopmjpibaaGreatDoor
open Go Go.RowKit

end Go.Proofs.YtedfieopmjpibaaGreatDoor
/-
  race.find and splitref2.ratedAt by contracts: both answer findR: the place of somebody in a list, or -1.
-/
namespace Go.Proofs.YtedfieopmjpibaaGreatDoor
open Go Go.RowKit

/-- the first place at which p holds, or -1 -/
def ixOf {α : Type} (p : α → Bool) : List α → Int
  | [] => -1
  | a :: l => if p a = true then 0 else if ixOf p l = -1 then -1 else ixOf p l + 1
theorem ixOf_ge {α : Type} (p : α → Bool) : ∀ l : List α, -1 ≤ ixOf p l ∧ ixOf p l < l.length
  | [] => by simp [ixOf]
  | a :: l => by
    have := ixOf_ge p l
    unfold ixOf
    simp only [List.length_cons]
    split
    · omega
    · split <;> omega
theorem ixOf_at {α : Type} (p : α → Bool) : ∀ (l : List α) (k : Nat) (hk : k < l.length), (∀ i (hi : i < k), p (l[i]'(Nat.lt_trans hi hk)) = false) → p l[k] = true → ixOf p l = k
  | a :: l, 0, hk, _, h => by simp only [List.getElem_cons_zero] at h; simp [ixOf, h]
  | a :: l, k + 1, hk, h0, h => by
    have ha := h0 0 (by omega)
    simp only [List.getElem_cons_zero] at ha
    simp only [List.getElem_cons_succ] at h
    have := ixOf_at p l k (by simpa using hk) (fun i hi => by have := h0 (i + 1) (by omega); simpa using this) h
    simp only [ixOf, ha, this]
    first | (simp; done) | (simp; omega)
theorem ixOf_no {α : Type} (p : α → Bool) : ∀ (l : List α), (∀ i (hi : i < l.length), p l[i] = false) → ixOf p l = -1
  | [], _ => rfl
  | a :: l, h => by
    have ha := h 0 (by simp)
    simp only [List.getElem_cons_zero] at ha
    have := ixOf_no p l (fun i hi => by have := h (i + 1) (by simpa using hi); simpa using this)
    simp [ixOf, ha, this]
def eqS (a b : ByteArray) : Bool := a.toList == b.toList
def findR (rs : List Rtd) (who : ByteArray) : Int := ixOf (fun r => eqS r.1 who) rs

set_option maxRecDepth 100000 in
theorem find_calls (b : Nat) (A : Option Addr) (n c : Nat) (rs : List Rtd) (who : ByteArray) (w : World) (hr : Rd w b 3 (.slice A n c) n (rs.flatMap ratedC)) :
    Calls Tryz.prog 40 #[.slice A n c, .string who] w (BRet (.int .i64 (findR rs who)) w) := by
  obtain ⟨hl, hnc, hcm, hcells⟩ := hr.cells ratedC_len (by omega)
  unfold maxLen at hcm
  have HL := Lib.hid hl
  have HC := Lib.hid hcells
  clear hcells hl hr
  go_enter Tryz.func40, Tryz.ntmps40
  go_wp2
  go_loopw [8] (fun i wr => ∃ k : Nat, k ≤ n ∧ i = .int .i64 k ∧ Hid (∀ i (_ : i < k) (hi' : i < rs.length), eqS rs[i].1 who = false) ∧ Below w.heap.size w wr ∧ Blk wr w.heap.size 9 #[.string who]) (fun i _ => n - (intOf i).toNat)
  case atStart => exact ⟨0, Nat.zero_le _, rfl, (fun i hi => absurd hi (by omega)), (Below.refl _ _).alloc (Nat.le_refl _) _, Blk.new _ _ _⟩
  case round =>
    obtain ⟨k, hk, rfl, HF, hbr, hblk⟩ := hrel
    by_cases hlt : k < n
    · have hkr : k < rs.length := by rw [HL.out]; exact hlt
      obtain ⟨g, o, hA, _, hcs⟩ := HC.out (by omega)
      subst hA
      have c0 := below_cell hbr (hcs k hkr 0 (by omega))
      have c1 := below_cell hbr (hcs k hkr 1 (by omega))
      have c2 := below_cell hbr (hcs k hkr 2 (by omega))
      obtain ⟨s, hs⟩ : ∃ s, rs[k].1 = s := ⟨_, rfl⟩
      rw [hs] at c0
      simp only [Nat.add_zero] at c0
      have hlz := hbr.size
      have hbb := hblk.lt
      have bw := (hblk.alloc (.cells #[.string s, .int .i64 rs[k].2.1, .int .i64 rs[k].2.2] 44)).one.1
      cases he : eqS s who
      · have he' : (s.toList == who.toList) = false := he
        have HF2 : Hid (∀ i (_ : i < k + 1) (hi' : i < rs.length), eqS rs[i].1 who = false) := by
          intro i hi hi'
          by_cases hik : i = k
          · subst hik; rw [hs]; exact he
          · exact HF.out i (by omega) hi'
        clear he hs
        go_wp2
        go_roundw
        case rel => exact ⟨k + 1, by omega, by go_num, HF2, hbr.alloc hbr.size _, hblk.alloc _⟩
        case measure => simp [intOf]; omega
      · have he' : (s.toList == who.toList) = true := he
        have HR : Hid (findR rs who = k) := ixOf_at _ rs k hkr (fun i hi => HF.out i hi (by omega)) (by show eqS rs[k].1 who = true; rw [hs]; exact he)
        clear he hs
        go_wp2
        go_ret
        exact ⟨ret_int HR.out.symm, hbr.alloc hbr.size _⟩
    · obtain rfl : k = n := by omega
      have HR : Hid (findR rs who = -1) := ixOf_no _ rs (fun i hi => HF.out i (by rw [← HL.out]; exact hi) hi)
      go_wp2
      go_ret
      exact ⟨ret_int HR.out.symm, hbr⟩

end Go.Proofs.YtedfieopmjpibaaGreatDoor
