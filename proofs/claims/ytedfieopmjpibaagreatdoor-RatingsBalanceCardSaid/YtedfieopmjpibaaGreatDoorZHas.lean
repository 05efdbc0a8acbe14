/-
  slices.ContainsFunc over results, at the two closures that ask for a name, by contracts: both answer hasR.
-/
import Derived.Test.YtedfieopmjpibaaGreatDoorZRatedQ
import Derived.Test.YtedfieopmjpibaaGreatDoorZRatMake3
namespace Go.Proofs.YtedfieopmjpibaaGreatDoor
open Go Go.RowKit

/-- is there a result of somebody among the first m? -/
def hasR (rs : List Res) (who : ByteArray) : Bool := rs.any fun r => eqS r.2.1 who
theorem hasR_t {rs : List Res} {who : ByteArray} {k : Nat} (hk : k < rs.length) (h : eqS rs[k].2.1 who = true) : hasR rs who = true := by
  unfold hasR
  rw [List.any_eq_true]
  exact ⟨_, List.getElem_mem hk, h⟩
theorem hasR_f {rs : List Res} {who : ByteArray} (h : ∀ i (hi : i < rs.length), eqS rs[i].2.1 who = false) : hasR rs who = false := by
  unfold hasR
  rw [List.any_eq_false]
  intro x hx
  obtain ⟨i, hi, rfl⟩ := List.mem_iff_getElem.1 hx
  simp [h i hi]

set_option maxRecDepth 100000 in
theorem hasP_calls (b gx : Nat) (A : Option Addr) (n c : Nat) (rs : List Res) (x : Res) (w : World) (hr : Rd w b 3 (.slice A n c) n (rs.flatMap resC)) (hx : Blk w gx 50 #[.int .i64 x.1, .string x.2.1, .int .i64 x.2.2]) :
    Calls Tryz.prog 56 #[.slice A n c, .func (.func 57) #[] #[.pointer (some ⟨gx, 0, none⟩)]] w (BRet (.bool (hasR rs x.2.1)) w) := by
  obtain ⟨hl, hnc, hcm, hcells⟩ := hr.cells resC_len (by omega)
  unfold maxLen at hcm
  have HL := Lib.hid hl
  have HC := Lib.hid hcells
  clear hcells hl hr
  go_enter Tryz.func56, Tryz.ntmps56
  go_wp2
  go_loopw [8] (fun i wr => ∃ k : Nat, k ≤ n ∧ i = .int .i64 k ∧ Hid (∀ i (_ : i < k) (hi' : i < rs.length), eqS rs[i].2.1 x.2.1 = false) ∧ Below w.heap.size w wr) (fun i _ => n - (intOf i).toNat)
  case atStart => exact ⟨0, Nat.zero_le _, rfl, (fun i hi => absurd hi (by omega)), Below.refl _ _⟩
  case round =>
    obtain ⟨k, hk, rfl, HF, hbr⟩ := hrel
    have hblk : Blk wr gx 50 #[.int .i64 x.1, .string x.2.1, .int .i64 x.2.2] := hx.below hbr
    by_cases hlt : k < n
    · have hkr : k < rs.length := by rw [HL.out]; exact hlt
      obtain ⟨g, o, hA, _, hcs⟩ := HC.out (by omega)
      subst hA
      have c0 := below_cell hbr (hcs k hkr 0 (by omega))
      have c1 := below_cell hbr (hcs k hkr 1 (by omega))
      have c2 := below_cell hbr (hcs k hkr 2 (by omega))
      obtain ⟨s, hs⟩ : ∃ s, rs[k].2.1 = s := ⟨_, rfl⟩
      rw [hs] at c1
      simp only [Nat.add_zero] at c0
      have hlz := hbr.size
      have hbb := hblk.lt
      have bw := (hblk.alloc (.cells #[.int .i64 rs[k].1, .string s, .int .i64 rs[k].2.2] 50)).three.2.1
      cases he : eqS s x.2.1
      · have he' : (s.toList == x.2.1.toList) = false := he
        have HF2 : Hid (∀ i (_ : i < k + 1) (hi' : i < rs.length), eqS rs[i].2.1 x.2.1 = false) := by
          intro i hi hi'
          by_cases hik : i = k
          · subst hik; rw [hs]; exact he
          · exact HF.out i (by omega) hi'
        clear he hs
        go_wp2
        go_roundw
        case rel => exact ⟨k + 1, by omega, by go_num, HF2, hbr.alloc hbr.size _⟩
        case measure => simp [intOf]; omega
      · have he' : (s.toList == x.2.1.toList) = true := he
        have HR : Hid (hasR rs x.2.1 = true) := hasR_t hkr (by rw [hs]; exact he)
        clear he hs
        go_wp2
        go_ret
        exact ⟨ret_bool HR.out.symm, hbr.alloc hbr.size _⟩
    · obtain rfl : k = n := by omega
      have HR : Hid (hasR rs x.2.1 = false) := hasR_f (fun i hi => HF.out i (by rw [← HL.out]; exact hi) hi)
      go_wp2
      go_ret
      exact ⟨ret_bool HR.out.symm, hbr⟩

end Go.Proofs.YtedfieopmjpibaaGreatDoor
