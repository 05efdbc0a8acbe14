/-
  Who is to blame, in plain words: somebody just if a rule does not hold, and atoms of the rule alone. No Go text is named here.
-/
import Derived.Test.YtfhdknppldobiaaGreatDoorZHld3
import Derived.Test.YtfhdknppldobiaaGreatDoorZSep
import Derived.Test.YtfhdknppldobiaaGreatDoorZClk
import Derived.Test.YtfhdknppldobiaaGreatDoorZSq
import Derived.Laws.Concat
import Derived.Deep.DeepCutAuto
namespace Go.Proofs.YtfhdknppldobiaaGreatDoor
open Go Go.RowKit

theorem blm_sub {num : ByteArray → Int × Bool} {t : Nd} (h : NdOk num t) (is : Atm → Bool) : ∀ want x, x ∈ blmF is want t → x ∈ txs t := by
  induction h with
  | atom a h => intro want x hx; rw [blm_leaf] at hx; rw [txs_leaf]; exact hx
  | not k _ ih => intro want x hx; rw [blm_not] at hx; rw [txs_not]; exact ih _ x hx
  | or ks h2 _ ih =>
    intro want x hx
    rw [blmF_eq, if_neg (by decide), if_neg (by decide), List.mem_flatMap] at hx
    obtain ⟨k, hk, hx⟩ := hx
    rw [txs_in (by decide), List.mem_flatMap]
    refine ⟨k, hk, ?_⟩
    split at hx
    · cases hx
    · exact ih k hk want x hx
  | and ks h2 _ ih =>
    intro want x hx
    rw [blmF_eq, if_neg (by decide), if_neg (by decide), List.mem_flatMap] at hx
    obtain ⟨k, hk, hx⟩ := hx
    rw [txs_in (by decide), List.mem_flatMap]
    refine ⟨k, hk, ?_⟩
    split at hx
    · cases hx
    · exact ih k hk want x hx
theorem blm_some {num : ByteArray → Int × Bool} {t : Nd} (h : NdOk num t) (is : Atm → Bool) : ∀ want, holF is t ≠ want → ∃ x, x ∈ blmF is want t := by
  induction h with
  | atom a h => intro want _; rw [blm_leaf]; exact ⟨_, List.mem_cons_self ..⟩
  | not k _ ih =>
    intro want hw
    rw [blm_not]
    exact ih _ (fun e => hw (by rw [hol_not, e]; simp))
  | or ks h2 _ ih =>
    intro want hw
    rw [blmF_eq, if_neg (by decide), if_neg (by decide)]
    obtain ⟨k, hk, hkw⟩ : ∃ k ∈ ks, holF is k ≠ want := by
      rw [hol_or] at hw
      cases want
      · cases he : ks.any (holF is)
        · exact absurd he hw
        · obtain ⟨k, hk, h⟩ := List.any_eq_true.1 he
          exact ⟨k, hk, by rw [h]; decide⟩
      · cases ks with
        | nil => simp at h2
        | cons k ks =>
          refine ⟨k, List.mem_cons_self .., fun e => hw ?_⟩
          rw [List.any_cons, e]
          rfl
    obtain ⟨x, hx⟩ := ih k hk want hkw
    exact ⟨x, List.mem_flatMap.2 ⟨k, hk, by rw [if_neg hkw]; exact hx⟩⟩
  | and ks h2 _ ih =>
    intro want hw
    rw [blmF_eq, if_neg (by decide), if_neg (by decide)]
    obtain ⟨k, hk, hkw⟩ : ∃ k ∈ ks, holF is k ≠ want := by
      rw [hol_and] at hw
      cases want
      · cases ks with
        | nil => simp at h2
        | cons k ks =>
          refine ⟨k, List.mem_cons_self .., fun e => hw ?_⟩
          rw [List.all_cons, e]
          rfl
      · cases he : ks.all (holF is)
        · obtain ⟨k, hk, h⟩ := List.all_eq_false.1 he
          exact ⟨k, hk, by simpa using h⟩
        · exact absurd he hw
    obtain ⟨x, hx⟩ := ih k hk want hkw
    exact ⟨x, List.mem_flatMap.2 ⟨k, hk, by rw [if_neg hkw]; exact hx⟩⟩
theorem comp_in (ls : List BL) (x : BL) : x ∈ Lib.compact (srtL ls) ↔ x ∈ ls := (comp_ok ls).1 x
theorem blm_law {num : ByteArray → Int × Bool} (hnum : NumOk num) {s : ByteArray} {x : Rn} (h0 : rulE num s x = 0) (hp : (parseE num s).2 = 0) :
    (hldV num s x = ((whyL num s x).length == 0)) ∧ ∀ y ∈ whyL num s x, y ∈ atL num s := by
  have hok := ((check_parse num hnum s).2 hp).1
  have hv : hldV num s x = holF (atP x.time x.fs) (parseT num s).1 := by unfold hldV; rw [if_pos h0]
  have ha : atL num s = namL (parseT num s).1 := by unfold atL; rw [if_pos hp]
  unfold whyL
  rw [if_pos h0]
  cases hh : hldV num s x
  · rw [if_neg (by decide)]
    obtain ⟨y, hy⟩ := blm_some hok (atP x.time x.fs) true (by rw [← hv, hh]; decide)
    constructor
    · have := (comp_in _ y).2 hy
      have h2 := List.length_pos_of_mem this
      symm
      rw [beq_eq_false_iff_ne]
      omega
    · intro z hz
      rw [ha]
      exact (comp_in _ z).2 (blm_sub hok _ _ z ((comp_in _ z).1 hz))
  · rw [if_pos rfl]
    exact ⟨rfl, fun z hz => by cases hz⟩
end Go.Proofs.YtfhdknppldobiaaGreatDoor
/-
  The stream's RightRule and Rule by contracts: strings within bounds. (Printed by gen_ruls.py.)
-/
namespace Go.Proofs.YtfhdknppldobiaaGreatDoor
open Go Go.RowKit TxtP

def ruK : Nat → Nat
  | 0 => 3
  | d + 1 => 3 * ruK d + 4
theorem ruK_le (d : Nat) (h : d ≤ 4) : ruK d ≤ 1000 := by
  have : ∀ e : Fin 5, ruK e.1 ≤ 1000 := by decide
  exact this ⟨d, by omega⟩
end Go.Proofs.YtfhdknppldobiaaGreatDoor
