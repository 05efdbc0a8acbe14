/-
  clocked answers true: what timer.Write makes of 61500.
-/
import Derived.Test.YtlkapcjofgpiiaaGreatDoorZItoa
import Derived.Test.YtlkapcjofgpiiaaGreatDoorZFlat
import Derived.Test.YtlkapcjofgpiiaaGreatDoorZBs
import Derived.Lib.AppendIntMem
import Derived.Test.YtlkapcjofgpiiaaGreatDoorZTok
import Derived.Test.YtlkapcjofgpiiaaGreatDoorZRule3
namespace Go.Proofs.YtlkapcjofgpiiaaGreatDoor
open Go Go.RowKit

theorem ret_str {a b : ByteArray} (h : a = b) : Ending.returned (.string a) = .returned (.string b) := by rw [h]

/-- the table that Itoa reads, in whatever world behind this one -/
def Tab (w : World) : Prop := Lib.TabBelow Tryz.prog w.heap.size w "internal/strconv.uint64pow10" .u64 Lib.pow10Tab
theorem Tab.below {w w' : World} (h : Tab w) (k : Below w.heap.size w w') : Tab w' := fun w2 h2 => h w2 (below_call k h2 (Nat.le_refl _))
theorem Tab.bx {w w' : World} {b : Nat} (h : Tab w) (k : Bx w.heap.size b w w') (hb : w.heap.size ≤ b) : Tab w' := h.below (k.below hb)

theorem itoa0_calls (w : World) : Calls Tryz.prog 97 #[.int .i64 0] w fun e w' => e = .returned (.string ⟨#[48]⟩) ∧ w = w' := by
  refine (Tryz.strconv_Itoa_small 0 (by decide) w).mono ?_
  rintro e w1 ⟨rfl, rfl⟩
  exact ⟨ret_str (by kernel_rfl), rfl⟩
theorem itoa1_calls (w : World) : Calls Tryz.prog 97 #[.int .i64 1] w fun e w' => e = .returned (.string ⟨#[49]⟩) ∧ w = w' := by
  refine (Tryz.strconv_Itoa_small 1 (by decide) w).mono ?_
  rintro e w1 ⟨rfl, rfl⟩
  exact ⟨ret_str (by kernel_rfl), rfl⟩
theorem itoa1500_calls (w : World) (ht : Tab w) : Calls Tryz.prog 97 #[.int .i64 1500] w (BRet (.string ⟨#[49, 53, 48, 48]⟩) w) := by
  refine (Tryz.strconv_Itoa 1500 (by decide) (by decide) w ht.here).mono ?_
  rintro e w1 ⟨rfl, k, os, rfl⟩
  exact ⟨ret_str (by kernel_rfl), Lib.below_grow _ _ (Nat.le_refl _) _ _⟩

theorem two1_calls (w : World) : Calls Tryz.prog 98 #[.int .i64 1] w fun e w' => e = .returned (.string ⟨#[48, 49]⟩) ∧ w = w' := by
  go_enter Tryz.func98, Tryz.ntmps98
  go_wp2_with fail
  refine (itoa0_calls _).mono ?_
  rintro e w1 ⟨rfl, rfl⟩
  go_wp2_with fail
  refine (itoa1_calls _).mono ?_
  rintro e w1 ⟨rfl, rfl⟩
  go_wp2_with fail
  go_ret
  exact ⟨ret_str (by kernel_rfl), rfl⟩

theorem write1_calls (w : World) (ht : Tab w) : Calls Tryz.prog 72 #[.int .i64 61500, .int .i64 1] w (BRet (.string ⟨#[49, 58, 48, 49, 46, 53]⟩) w) := by
  go_enter Tryz.func72, Tryz.ntmps72
  go_wp2_with fail
  refine (itoa1_calls _).mono ?_
  rintro e w1 ⟨rfl, rfl⟩
  go_wp2_with fail
  refine (itoa1_calls _).mono ?_
  rintro e w1 ⟨rfl, rfl⟩
  go_wp2_with fail
  refine (two1_calls _).mono ?_
  rintro e w1 ⟨rfl, rfl⟩
  go_wp2_with fail
  refine (itoa1500_calls _ ht).mono ?_
  rintro e w1 ⟨rfl, hb⟩
  go_wp2_with fail
  go_ret
  exact ⟨ret_str (by kernel_rfl), hb⟩

theorem timeWrite1_calls (w : World) (ht : Tab w) : Calls Tryz.prog 40 #[.int .i64 61500, .int .i64 1] w (BRet (.tuple #[.string ⟨#[49, 58, 48, 49, 46, 53]⟩, .int .i64 0]) w) := by
  have o1 : outB 61500 0 864000000 = false := by decide
  have o2 : outB 1 0 3 = false := by decide
  go_enter Tryz.func40, Tryz.ntmps40
  go_wp2_with (first | (go_at_call 71; refine (out_calls _ _ _ _).mono ?_; rintro e w1 ⟨rfl, rfl⟩))
  refine (write1_calls _ ht).mono ?_
  rintro e w1 ⟨rfl, hb⟩
  go_wp2_with fail
  go_ret2
  exact ⟨rfl, hb⟩

end Go.Proofs.YtlkapcjofgpiiaaGreatDoor
/-
  The reference's fits by a contract. (Printed by gen_fits.py.)
-/
namespace Go.Proofs.YtlkapcjofgpiiaaGreatDoor
open Go Go.RowKit
attribute [local go_sem ↓] Go.wp_at_zero Go.wp_at_succ

/-- the reference's Number by a contract -/
def NumQC (num : ByteArray → Int × Bool) : Prop := ∀ x W, x.size ≤ 100000 → Tab W → Calls Tryz.prog 96 #[.string x, .int .i64 9] W fun e w' => ∃ z, e = .returned (.tuple #[.int .i64 z, .bool (num x).2]) ∧ ((num x).2 = true → z = (num x).1) ∧ Below W.heap.size W w'
def FitS (r : Bool × Nat) (w : World) (e : Ending) (w' : World) : Prop := e = .returned (.tuple #[.bool r.1, .int .i64 r.2]) ∧ Below w.heap.size w w'

set_option maxRecDepth 100000 in
theorem fits0_calls (num : ByteArray → Int × Bool) (t : ByteArray) (opn : Nat) (w : World) (ht : t.size ≤ 100000) : Calls Tryz.prog 70 #[.int .i64 0, .string t, .int .i64 opn] w (FitS (fitF num 0 t opn) w) := by
  have e_sOpen : (t.toList == [40]) = decide (t = sOpen) := tokB t [40] sOpen rfl
  have e_sNot : (t.toList == [110, 111, 116]) = decide (t = sNot) := tokB t [110, 111, 116] sNot rfl
  have e_sTrue : (t.toList == [116, 114, 117, 101]) = decide (t = sTrue) := tokB t [116, 114, 117, 101] sTrue rfl
  have e_sHas : (t.toList == [104, 97, 115]) = decide (t = sHas) := tokB t [104, 97, 115] sHas rfl
  have e_sTime : (t.toList == [116, 105, 109, 101]) = decide (t = sTime) := tokB t [116, 105, 109, 101] sTime rfl
  have HF := Lib.hid (fun W => fieldQ_calls t W (by omega))
  by_cases h_sOpen : t = sOpen
  · have p_sOpen : decide (t = sOpen) = true := decide_eq_true h_sOpen
    rw [p_sOpen] at e_sOpen
    clear p_sOpen
    have HR : Hid (fitF num 0 t opn = (true, 0)) := by
      unfold fitF
      rw [if_pos rfl, if_pos (.inl h_sOpen)]
      exact Lib.hid rfl
    rw [HR.out]
    clear HR h_sOpen
    clear e_sNot
    clear e_sTrue
    clear e_sHas
    clear e_sTime
    go_enter Tryz.func70, Tryz.ntmps70
    go_wp2_with fail
    go_ret2
    exact ⟨rfl, Below.refl _ _⟩
  have p_sOpen : decide (t = sOpen) = false := decide_eq_false h_sOpen
  rw [p_sOpen] at e_sOpen
  clear p_sOpen
  by_cases h_sNot : t = sNot
  · have p_sNot : decide (t = sNot) = true := decide_eq_true h_sNot
    rw [p_sNot] at e_sNot
    clear p_sNot
    have HR : Hid (fitF num 0 t opn = (true, 0)) := by
      unfold fitF
      rw [if_pos rfl, if_pos (.inr h_sNot)]
      exact Lib.hid rfl
    rw [HR.out]
    clear HR h_sNot h_sOpen
    clear e_sTrue
    clear e_sHas
    clear e_sTime
    go_enter Tryz.func70, Tryz.ntmps70
    go_wp2_with fail
    go_ret2
    exact ⟨rfl, Below.refl _ _⟩
  have p_sNot : decide (t = sNot) = false := decide_eq_false h_sNot
  rw [p_sNot] at e_sNot
  clear p_sNot
  by_cases h_sTrue : t = sTrue
  · have p_sTrue : decide (t = sTrue) = true := decide_eq_true h_sTrue
    rw [p_sTrue] at e_sTrue
    clear p_sTrue
    have HR : Hid (fitF num 0 t opn = (true, 1)) := by
      unfold fitF
      rw [if_pos rfl, if_neg (by rintro (h | h); exact h_sOpen h; exact h_sNot h), if_pos h_sTrue]
      exact Lib.hid rfl
    rw [HR.out]
    clear HR h_sTrue h_sOpen h_sNot
    clear e_sHas
    clear e_sTime
    go_enter Tryz.func70, Tryz.ntmps70
    go_wp2_with fail
    go_ret2
    exact ⟨rfl, Below.refl _ _⟩
  have p_sTrue : decide (t = sTrue) = false := decide_eq_false h_sTrue
  rw [p_sTrue] at e_sTrue
  clear p_sTrue
  by_cases h_sHas : t = sHas
  · have p_sHas : decide (t = sHas) = true := decide_eq_true h_sHas
    rw [p_sHas] at e_sHas
    clear p_sHas
    have HR : Hid (fitF num 0 t opn = (true, 2)) := by
      unfold fitF
      rw [if_pos rfl, if_neg (by rintro (h | h); exact h_sOpen h; exact h_sNot h), if_neg h_sTrue, if_pos h_sHas]
      exact Lib.hid rfl
    rw [HR.out]
    clear HR h_sHas h_sOpen h_sNot h_sTrue
    clear e_sTime
    go_enter Tryz.func70, Tryz.ntmps70
    go_wp2_with fail
    go_ret2
    exact ⟨rfl, Below.refl _ _⟩
  have p_sHas : decide (t = sHas) = false := decide_eq_false h_sHas
  rw [p_sHas] at e_sHas
  clear p_sHas
  by_cases h_sTime : t = sTime
  · have p_sTime : decide (t = sTime) = true := decide_eq_true h_sTime
    rw [p_sTime] at e_sTime
    clear p_sTime
    have HR : Hid (fitF num 0 t opn = (true, 5)) := by
      unfold fitF
      rw [if_pos rfl, if_neg (by rintro (h | h); exact h_sOpen h; exact h_sNot h), if_neg h_sTrue, if_neg h_sHas, if_pos h_sTime]
      exact Lib.hid rfl
    rw [HR.out]
    clear HR h_sTime h_sOpen h_sNot h_sTrue h_sHas
    go_enter Tryz.func70, Tryz.ntmps70
    go_wp2_with fail
    go_ret2
    exact ⟨rfl, Below.refl _ _⟩
  have p_sTime : decide (t = sTime) = false := decide_eq_false h_sTime
  rw [p_sTime] at e_sTime
  clear p_sTime
  have HR : Hid (fitF num 0 t opn = (nameB t, 3)) := by
    unfold fitF
    rw [if_pos rfl, if_neg (by rintro (h | h); exact h_sOpen h; exact h_sNot h), if_neg h_sTrue, if_neg h_sHas, if_neg h_sTime]
    exact Lib.hid rfl
  rw [HR.out]
  clear HR h_sOpen h_sNot h_sTrue h_sHas h_sTime
  obtain ⟨nb, hnb⟩ : ∃ nb, nameB t = nb := ⟨_, rfl⟩
  rw [hnb] at HF ⊢
  clear hnb
  go_enter Tryz.func70, Tryz.ntmps70
  go_wp2_with fail
  refine (HF.out _).mono ?_
  rintro e w1 ⟨rfl, hb⟩
  go_wp2_with fail
  go_ret2
  exact ⟨rfl, hb⟩

set_option maxRecDepth 100000 in
theorem fits1_calls (num : ByteArray → Int × Bool) (t : ByteArray) (opn : Nat) (w : World) (ht : t.size ≤ 100000) : Calls Tryz.prog 70 #[.int .i64 1, .string t, .int .i64 opn] w (FitS (fitF num 1 t opn) w) := by
  have e_sAnd : (t.toList == [97, 110, 100]) = decide (t = sAnd) := tokB t [97, 110, 100] sAnd rfl
  have e_sOr : (t.toList == [111, 114]) = decide (t = sOr) := tokB t [111, 114] sOr rfl
  have e_sShut : (t.toList == [41]) = decide (t = sShut) := tokB t [41] sShut rfl
  by_cases h_sAnd : t = sAnd
  · have p_sAnd : decide (t = sAnd) = true := decide_eq_true h_sAnd
    rw [p_sAnd] at e_sAnd
    clear p_sAnd
    have HR : Hid (fitF num 1 t opn = (true, 0)) := by
      unfold fitF
      rw [if_neg (by decide), if_pos rfl, if_pos (.inl h_sAnd)]
      exact Lib.hid rfl
    rw [HR.out]
    clear HR h_sAnd
    go_enter Tryz.func70, Tryz.ntmps70
    go_wp2_with fail
    go_ret2
    exact ⟨rfl, Below.refl _ _⟩
  have p_sAnd : decide (t = sAnd) = false := decide_eq_false h_sAnd
  rw [p_sAnd] at e_sAnd
  clear p_sAnd
  by_cases h_sOr : t = sOr
  · have p_sOr : decide (t = sOr) = true := decide_eq_true h_sOr
    rw [p_sOr] at e_sOr
    clear p_sOr
    have HR : Hid (fitF num 1 t opn = (true, 0)) := by
      unfold fitF
      rw [if_neg (by decide), if_pos rfl, if_pos (.inr h_sOr)]
      exact Lib.hid rfl
    rw [HR.out]
    clear HR h_sOr h_sAnd
    go_enter Tryz.func70, Tryz.ntmps70
    go_wp2_with fail
    go_ret2
    exact ⟨rfl, Below.refl _ _⟩
  have p_sOr : decide (t = sOr) = false := decide_eq_false h_sOr
  rw [p_sOr] at e_sOr
  clear p_sOr
  by_cases h_sShut : t = sShut
  · have p_sShut : decide (t = sShut) = true := decide_eq_true h_sShut
    rw [p_sShut] at e_sShut
    clear p_sShut
    have HR : Hid (fitF num 1 t opn = (decide (0 < opn), 1)) := by
      unfold fitF
      rw [if_neg (by decide), if_pos rfl, if_neg (by rintro (h | h); exact h_sAnd h; exact h_sOr h), if_pos h_sShut]
      exact Lib.hid rfl
    rw [HR.out]
    clear HR h_sShut h_sAnd h_sOr
    have ho : decide ((opn : Int) > 0) = decide (0 < opn) := decide_eq_decide.2 (by omega)
    obtain ⟨q, hq⟩ : ∃ q, decide (0 < opn) = q := ⟨_, rfl⟩
    rw [hq] at ho ⊢
    have HO := Lib.hid ho
    clear hq ho
    go_enter Tryz.func70, Tryz.ntmps70
    go_wp2_with fail
    go_ret2
    exact ⟨by rw [← HO.out]; simp, Below.refl _ _⟩
  have p_sShut : decide (t = sShut) = false := decide_eq_false h_sShut
  rw [p_sShut] at e_sShut
  clear p_sShut
  have HR : Hid (fitF num 1 t opn = (decide (t.size = 0 ∧ opn = 0), 1)) := by
    unfold fitF
    rw [if_neg (by decide), if_pos rfl, if_neg (by rintro (h | h); exact h_sAnd h; exact h_sOr h), if_neg h_sShut]
    exact Lib.hid rfl
  rw [HR.out]
  clear HR h_sAnd h_sOr h_sShut
  have e0 : (t.toList == ([] : List UInt8)) = decide (t.size = 0) := by
    rw [Lib.toList_data]
    by_cases h : t.size = 0
    · rw [ba_nil h]; rfl
    · rw [decide_eq_false h]
      have : t.data.toList ≠ [] := fun e => h (by have := congrArg List.length e; simpa using this)
      simpa using this
  have e1 : t.toList.isEmpty = decide (t.size = 0) := by rw [← e0]; cases t.toList <;> rfl
  by_cases h1 : t.size = 0
  · rw [decide_eq_true h1] at e0 e1
    have z0 := ba_nil h1
    subst z0
    by_cases h2 : opn = 0
    · subst h2
      go_enter Tryz.func70, Tryz.ntmps70
      go_wp2_with fail
      go_ret2
      exact ⟨rfl, Below.refl _ _⟩
    · have HO : Hid (decide ((⟨#[]⟩ : ByteArray).size = 0 ∧ opn = 0) = false) := Lib.hid (by simp [h2])
      rw [HO.out]
      have h3 : ((opn : Int) == 0) = false := by simp; omega
      go_enter Tryz.func70, Tryz.ntmps70
      go_wp2_with fail
      go_ret2
      exact ⟨by simp, Below.refl _ _⟩
  · have HO : Hid (decide (t.size = 0 ∧ opn = 0) = false) := Lib.hid (by simp [h1])
    rw [HO.out]
    rw [decide_eq_false h1] at e0 e1
    have e3 : ¬ t.toList = [] := fun h => by rw [h] at e1; cases e1
    have e4 : t ≠ ⟨#[]⟩ := fun h => h1 (by rw [h]; rfl)
    clear HO h1
    go_enter Tryz.func70, Tryz.ntmps70
    go_wp2_with fail
    go_ret2
    exact ⟨by first | rfl | simp [e3, e0, e4], Below.refl _ _⟩

set_option maxRecDepth 100000 in
theorem fits2_calls (num : ByteArray → Int × Bool) (t : ByteArray) (opn : Nat) (w : World) (ht : t.size ≤ 100000) : Calls Tryz.prog 70 #[.int .i64 2, .string t, .int .i64 opn] w (FitS (fitF num 2 t opn) w) := by
  have HF := Lib.hid (fun W => fieldQ_calls t W (by omega))
  have HR : Hid (fitF num 2 t opn = (nameB t, 1)) := Lib.hid (by unfold fitF; simp)
  rw [HR.out]
  clear HR
  obtain ⟨nb, hnb⟩ : ∃ nb, nameB t = nb := ⟨_, rfl⟩
  rw [hnb] at HF ⊢
  clear hnb
  go_enter Tryz.func70, Tryz.ntmps70
  go_wp2_with fail
  refine (HF.out _).mono ?_
  rintro e w1 ⟨rfl, hb⟩
  go_wp2_with fail
  go_ret2
  exact ⟨rfl, hb⟩

set_option maxRecDepth 100000 in
theorem fits4_calls (num : ByteArray → Int × Bool) (t : ByteArray) (opn : Nat) (w : World) (ht : t.size ≤ 100000) : Calls Tryz.prog 70 #[.int .i64 4, .string t, .int .i64 opn] w (FitS (fitF num 4 t opn) w) := by
  have HF := Lib.hid (fun W => valueQ_calls t W (by omega))
  have HR : Hid (fitF num 4 t opn = (valueB t, 1)) := Lib.hid (by unfold fitF; simp)
  rw [HR.out]
  clear HR
  obtain ⟨nb, hnb⟩ : ∃ nb, valueB t = nb := ⟨_, rfl⟩
  rw [hnb] at HF ⊢
  clear hnb
  go_enter Tryz.func70, Tryz.ntmps70
  go_wp2_with fail
  refine (HF.out _).mono ?_
  rintro e w1 ⟨rfl, rfl⟩
  go_wp2_with fail
  go_ret2
  exact ⟨rfl, Below.refl _ _⟩

set_option maxRecDepth 100000 in
theorem fits3_calls (num : ByteArray → Int × Bool) (t : ByteArray) (opn : Nat) (w : World) (_ht : t.size ≤ 100000) : Calls Tryz.prog 70 #[.int .i64 3, .string t, .int .i64 opn] w (FitS (fitF num 3 t opn) w) := by
  have e_sEq : (t.toList == [61]) = decide (t = sEq) := tokB t [61] sEq rfl
  have HR : Hid (fitF num 3 t opn = (decide (t = sEq), 4)) := Lib.hid (by unfold fitF; simp)
  rw [HR.out]
  clear HR
  obtain ⟨q, hq⟩ : ∃ q, decide (t = sEq) = q := ⟨_, rfl⟩
  rw [hq] at e_sEq ⊢
  clear hq
  go_enter Tryz.func70, Tryz.ntmps70
  go_wp2_with fail
  go_ret2
  exact ⟨by first | rfl | (rw [e_sEq]; rfl), Below.refl _ _⟩

set_option maxRecDepth 100000 in
theorem fits5_calls (num : ByteArray → Int × Bool) (t : ByteArray) (opn : Nat) (w : World) (_ht : t.size ≤ 100000) : Calls Tryz.prog 70 #[.int .i64 5, .string t, .int .i64 opn] w (FitS (fitF num 5 t opn) w) := by
  have e_sLt : (t.toList == [60]) = decide (t = sLt) := tokB t [60] sLt rfl
  have e_sGt : (t.toList == [62]) = decide (t = sGt) := tokB t [62] sGt rfl
  have HR : Hid (fitF num 5 t opn = ((decide (t = sLt) || decide (t = sGt)), 6)) := Lib.hid (by unfold fitF; simp)
  rw [HR.out]
  clear HR
  obtain ⟨qa, hqa⟩ : ∃ q, decide (t = sLt) = q := ⟨_, rfl⟩
  obtain ⟨qb, hqb⟩ : ∃ q, decide (t = sGt) = q := ⟨_, rfl⟩
  rw [hqa] at e_sLt ⊢
  rw [hqb] at e_sGt ⊢
  clear hqa hqb
  cases qa <;> cases qb
  all_goals
    go_enter Tryz.func70, Tryz.ntmps70
    go_wp2_with fail
    go_ret2
    exact ⟨by first | rfl | (simp [e_sLt, e_sGt]), Below.refl _ _⟩

set_option maxRecDepth 100000 in
theorem fits6_calls (num : ByteArray → Int × Bool) (t : ByteArray) (opn : Nat) (w : World) (ht : t.size ≤ 100000) (hc : NumQC num) (htb : Tab w) : Calls Tryz.prog 70 #[.int .i64 6, .string t, .int .i64 opn] w (FitS (fitF num 6 t opn) w) := by
  have HN := Lib.hid (hc t w ht htb)
  obtain ⟨n, hn⟩ : ∃ n, (num t).1 = n := ⟨_, rfl⟩
  obtain ⟨k, hk⟩ : ∃ k, (num t).2 = k := ⟨_, rfl⟩
  have HR : Hid (fitF num 6 t opn = ((k && !(outB n 0 864000000)), 1)) := Lib.hid (by rw [out_dec]; unfold fitF; simp [hn, hk])
  rw [hn, hk] at HN
  rw [HR.out]
  obtain ⟨ob, hob⟩ : ∃ ob, outB n 0 864000000 = ob := ⟨_, rfl⟩
  have HI := Lib.hid (fun W => in_calls n 0 864000000 W)
  rw [hob] at HI ⊢
  clear HR hn hk hob hc
  cases k
  · go_enter Tryz.func70, Tryz.ntmps70
    go_wp2_with fail
    refine HN.out.mono ?_
    rintro e w1 ⟨z, rfl, _, hb⟩
    go_wp2_with fail
    go_ret2
    exact ⟨rfl, hb⟩
  · go_enter Tryz.func70, Tryz.ntmps70
    go_wp2_with fail
    refine HN.out.mono ?_
    rintro e w1 ⟨z, rfl, hzz, hb⟩
    obtain rfl : z = n := hzz (by first | rfl | trivial)
    go_wp2_with (first | (go_at_call 59; refine (HI.out _).mono ?_; rintro e w2 ⟨rfl, rfl⟩))
    go_ret2
    exact ⟨rfl, hb⟩
theorem fits_calls (num : ByteArray → Int × Bool) (hc : NumQC num) (want : Nat) (hw : want ≤ 6) (t : ByteArray) (opn : Nat) (w : World) (ht : t.size ≤ 100000) (htb : Tab w) :
    Calls Tryz.prog 70 #[.int .i64 want, .string t, .int .i64 opn] w (FitS (fitF num want t opn) w) := by
  match want, hw with
  | 0, _ => exact fits0_calls num t opn w ht
  | 1, _ => exact fits1_calls num t opn w ht
  | 2, _ => exact fits2_calls num t opn w ht
  | 3, _ => exact fits3_calls num t opn w ht
  | 4, _ => exact fits4_calls num t opn w ht
  | 5, _ => exact fits5_calls num t opn w ht
  | 6, _ => exact fits6_calls num t opn w ht hc htb
end Go.Proofs.YtlkapcjofgpiiaaGreatDoor
