/-
  clocked answers true: what timer.Write makes of 61500.
-/
import Derived.Test.YtfhdknppldobiaaGreatDoorZItoa
import Derived.Test.YtfhdknppldobiaaGreatDoorZNum2
import Derived.Test.YtfhdknppldobiaaGreatDoorZBs
import Derived.Lib.AppendIntMem
import Derived.Test.YtfhdknppldobiaaGreatDoorZSq
import Derived.ArgAppend
import Derived.RegionTactic
namespace Go.Proofs.YtfhdknppldobiaaGreatDoor
open Go Go.RowKit

theorem ret_str {a b : ByteArray} (h : a = b) : Ending.returned (.string a) = .returned (.string b) := by rw [h]

/-- the table that Itoa reads, in whatever world behind this one -/
def Tab (w : World) : Prop := Lib.TabBelow Tryz.prog w.heap.size w "internal/strconv.uint64pow10" .u64 Lib.pow10Tab
theorem Tab.below {w w' : World} (h : Tab w) (k : Below w.heap.size w w') : Tab w' := fun w2 h2 => h w2 (below_call k h2 (Nat.le_refl _))
theorem Tab.bx {w w' : World} {b : Nat} (h : Tab w) (k : Bx w.heap.size b w w') (hb : w.heap.size ≤ b) : Tab w' := h.below (k.below hb)

theorem itoa0_calls (w : World) : Calls Tryz.prog 115 #[.int .i64 0] w fun e w' => e = .returned (.string ⟨#[48]⟩) ∧ w = w' := by
  refine (Tryz.strconv_Itoa_small 0 (by decide) w).mono ?_
  rintro e w1 ⟨rfl, rfl⟩
  exact ⟨ret_str (by kernel_rfl), rfl⟩
theorem itoa1_calls (w : World) : Calls Tryz.prog 115 #[.int .i64 1] w fun e w' => e = .returned (.string ⟨#[49]⟩) ∧ w = w' := by
  refine (Tryz.strconv_Itoa_small 1 (by decide) w).mono ?_
  rintro e w1 ⟨rfl, rfl⟩
  exact ⟨ret_str (by kernel_rfl), rfl⟩
theorem itoa1500_calls (w : World) (ht : Tab w) : Calls Tryz.prog 115 #[.int .i64 1500] w (BRet (.string ⟨#[49, 53, 48, 48]⟩) w) := by
  refine (Tryz.strconv_Itoa 1500 (by decide) (by decide) w ht.here).mono ?_
  rintro e w1 ⟨rfl, k, os, rfl⟩
  exact ⟨ret_str (by kernel_rfl), Lib.below_grow _ _ (Nat.le_refl _) _ _⟩

theorem two1_calls (w : World) : Calls Tryz.prog 175 #[.int .i64 1] w fun e w' => e = .returned (.string ⟨#[48, 49]⟩) ∧ w = w' := by
  go_enter Tryz.func175, Tryz.ntmps175
  go_wp2_with fail
  refine (itoa0_calls _).mono ?_
  rintro e w1 ⟨rfl, rfl⟩
  go_wp2_with fail
  refine (itoa1_calls _).mono ?_
  rintro e w1 ⟨rfl, rfl⟩
  go_wp2_with fail
  go_ret
  exact ⟨ret_str (by kernel_rfl), rfl⟩

theorem write1_calls (w : World) (ht : Tab w) : Calls Tryz.prog 130 #[.int .i64 61500, .int .i64 1] w (BRet (.string ⟨#[49, 58, 48, 49, 46, 53]⟩) w) := by
  go_enter Tryz.func130, Tryz.ntmps130
  go_wp2_with fail
  refine (itoa1_calls _).mono ?_
  rintro e w1 ⟨rfl, rfl⟩
  go_wp2_with fail
  refine (itoa1_calls _).mono ?_
  rintro e w1 ⟨rfl, rfl⟩
  go_wp2_with fail
  refine (two1_calls _).mono ?_
  rintro e w1 ⟨rfl, rfl⟩
  go_wp2_with fail
  refine (itoa1500_calls _ ht).mono ?_
  rintro e w1 ⟨rfl, hb⟩
  go_wp2_with fail
  go_ret
  exact ⟨ret_str (by kernel_rfl), hb⟩

theorem timeWrite1_calls (w : World) (ht : Tab w) : Calls Tryz.prog 69 #[.int .i64 61500, .int .i64 1] w (BRet (.tuple #[.string ⟨#[49, 58, 48, 49, 46, 53]⟩, .int .i64 0]) w) := by
  have o1 : outB 61500 0 864000000 = false := by decide
  have o2 : outB 1 0 3 = false := by decide
  go_enter Tryz.func69, Tryz.ntmps69
  go_wp2_with (first | (go_at_call 129; refine (out_calls _ _ _ _).mono ?_; rintro e w1 ⟨rfl, rfl⟩))
  refine (write1_calls _ ht).mono ?_
  rintro e w1 ⟨rfl, hb⟩
  go_wp2_with fail
  go_ret2
  exact ⟨rfl, hb⟩

end Go.Proofs.YtfhdknppldobiaaGreatDoor
/-
  Cells stored into a row of the call's own; a shorter slice of it; append to a slice without room. No Go text is named here.
-/
namespace Go.Proofs.YtfhdknppldobiaaGreatDoor
open Go Go.RowKit

theorem own_short {w : World} {base : Nat} {e : TypeId} {size n k c : Nat} {A : Option Addr} {xs : List Value} (h : w.ownsRow base e size (.slice A n c) n xs) (hk : k ≤ n) (hA : A ≠ none) : w.ownsRow base e size (.slice A k c) k (xs.take (k * size)) := by
  have h1 := h.1
  refine ⟨?_, ?_⟩
  · rw [List.length_take, h1]
    exact Nat.min_eq_left (Nat.mul_le_mul_right _ hk)
  · rcases h.2 with ⟨he, _⟩ | ⟨g, cap, cur, he, hb, hg, h2, h3, h4, h5⟩
    · injection he with he _ _
      exact absurd he hA
    · injection he with he1 he2 he3
      subst he1 he3
      refine .inr ⟨g, c, cur, rfl, hb, hg, Nat.le_trans hk h2, h3, h4, ?_⟩
      rw [← h5, List.take_take, Nat.min_eq_left (Nat.mul_le_mul_right _ hk)]

section
variable {w W : World} {l : List Rsc}
theorem Sq.short {base : Nat} {e : TypeId} {size n k g c : Nat} {xs : List Value} (h : Sq w W (rOwn base e size (.slice (some ⟨g, 0, none⟩) n c) n xs :: l)) (hk : k ≤ n) : Sq w W (rOwn base e size (.slice (some ⟨g, 0, none⟩) k c) k (xs.take (k * size)) :: l) :=
  h.turn (row := none) (World.grownBy.refl W _) (fun _ hk => by cases hk) (own_short h.head hk (by simp)) (rOwn_ok _ _ _ _ _ _) (fun q hq => ⟨.inl hq, (h.hp.new _ (List.mem_cons_self ..) q hq).2⟩)
end

end Go.Proofs.YtfhdknppldobiaaGreatDoor
