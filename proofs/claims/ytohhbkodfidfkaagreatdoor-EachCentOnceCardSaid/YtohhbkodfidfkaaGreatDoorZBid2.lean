/-
  The order of gifts: cmp.Compare, cmp.Or, byGift and giftOrder by contracts.
-/
import Derived.Test.YtohhbkodfidfkaaGreatDoorZBidPure
import Derived.Test.YtohhbkodfidfkaaGreatDoorZScmp
import Derived.Test.YtohhbkodfidfkaaGreatDoorZRat1
import Derived.Test.YtohhbkodfidfkaaGreatDoorZSep
import Derived.Deep.RegionHeld3
import Derived.Test.YtohhbkodfidfkaaGreatDoorZBase
import Derived.Deep.DeepCutAuto
namespace Go.Proofs.YtohhbkodfidfkaaGreatDoor
open Go Go.RowKit

def cmpI (x y : Int) : Int := if x < y then -1 else if y < x then 1 else 0
def cmpS (a b : ByteArray) : Int := Lib.compareBytes a.data.toList b.data.toList
theorem cmpL_le : ∀ a b : List UInt8, decide (Lib.compareBytes a b ≤ 0) = (Op.bytesLess a b || a == b)
  | [], [] => rfl
  | [], _ :: _ => rfl
  | _ :: _, [] => rfl
  | a :: p, b :: q => by
    have ih := cmpL_le p q
    unfold Lib.compareBytes Op.bytesLess
    by_cases h1 : a < b
    · simp [h1]
    · by_cases h2 : b < a
      · have hne : ¬ a = b := fun e => by subst e; exact h1 h2
        simp [h1, h2, hne]
      · have he : a = b := UInt8.le_antisymm (UInt8.not_lt.1 h2) (UInt8.not_lt.1 h1)
        subst he
        rw [if_neg h1, if_neg h1, ih]
        simp [h1]
theorem cmpL_ge : ∀ a b : List UInt8, decide (0 ≤ Lib.compareBytes b a) = (Op.bytesLess a b || a == b)
  | [], [] => rfl
  | [], _ :: _ => rfl
  | _ :: _, [] => rfl
  | a :: p, b :: q => by
    have ih := cmpL_ge p q
    unfold Lib.compareBytes Op.bytesLess
    by_cases h1 : a < b
    · have h2 : ¬ b < a := fun h2 => UInt8.lt_irrefl _ (UInt8.lt_trans h1 h2)
      simp [h1, h2]
    · by_cases h2 : b < a
      · have hne : ¬ a = b := fun e => by subst e; exact h1 h2
        simp [h1, h2, hne]
      · have he : a = b := UInt8.le_antisymm (UInt8.not_lt.1 h2) (UInt8.not_lt.1 h1)
        subst he
        rw [if_neg h1, if_neg h1, ih]
        simp [h1]
theorem cmpS_le (a b : ByteArray) : decide (cmpS a b ≤ 0) = leS a b := by
  unfold cmpS leS
  rw [cmpL_le, Lib.toList_data, Lib.toList_data]
theorem cmpS_ge (a b : ByteArray) : decide (0 ≤ cmpS b a) = leS a b := by
  unfold cmpS leS
  rw [cmpL_ge, Lib.toList_data, Lib.toList_data]
def ordP (x y : Gf) : Int := firstE [cmpI x.at_ y.at_, cmpS x.id y.id]
def ordQ (y x : Gf) : Int := if y.at_ ≠ x.at_ then cmpI y.at_ x.at_ else cmpS y.id x.id
theorem ordP_beh (y x : Gf) : decide (ordP x y ≤ 0) = behG y x := by
  unfold ordP behG firstE cmpI
  by_cases h1 : x.at_ < y.at_
  · simp [h1]
  · by_cases h2 : y.at_ < x.at_
    · have : ¬ x.at_ = y.at_ := by omega
      simp [h1, h2, this]
    · have : x.at_ = y.at_ := by omega
      rw [if_neg h1, if_neg h2, ← cmpS_le]
      simp [this, firstE]
      split <;> simp_all
theorem ordQ_beh (y x : Gf) : decide (0 ≤ ordQ y x) = behG y x := by
  unfold ordQ behG cmpI
  by_cases h1 : x.at_ < y.at_
  · have h2 : ¬ y.at_ < x.at_ := by omega
    have h3 : y.at_ ≠ x.at_ := by omega
    rw [if_pos h3, if_neg h2, if_pos h1]
    simp [h1]
  · by_cases h2 : y.at_ < x.at_
    · have h3 : ¬ x.at_ = y.at_ := by omega
      have h4 : y.at_ ≠ x.at_ := by omega
      rw [if_pos h4, if_pos h2]
      simp [h1, h3]
    · have h3 : x.at_ = y.at_ := by omega
      rw [if_neg (by omega), cmpS_ge]
      simp [h3]
set_option maxRecDepth 100000 in
theorem isNaNI_calls (x : Int) (w : World) : Calls Tryz.prog 74 #[.int .i64 x] w fun e w' => e = .returned (.bool false) ∧ w = w' := by
  go_enter Tryz.func74, Tryz.ntmps74
  go_wp2_with fail
  go_ret
  exact ⟨ret_bool (by simp), rfl⟩
set_option maxRecDepth 100000 in
theorem cmpInt_calls (x y : Int) (w : World) : Calls Tryz.prog 38 #[.int .i64 x, .int .i64 y] w fun e w' => e = .returned (.int .i64 (cmpI x y)) ∧ w = w' := by
  by_cases h1 : x < y
  · have HS : Hid (cmpI x y = -1) := by unfold cmpI; rw [if_pos h1]; exact Lib.hid rfl
    go_enter Tryz.func38, Tryz.ntmps38
    go_wp2_with fail
    refine (isNaNI_calls _ _).mono ?_
    rintro e w1 ⟨rfl, rfl⟩
    go_wp2_with fail
    refine (isNaNI_calls _ _).mono ?_
    rintro e w1 ⟨rfl, rfl⟩
    go_wp2_with fail
    go_ret
    exact ⟨ret_int HS.out.symm, rfl⟩
  · by_cases h2 : y < x
    · have HS : Hid (cmpI x y = 1) := by unfold cmpI; rw [if_neg h1, if_pos h2]; exact Lib.hid rfl
      go_enter Tryz.func38, Tryz.ntmps38
      go_wp2_with fail
      refine (isNaNI_calls _ _).mono ?_
      rintro e w1 ⟨rfl, rfl⟩
      go_wp2_with fail
      refine (isNaNI_calls _ _).mono ?_
      rintro e w1 ⟨rfl, rfl⟩
      go_wp2_with fail
      go_ret
      exact ⟨ret_int HS.out.symm, rfl⟩
    · have HS : Hid (cmpI x y = 0) := by unfold cmpI; rw [if_neg h1, if_neg h2]; exact Lib.hid rfl
      go_enter Tryz.func38, Tryz.ntmps38
      go_wp2_with fail
      refine (isNaNI_calls _ _).mono ?_
      rintro e w1 ⟨rfl, rfl⟩
      go_wp2_with fail
      refine (isNaNI_calls _ _).mono ?_
      rintro e w1 ⟨rfl, rfl⟩
      go_wp2_with fail
      go_ret
      exact ⟨ret_int HS.out.symm, rfl⟩
set_option maxRecDepth 100000 in
/-- cmp.Or of two numbers -/
theorem or2_calls (x y : Int) (g : Nat) (W : World) (hB : Blk W g 3 #[.int .i64 x, .int .i64 y]) : Calls Tryz.prog 37 #[.slice (some ⟨g, 0, none⟩) 2 2] W (QRet (.int .i64 (firstE [x, y])) W) := by
  obtain ⟨y0, y1, _, _⟩ := Blk.two hB
  clear hB
  by_cases h1 : x = 0
  · subst h1
    by_cases h2 : y = 0
    · subst h2
      go_enter Tryz.func37, Tryz.ntmps37
      go_wp2_with fail
      go_loopw [8] (fun i wr => ∃ k : Nat, k ≤ 2 ∧ i = .int .i64 k ∧ wr = W) (fun i _ => 2 - (intOf i).toNat)
      case atStart => exact ⟨0, Nat.zero_le _, rfl, rfl⟩
      case round =>
        obtain ⟨k, hk, rfl, rfl⟩ := hrel
        rcases (show k = 0 ∨ k = 1 ∨ k = 2 by omega) with rfl | rfl | rfl
        · go_wp2_with fail
          go_roundw
          case rel => exact ⟨1, by omega, rfl, trivial⟩
          case measure => simp [intOf]
        · go_wp2_with fail
          go_roundw
          case rel => exact ⟨2, by omega, rfl, trivial⟩
          case measure => simp [intOf]
        · go_wp2_with fail
          go_ret
          exact ⟨rfl, 0, rfl⟩
    · have HS : Hid (firstE [0, y] = y) := by simp [firstE, h2]; exact Lib.hid trivial
      have e2 : (y != 0) = true := by simpa using h2
      rw [HS.out]
      go_enter Tryz.func37, Tryz.ntmps37
      go_wp2_with fail
      go_loopw [8] (fun i wr => ∃ k : Nat, k ≤ 1 ∧ i = .int .i64 k ∧ wr = W) (fun i _ => 2 - (intOf i).toNat)
      case atStart => exact ⟨0, Nat.zero_le _, rfl, rfl⟩
      case round =>
        obtain ⟨k, hk, rfl, rfl⟩ := hrel
        rcases (show k = 0 ∨ k = 1 by omega) with rfl | rfl
        · go_wp2_with fail
          go_roundw
          case rel => exact ⟨1, by omega, rfl, trivial⟩
          case measure => simp [intOf]
        · go_wp2_with fail
          go_ret
          exact ⟨rfl, 0, rfl⟩
  · have HS : Hid (firstE [x, y] = x) := Lib.hid (by simp [firstE, h1])
    have e2 : (x != 0) = true := by simpa using h1
    rw [HS.out]
    go_enter Tryz.func37, Tryz.ntmps37
    go_wp2_with fail
    go_loopw [8] (fun i wr => i = .int .i64 0 ∧ wr = W) (fun i _ => 2 - (intOf i).toNat)
    case atStart => exact ⟨rfl, rfl⟩
    case round =>
      obtain ⟨rfl, rfl⟩ := hrel
      go_wp2_with fail
      go_ret
      exact ⟨rfl, 0, rfl⟩
end Go.Proofs.YtohhbkodfidfkaaGreatDoor
/-
  byGift and giftOrder by contracts.
-/
namespace Go.Proofs.YtohhbkodfidfkaaGreatDoor
open Go Go.RowKit

set_option maxRecDepth 100000 in
theorem signI_calls (x : Int) (w : World) : Calls Tryz.prog 132 #[.int .i64 x] w fun e w' => e = .returned (.int .i64 (cmpI x 0)) ∧ w = w' := by
  by_cases h1 : x < 0
  · have HS : Hid (cmpI x 0 = -1) := by unfold cmpI; rw [if_pos h1]; exact Lib.hid rfl
    go_enter Tryz.func132, Tryz.ntmps132
    go_wp2_with fail
    go_ret
    exact ⟨ret_int HS.out.symm, rfl⟩
  · by_cases h2 : 0 < x
    · have HS : Hid (cmpI x 0 = 1) := by unfold cmpI; rw [if_neg h1, if_pos h2]; exact Lib.hid rfl
      go_enter Tryz.func132, Tryz.ntmps132
      go_wp2_with fail
      go_ret
      exact ⟨ret_int HS.out.symm, rfl⟩
    · have HS : Hid (cmpI x 0 = 0) := by unfold cmpI; rw [if_neg h1, if_neg h2]; exact Lib.hid rfl
      go_enter Tryz.func132, Tryz.ntmps132
      go_wp2_with fail
      go_ret
      exact ⟨ret_int HS.out.symm, rfl⟩
theorem cmpI_sub (a b : Int) : cmpI (a - b) 0 = cmpI a b := by
  unfold cmpI
  by_cases h1 : a < b
  · rw [if_pos h1, if_pos (by omega)]
  · by_cases h2 : b < a
    · rw [if_neg h1, if_pos h2, if_neg (by omega), if_pos (by omega)]
    · rw [if_neg h1, if_neg h2, if_neg (by omega), if_neg (by omega)]
theorem strCmp_calls (a b : ByteArray) (w : World) : Calls Tryz.prog 54 #[.string a, .string b] w fun e w' => e = .returned (.int .i64 (cmpS a b)) ∧ w = w' :=
  (Tryz.strings_Compare a b w).mono (fun _ _ h => ⟨h.1, h.2.symm⟩)
set_option maxRecDepth 100000 in
set_option maxHeartbeats 1000000 in
theorem giftOrder_calls (y x : Gf) (w : World) (hx : GfOk x) (hy : GfOk y) :
    Calls Tryz.prog 98 #[.agg #[.string y.id, .int .i64 y.at_, .int .i64 y.cents, .string y.bid, .string y.option], .agg #[.string x.id, .int .i64 x.at_, .int .i64 x.cents, .string x.bid, .string x.option]] w (BRet (.int .i64 (ordQ y x)) w) := by
  have hb := ((Sq.start w).add #[.string y.id, .int .i64 y.at_, .int .i64 y.cents, .string y.bid, .string y.option] 61).add #[.string x.id, .int .i64 x.at_, .int .i64 x.cents, .string x.bid, .string x.option] 61
  have hbb := hb.below
  obtain ⟨yi, ya, yc, yb, yo⟩ := y
  obtain ⟨xi, xa, xc, xb, xo⟩ := x
  have hya : -2199023255552 ≤ ya ∧ ya ≤ 2199023255552 := hy.ha
  have hxa : -2199023255552 ≤ xa ∧ xa ≤ 2199023255552 := hx.ha
  obtain ⟨hy0, hy1⟩ := hya
  obtain ⟨hx0, hx1⟩ := hxa
  simp only at hb hbb ⊢
  clear hb hx hy
  by_cases h : ya = xa
  · subst h
    have HS : Hid (ordQ ⟨yi, ya, yc, yb, yo⟩ ⟨xi, ya, xc, xb, xo⟩ = cmpS yi xi) := Lib.hid (by unfold ordQ; simp)
    rw [HS.out]
    go_enter Tryz.func98, Tryz.ntmps98
    go_wp2_with fail
    refine (strCmp_calls _ _ _).mono ?_
    rintro e w1 ⟨rfl, rfl⟩
    go_wp2_with fail
    go_ret
    exact ⟨rfl, hbb⟩
  · have HS : Hid (ordQ ⟨yi, ya, yc, yb, yo⟩ ⟨xi, xa, xc, xb, xo⟩ = cmpI (ya - xa) 0) := Lib.hid (by unfold ordQ; simp [h, cmpI_sub])
    have hne : (ya != xa) = true := by simpa using h
    rw [HS.out]
    clear h
    go_enter Tryz.func98, Tryz.ntmps98
    go_wp2_with fail
    refine (signI_calls _ _).mono ?_
    rintro e w1 ⟨rfl, rfl⟩
    go_wp2_with fail
    go_ret
    exact ⟨rfl, hbb⟩
set_option maxRecDepth 100000 in
set_option maxHeartbeats 1000000 in
theorem byGift_calls (x y : Gf) (w : World) :
    Calls Tryz.prog 68 #[.agg #[.string x.id, .int .i64 x.at_, .int .i64 x.cents, .string x.bid, .string x.option], .agg #[.string y.id, .int .i64 y.at_, .int .i64 y.cents, .string y.bid, .string y.option]] w (BRet (.int .i64 (ordP x y)) w) := by
  have hS := ((Sq.start w).add #[.string x.id, .int .i64 x.at_, .int .i64 x.cents, .string x.bid, .string x.option] 61).add #[.string y.id, .int .i64 y.at_, .int .i64 y.cents, .string y.bid, .string y.option] 61
  obtain ⟨xi, xa, xc, xb, xo⟩ := x
  obtain ⟨yi, ya, yc, yb, yo⟩ := y
  simp only at hS ⊢
  have HI := Lib.hid (fun W => cmpInt_calls xa ya W)
  have HC := Lib.hid (fun W => strCmp_calls xi yi W)
  have HP : Hid (ordP ⟨xi, xa, xc, xb, xo⟩ ⟨yi, ya, yc, yb, yo⟩ = firstE [cmpI xa ya, cmpS xi yi]) := rfl
  rw [HP.out]
  obtain ⟨I, hI⟩ : ∃ I, cmpI xa ya = I := ⟨_, rfl⟩
  obtain ⟨C, hC⟩ : ∃ C, cmpS xi yi = C := ⟨_, rfl⟩
  rw [hI] at HI ⊢
  rw [hC] at HC ⊢
  have HO := Lib.hid (fun g W h => or2_calls I C g W h)
  rw [World.size_alloc] at hS
  have HCELL : Hid (∀ W, Sq w W [rBlk (w.heap.size + 1) 61 #[.string yi, .int .i64 ya, .int .i64 yc, .string yb, .string yo], rBlk w.heap.size 61 #[.string xi, .int .i64 xa, .int .i64 xc, .string xb, .string xo]] → W.cell? ⟨w.heap.size, 0, none⟩ = some (.string xi) ∧ W.cell? ⟨w.heap.size, 1, none⟩ = some (.int .i64 xa) ∧ W.cell? ⟨w.heap.size + 1, 0, none⟩ = some (.string yi) ∧ W.cell? ⟨w.heap.size + 1, 1, none⟩ = some (.int .i64 ya)) := fun W h => by
    have h1 : Blk W (w.heap.size + 1) 61 #[.string yi, .int .i64 ya, .int .i64 yc, .string yb, .string yo] := h.nth 0 rfl
    have h2 : Blk W w.heap.size 61 #[.string xi, .int .i64 xa, .int .i64 xc, .string xb, .string xo] := h.nth 1 rfl
    exact ⟨h2.cell 0, h2.cell 1, h1.cell 0, h1.cell 1⟩
  have hd := hS.drew
  clear hI hC HP
  go_enter Tryz.func68, Tryz.ntmps68
  go_upto_region 1 with (fail)
  obtain ⟨W0, hW0⟩ : ∃ W0, W0 = (w.alloc (.cells #[.string xi, .int .i64 xa, .int .i64 xc, .string xb, .string xo] 61)).alloc (.cells #[.string yi, .int .i64 ya, .int .i64 yc, .string yb, .string yo] 61) := ⟨_, rfl⟩
  rw [← hW0] at hd hS ⊢
  obtain ⟨k0, k1, k2, k3⟩ := HCELL.out W0 hS
  clear hW0
  have HBO : Hid (Blk (W0.alloc (.cells #[.int .i64 I, .int .i64 C] 3)).drew W0.heap.size 3 #[.int .i64 I, .int .i64 C]) := Blk.new W0 _ _
  have hda := (hS.alloc (.cells #[.int .i64 I, .int .i64 C] 3)).drew
  go_region_held3 (fun W => W.cell? ⟨w.heap.size, 0, none⟩ = some (.string xi) ∧ W.cell? ⟨w.heap.size, 1, none⟩ = some (.int .i64 xa) ∧ W.cell? ⟨w.heap.size + 1, 0, none⟩ = some (.string yi) ∧ W.cell? ⟨w.heap.size + 1, 1, none⟩ = some (.int .i64 ya))
    (first | exact HCELL.out _ hd | exact HCELL.out _ (hS.alloc _) | exact HCELL.out _ hda | exact HCELL.out _ (hda.drewN _) | go_keep)
    (first
      | (go_at_call 38; ((with_reducible refine (HI.out _).mono ?_); rintro e w4 ⟨rfl, rfl⟩))
      | (go_at_call 54; ((with_reducible refine (HC.out _).mono ?_); rintro e w5 ⟨rfl, rfl⟩))
      | (go_at_call 37; ((with_reducible refine (HO.out _ _ HBO.out).mono ?_); rintro e w6 ⟨rfl, nq, rfl⟩)))
  go_wp2_with fail
  go_ret
  exact ⟨rfl, ((hS.alloc _).drewN _).below⟩
end Go.Proofs.YtohhbkodfidfkaaGreatDoor
