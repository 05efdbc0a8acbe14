/-
  Rates, times and parts of videos as the stream makes them, by contracts.
-/
import Derived.Test.YtohjapfjkilmoaaGreatDoorZRatMake
import Derived.Test.YtohjapfjkilmoaaGreatDoorZFrmPure
import Derived.Test.YtohjapfjkilmoaaGreatDoorZBase
namespace Go.Proofs.YtohjapfjkilmoaaGreatDoor
open Go Go.RowKit

def rateFr : List (Int × Int) := [(60, 1), (30000, 1001), (25, 1), (1, 1), (1000, 1), (1, 100000)]
def badFr : List (Int × Int) := [(2, 2), (0, 1), (1, 0), (1001, 1), (1, 100001), (-60, -1), (4611686018427387904, 3)]

theorem info_part : (Tryz.prog.info? 45).map (fun i => (i.zero, i.size, i.bytes)) = some (some (.agg #[.int .i64 0, .int .i64 0]), 2, 16) := by kernel_rfl
def partC (p : FrmP.Part) : List Value := [.int .i64 p.1, .int .i64 p.2]
theorem partC_len (p : FrmP.Part) : (partC p).length = 2 := rfl
/-- parts whose numbers are not great -/
def PartI (l : List FrmP.Part) : Prop := ∀ p ∈ l, (-1099511627776 ≤ p.1 ∧ p.1 ≤ 1099511627776) ∧ -1099511627776 ≤ p.2 ∧ p.2 ≤ 1099511627776
theorem PartI.snoc {l : List FrmP.Part} {p : FrmP.Part} (h : PartI l) (hp : (-1099511627776 ≤ p.1 ∧ p.1 ≤ 1099511627776) ∧ -1099511627776 ≤ p.2 ∧ p.2 ≤ 1099511627776) : PartI (l ++ [p]) := by
  intro x hx
  rcases List.mem_append.1 hx with hx | hx
  · exact h x hx
  · simp at hx; rw [hx]; exact hp
/-- parts in new memory -/
def PartsS (m b K : Nat) (w : World) (e : Ending) (w' : World) : Prop :=
  ∃ (v : Value) (l : List FrmP.Part), e = .returned v ∧ w'.ownsRow w.heap.size 45 2 v l.length (l.flatMap partC) ∧ l.length = m ∧ PartI l ∧ Strm w' b K ∧ Bx w.heap.size b w w'

set_option maxRecDepth 100000 in
set_option maxHeartbeats 1000000 in
theorem parts_calls (b K m : Nat) (w : World) (hs : Strm w b K) (hK : K ≤ 900000) (hm : m ≤ 24) :
    Calls Tryz.prog 6 #[.pointer (some ⟨b, 0, none⟩), .int .i64 m] w (PartsS m b (K + 7 * m) w) := by
  have hlt := hs.lt
  obtain ⟨i0, hi, hz0, hz1, hz2⟩ := info_parts info_part
  go_enter Tryz.func6, Tryz.ntmps6
  go_wp2_with fail
  go_loopw [5, 6, 9] (fun v a i wr => ∃ (k : Nat) (l : List FrmP.Part) (at0 : Int), k ≤ m ∧ l.length = k ∧ i = .int .i64 k ∧ a = .int .i64 at0 ∧ 0 ≤ at0 ∧ at0 ≤ 100 * k ∧
      wr.ownsRow w.heap.size 45 2 v l.length (l.flatMap partC) ∧ PartI l ∧ Strm wr b (K + 7 * k) ∧ Bx w.heap.size b w wr) (fun _ _ i _ => m - (intOf i).toNat)
  case atStart => exact ⟨0, [], 0, Nat.zero_le _, rfl, rfl, rfl, by omega, by omega, World.ownsRow_nil _ _ _ _, (by intro x hx; cases hx), hs, Bx.refl _ _ _⟩
  case round =>
    obtain ⟨k, l, at0, hk, hlk, rfl, rfl, ha0, ha1, hown, hI, hsr, hbr⟩ := hrel
    by_cases hltk : k < m
    · have hlk0 : l.length ≤ k := by omega
      have hlk1 : k ≤ l.length := by omega
      clear hlk
      go_wp2_with fail
      refine (pick_calls b _ _ 3 3 _ _ (by omega) (Rd.lit0 hsr.lt (by decide) rfl) (by simp) (hsr.alloc _) (by omega)).mono ?_
      rintro e w1 ⟨x, rfl, hx, hs1, hb1⟩
      obtain ⟨d, rfl, hd0, hd1⟩ : ∃ z : Int, x = .int .i64 z ∧ 0 ≤ z ∧ z ≤ 20 := by
        simp at hx
        rcases hx with rfl | rfl | rfl <;> exact ⟨_, rfl, by omega, by omega⟩
      have hown1 := own_bx (hown.alloc _) hb1 (by omega)
      have hb1' := (hbr.alloc (Nat.le_refl _) _).call hb1 (Nat.le_refl _)
      clear hown hsr hbr hb1 hx
      go_wp2_with fail
      refine (pick_calls b _ _ 3 3 _ _ (by omega) (Rd.lit0 hs1.lt (by decide) rfl) (by simp) (hs1.alloc _) (by omega)).mono ?_
      rintro e w2 ⟨x, rfl, hx, hs2, hb2⟩
      obtain ⟨d2, rfl, hd2, hd3⟩ : ∃ z : Int, x = .int .i64 z ∧ 0 ≤ z ∧ z ≤ 40 := by
        simp at hx
        rcases hx with rfl | rfl | rfl <;> exact ⟨_, rfl, by omega, by omega⟩
      have hown2 := own_bx (hown1.alloc _) hb2 (by omega)
      have hb2' := (hb1'.alloc (Nat.le_refl _) _).call hb2 (Nat.le_refl _)
      clear hown1 hs1 hb1' hb2 hx
      have hlt2 := hs2.lt
      go_wp2_with fail
      refine (flip_calls b _ _ _ (by omega) (by omega) (hs2.alloc _) (by omega)).mono ?_
      rintro e w3 ⟨v, rfl, hs3, hb3⟩
      have hz3 := hb3.size
      simp at hz3
      have hown3 := own_bx (hown2.alloc _) hb3 (by omega)
      have hb3' := (hb2'.alloc (Nat.le_refl _) _).call hb3 (Nat.le_refl _)
      have B3 : Blk w3 w2.heap.size 45 #[.int .i64 (at0 + d), .int .i64 (at0 + d + d2)] := (Blk.new w2 _ _).bx hb3 (by omega)
      have hz9 := hb2'.size
      have hgo : u5.ownBlock ≠ some w2.heap.size := fun hq => by have := (hown2.lt _ hq).2; omega
      have hbz : b < w2.heap.size := hlt2
      clear hs2 hown2 hb2' hb3
      cases v
      · obtain ⟨k0, k1, k2, k3⟩ := B3.two
        go_wp2_with (first
          | (at_builtin; refine wpList_append_own_at _ rfl _ _ 30 rfl w.heap.size 45 i0 (.agg #[.int .i64 0, .int .i64 0]) 2 16 Tryz.underlying30 hi hz0 hz1 hz2 rfl (by decide) _ _ _ rfl (hown3.alloc _) ⟨w3.heap.size, 0, none⟩ 1 1 [.int .i64 (at0 + d), .int .i64 (at0 + d + d2)] rfl rfl (World.news_of_block (heap_alloc_new _ _)) (by simp [Value.oneCell']) (by unfold maxLen; omega) (by omega) (by simp; omega) ?_; intro v' w9 hown' hgrow _ _))
        have hb9 : Bx w.heap.size b w w9 := (hb3'.alloc (Nat.le_refl _) _).grown hgrow (Nat.le_refl _) (fun q hq => .inr (hown3.lt q hq).1)
        have hs9 := (hs3.alloc _).grown hgrow (fun q hq => by have := (hown3.lt q hq).1; omega)
        have hown9 : w9.ownsRow w.heap.size 45 2 v' (l ++ [((at0 + d), (at0 + d + d2))]).length ((l ++ [((at0 + d), (at0 + d + d2))]).flatMap partC) := by
          rw [flat_snoc, List.length_append]; exact hown'
        have hI9 := hI.snoc (p := ((at0 + d), (at0 + d + d2))) ⟨⟨by simp only; omega, by simp only; omega⟩, by simp only; omega, by simp only; omega⟩
        have hle : (l ++ [((at0 + d), (at0 + d + d2))]).length = k + 1 := by simp; omega
        have HLE := Lib.hid hle
        clear hown' hgrow hle hown3 hs3 hb3' B3 k0 k1 k2 k3
        go_wp2
        go_roundw
        case rel => exact ⟨k + 1, _, at0 + d + d2, by omega, HLE.out, by go_num, rfl, by omega, by omega, hown9, hI9, hs9.more (by omega), hb9⟩
        case measure => simp [intOf]; omega
      · go_wp2_with fail
        refine (odd_calls b _ _ _ _ (by omega) (by omega) (by omega) hs3 (by omega)).mono ?_
        rintro e w4 ⟨p, rfl, p1, p2, hs4, hb4⟩
        go_wp2_with fail
        refine (odd_calls b _ _ _ _ (by omega) (by omega) (by omega) hs4 (by omega)).mono ?_
        rintro e w5 ⟨q, rfl, q1, q2, hs5, hb5⟩
        have hown5 := own_bx (own_bx hown3 hb4 (by omega)) hb5 (by omega)
        have hb5' := (hb3'.call hb4 (Nat.le_refl _)).call hb5 (Nat.le_refl _)
        have B5 := (B3.bx hb4 (by omega)).bx hb5 (by omega)
        obtain ⟨k0, k1, k2, k3⟩ := B5.two
        have hown6 := own_set (own_set hown5 hgo 0 (.int .i64 p)) hgo 1 (.int .i64 q)
        have hb6' := (hb5'.setCell (p := ⟨w2.heap.size, 0, none⟩) (.inr hz9) (.int .i64 p)).setCell (p := ⟨w2.heap.size, 1, none⟩) (.inr hz9) (.int .i64 q)
        have hs6 := (hs5.setCell (p := ⟨w2.heap.size, 0, none⟩) hbz (.int .i64 p)).setCell (p := ⟨w2.heap.size, 1, none⟩) hbz (.int .i64 q)
        have hz5 := hb5'.size
        clear hown3 hown5 hb3' hb4 hb5 hb5' hs3 hs4 hs5 B3
        go_wp2_with (first
          | (at_builtin; refine wpList_append_own_at _ rfl _ _ 30 rfl w.heap.size 45 i0 (.agg #[.int .i64 0, .int .i64 0]) 2 16 Tryz.underlying30 hi hz0 hz1 hz2 rfl (by decide) _ _ _ rfl (hown6.alloc _) ⟨w5.heap.size, 0, none⟩ 1 1 [.int .i64 p, .int .i64 q] rfl rfl (World.news_of_block (heap_new_s2 _ _ _ _ _ _)) (by simp [Value.oneCell']) (by unfold maxLen; omega) (by omega) (by simp; omega) ?_; intro v' w9 hown' hgrow _ _))
        have hb9 : Bx w.heap.size b w w9 := (hb6'.alloc (Nat.le_refl _) _).grown hgrow (Nat.le_refl _) (fun q hq => .inr (hown6.lt q hq).1)
        have hs9 := (hs6.alloc _).grown hgrow (fun q hq => by have := (hown6.lt q hq).1; omega)
        have hown9 : w9.ownsRow w.heap.size 45 2 v' (l ++ [(p, q)]).length ((l ++ [(p, q)]).flatMap partC) := by
          rw [flat_snoc, List.length_append]; exact hown'
        have hI9 := hI.snoc (p := (p, q)) ⟨⟨by simp only; omega, by simp only; omega⟩, by simp only; omega, by simp only; omega⟩
        have hle : (l ++ [(p, q)]).length = k + 1 := by simp; omega
        have HLE := Lib.hid hle
        clear hown' hgrow hle hown6 hs6 hb6' B5 k0 k1 k2 k3
        go_wp2
        go_roundw
        case rel => exact ⟨k + 1, _, at0 + d + d2, by omega, HLE.out, by go_num, rfl, by omega, by omega, hown9, hI9, hs9.more (by omega), hb9⟩
        case measure => simp [intOf]; omega
    · obtain rfl : k = m := by omega
      go_wp2
      go_ret
      exact ⟨_, l, rfl, hown, by omega, hI, hsr.more (by omega), hbr⟩
end Go.Proofs.YtohjapfjkilmoaaGreatDoor
