/-
  slices.Equal of gifts by a contract. (Printed by gen_gft5.py.)
-/
import Derived.Test.YtohhbkodfidfkaaGreatDoorZBidPure
import Derived.Test.YtohhbkodfidfkaaGreatDoorZSlot4
import Derived.Test.YtohhbkodfidfkaaGreatDoorZSortGf
import Derived.Test.YtohhbkodfidfkaaGreatDoorZSortMem
import Derived.Test.YtohhbkodfidfkaaGreatDoorZBid10
namespace Go.Proofs.YtohhbkodfidfkaaGreatDoor
open Go Go.RowKit
attribute [local go_sem ↓] Go.wp_at_zero Go.wp_at_succ

set_option maxRecDepth 100000 in
theorem equalGf_calls (b : Nat) (A A2 : Option Addr) (n c c2 : Nat) (rs : List Gf) (w : World) (hr : Rd w b 5 (.slice A n c) n (rs.flatMap gfC)) (hr2 : Rd w b 5 (.slice A2 n c2) n (rs.flatMap gfC)) :
    Calls Tryz.prog 24 #[.slice A n c, .slice A2 n c2] w (QRet (.bool true) w) := by
  obtain ⟨hl, hnc, hcm, hcells⟩ := hr.cells gfC_len (by omega)
  obtain ⟨_, _, hcm2, hcells2⟩ := hr2.cells gfC_len (by omega)
  unfold maxLen at hcm hcm2
  have HL := Lib.hid hl
  have HC := Lib.hid hcells
  have HC2 := Lib.hid hcells2
  have hnn : ((n : Int) != (n : Int)) = false := by simp
  clear hcells hcells2 hl hr hr2
  go_enter Tryz.func24, Tryz.ntmps24
  go_wp2_with fail
  go_loopw [13] (fun i wr => ∃ k nq : Nat, k ≤ n ∧ i = .int .i64 k ∧ wr = w.drewN nq) (fun i _ => n - (intOf i).toNat)
  case atStart => exact ⟨0, 0, Nat.zero_le _, rfl, rfl⟩
  case round =>
    obtain ⟨k, nq, hk, rfl, rfl⟩ := hrel
    by_cases hlt : k < n
    · have hkr : k < rs.length := by rw [HL.out]; exact hlt
      obtain ⟨g, o, hA, _, hcs⟩ := HC.out (by omega)
      obtain ⟨g2, o2, hA2, _, hcs2⟩ := HC2.out (by omega)
      subst hA hA2
      have c0 := hcs k hkr 0 (by omega)
      have x0 := hcs2 k hkr 0 (by omega)
      have c1 := hcs k hkr 1 (by omega)
      have x1 := hcs2 k hkr 1 (by omega)
      have c2 := hcs k hkr 2 (by omega)
      have x2 := hcs2 k hkr 2 (by omega)
      have c3 := hcs k hkr 3 (by omega)
      have x3 := hcs2 k hkr 3 (by omega)
      have c4 := hcs k hkr 4 (by omega)
      have x4 := hcs2 k hkr 4 (by omega)
      simp only [gfC, Nat.add_zero, List.getElem?_cons_zero, List.getElem?_cons_succ] at c0 x0 c1 x1 c2 x2 c3 x3 c4 x4
      have hk0 : (0 : Int) ≤ (k : Int) := by omega
      have hk1 : (k : Int) < (n : Int) := by omega
      clear hcs hcs2
      go_wp2_with fail
      go_quiet (fail)
      go_wp2_with fail
      go_roundw
      case rel => exact ⟨k + 1, _, by omega, by go_num, rfl⟩
      case measure => simp [intOf]; omega
    · obtain rfl : k = n := by omega
      go_wp2_with fail
      go_ret
      exact ⟨rfl, nq, rfl⟩
end Go.Proofs.YtohhbkodfidfkaaGreatDoor
/-
  slices.Grow and slices.Concat of gifts by contracts.
-/
namespace Go.Proofs.YtohhbkodfidfkaaGreatDoor
open Go Go.RowKit
attribute [local go_sem ↓] Go.wp_at_zero Go.wp_at_succ

theorem growGf_calls (n : Nat) (w : World) (hn : n ≤ 100000) :
    Calls Tryz.prog 105 #[.slice none 0 0, .int .i64 n] w fun e w' => ∃ v, e = .returned v ∧ w'.ownsRow w.heap.size 61 5 v 0 [] ∧ Below w.heap.size w w' := by
  obtain ⟨i0, hi, hz0, hz1, hz2⟩ := info_parts info_gf
  rcases Nat.eq_zero_or_pos n with h0 | h0
  · subst h0
    refine Calls.mono (Any8.slices_Grow_room Tryz.growGf none 0 0 0 w (by omega) (by omega) (by omega) (by omega)) ?_
    rintro e w' ⟨rfl, rfl⟩
    exact ⟨_, rfl, World.ownsRow_nil _ _ _ _, Below.refl _ _⟩
  · refine Calls.mono (Any8.slices_Grow_grow Tryz.growGf i0 _ hi hz0 (by omega) none 0 0 n [] w (by omega) (by omega) (by rw [hz2]; omega) (by omega) (by simp) (fun _ => rfl) (fun a h => by cases h)) ?_
    rintro e w' ⟨rfl, rfl⟩
    refine ⟨_, rfl, ⟨by simp, .inr ⟨w.heap.size, _, _, rfl, Nat.le_refl _, heap_alloc_new w.drew _, Nat.zero_le _, grownCap_le_maxLen _ _ _ _ (by unfold maxLen; omega), ?_, by simp⟩⟩, (Below.refl _ _).drew.alloc (by simp) _⟩
    have hg := grownCap_ge w (0 + n) 0 61
    show (_ : Array Value).size = _
    rw [Array.size_append, Array.size_append, size_zeroCells, size_zeroCells]
    show 0 + (0 + n - 0) * 5 + (grownCap w (0 + n) 0 61 - (0 + n)) * 5 = grownCap w (0 + n) 0 61 * 5
    omega

def szC (n1 n2 : Nat) : Nat → Nat
  | 0 => 0
  | 1 => n1
  | _ => n1 + n2
def csC (xs ys : List Value) : Nat → List Value
  | 0 => []
  | 1 => xs
  | _ => xs ++ ys
set_option maxRecDepth 100000 in
set_option maxHeartbeats 1000000 in
theorem concatGf_calls (b g : Nat) (A1 A2 : Option Addr) (n1 c1 n2 c2 : Nat) (xs ys : List Value) (w : World) (hB : Blk w g 55 #[.slice A1 n1 c1, .slice A2 n2 c2]) (h1 : Rd w b 5 (.slice A1 n1 c1) n1 xs) (h2 : Rd w b 5 (.slice A2 n2 c2) n2 ys)
    (hx : ∀ u ∈ xs, u.oneCell' = true) (hy : ∀ u ∈ ys, u.oneCell' = true) (hn1 : n1 ≤ 10000) (hn2 : n2 ≤ 10000) :
    Calls Tryz.prog 66 #[.slice (some ⟨g, 0, none⟩) 2 2] w fun e w' => ∃ v, e = .returned v ∧ w'.ownsRow w.heap.size 61 5 v (n1 + n2) (xs ++ ys) ∧ Below w.heap.size w w' := by
  obtain ⟨i0, hi, hz0, hz1, hz2⟩ := info_parts info_gf
  have e0 := hB.cell 0
  have e1 := hB.cell 1
  replace e0 : w.cell? ⟨g, 0, none⟩ = some (.slice A1 n1 c1) := e0
  replace e1 : w.cell? ⟨g, 1, none⟩ = some (.slice A2 n2 c2) := e1
  have hgl := hB.lt
  have HG := Lib.hid (fun n W h => growGf_calls n W h)
  have HB := Lib.hid hB
  have H1 := Lib.hid h1
  have H2 := Lib.hid h2
  clear hB h1 h2
  go_enter Tryz.func66, Tryz.ntmps66
  go_wp2_with fail
  go_loop [3, 11] (fun s i => ∃ k : Nat, k ≤ 2 ∧ i = .int .i64 k ∧ s = .int .i64 (szC n1 n2 k : Nat)) (fun _ i => 2 - (intOf i).toNat)
  case atStart => exact ⟨0, by omega, rfl, rfl⟩
  case round =>
    obtain ⟨k, hk, rfl, rfl⟩ := hrel
    rcases (show k = 0 ∨ k = 1 ∨ k = 2 by omega) with rfl | rfl | rfl
    · have hsz : ((szC n1 n2 0 : Nat) : Int) = 0 := rfl
      rw [hsz]
      go_wp2_with fail
      go_round
      case rel => exact ⟨1, by omega, by go_num, by show _ = Value.int .i64 ((n1 : Nat) : Int); go_num⟩
      case measure => simp [intOf]
    · have hsz : ((szC n1 n2 1 : Nat) : Int) = (n1 : Int) := rfl
      rw [hsz]
      go_wp2_with fail
      go_round
      case rel => exact ⟨2, by omega, by go_num, by show _ = Value.int .i64 ((n1 + n2 : Nat) : Int); go_num⟩
      case measure => simp [intOf]
    · have hsz : ((szC n1 n2 2 : Nat) : Int) = ((n1 + n2 : Nat) : Int) := rfl
      rw [hsz]
      clear hsz
      have HGG := Lib.hid (HG.out (n1 + n2) w (by omega))
      clear hk
      obtain ⟨N, hN⟩ : ∃ N, n1 + n2 = N := ⟨_, rfl⟩
      have HN := Lib.hid hN
      rw [hN] at HGG ⊢
      clear hN
      go_wp2_with fail
      refine HGG.out.mono ?_
      rintro e w1 ⟨v, rfl, hown, hb1⟩
      have hS1 : Sq w w1 [rOwn w.heap.size 61 5 v 0 []] := ((Sq.start w).ownB hb1 hown)
      clear hown hb1
      go_wp2_with fail
      go_loopw [6, 27] (fun s i wr => ∃ (k : Nat) (v : Value), k ≤ 2 ∧ i = .int .i64 k ∧ s = v ∧ Sq w wr [rOwn w.heap.size 61 5 v (szC n1 n2 k) (csC xs ys k)]) (fun _ i _ => 2 - (intOf i).toNat)
      case atStart => exact ⟨0, v, by omega, rfl, rfl, hS1⟩
      case round =>
        clear hS1
        obtain ⟨k, v, hk, rfl, hv, hS⟩ := hrel
        subst hv
        have d0 := below_cell hS.below e0
        have d1 := below_cell hS.below e1
        have hown := hS.head
        have hbase := hS.size
        rcases (show k = 0 ∨ k = 1 ∨ k = 2 by omega) with rfl | rfl | rfl
        · have R1 := H1.out.below hS.below
          replace hown : wr.ownsRow w.heap.size 61 5 u6 0 [] := hown
          go_wp2_with (first
            | (at_builtin; go_loud (refine wpList_app_rd _ rfl (.tmp 31) (.tmp 32) 55 rfl w.heap.size 61 i0 (.agg #[.string ⟨#[]⟩, .int .i64 0, .int .i64 0, .string ⟨#[]⟩, .string ⟨#[]⟩]) 5 64 Tryz.underlying55 hi hz0 hz1 hz2 rfl (by decide) u6 0 [] rfl hown b A1 n1 c1 xs rfl R1 hx (by unfold maxLen; omega) (by omega) hbase ?_); intro v' w2 hown' hgrow hat))
          have hS2 := hS.append hown' hgrow hat
          rw [Nat.zero_add] at hS2
          go_wp2_with fail
          go_roundw
          case rel => exact ⟨1, v', by omega, by go_num, rfl, hS2⟩
          case measure => simp [intOf]
        · have R1 := H2.out.below hS.below
          replace hown : wr.ownsRow w.heap.size 61 5 u6 n1 xs := hown
          go_wp2_with (first
            | (at_builtin; refine wpList_app_rd _ rfl (.tmp 31) (.tmp 32) 55 rfl w.heap.size 61 i0 (.agg #[.string ⟨#[]⟩, .int .i64 0, .int .i64 0, .string ⟨#[]⟩, .string ⟨#[]⟩]) 5 64 Tryz.underlying55 hi hz0 hz1 hz2 rfl (by decide) u6 n1 xs rfl hown b A2 n2 c2 ys rfl R1 hy (by unfold maxLen; omega) (by omega) hbase ?_; intro v' w2 hown' hgrow hat))
          have hS2 := hS.append hown' hgrow hat
          go_wp2_with fail
          go_roundw
          case rel => exact ⟨2, v', by omega, by go_num, rfl, hS2⟩
          case measure => simp [intOf]
        · have HF : Hid (wr.ownsRow w.heap.size 61 5 u6 (n1 + n2) (xs ++ ys)) := hown
          have HB2 := Lib.hid hS.below
          clear hown hS
          go_wp2_with fail
          go_ret
          exact ⟨_, rfl, by rw [← HN.out]; exact HF.out, HB2.out⟩
end Go.Proofs.YtohhbkodfidfkaaGreatDoor
