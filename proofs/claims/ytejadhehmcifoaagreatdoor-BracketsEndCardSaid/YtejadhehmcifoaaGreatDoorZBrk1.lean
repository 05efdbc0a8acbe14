/-
  BracketFault of the reference; places of the program; who has a number (a closure on both sides).
-/
import Derived.Test.YtejadhehmcifoaaGreatDoorZChk
import Derived.Test.YtejadhehmcifoaaGreatDoorZKey
import Derived.Test.YtejadhehmcifoaaGreatDoorZOwnSet
import Derived.Test.YtejadhehmcifoaaGreatDoorZSep
namespace Go.Proofs.YtejadhehmcifoaaGreatDoor
open Go Go.RowKit

theorem info_int1 : (Tryz.prog.info? 3).map (fun i => (i.zero, i.size, i.bytes)) = some (some (.int .i64 0), 1, 8) := by kernel_rfl
theorem one2 {x y : Value} (hx : x.oneCell' = true) (hy : y.oneCell' = true) : ∀ u ∈ [x, y], u.oneCell' = true := by
  intro u hu
  simp at hu
  rcases hu with rfl | rfl
  · exact hx
  · exact hy
theorem strs_takeB {w : World} {b n c m : Nat} {A : Option Addr} {hs : List ByteArray} (h : Rd w b 1 (.slice A n c) n (strsV hs)) (hm : m ≤ n) : Rd w b 1 (.slice A m c) m (strsV (hs.take m)) := by
  have e : ∀ l : List ByteArray, strsV l = l.flatMap (fun s => [Value.string s]) := fun l => by
    induction l with
    | nil => rfl
    | cons a l ih =>
      simp [strsV] at ih ⊢
      exact ih
  rw [e] at h ⊢
  exact h.take (fun _ => rfl) (by decide) hm

/-- numbers in memory -/
def intsV (l : List Int) : List Value := l.map (Value.int .i64)
theorem intsV_len (l : List Int) : (intsV l).length = l.length := by simp [intsV]

set_option maxRecDepth 100000 in
set_option maxHeartbeats 2000000 in
/-- places, of 2^k -/
theorem places_calls : ∀ (k : Nat) (w : World), k ≤ 7 → Calls Tryz.prog 20 #[.int .i64 ((2 ^ k : Nat) : Int)] w fun e w' => ∃ v, e = .returned v ∧ w'.ownsRow w.heap.size 3 1 v (2 ^ k) (intsV (plP k)) ∧ Below w.heap.size w w'
  | 0, w, _ => by
    have hb : Below w.heap.size w (w.alloc (.cells #[.int .i64 1] 3)) := (Below.refl _ _).alloc (Nat.le_refl _) _
    go_enter Tryz.func20, Tryz.ntmps20
    go_wp2_with fail
    go_ret
    refine ⟨_, rfl, ?_, hb⟩
    exact ⟨rfl, .inr ⟨w.heap.size, 1, #[.int .i64 1], rfl, Nat.le_refl _, heap_alloc_new _ _, Nat.le_refl _, (by unfold maxLen; omega), rfl, rfl⟩⟩
  | k + 1, w, hk => by
    obtain ⟨q, hq⟩ : ∃ q : Nat, 2 ^ (k + 1) = q := ⟨_, rfl⟩
    obtain ⟨p, hp⟩ : ∃ p : Nat, 2 ^ k = p := ⟨_, rfl⟩
    have hqp : q = 2 * p := by rw [← hq, ← hp, Nat.pow_succ]; omega
    have hp1 : 1 ≤ p := by rw [← hp]; exact Nat.one_le_two_pow
    have hp2 : p ≤ 64 := by rw [← hp]; exact Nat.le_trans (Nat.pow_le_pow_right (by decide) (show k ≤ 6 by omega)) (by decide)
    have ih := places_calls k w (by omega)
    have hbd := plP_bd k
    have hplen := plP_len k
    rw [hp] at ih hbd hplen
    rw [hq]
    have HP : Hid (plP (k + 1) = dblL (plP k) (q : Int)) := Lib.hid (by rw [plP, hq])
    obtain ⟨L, hL⟩ : ∃ L, plP k = L := ⟨_, rfl⟩
    rw [hL] at ih hbd hplen HP
    have IH := Lib.hid ih
    have HBD := Lib.hid hbd
    have HPL := Lib.hid hplen
    have hdv : ((q : Int)).tdiv 2 = (p : Int) := by rw [hqp, Int.tdiv_eq_ediv_of_nonneg (by omega)]; omega
    have hq1 : ¬ ((q : Int)) = 1 := by omega
    have HQP := Lib.hid hqp
    clear hq hp hL ih hbd hplen hqp
    go_enter Tryz.func20, Tryz.ntmps20
    go_wp2_with fail
    refine IH.out.mono ?_
    rintro e w1 ⟨v, rfl, hown, hb1⟩
    obtain ⟨A, c, hv⟩ := own_form hown
    subst hv
    have hT0 := ((Sq.start w).ownB hb1 hown).nil w.heap.size 3 1
    clear hb1 hown IH
    go_wp2_with fail
    go_loopw [3, 13] (fun v i wr => ∃ j : Nat, j ≤ p ∧ i = .int .i64 j ∧ Sq w wr [rOwn w.heap.size 3 1 v (2 * j) (intsV (dblL (L.take j) (q : Int))), rOwn w.heap.size 3 1 (.slice A p c) p (intsV L)]) (fun _ i _ => p - (intOf i).toNat)
    case atStart => exact ⟨0, Nat.zero_le _, rfl, hT0⟩
    case round =>
      clear hT0
      obtain ⟨j, hj, rfl, hT⟩ := hrel
      by_cases hlt : j < p
      · have hown6 : wr.ownsRow w.heap.size 3 1 (.slice A p c) p (intsV L) := hT.nth 1 rfl
        have hjl : j < L.length := by rw [HPL.out]; exact hlt
        obtain ⟨g6, cap6, hv6, _, _⟩ := hown6.form (by omega)
        injection hv6 with hA6 _ hc6
        subst hA6 hc6
        have c6 := hown6.cellAt j (by omega)
        have hz := HBD.out _ (List.getElem_mem hjl)
        have hsn : Hid (dblL (L.take (j + 1)) (q : Int) = dblL (L.take j) (q : Int) ++ [L[j], (q : Int) + 1 - L[j]]) := Lib.hid (by rw [List.take_succ_eq_append_getElem hjl, dblL_snoc])
        have hge : (intsV L)[j]? = some (.int .i64 L[j]) := by simp [intsV, List.getElem?_eq_getElem hjl]
        rw [hge] at c6
        obtain ⟨z, hzz⟩ : ∃ z, L[j] = z := ⟨_, rfl⟩
        rw [hzz] at c6 hz hsn
        have hown : wr.ownsRow w.heap.size 3 1 u3 (2 * j) (intsV (dblL (L.take j) (q : Int))) := hT.head
        have hsz := hT.size
        have hk0 : (0 : Int) ≤ (j : Int) := by omega
        have hk1 : (j : Int) < (p : Int) := by omega
        have hqq : q ≤ 128 := by have := HQP.out; omega
        obtain ⟨hz1, hz2⟩ := hz
        obtain ⟨j0, hj0, hyy0, hyy1, hyy2⟩ := info_parts info_int1
        clear hge hzz hown6
        go_wp2_with (first
          | (at_builtin; refine wpList_append_own_at _ rfl _ _ 22 rfl w.heap.size 3 j0 (.int .i64 0) 1 8 Tryz.underlying22 hj0 hyy0 hyy1 hyy2 rfl (by decide) _ _ _ rfl (hown.alloc _) ⟨wr.heap.size, 0, none⟩ 2 2 [.int .i64 z, .int .i64 ((q : Int) + 1 - z)] rfl rfl (World.news_of_block (heap_alloc_new _ _)) (one2 rfl rfl) (by unfold maxLen; omega) (by omega) (by simp; omega) ?_; intro v' w8 hown' hgrow _ hblk; have hT8 := (hT.alloc (.cells #[.int .i64 z, .int .i64 ((q : Int) + 1 - z)] 3)).append hown' hgrow hblk; clear hown' hgrow hblk))
        go_roundw
        case rel =>
          refine ⟨j + 1, by omega, by go_num, ?_⟩
          rw [hsn.out, show 2 * (j + 1) = 2 * j + 2 by omega]
          have he : intsV (dblL (L.take j) (q : Int) ++ [z, (q : Int) + 1 - z]) = intsV (dblL (L.take j) (q : Int)) ++ [.int .i64 z, .int .i64 ((q : Int) + 1 - z)] := by simp [intsV]
          rw [he]
          exact hT8
        case measure => simp [intOf]; omega
      · obtain rfl : j = p := by omega
        have hown : wr.ownsRow w.heap.size 3 1 u3 (2 * j) (intsV (dblL (L.take j) (q : Int))) := hT.head
        rw [List.take_of_length_le (by rw [HPL.out]; exact Nat.le_refl _), ← HP.out] at hown
        have hB := hT.below
        go_wp2_with fail
        go_ret
        exact ⟨_, rfl, by rw [HQP.out]; exact hown, hB⟩
/-- who has a number, of the program -/
theorem player_calls (b B : Nat) (t : TypeId) (A : Option Addr) (n c : Nat) (who : List ByteArray) (p : Int) (w : World) (hB : Blk w B t #[.slice A n c]) (hr : Rd w b 1 (.slice A n c) n (strsV who)) (hp : 1 ≤ p) :
    Calls Tryz.prog 18 #[.int .i64 p, .pointer (some ⟨B, 0, none⟩)] w fun e w' => e = .returned (.string (whoF who p)) ∧ w = w' := by
  obtain ⟨hl, hnc, hcm, hcells⟩ := strs_cells hr
  unfold maxLen at hcm
  have cB : w.cell? ⟨B, 0, none⟩ = some (.slice A n c) := hB.cell 0
  by_cases hlt : (n : Int) < p
  · have HF := Lib.hid (show whoF who p = ⟨#[]⟩ by unfold whoF; rw [if_pos (by rw [hl]; exact hlt)])
    clear hl hcells
    go_enter Tryz.func18, Tryz.ntmps18
    go_wp2_with fail
    go_ret
    exact ⟨by rw [HF.out]; rfl, rfl⟩
  · obtain ⟨k, rfl⟩ : ∃ k : Nat, p = (k : Int) + 1 := ⟨(p - 1).toNat, by omega⟩
    have hkn : k < n := by omega
    have hkl : k < who.length := by rw [hl]; exact hkn
    have HF := Lib.hid (show whoF who ((k : Int) + 1) = who[k] by
      unfold whoF
      rw [if_neg (by rw [hl]; omega), show ((k : Int) + 1 - 1).toNat = k by omega, List.getElem?_eq_getElem hkl]
      rfl)
    obtain ⟨g, o, hA, hgb, hcs⟩ := hcells (by omega)
    subst hA
    have d0 := hcs k hkl
    obtain ⟨s, hs⟩ : ∃ s, who[k] = s := ⟨_, rfl⟩
    rw [hs] at d0 HF
    have hk0 : (0 : Int) ≤ (k : Int) := by omega
    have hk1 : (k : Int) < (n : Int) := by omega
    clear hl hcells hcs hs
    go_enter Tryz.func18, Tryz.ntmps18
    go_wp2_with fail
    go_ret
    exact ⟨by rw [HF.out]; rfl, rfl⟩
end Go.Proofs.YtejadhehmcifoaaGreatDoor
