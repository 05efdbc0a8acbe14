/-
  Rated players as the stream makes them, nearly always right ones, by a contract.
-/
import Derived.Test.YtlfhommeomchoaaZRatMake
namespace Go.Proofs.Ytlfhommeomchoaa
open Go Go.RowKit

def names2 : List ByteArray := [⟨#[]⟩, ⟨#[97, 110, 110]⟩]

set_option maxRecDepth 100000 in
theorem rateds_calls (b K : Nat) (w : World) (hs : Strm w b K) (hK : K ≤ 900000) :
    Calls Try.prog 8 #[.pointer (some ⟨b, 0, none⟩)] w (RatedS b (K + 40) w) := by
  have hlt := hs.lt
  go_enter Try.func8, Try.ntmps8
  go_wp2_with fail
  refine (rightRated_calls b K _ hs (by omega)).mono ?_
  rintro e w1 ⟨v, rs0, rfl, hown0, hn4, hrs0, hs1, hb1⟩
  obtain ⟨A, cp, hv⟩ : ∃ A cp, v = .slice A rs0.length cp := by
    rcases hown0.2 with ⟨rfl, h0⟩ | ⟨g, cap, cur, rfl, _⟩
    · exact ⟨none, 0, by rw [h0]⟩
    · exact ⟨_, _, rfl⟩
  subst hv
  obtain ⟨n, hn⟩ : ∃ n, rs0.length = n := ⟨_, rfl⟩
  rw [hn] at hown0 hn4 ⊢
  have HN0 := Lib.hid hn
  clear hn
  go_wp2_with fail
  go_loopw [9] (fun i wr => ∃ (k : Nat) (rs : List Rtd), k ≤ n ∧ i = .int .i64 k ∧ Hid (rs.length = n) ∧ wr.ownsRow w.heap.size 47 3 (.slice A n cp) n (rs.flatMap ratedC) ∧ Rts rs ∧ Strm wr b (K + 12 + 6 * k) ∧ Bx w.heap.size b w wr) (fun i _ => n - (intOf i).toNat)
  case atStart => exact ⟨0, rs0, Nat.zero_le _, rfl, HN0, hown0, hrs0, hs1, hb1⟩
  case round =>
    clear HN0 hown0 hrs0 hs1 hb1
    obtain ⟨k, rs, hk, rfl, HN, hown, hrs, hsr, hbr⟩ := hrel
    by_cases hlt4 : k < n
    · go_wp2_with fail
      refine (flip_calls b _ _ _ (by omega) (by omega) hsr (by omega)).mono ?_
      rintro e w1 ⟨v, rfl, hs1, hb1⟩
      obtain ⟨g, cap, hv, hg0, hg1⟩ := hown.form (by omega)
      injection hv with hA _ hcap
      subst hA hcap
      have hkr : k < rs.length := by rw [HN.out]; exact hlt4
      have hown1 := own_bx hown hb1 (by omega)
      have hb1' := hbr.call hb1 (Nat.le_refl _)
      clear hown hsr hbr hb1
      have hri := hrs _ (List.getElem_mem hkr)
      have hgb : b < g := by omega
      have HN1 := HN
      cases v
      · go_wp2_with fail
        refine (flip_calls b _ _ _ (by omega) (by omega) hs1 (by omega)).mono ?_
        rintro e w6 ⟨v, rfl, hs6, hb6⟩
        have hown6 := own_bx hown1 hb6 (by omega)
        have hb6' := hb1'.call hb6 (Nat.le_refl _)
        clear hown1 hs1 hb1'
        cases v
        · go_wp2
          go_roundw
          case rel => exact ⟨k + 1, rs, by omega, by go_num, HN1, hown6, hrs, hs6.more (by omega), hb6'⟩
          case measure => simp [intOf]; omega
        · go_wp2_with fail
          refine (some_calls b _ _ 2 2 _ _ (by omega) (Rd.lit0 hs6.lt (by decide) rfl) (by simp) (hs6.alloc _) (by omega)).mono ?_
          rintro e w7 ⟨x, rfl, hm, hs7, hb7⟩
          obtain ⟨z, rfl, hz⟩ : ∃ z : ByteArray, x = .string z ∧ z.size ≤ 1000 := by
            simp at hm
            rcases hm with rfl | rfl <;> exact ⟨_, rfl, by decide⟩
          have hown7 := own_bx (hown6.alloc _) hb7 (by omega)
          have hb7' := (hb6'.alloc (Nat.le_refl _) _).call hb7 (Nat.le_refl _)
          have c0 := own_cell ratedC 3 ratedC_len hown7 k 0 hkr hlt4 (by omega)
          have f0 := hown7.frozenAt (k * 3 + 0)
          simp only [ratedC, List.getElem?_cons_zero, Nat.add_zero] at c0 f0
          have hset := own_store ratedC 3 ratedC_len (by rw [HN1.out]; exact hown7) k 0 hkr (by omega) (.string z) (z, (rs)[k].2) rfl
          have hrs7 := hrs.set k (r := (z, (rs)[k].2)) ⟨hz, hri.2⟩
          have hl7 : (rs.set k (z, rs[k].2)).length = n := (List.length_set ..).trans HN1.out
          rw [hl7] at hset
          have HL := Lib.hid hl7
          clear hl7
          have hs8 := hs7.setCell (p := ⟨g, k * 3 + 0, none⟩) hgb (.string z)
          have hb8 := hb7'.setCell (p := ⟨g, k * 3 + 0, none⟩) (.inr hg0) (.string z)
          simp only [Nat.add_zero] at hset hs8 hb8
          clear hown6 hown7 hb6' hs6 hs7 hb6 hb7 hb7' hm
          go_wp2
          go_roundw
          case rel => exact ⟨k + 1, _, by omega, by go_num, HL, hset, hrs7, hs8.more (by omega), hb8⟩
          case measure => simp [intOf]; omega
      · go_wp2_with fail
        refine (rating_calls b _ _ hs1 (by omega)).mono ?_
        rintro e w2 ⟨N, D, rfl, hN, hD, hs2, hb2⟩
        have hown2 := own_bx hown1 hb2 (by omega)
        have hb2' := hb1'.call hb2 (Nat.le_refl _)
        have c1 := own_cell ratedC 3 ratedC_len hown2 k 1 hkr hlt4 (by omega)
        have c2 := own_cell ratedC 3 ratedC_len hown2 k 2 hkr hlt4 (by omega)
        have f1 := hown2.frozenAt (k * 3 + 1)
        have f2 := hown2.frozenAt (k * 3 + 2)
        simp only [ratedC, List.getElem?_cons_zero, List.getElem?_cons_succ] at c1 c2
        have hset1 := own_store ratedC 3 ratedC_len (by rw [HN.out]; exact hown2) k 1 hkr (by omega) (.int .i64 N) (rs[k].1, N, rs[k].2.2) rfl
        have hkr' : k < (rs.set k (rs[k].1, N, rs[k].2.2)).length := by rw [List.length_set]; exact hkr
        have hset2 := own_store ratedC 3 ratedC_len hset1 k 2 hkr' (by omega) (.int .i64 D) (rs[k].1, N, D) (by simp [ratedC])
        rw [List.set_set] at hset2
        have hl2 : (rs.set k (rs[k].1, N, D)).length = n := (List.length_set ..).trans HN.out
        have HN1 := Lib.hid hl2
        rw [hl2] at hset2
        have hrs2 := hrs.set k (r := (rs[k].1, N, D)) ⟨hri.1, hN, hD⟩
        have hkr2 : k < (rs.set k (rs[k].1, N, D)).length := by rw [hl2]; exact hlt4
        have hri2 := (hrs2 _ (List.getElem_mem hkr2)).2
        have hs3 := (hs2.setCell (p := ⟨g, k * 3 + 1, none⟩) hgb (.int .i64 N)).setCell (p := ⟨g, k * 3 + 2, none⟩) hgb (.int .i64 D)
        have hb3 := (hb2'.setCell (p := ⟨g, k * 3 + 1, none⟩) (.inr hg0) (.int .i64 N)).setCell (p := ⟨g, k * 3 + 2, none⟩) (.inr hg0) (.int .i64 D)
        generalize rs.set k (rs[k].1, N, D) = rs2 at *
        clear hown1 hown2 hs1 hs2 hb1' hb2 hb2' hset1 hl2 hkr'
        go_wp2_with fail
        refine (flip_calls b _ _ _ (by omega) (by omega) hs3 (by omega)).mono ?_
        rintro e w6 ⟨v, rfl, hs6, hb6⟩
        have hown6 := own_bx hset2 hb6 (by omega)
        have hb6' := hb3.call hb6 (Nat.le_refl _)
        clear hset2 hs3 hb3
        cases v
        · go_wp2
          go_roundw
          case rel => exact ⟨k + 1, rs2, by omega, by go_num, HN1, hown6, hrs2, hs6.more (by omega), hb6'⟩
          case measure => simp [intOf]; omega
        · go_wp2_with fail
          refine (some_calls b _ _ 2 2 _ _ (by omega) (Rd.lit0 hs6.lt (by decide) rfl) (by simp) (hs6.alloc _) (by omega)).mono ?_
          rintro e w7 ⟨x, rfl, hm, hs7, hb7⟩
          obtain ⟨z, rfl, hz⟩ : ∃ z : ByteArray, x = .string z ∧ z.size ≤ 1000 := by
            simp at hm
            rcases hm with rfl | rfl <;> exact ⟨_, rfl, by decide⟩
          have hown7 := own_bx (hown6.alloc _) hb7 (by omega)
          have hb7' := (hb6'.alloc (Nat.le_refl _) _).call hb7 (Nat.le_refl _)
          have c0 := own_cell ratedC 3 ratedC_len hown7 k 0 hkr2 hlt4 (by omega)
          have f0 := hown7.frozenAt (k * 3 + 0)
          simp only [ratedC, List.getElem?_cons_zero, Nat.add_zero] at c0 f0
          have hset := own_store ratedC 3 ratedC_len (by rw [HN1.out]; exact hown7) k 0 hkr2 (by omega) (.string z) (z, (rs2)[k].2) rfl
          have hrs7 := hrs2.set k (r := (z, (rs2)[k].2)) ⟨hz, hri2⟩
          have hl7 : (rs2.set k (z, rs2[k].2)).length = n := (List.length_set ..).trans HN1.out
          rw [hl7] at hset
          have HL := Lib.hid hl7
          clear hl7
          have hs8 := hs7.setCell (p := ⟨g, k * 3 + 0, none⟩) hgb (.string z)
          have hb8 := hb7'.setCell (p := ⟨g, k * 3 + 0, none⟩) (.inr hg0) (.string z)
          simp only [Nat.add_zero] at hset hs8 hb8
          clear hown6 hown7 hb6' hs6 hs7 hb6 hb7 hb7' hm
          go_wp2
          go_roundw
          case rel => exact ⟨k + 1, _, by omega, by go_num, HL, hset, hrs7, hs8.more (by omega), hb8⟩
          case measure => simp [intOf]; omega
    · obtain rfl : k = n := by omega
      go_wp2
      go_ret
      exact ⟨_, rs, rfl, by rw [HN.out]; exact hown, by rw [HN.out]; exact hn4, hrs, hsr.more (by omega), hbr⟩
end Go.Proofs.Ytlfhommeomchoaa
