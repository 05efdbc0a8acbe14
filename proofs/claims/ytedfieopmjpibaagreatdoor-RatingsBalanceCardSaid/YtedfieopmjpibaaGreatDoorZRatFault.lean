/-
  race.ratingFault and splitref2.RatingFault by contracts: both answer ratF.
-/
import Derived.Test.YtedfieopmjpibaaGreatDoorZRatMake
import Derived.Test.YtedfieopmjpibaaGreatDoorZKey
namespace Go.Proofs.YtedfieopmjpibaaGreatDoor
open Go Go.RowKit

def ratF (n d : Int) : Int := if d < 1 ∨ ¬ Int.gcd n d = 1 then 3 else if ¬ 1000 % d = 0 ∨ n < -10000 * d ∨ 10000 * d < n then 1 else 0
theorem ratF_low {n d : Int} (h : d < 1) : ratF n d = 3 := by unfold ratF; rw [if_pos (.inl h)]
theorem ratF_gcd {n d : Int} (h : ¬ Int.gcd n d = 1) : ratF n d = 3 := by unfold ratF; rw [if_pos (.inr h)]
theorem ratF_mod {n d : Int} (h : 1 ≤ d) (hg : Int.gcd n d = 1) (hm : ¬ 1000 % d = 0) : ratF n d = 1 := by unfold ratF; rw [if_neg (by omega), if_pos (.inl hm)]
theorem ratF_out {n d : Int} (h : 1 ≤ d) (hg : Int.gcd n d = 1) (hm : n < -10000 * d ∨ 10000 * d < n) : ratF n d = 1 := by unfold ratF; rw [if_neg (by omega), if_pos (.inr hm)]
theorem ratF_ok {n d : Int} (h : 1 ≤ d) (hg : Int.gcd n d = 1) (hm : 1000 % d = 0) (h1 : -10000 * d ≤ n) (h2 : n ≤ 10000 * d) : ratF n d = 0 := by unfold ratF; rw [if_neg (by omega), if_neg (by omega)]
theorem mod_le {d : Int} (_h : 1 ≤ d) (hm : 1000 % d = 0) : d ≤ 1000 := by
  rcases Int.lt_or_le 1000 d with hl | hl
  · rw [Int.emod_eq_of_lt (by omega) hl] at hm; omega
  · exact hl

set_option maxRecDepth 100000 in
theorem ratingFault_calls (n d : Int) (w : World) (hn : I64 n) (hd : I64 d) :
    Calls Tryz.prog 33 #[.agg #[.int .i64 n, .int .i64 d]] w (BRet (.int .i64 (ratF n d)) w) := by
  obtain ⟨hn0, hn1⟩ := hn
  obtain ⟨hd0, hd1⟩ := hd
  have hA : ∀ o : Obj, Below w.heap.size w (w.alloc o) := fun o => (Below.refl _ _).alloc (Nat.le_refl _) o
  by_cases h1 : d < 1
  · have HF := Lib.hid (ratF_low (n := n) h1)
    go_enter Tryz.func33, Tryz.ntmps33
    go_wp2_with fail
    go_ret
    exact ⟨ret_int HF.out.symm, hA _⟩
  by_cases h2 : Int.gcd n d = 1
  · have hL : lowB n d = true := by unfold lowB; simpa using h2
    have HL := Lib.hid hL
    by_cases h3 : 1000 % d = 0
    · have hle := mod_le (by omega) h3
      have h3' : ((1000 : Int) % d != 0) = false := by rw [h3]; rfl
      by_cases h4 : n < -10000 * d ∨ 10000 * d < n
      · have HF := Lib.hid (ratF_out (by omega) h2 h4)
        have HO := Lib.hid (outB_t (n := n) (lo := -10000 * d) (hi := 10000 * d) h4)
        clear h2 h3 h4 hL
        go_enter Tryz.func33, Tryz.ntmps33
        go_wp2_with fail
        refine (lowestB_calls n d _ hn0 hn1 (by omega) hd1).mono ?_
        rintro e w1 ⟨rfl, hb1⟩
        rw [HL.out]
        have B0 : Blk w1 w.heap.size 27 #[.int .i64 n, .int .i64 d] := (Blk.new w _ _).below hb1
        obtain ⟨b1, b2, b3, b4⟩ := B0.two
        go_wp2_with fail
        refine (out_calls _ _ _ _).mono ?_
        rintro e w2 ⟨rfl, rfl⟩
        rw [HO.out]
        go_wp2_with fail
        go_ret
        exact ⟨ret_int HF.out.symm, below_call (hA _) hb1 (Nat.le_refl _)⟩
      · have HF := Lib.hid (ratF_ok (n := n) (by omega) h2 h3 (by omega) (by omega))
        have HO := Lib.hid (outB_f (n := n) (lo := -10000 * d) (hi := 10000 * d) (by omega) (by omega))
        clear h2 h3 h4 hL
        go_enter Tryz.func33, Tryz.ntmps33
        go_wp2_with fail
        refine (lowestB_calls n d _ hn0 hn1 (by omega) hd1).mono ?_
        rintro e w1 ⟨rfl, hb1⟩
        rw [HL.out]
        have B0 : Blk w1 w.heap.size 27 #[.int .i64 n, .int .i64 d] := (Blk.new w _ _).below hb1
        obtain ⟨b1, b2, b3, b4⟩ := B0.two
        go_wp2_with fail
        refine (out_calls _ _ _ _).mono ?_
        rintro e w2 ⟨rfl, rfl⟩
        rw [HO.out]
        go_wp2_with fail
        go_ret
        exact ⟨ret_int HF.out.symm, below_call (hA _) hb1 (Nat.le_refl _)⟩
    · have HF := Lib.hid (ratF_mod (by omega) h2 h3)
      have h3' : ((1000 : Int) % d != 0) = true := by rw [bne_iff_ne]; exact h3
      clear h2 h3 hL
      go_enter Tryz.func33, Tryz.ntmps33
      go_wp2_with fail
      refine (lowestB_calls n d _ hn0 hn1 (by omega) hd1).mono ?_
      rintro e w1 ⟨rfl, hb1⟩
      rw [HL.out]
      have B0 : Blk w1 w.heap.size 27 #[.int .i64 n, .int .i64 d] := (Blk.new w _ _).below hb1
      obtain ⟨b1, b2, b3, b4⟩ := B0.two
      go_wp2_with fail
      go_ret
      exact ⟨ret_int HF.out.symm, below_call (hA _) hb1 (Nat.le_refl _)⟩
  · have HF := Lib.hid (ratF_gcd h2)
    have hL : lowB n d = false := by unfold lowB; simpa using h2
    have HL := Lib.hid hL
    clear h2 hL
    go_enter Tryz.func33, Tryz.ntmps33
    go_wp2_with fail
    refine (lowestB_calls n d _ hn0 hn1 (by omega) hd1).mono ?_
    rintro e w1 ⟨rfl, hb1⟩
    rw [HL.out]
    go_wp2_with fail
    go_ret
    exact ⟨ret_int HF.out.symm, below_call (hA _) hb1 (Nat.le_refl _)⟩
end Go.Proofs.YtedfieopmjpibaaGreatDoor
/-
  race.CheckRated and splitref2.RatedFault by contracts: both answer ratedF.
-/
namespace Go.Proofs.YtedfieopmjpibaaGreatDoor
open Go Go.RowKit

/-- is a at most b, byte by byte? -/
def leS (a b : ByteArray) : Bool := Op.bytesLess a.toList b.toList || a.toList == b.toList
def ratedG : ByteArray → List Rtd → Int
  | _, [] => 0
  | last, r :: rs => if keyB r.1.data.toList = false then 5 else if leS r.1 last = true then 7 else if ratF r.2.1 r.2.2 = 0 then ratedG r.1 rs else ratF r.2.1 r.2.2
def ratedF (rs : List Rtd) : Int := if 128 < rs.length then 2 else ratedG ⟨#[]⟩ rs
/-- whom an element stands behind -/
def lastOf (rs : List Rtd) (k : Nat) : ByteArray := match k with | 0 => ⟨#[]⟩ | k + 1 => match rs[k]? with | some r => r.1 | none => ⟨#[]⟩

theorem ratedG_step (rs : List Rtd) (k : Nat) (hk : k < rs.length) : ratedG (lastOf rs k) (rs.drop k) =
    if keyB rs[k].1.data.toList = false then 5 else if leS rs[k].1 (lastOf rs k) = true then 7 else if ratF rs[k].2.1 rs[k].2.2 = 0 then ratedG (lastOf rs (k + 1)) (rs.drop (k + 1)) else ratF rs[k].2.1 rs[k].2.2 := by
  rw [List.drop_eq_getElem_cons hk, ratedG]
  have : lastOf rs (k + 1) = rs[k].1 := by simp [lastOf, hk]
  rw [this]
theorem le_nil {s : ByteArray} (h : keyB s.data.toList = true) : leS s ⟨#[]⟩ = false := by
  have hs : 0 < s.size := by
    rcases Nat.eq_zero_or_pos s.size with h0 | h0
    · rw [keyB_size (by simp; omega)] at h; cases h
    · exact h0
  have he := isEmpty_f hs
  unfold leS
  rw [Lib.toList_data ⟨#[]⟩]
  cases hl : s.toList with
  | nil => rw [hl] at he; cases he
  | cons a l => rfl

set_option maxRecDepth 100000 in
theorem checkRated_calls (b : Nat) (A : Option Addr) (n c : Nat) (rs : List Rtd) (w : World) (hr : Rd w b 3 (.slice A n c) n (rs.flatMap ratedC)) (hrs : Rts rs) :
    Calls Tryz.prog 37 #[.slice A n c] w (BRet (.int .i64 (ratedF rs)) w) := by
  obtain ⟨hl, hnc, hcm, hcells⟩ := hr.cells ratedC_len (by omega)
  unfold maxLen at hcm
  by_cases hbig : 128 < n
  · have HF := Lib.hid (show ratedF rs = 2 by unfold ratedF; rw [if_pos (by omega)])
    clear hcells hl
    go_enter Tryz.func37, Tryz.ntmps37
    go_wp2_with fail
    go_ret
    exact ⟨ret_int HF.out.symm, Below.refl _ _⟩
  have HF := Lib.hid (show ratedF rs = ratedG (lastOf rs 0) (rs.drop 0) by unfold ratedF; rw [if_neg (by omega)]; rfl)
  have HL := Lib.hid hl
  have HC := Lib.hid hcells
  clear hcells hl hr
  go_enter Tryz.func37, Tryz.ntmps37
  go_wp2_with fail
  go_loopw [11] (fun i wr => ∃ k : Nat, k ≤ n ∧ i = .int .i64 k ∧ Hid (ratedF rs = ratedG (lastOf rs k) (rs.drop k)) ∧ Below w.heap.size w wr) (fun i _ => n - (intOf i).toNat)
  case atStart => exact ⟨0, Nat.zero_le _, rfl, HF, Below.refl _ _⟩
  case round =>
    clear HF
    obtain ⟨k, hk, rfl, HF, hbr⟩ := hrel
    by_cases hlt : k < n
    · have hkr : k < rs.length := by rw [HL.out]; exact hlt
      obtain ⟨g, o, hA, _, hcs⟩ := HC.out (by omega)
      subst hA
      have c0 := below_cell hbr (hcs k hkr 0 (by omega))
      have c1 := below_cell hbr (hcs k hkr 1 (by omega))
      have c2 := below_cell hbr (hcs k hkr 2 (by omega))
      have hri := hrs _ (List.getElem_mem hkr)
      have hst := HF.out.trans (ratedG_step rs k hkr)
      obtain ⟨r, hr⟩ : ∃ r, rs[k] = r := ⟨_, rfl⟩
      rw [hr] at c0 c1 c2 hri hst
      obtain ⟨s, N, D⟩ := r
      obtain ⟨hs, hN, hD⟩ := hri
      simp only [Nat.add_zero] at c0
      simp only at hs hN hD hst
      have hlz := hbr.size
      clear hr
      cases hkey : keyB s.data.toList
      · rw [if_pos hkey] at hst
        have HS := Lib.hid hst
        have HK := Lib.hid hkey
        clear hst hkey
        go_wp2_with fail
        refine (key_calls s _ (by unfold maxLen; omega)).mono ?_
        rintro e w1 ⟨rfl, rfl⟩
        rw [HK.out]
        go_wp2_with fail
        go_ret
        exact ⟨ret_int HS.out.symm, hbr.alloc hbr.size _⟩
      · rw [if_neg (by rw [hkey]; simp)] at hst
        have HK := Lib.hid hkey
        by_cases h0 : k = 0
        · subst h0
          simp only [Nat.zero_mul, Nat.add_zero] at c0 c1 c2
          rw [show lastOf rs 0 = ⟨#[]⟩ from rfl, le_nil hkey, if_neg (by simp)] at hst
          clear hkey
          have hg : decide ((0 : Int) < ((0 : Nat) : Int)) = false := by decide
          go_wp2_with fail
          refine (key_calls s _ (by unfold maxLen; omega)).mono ?_
          rintro e w1 ⟨rfl, rfl⟩
          rw [HK.out]
          go_wp2_with fail
          go_quiet (fail)
          go_wp2_with fail
          refine (ratingFault_calls N D _ hN hD).mono ?_
          rintro e w2 ⟨rfl, hb2⟩
          have hb3 := below_call (below_drewN (hbr.alloc hbr.size _) _) hb2 (Nat.le_refl _)
          cases hrz : decide (ratF N D = 0)
          · have hne : ¬ ratF N D = 0 := of_decide_eq_false hrz
            rw [if_neg hne] at hst
            have hne' : (ratF N D != 0) = true := by rw [bne_iff_ne]; exact hne
            have HS := Lib.hid hst
            clear hst hrz hne
            go_wp2_with fail
            go_ret
            exact ⟨ret_int HS.out.symm, hb3⟩
          · have hez : ratF N D = 0 := of_decide_eq_true hrz
            rw [if_pos hez] at hst
            have HS := Lib.hid hst
            rw [hez]
            clear hst hrz hez
            go_wp2_with fail
            go_roundw
            case rel => exact ⟨1, by omega, by go_num, HS, hb3⟩
            case measure => simp [intOf]; omega
        · obtain ⟨q, rfl⟩ : ∃ q, k = q + 1 := ⟨k - 1, by omega⟩
          have hqr : q < rs.length := by omega
          have p0 := below_cell hbr (hcs q hqr 0 (by omega))
          have hla : lastOf rs (q + 1) = rs[q].1 := by simp [lastOf, hqr]
          rw [hla] at hst
          obtain ⟨t, ht⟩ : ∃ t, rs[q].1 = t := ⟨_, rfl⟩
          rw [ht] at hst
          have p1 : wr.cell? ⟨g, o + q * 3, none⟩ = some (.string t) := by rw [← ht]; exact p0
          clear p0 ht hla hkey
          have hgl : g < wr.heap.size := World.block_lt_of_cell? wr _ p1
          have p2 : ∀ ob, (wr.alloc ob).cell? ⟨g, o + q * 3, none⟩ = some (.string t) := fun ob => (World.cell?_alloc_lt wr ob ⟨g, o + q * 3, none⟩ hgl).trans p1
          have hg : (0 : Int) < (((q + 1 : Nat)) : Int) := by omega
          have hq0 : (0 : Int) ≤ (q : Int) := by omega
          have hqn : (q : Int) < (n : Int) := by omega
          cases hle : leS s t
          · rw [hle, if_neg (by simp)] at hst
            have hle' : (Op.bytesLess s.toList t.toList || s.toList == t.toList) = false := hle
            clear hle
            go_wp2_with fail
            refine (key_calls s _ (by unfold maxLen; omega)).mono ?_
            rintro e w1 ⟨rfl, rfl⟩
            rw [HK.out]
            go_wp2_with fail
            have hwq : IntKind.i64.wrap (q : Int) = (q : Int) := IntWalk.i64_in _ (by omega)
            go_quiet (fail)
            clear hwq
            go_wp2_with fail
            refine (ratingFault_calls N D _ hN hD).mono ?_
            rintro e w2 ⟨rfl, hb2⟩
            have hb3 := below_call (below_drewN (hbr.alloc hbr.size _) _) hb2 (Nat.le_refl _)
            cases hrz : decide (ratF N D = 0)
            · have hne : ¬ ratF N D = 0 := of_decide_eq_false hrz
              rw [if_neg hne] at hst
              have hne' : (ratF N D != 0) = true := by rw [bne_iff_ne]; exact hne
              have HS := Lib.hid hst
              clear hst hrz hne
              go_wp2_with fail
              go_ret
              exact ⟨ret_int HS.out.symm, hb3⟩
            · have hez : ratF N D = 0 := of_decide_eq_true hrz
              rw [if_pos hez] at hst
              have HS := Lib.hid hst
              rw [hez]
              clear hst hrz hez
              go_wp2_with fail
              go_roundw
              case rel => exact ⟨q + 1 + 1, by omega, by go_num, HS, hb3⟩
              case measure => simp [intOf]; omega
          · rw [hle, if_pos rfl] at hst
            have hle' : (Op.bytesLess s.toList t.toList || s.toList == t.toList) = true := hle
            have HS := Lib.hid hst
            clear hle hst
            go_wp2_with fail
            refine (key_calls s _ (by unfold maxLen; omega)).mono ?_
            rintro e w1 ⟨rfl, rfl⟩
            rw [HK.out]
            go_wp2_with fail
            have hwq : IntKind.i64.wrap (q : Int) = (q : Int) := IntWalk.i64_in _ (by omega)
            go_quiet (fail)
            clear hwq
            go_wp2_with fail
            go_ret
            exact ⟨ret_int HS.out.symm, below_drewN (hbr.alloc hbr.size _) _⟩
    · obtain rfl : k = n := by omega
      have HS := Lib.hid (HF.out.trans (by rw [List.drop_of_length_le (by rw [HL.out]; exact Nat.le_refl _)]; rfl : _ = (0 : Int)))
      go_wp2_with fail
      go_ret
      exact ⟨ret_int HS.out.symm, hbr⟩
end Go.Proofs.YtedfieopmjpibaaGreatDoor
