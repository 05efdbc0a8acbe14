/-
  clocked answers true: what timer.Write makes of 61500.
-/
import Derived.Test.YthbcogekfdllmaaGreatDoorZItoa
import Derived.Test.YthbcogekfdllmaaGreatDoorZRatPure
import Derived.Test.YthbcogekfdllmaaGreatDoorZBs
import Derived.Lib.AppendIntMem
import Derived.Test.YthbcogekfdllmaaGreatDoorZTxtPure
import Derived.Test.YthbcogekfdllmaaGreatDoorZTxt
import Derived.Lib.Hide
import Derived.Lib.AtoiErrMem
import Derived.Deep.DeepCutAuto
import Derived.Deep.RegionLaw
import Derived.BigQuiet
namespace Go.Proofs.YthbcogekfdllmaaGreatDoor
open Go Go.RowKit

theorem ret_str {a b : ByteArray} (h : a = b) : Ending.returned (.string a) = .returned (.string b) := by rw [h]

/-- the table that Itoa reads, in whatever world behind this one -/
def Tab (w : World) : Prop := Lib.TabBelow Tryz.prog w.heap.size w "internal/strconv.uint64pow10" .u64 Lib.pow10Tab
theorem Tab.below {w w' : World} (h : Tab w) (k : Below w.heap.size w w') : Tab w' := fun w2 h2 => h w2 (below_call k h2 (Nat.le_refl _))
theorem Tab.bx {w w' : World} {b : Nat} (h : Tab w) (k : Bx w.heap.size b w w') (hb : w.heap.size ≤ b) : Tab w' := h.below (k.below hb)

theorem itoa0_calls (w : World) : Calls Tryz.prog 90 #[.int .i64 0] w fun e w' => e = .returned (.string ⟨#[48]⟩) ∧ w = w' := by
  refine (Tryz.strconv_Itoa_small 0 (by decide) w).mono ?_
  rintro e w1 ⟨rfl, rfl⟩
  exact ⟨ret_str (by kernel_rfl), rfl⟩
theorem itoa1_calls (w : World) : Calls Tryz.prog 90 #[.int .i64 1] w fun e w' => e = .returned (.string ⟨#[49]⟩) ∧ w = w' := by
  refine (Tryz.strconv_Itoa_small 1 (by decide) w).mono ?_
  rintro e w1 ⟨rfl, rfl⟩
  exact ⟨ret_str (by kernel_rfl), rfl⟩
theorem itoa1500_calls (w : World) (ht : Tab w) : Calls Tryz.prog 90 #[.int .i64 1500] w (BRet (.string ⟨#[49, 53, 48, 48]⟩) w) := by
  refine (Tryz.strconv_Itoa 1500 (by decide) (by decide) w ht.here).mono ?_
  rintro e w1 ⟨rfl, k, os, rfl⟩
  exact ⟨ret_str (by kernel_rfl), Lib.below_grow _ _ (Nat.le_refl _) _ _⟩

theorem two1_calls (w : World) : Calls Tryz.prog 165 #[.int .i64 1] w fun e w' => e = .returned (.string ⟨#[48, 49]⟩) ∧ w = w' := by
  go_enter Tryz.func165, Tryz.ntmps165
  go_wp2_with fail
  refine (itoa0_calls _).mono ?_
  rintro e w1 ⟨rfl, rfl⟩
  go_wp2_with fail
  refine (itoa1_calls _).mono ?_
  rintro e w1 ⟨rfl, rfl⟩
  go_wp2_with fail
  go_ret
  exact ⟨ret_str (by kernel_rfl), rfl⟩

theorem write1_calls (w : World) (ht : Tab w) : Calls Tryz.prog 119 #[.int .i64 61500, .int .i64 1] w (BRet (.string ⟨#[49, 58, 48, 49, 46, 53]⟩) w) := by
  go_enter Tryz.func119, Tryz.ntmps119
  go_wp2_with fail
  refine (itoa1_calls _).mono ?_
  rintro e w1 ⟨rfl, rfl⟩
  go_wp2_with fail
  refine (itoa1_calls _).mono ?_
  rintro e w1 ⟨rfl, rfl⟩
  go_wp2_with fail
  refine (two1_calls _).mono ?_
  rintro e w1 ⟨rfl, rfl⟩
  go_wp2_with fail
  refine (itoa1500_calls _ ht).mono ?_
  rintro e w1 ⟨rfl, hb⟩
  go_wp2_with fail
  go_ret
  exact ⟨ret_str (by kernel_rfl), hb⟩

theorem timeWrite1_calls (w : World) (ht : Tab w) : Calls Tryz.prog 56 #[.int .i64 61500, .int .i64 1] w (BRet (.tuple #[.string ⟨#[49, 58, 48, 49, 46, 53]⟩, .int .i64 0]) w) := by
  have o1 : outB 61500 0 864000000 = false := by decide
  have o2 : outB 1 0 3 = false := by decide
  go_enter Tryz.func56, Tryz.ntmps56
  go_wp2_with (first | (go_at_call 66; refine (out_calls _ _ _ _).mono ?_; rintro e w1 ⟨rfl, rfl⟩))
  refine (write1_calls _ ht).mono ?_
  rintro e w1 ⟨rfl, hb⟩
  go_wp2_with fail
  go_ret2
  exact ⟨rfl, hb⟩

end Go.Proofs.YthbcogekfdllmaaGreatDoor
/-
  Numbers that are read: base.Number and splitref2.Number by contracts: both answer numB, and numI where it holds.
-/
namespace Go.Proofs.YthbcogekfdllmaaGreatDoor
open Go Go.RowKit TxtP

theorem trim_body (l : List UInt8) : Lib.trimPrefix l [45] = body l := by
  cases l with
  | nil => rfl
  | cons b r =>
    unfold Lib.trimPrefix Lib.hasPrefix body
    by_cases h : b = 45
    · subst h; simp
    · have : ([45] : List UInt8).isPrefixOf (b :: r) = false := by simp [List.isPrefixOf, Ne.symm h]
      rw [if_neg (by rw [this]; decide)]
      show b :: r = if b = 45 then r else b :: r
      rw [if_neg h]
/-- what a number reads as -/
def numR (l : List UInt8) (most : Nat) : Value := .tuple #[.int .i64 (if numB l most = true then numI l else 0), .bool (numB l most)]
theorem numR_no {l : List UInt8} {most : Nat} (h : numB l most = false) : numR l most = .tuple #[.int .i64 0, .bool false] := by
  unfold numR; rw [h]; rfl
theorem numR_yes {l : List UInt8} {most : Nat} (h : numB l most = true) : numR l most = .tuple #[.int .i64 (numI l), .bool true] := by
  unfold numR; rw [h]; rfl
theorem numB_empty {l : List UInt8} {most : Nat} (h : body l = []) : numB l most = false := by
  unfold numB; rw [h]; rfl
theorem numB_long {l : List UInt8} {most : Nat} (h : most < (body l).length) : numB l most = false := by
  cases hb : numB l most with
  | false => rfl
  | true => have := (numB_iff.1 hb).2.1; omega
theorem numB_lead {l : List UInt8} {most : Nat} (h : (body l).head? = some 48) (h2 : 1 < (body l).length ∨ (body l).length < l.length) : numB l most = false := by
  cases hb : numB l most with
  | false => rfl
  | true =>
    have h3 := numB_iff.1 hb
    exact absurd ⟨h, h2⟩ ((num_back h3.1 h3.2.2.1).1 h3.2.2.2)
theorem numB_byte {l : List UInt8} {most : Nat} {c : UInt8} (h : c ∈ body l) (h2 : isDig c = false) : numB l most = false := by
  cases hb : numB l most with
  | false => rfl
  | true =>
    have h3 := (numB_iff.1 hb).2.2.1
    rw [List.all_eq_true] at h3
    rw [h3 c h] at h2
    cases h2
theorem numB_ok {l : List UInt8} {most : Nat} (h0 : body l ≠ []) (h1 : (body l).length ≤ most) (h2 : (body l).all isDig = true) (h3 : ¬ ((body l).head? = some 48 ∧ (1 < (body l).length ∨ (body l).length < l.length))) : numB l most = true :=
  numB_iff.2 ⟨h0, h1, h2, (num_back h0 h2).2 h3⟩
theorem ba_list (l : List UInt8) : (⟨l.toArray⟩ : ByteArray).data.toList = l := by simp
theorem head_at {d : ByteArray} (h : 0 < d.size) : d.data.toList.head? = some d[0] := by
  have := take_one d h
  cases hl : d.data.toList with
  | nil => rw [hl] at this; cases this
  | cons a t => rw [hl] at this; simp at this; rw [List.head?_cons, this]
theorem atoi_some {l : List UInt8} (h0 : body l ≠ []) (h : (body l).all isDig = true) : Lib.atoi l = some (numI l) := by
  have := atoi_body h0 h
  unfold numI
  rw [this]; rfl
theorem digs_snoc (l : List UInt8) (c : UInt8) : (l ++ [c]).all isDig = (l.all isDig && isDig c) := by simp
theorem bytes_below {w w' : World} {e : TypeId} (h : ∃ t, w' = Lib.bytesWorld w e t) : Below w.heap.size w w' := by
  obtain ⟨t, rfl⟩ := h
  exact Lib.bytesWorld_below w e t

set_option maxRecDepth 100000 in
set_option maxHeartbeats 1000000 in
theorem number_calls (s : ByteArray) (most : Nat) (hm : most ≤ 17) (w : World) (hs : s.size ≤ maxLen) :
    Calls Tryz.prog 207 #[.string s, .int .i64 most] w (BRet (numR s.data.toList most) w) := by
  unfold maxLen at hs
  have HT := Lib.hid (fun W => (Tryz.strings_TrimPrefix s ⟨#[45]⟩ W).mono (fun e w' h => (⟨h.1, h.2.symm⟩ : _ ∧ W = w')))
  have e45 : (⟨#[45]⟩ : ByteArray).data.toList = [45] := rfl
  rw [e45, trim_body] at HT
  obtain ⟨d, hd⟩ : ∃ d : ByteArray, d = ⟨(body s.data.toList).toArray⟩ := ⟨_, rfl⟩
  rw [← hd] at HT
  have hdl : d.data.toList = body s.data.toList := by rw [hd]
  have hsz : d.size = (body s.data.toList).length := by rw [← hdl]; simp
  have hbl := body_len s.data.toList
  have hss : s.data.toList.length = s.size := by simp
  rw [← hsz, hss] at hbl
  clear hd
  by_cases h0 : d.size = 0
  · have HR := Lib.hid (numR_no (most := most) (numB_empty (l := s.data.toList) (List.eq_nil_of_length_eq_zero (by omega))))
    have he : d.toList = [] := by rw [Lib.toList_data]; exact List.eq_nil_of_length_eq_zero (by simpa using h0)
    clear hdl hsz hbl hss h0
    go_enter Tryz.func207, Tryz.ntmps207
    go_wp2_with (first | (go_at_call 240; refine (HT.out _).mono ?_; rintro e w1 ⟨rfl, rfl⟩))
    go_ret2
    exact ⟨by rw [HR.out]; rfl, Below.refl _ _⟩
  have hpos : 0 < d.size := by omega
  have he := isEmpty_f (s := d) (by omega)
  have he' : (d.toList == []) = false := by rw [← he]; cases d.toList <;> rfl
  by_cases hlong : most < d.size
  · have HR := Lib.hid (numR_no (numB_long (l := s.data.toList) (most := most) (by omega)))
    clear hdl hsz hbl hss h0
    go_enter Tryz.func207, Tryz.ntmps207
    go_wp2_with (first | (go_at_call 240; refine (HT.out _).mono ?_; rintro e w1 ⟨rfl, rfl⟩))
    go_ret2
    exact ⟨by rw [HR.out]; rfl, Below.refl _ _⟩
  have hne : body s.data.toList ≠ [] := by
    intro e; rw [e] at hsz; exact h0 hsz
  by_cases hlead : d[0].toNat = 48 ∧ (1 < d.size ∨ d.size < s.size)
  · have hhd : (body s.data.toList).head? = some 48 := by
      rw [← hdl, head_at hpos]
      exact congrArg some (UInt8.toNat_inj.1 (by rw [hlead.1]; rfl))
    have HR := Lib.hid (numR_no (most := most) (numB_lead (l := s.data.toList) hhd (by rw [← hsz, hss]; exact hlead.2)))
    obtain ⟨t1, t2⟩ := hlead
    have t1 : ((d[0].toNat : Int) == 48) = true := by simp; omega
    clear hdl hsz hbl hss h0 hne hhd
    by_cases t3 : 1 < d.size
    · clear t2
      go_enter Tryz.func207, Tryz.ntmps207
      go_wp2_with (first | (go_at_call 240; refine (HT.out _).mono ?_; rintro e w1 ⟨rfl, rfl⟩))
      go_ret2
      exact ⟨by rw [HR.out]; rfl, Below.refl _ _⟩
    · have t2 : d.size < s.size := by omega
      go_enter Tryz.func207, Tryz.ntmps207
      go_wp2_with (first | (go_at_call 240; refine (HT.out _).mono ?_; rintro e w1 ⟨rfl, rfl⟩))
      go_ret2
      exact ⟨by rw [HR.out]; rfl, Below.refl _ _⟩
  have hlead2 : ¬ ((body s.data.toList).head? = some 48 ∧ (1 < (body s.data.toList).length ∨ (body s.data.toList).length < s.data.toList.length)) := by
    rw [← hdl, head_at hpos, hdl, ← hsz, hss]
    intro ⟨h1, h2⟩
    refine hlead ⟨?_, h2⟩
    rw [Option.some.inj h1]; rfl
  have HOK : Hid (d.data.toList.all isDig = true → numR s.data.toList most = .tuple #[.int .i64 (numI s.data.toList), .bool true]) :=
    Lib.hid (fun h => numR_yes (numB_ok hne (by omega) (by rw [← hdl]; exact h) hlead2))
  have HAT : Hid (d.data.toList.all isDig = true → Lib.atoi s.data.toList = some (numI s.data.toList)) :=
    Lib.hid (fun h => atoi_some hne (by rw [← hdl]; exact h))
  have HNO : Hid (∀ c, c ∈ d.data.toList → isDig c = false → numR s.data.toList most = .tuple #[.int .i64 0, .bool false]) :=
    Lib.hid (fun c h1 h2 => numR_no (numB_byte (by rw [← hdl]; exact h1) h2))
  have hs18 : s.size ≤ 18 := by omega
  have HL : Hid (((d[0].toNat : Int) == 48) = true → ¬ 1 < d.size ∧ ¬ d.size < s.size) := by
    refine Lib.hid (fun h => ?_)
    have : d[0].toNat = 48 := by simp at h; omega
    exact ⟨fun h2 => hlead ⟨this, Or.inl h2⟩, fun h2 => hlead ⟨this, Or.inr h2⟩⟩
  clear hdl hsz hss hne hlead2 hlead h0
  go_enter Tryz.func207, Tryz.ntmps207
  go_upto_region 2 with (first | (go_at_call 240; refine (HT.out _).mono ?_; rintro e w1 ⟨rfl, rfl⟩))
  go_cut [36] (fun s36 V => s36 = .bool false ∧ V = w)
  case first =>
    cases hz : ((d[0].toNat : Int) == 48)
    · go_wp2
      go_meet
      exact ⟨rfl, rfl⟩
    · obtain ⟨h1, h2⟩ := HL.out hz
      have h3 : d.size = 1 := by omega
      have h4 : s.size = 1 := by omega
      clear h1 h2
      go_wp2
      go_meet
      exact ⟨congrArg Value.bool (decide_eq_false (by omega)), rfl⟩
  case rest =>
    obtain ⟨rfl, rfl⟩ := hcut
    clear HL he he'
    go_wp2
    go_loop [39] (fun i => ∃ k : Nat, k ≤ d.size ∧ i = .int .i64 k ∧ Hid ((d.data.toList.take k).all isDig = true)) (fun i => d.size - (intOf i).toNat)
    case atStart => exact ⟨0, Nat.zero_le _, rfl, by simp [Hid]⟩
    case round =>
      obtain ⟨k, hk, rfl, HO⟩ := hrel
      by_cases hlt : k < d.size
      · have hsn := digs_snoc (d.data.toList.take k) d[k]
        rw [← take_snoc d k hlt] at hsn
        have hmem : d[k] ∈ d.data.toList := by
          show d.data.toList[k]'(by simpa using hlt) ∈ _
          exact List.getElem_mem _
        have hno := HNO.out d[k] hmem
        clear hmem
        by_cases hd1 : d[k].toNat < 48
        · have HR := Lib.hid (hno (by cases h : isDig d[k] with
            | false => rfl
            | true => have := isDig_iff.1 h; omega))
          have t1 : (d[k].toNat : Int) < 48 := by omega
          clear hno hsn hd1
          go_wp2
          go_ret2
          exact ⟨by rw [HR.out]; rfl, Below.refl _ _⟩
        · by_cases hd2 : 57 < d[k].toNat
          · have HR := Lib.hid (hno (by cases h : isDig d[k] with
              | false => rfl
              | true => have := isDig_iff.1 h; omega))
            have t1 : ¬ (d[k].toNat : Int) < 48 := by omega
            have t2 : (57 : Int) < (d[k].toNat : Int) := by omega
            clear hno hsn hd1 hd2
            go_wp2
            go_ret2
            exact ⟨by rw [HR.out]; rfl, Below.refl _ _⟩
          · rw [HO.out, isDig_iff.2 (by omega)] at hsn
            have HS := Lib.hid hsn
            have t1 : ¬ (d[k].toNat : Int) < 48 := by omega
            have t2 : ¬ (57 : Int) < (d[k].toNat : Int) := by omega
            clear hno hsn hd1 hd2
            go_wp2
            go_round
            case rel => exact ⟨k + 1, by omega, by go_num, HS⟩
            case measure => simp [intOf]; omega
      · have hall : d.data.toList.all isDig = true := by
          have := HO.out
          rwa [List.take_of_length_le (by simp; omega)] at this
        have HR := Lib.hid (HOK.out hall)
        have HA := Lib.hid (fun W => Tryz.strconv_Atoi s _ hs18 (HAT.out hall) W)
        clear hall
        go_wp2_with (first | (go_at_call 241; refine (HA.out _).mono ?_; rintro e w1 ⟨rfl, hb0⟩))
        have hb := bytes_below hb0
        clear hb0
        go_region
        go_wp2
        go_ret2
        exact ⟨by rw [HR.out]; rfl, below_drewN hb 1⟩

theorem itoa_calls (n : Int) (h0 : -9223372036854775808 ≤ n) (h1 : n ≤ 9223372036854775807) (w : World) (ht : Tab w) : Calls Tryz.prog 90 #[.int .i64 n] w (BRet (.string ⟨(Lib.itoa n).toArray⟩) w) := by
  refine (Tryz.strconv_Itoa n h0 h1 w ht.here).mono ?_
  rintro e w1 ⟨rfl, k, os, rfl⟩
  exact ⟨rfl, Lib.below_grow _ _ (Nat.le_refl _) _ _⟩
end Go.Proofs.YthbcogekfdllmaaGreatDoor
