/-
  Numbers that are read: base.Number and splitref2.Number by contracts: both answer numB, and numI where it holds.
-/
import Derived.Test.YtlkapcjofgpiiaaGreatDoorZTxtPure
import Derived.Test.YtlkapcjofgpiiaaGreatDoorZTxt
import Derived.Test.YtlkapcjofgpiiaaGreatDoorZKey2
import Derived.Test.YtlkapcjofgpiiaaGreatDoorZFlat
import Derived.Test.YtlkapcjofgpiiaaGreatDoorZClk
import Derived.Lib.Hide
import Derived.Lib.AtoiErrMem
import Derived.Deep.DeepCutAuto
import Derived.Deep.RegionLaw
import Derived.BigQuiet
import Derived.Test.YtlkapcjofgpiiaaGreatDoorZSq
import Derived.Test.YtlkapcjofgpiiaaGreatDoorZSlotPure
import Derived.Test.YtlkapcjofgpiiaaGreatDoorZRatMake4
import Derived.Deep.RegionHeld3
import Derived.Deep.QuietTactic
import Derived.Test.YtlkapcjofgpiiaaGreatDoorZRst1
import Derived.RegionTactic
import Derived.ChangeAlike
import Derived.BigRegion
import Derived.Test.YtlkapcjofgpiiaaGreatDoorZTid
import Derived.Test.YtlkapcjofgpiiaaGreatDoorZRun2
namespace Go.Proofs.YtlkapcjofgpiiaaGreatDoor
open Go Go.RowKit TxtP

theorem trim_body (l : List UInt8) : Lib.trimPrefix l [45] = body l := by
  cases l with
  | nil => rfl
  | cons b r =>
    unfold Lib.trimPrefix Lib.hasPrefix body
    by_cases h : b = 45
    · subst h; simp
    · have : ([45] : List UInt8).isPrefixOf (b :: r) = false := by simp [List.isPrefixOf, Ne.symm h]
      rw [if_neg (by rw [this]; decide)]
      show b :: r = if b = 45 then r else b :: r
      rw [if_neg h]
/-- what a number reads as -/
def numR (l : List UInt8) (most : Nat) : Value := .tuple #[.int .i64 (if numB l most = true then numI l else 0), .bool (numB l most)]
theorem numR_no {l : List UInt8} {most : Nat} (h : numB l most = false) : numR l most = .tuple #[.int .i64 0, .bool false] := by
  unfold numR; rw [h]; rfl
theorem numR_yes {l : List UInt8} {most : Nat} (h : numB l most = true) : numR l most = .tuple #[.int .i64 (numI l), .bool true] := by
  unfold numR; rw [h]; rfl
theorem numB_empty {l : List UInt8} {most : Nat} (h : body l = []) : numB l most = false := by
  unfold numB; rw [h]; rfl
theorem numB_long {l : List UInt8} {most : Nat} (h : most < (body l).length) : numB l most = false := by
  cases hb : numB l most with
  | false => rfl
  | true => have := (numB_iff.1 hb).2.1; omega
theorem numB_lead {l : List UInt8} {most : Nat} (h : (body l).head? = some 48) (h2 : 1 < (body l).length ∨ (body l).length < l.length) : numB l most = false := by
  cases hb : numB l most with
  | false => rfl
  | true =>
    have h3 := numB_iff.1 hb
    exact absurd ⟨h, h2⟩ ((num_back h3.1 h3.2.2.1).1 h3.2.2.2)
theorem numB_byte {l : List UInt8} {most : Nat} {c : UInt8} (h : c ∈ body l) (h2 : isDig c = false) : numB l most = false := by
  cases hb : numB l most with
  | false => rfl
  | true =>
    have h3 := (numB_iff.1 hb).2.2.1
    rw [List.all_eq_true] at h3
    rw [h3 c h] at h2
    cases h2
theorem numB_ok {l : List UInt8} {most : Nat} (h0 : body l ≠ []) (h1 : (body l).length ≤ most) (h2 : (body l).all isDig = true) (h3 : ¬ ((body l).head? = some 48 ∧ (1 < (body l).length ∨ (body l).length < l.length))) : numB l most = true :=
  numB_iff.2 ⟨h0, h1, h2, (num_back h0 h2).2 h3⟩
theorem ba_list (l : List UInt8) : (⟨l.toArray⟩ : ByteArray).data.toList = l := by simp
theorem head_at {d : ByteArray} (h : 0 < d.size) : d.data.toList.head? = some d[0] := by
  have := take_one d h
  cases hl : d.data.toList with
  | nil => rw [hl] at this; cases this
  | cons a t => rw [hl] at this; simp at this; rw [List.head?_cons, this]
theorem atoi_some {l : List UInt8} (h0 : body l ≠ []) (h : (body l).all isDig = true) : Lib.atoi l = some (numI l) := by
  have := atoi_body h0 h
  unfold numI
  rw [this]; rfl
theorem digs_snoc (l : List UInt8) (c : UInt8) : (l ++ [c]).all isDig = (l.all isDig && isDig c) := by simp
theorem bytes_below {w w' : World} {e : TypeId} (h : ∃ t, w' = Lib.bytesWorld w e t) : Below w.heap.size w w' := by
  obtain ⟨t, rfl⟩ := h
  exact Lib.bytesWorld_below w e t

set_option maxRecDepth 100000 in
set_option maxHeartbeats 1000000 in
theorem number_calls (s : ByteArray) (most : Nat) (hm : most ≤ 17) (w : World) (hs : s.size ≤ maxLen) :
    Calls Tryz.prog 142 #[.string s, .int .i64 most] w (BRet (numR s.data.toList most) w) := by
  unfold maxLen at hs
  have HT := Lib.hid (fun W => (Tryz.strings_TrimPrefix s ⟨#[45]⟩ W).mono (fun e w' h => (⟨h.1, h.2.symm⟩ : _ ∧ W = w')))
  have e45 : (⟨#[45]⟩ : ByteArray).data.toList = [45] := rfl
  rw [e45, trim_body] at HT
  obtain ⟨d, hd⟩ : ∃ d : ByteArray, d = ⟨(body s.data.toList).toArray⟩ := ⟨_, rfl⟩
  rw [← hd] at HT
  have hdl : d.data.toList = body s.data.toList := by rw [hd]
  have hsz : d.size = (body s.data.toList).length := by rw [← hdl]; simp
  have hbl := body_len s.data.toList
  have hss : s.data.toList.length = s.size := by simp
  rw [← hsz, hss] at hbl
  clear hd
  by_cases h0 : d.size = 0
  · have HR := Lib.hid (numR_no (most := most) (numB_empty (l := s.data.toList) (List.eq_nil_of_length_eq_zero (by omega))))
    have he : d.toList = [] := by rw [Lib.toList_data]; exact List.eq_nil_of_length_eq_zero (by simpa using h0)
    clear hdl hsz hbl hss h0
    go_enter Tryz.func142, Tryz.ntmps142
    go_wp2_with (first | (go_at_call 118; refine (HT.out _).mono ?_; rintro e w1 ⟨rfl, rfl⟩))
    go_ret2
    exact ⟨by rw [HR.out]; rfl, Below.refl _ _⟩
  have hpos : 0 < d.size := by omega
  have he := isEmpty_f (s := d) (by omega)
  have he' : (d.toList == []) = false := by rw [← he]; cases d.toList <;> rfl
  by_cases hlong : most < d.size
  · have HR := Lib.hid (numR_no (numB_long (l := s.data.toList) (most := most) (by omega)))
    clear hdl hsz hbl hss h0
    go_enter Tryz.func142, Tryz.ntmps142
    go_wp2_with (first | (go_at_call 118; refine (HT.out _).mono ?_; rintro e w1 ⟨rfl, rfl⟩))
    go_ret2
    exact ⟨by rw [HR.out]; rfl, Below.refl _ _⟩
  have hne : body s.data.toList ≠ [] := by
    intro e; rw [e] at hsz; exact h0 hsz
  by_cases hlead : d[0].toNat = 48 ∧ (1 < d.size ∨ d.size < s.size)
  · have hhd : (body s.data.toList).head? = some 48 := by
      rw [← hdl, head_at hpos]
      exact congrArg some (UInt8.toNat_inj.1 (by rw [hlead.1]; rfl))
    have HR := Lib.hid (numR_no (most := most) (numB_lead (l := s.data.toList) hhd (by rw [← hsz, hss]; exact hlead.2)))
    obtain ⟨t1, t2⟩ := hlead
    have t1 : ((d[0].toNat : Int) == 48) = true := by simp; omega
    clear hdl hsz hbl hss h0 hne hhd
    by_cases t3 : 1 < d.size
    · clear t2
      go_enter Tryz.func142, Tryz.ntmps142
      go_wp2_with (first | (go_at_call 118; refine (HT.out _).mono ?_; rintro e w1 ⟨rfl, rfl⟩))
      go_ret2
      exact ⟨by rw [HR.out]; rfl, Below.refl _ _⟩
    · have t2 : d.size < s.size := by omega
      go_enter Tryz.func142, Tryz.ntmps142
      go_wp2_with (first | (go_at_call 118; refine (HT.out _).mono ?_; rintro e w1 ⟨rfl, rfl⟩))
      go_ret2
      exact ⟨by rw [HR.out]; rfl, Below.refl _ _⟩
  have hlead2 : ¬ ((body s.data.toList).head? = some 48 ∧ (1 < (body s.data.toList).length ∨ (body s.data.toList).length < s.data.toList.length)) := by
    rw [← hdl, head_at hpos, hdl, ← hsz, hss]
    intro ⟨h1, h2⟩
    refine hlead ⟨?_, h2⟩
    rw [Option.some.inj h1]; rfl
  have HOK : Hid (d.data.toList.all isDig = true → numR s.data.toList most = .tuple #[.int .i64 (numI s.data.toList), .bool true]) :=
    Lib.hid (fun h => numR_yes (numB_ok hne (by omega) (by rw [← hdl]; exact h) hlead2))
  have HAT : Hid (d.data.toList.all isDig = true → Lib.atoi s.data.toList = some (numI s.data.toList)) :=
    Lib.hid (fun h => atoi_some hne (by rw [← hdl]; exact h))
  have HNO : Hid (∀ c, c ∈ d.data.toList → isDig c = false → numR s.data.toList most = .tuple #[.int .i64 0, .bool false]) :=
    Lib.hid (fun c h1 h2 => numR_no (numB_byte (by rw [← hdl]; exact h1) h2))
  have hs18 : s.size ≤ 18 := by omega
  have HL : Hid (((d[0].toNat : Int) == 48) = true → ¬ 1 < d.size ∧ ¬ d.size < s.size) := by
    refine Lib.hid (fun h => ?_)
    have : d[0].toNat = 48 := by simp at h; omega
    exact ⟨fun h2 => hlead ⟨this, Or.inl h2⟩, fun h2 => hlead ⟨this, Or.inr h2⟩⟩
  clear hdl hsz hss hne hlead2 hlead h0
  go_enter Tryz.func142, Tryz.ntmps142
  go_upto_region 2 with (first | (go_at_call 118; refine (HT.out _).mono ?_; rintro e w1 ⟨rfl, rfl⟩))
  go_cut [36] (fun s36 V => s36 = .bool false ∧ V = w)
  case first =>
    cases hz : ((d[0].toNat : Int) == 48)
    · go_wp2
      go_meet
      exact ⟨rfl, rfl⟩
    · obtain ⟨h1, h2⟩ := HL.out hz
      have h3 : d.size = 1 := by omega
      have h4 : s.size = 1 := by omega
      clear h1 h2
      go_wp2
      go_meet
      exact ⟨congrArg Value.bool (decide_eq_false (by omega)), rfl⟩
  case rest =>
    obtain ⟨rfl, rfl⟩ := hcut
    clear HL he he'
    go_wp2
    go_loop [39] (fun i => ∃ k : Nat, k ≤ d.size ∧ i = .int .i64 k ∧ Hid ((d.data.toList.take k).all isDig = true)) (fun i => d.size - (intOf i).toNat)
    case atStart => exact ⟨0, Nat.zero_le _, rfl, by simp [Hid]⟩
    case round =>
      obtain ⟨k, hk, rfl, HO⟩ := hrel
      by_cases hlt : k < d.size
      · have hsn := digs_snoc (d.data.toList.take k) d[k]
        rw [← take_snoc d k hlt] at hsn
        have hmem : d[k] ∈ d.data.toList := by
          show d.data.toList[k]'(by simpa using hlt) ∈ _
          exact List.getElem_mem _
        have hno := HNO.out d[k] hmem
        clear hmem
        by_cases hd1 : d[k].toNat < 48
        · have HR := Lib.hid (hno (by cases h : isDig d[k] with
            | false => rfl
            | true => have := isDig_iff.1 h; omega))
          have t1 : (d[k].toNat : Int) < 48 := by omega
          clear hno hsn hd1
          go_wp2
          go_ret2
          exact ⟨by rw [HR.out]; rfl, Below.refl _ _⟩
        · by_cases hd2 : 57 < d[k].toNat
          · have HR := Lib.hid (hno (by cases h : isDig d[k] with
              | false => rfl
              | true => have := isDig_iff.1 h; omega))
            have t1 : ¬ (d[k].toNat : Int) < 48 := by omega
            have t2 : (57 : Int) < (d[k].toNat : Int) := by omega
            clear hno hsn hd1 hd2
            go_wp2
            go_ret2
            exact ⟨by rw [HR.out]; rfl, Below.refl _ _⟩
          · rw [HO.out, isDig_iff.2 (by omega)] at hsn
            have HS := Lib.hid hsn
            have t1 : ¬ (d[k].toNat : Int) < 48 := by omega
            have t2 : ¬ (57 : Int) < (d[k].toNat : Int) := by omega
            clear hno hsn hd1 hd2
            go_wp2
            go_round
            case rel => exact ⟨k + 1, by omega, by go_num, HS⟩
            case measure => simp [intOf]; omega
      · have hall : d.data.toList.all isDig = true := by
          have := HO.out
          rwa [List.take_of_length_le (by simp; omega)] at this
        have HR := Lib.hid (HOK.out hall)
        have HA := Lib.hid (fun W => Tryz.strconv_Atoi s _ hs18 (HAT.out hall) W)
        clear hall
        go_wp2_with (first | (go_at_call 113; refine (HA.out _).mono ?_; rintro e w1 ⟨rfl, hb0⟩))
        have hb := bytes_below hb0
        clear hb0
        go_region
        go_wp2
        go_ret2
        exact ⟨by rw [HR.out]; rfl, below_drewN hb 1⟩

theorem itoa_calls (n : Int) (h0 : -9223372036854775808 ≤ n) (h1 : n ≤ 9223372036854775807) (w : World) (ht : Tab w) : Calls Tryz.prog 97 #[.int .i64 n] w (BRet (.string ⟨(Lib.itoa n).toArray⟩) w) := by
  refine (Tryz.strconv_Itoa n h0 h1 w ht.here).mono ?_
  rintro e w1 ⟨rfl, k, os, rfl⟩
  exact ⟨rfl, Lib.below_grow _ _ (Nat.le_refl _) _ _⟩
def digitsL : List UInt8 := [48, 49, 50, 51, 52, 53, 54, 55, 56, 57]
theorem digits_eq (c : UInt8) : digitsL.contains c = isDig c := by
  have := bytes_all (fun c => digitsL.contains c == isDig c) (by decide +kernel) c
  simpa using this
theorem only_digits (l : List UInt8) : onlyB l digitsL = l.all isDig := by unfold onlyB; simp only [digits_eq]
/-- what the reference's number reads as: whether it is one, and the number where it is -/
def NumQ (l : List UInt8) (most : Nat) (v : Value) : Prop := ∃ z : Int, -1000000000000000000 < z ∧ z < 1000000000000000000 ∧ v = .tuple #[.int .i64 z, .bool (numB l most)] ∧ (numB l most = true → z = numI l)
theorem NumQ.no {l : List UInt8} {most : Nat} (h : numB l most = false) : NumQ l most (.tuple #[.int .i64 0, .bool false]) := ⟨0, by decide, by decide, by rw [h], fun h2 => by rw [h] at h2; cases h2⟩
theorem numB_eq {l : List UInt8} {most : Nat} (h0 : body l ≠ []) (h1 : (body l).length ≤ most) (h2 : (body l).all isDig = true) : numB l most = (Lib.itoa (numI l) == l) := by
  cases h : (Lib.itoa (numI l) == l) with
  | true => exact numB_iff.2 ⟨h0, h1, h2, by simpa using h⟩
  | false =>
    cases hb : numB l most with
    | false => rfl
    | true =>
      have := (numB_iff.1 hb).2.2.2
      rw [this] at h
      simp at h
def NRet (l : List UInt8) (most : Nat) (w : World) (e : Ending) (w' : World) : Prop := ∃ v, e = .returned v ∧ NumQ l most v ∧ Below w.heap.size w w'

set_option maxRecDepth 100000 in
set_option maxHeartbeats 1000000 in
theorem numberQ_calls (s : ByteArray) (most : Nat) (hm : most ≤ 17) (w : World) (hs : s.size ≤ maxLen) (ht : Tab w) :
    Calls Tryz.prog 96 #[.string s, .int .i64 most] w (NRet s.data.toList most w) := by
  have hs0 := hs
  unfold maxLen at hs
  have HT := Lib.hid (fun W => (Tryz.strings_TrimPrefix s ⟨#[45]⟩ W).mono (fun e w' h => (⟨h.1, h.2.symm⟩ : _ ∧ W = w')))
  have e45 : (⟨#[45]⟩ : ByteArray).data.toList = [45] := rfl
  rw [e45, trim_body] at HT
  obtain ⟨d, hd⟩ : ∃ d : ByteArray, d = ⟨(body s.data.toList).toArray⟩ := ⟨_, rfl⟩
  rw [← hd] at HT
  have hdl : d.data.toList = body s.data.toList := by rw [hd]
  have hsz : d.size = (body s.data.toList).length := by rw [← hdl]; simp
  have hbl := body_len s.data.toList
  have hss : s.data.toList.length = s.size := by simp
  rw [← hsz, hss] at hbl
  clear hd e45
  by_cases h0 : d.size = 0
  · have HR := Lib.hid (NumQ.no (most := most) (numB_empty (l := s.data.toList) (List.eq_nil_of_length_eq_zero (by omega))))
    have he : d.toList = [] := by rw [Lib.toList_data]; exact List.eq_nil_of_length_eq_zero (by simpa using h0)
    clear hdl hsz hbl hss h0
    go_enter Tryz.func96, Tryz.ntmps96
    go_wp2_with (first | (go_at_call 118; refine (HT.out _).mono ?_; rintro e w1 ⟨rfl, rfl⟩))
    go_ret2
    exact ⟨_, rfl, HR.out, Below.refl _ _⟩
  have hpos : 0 < d.size := by omega
  have he := isEmpty_f (s := d) (by omega)
  have he' : (d.toList == []) = false := by rw [← he]; cases d.toList <;> rfl
  by_cases hlong : most < d.size
  · have HR := Lib.hid (NumQ.no (numB_long (l := s.data.toList) (most := most) (by omega)))
    clear hdl hsz hbl hss h0
    go_enter Tryz.func96, Tryz.ntmps96
    go_wp2_with (first | (go_at_call 118; refine (HT.out _).mono ?_; rintro e w1 ⟨rfl, rfl⟩))
    go_ret2
    exact ⟨_, rfl, HR.out, Below.refl _ _⟩
  have hne : body s.data.toList ≠ [] := by
    intro e; rw [e] at hsz; exact h0 hsz
  have HO := Lib.hid (fun W => only_calls d ⟨digitsL.toArray⟩ W (by unfold maxLen; omega))
  rw [ba_list, only_digits] at HO
  cases hdg : d.data.toList.all isDig
  · rw [hdg] at HO
    have HR : Hid (NumQ s.data.toList most (.tuple #[.int .i64 0, .bool false])) := by
      refine Lib.hid (NumQ.no ?_)
      rw [List.all_eq_false] at hdg
      obtain ⟨c, hc, hn⟩ := hdg
      rw [hdl] at hc
      exact numB_byte hc (by simpa using hn)
    clear hdl hsz hbl hss h0 hne hdg
    go_enter Tryz.func96, Tryz.ntmps96
    go_wp2_with (first | (go_at_call 118; refine (HT.out _).mono ?_; rintro e w1 ⟨rfl, rfl⟩) | (go_at_call 68; refine (HO.out _).mono ?_; rintro e w1 ⟨rfl, rfl⟩))
    go_ret2
    exact ⟨_, rfl, HR.out, Below.refl _ _⟩
  rw [hdg] at HO
  have hdg2 : (body s.data.toList).all isDig = true := by rw [← hdl]; exact hdg
  have hs18 : s.size ≤ 18 := by omega
  have HA := Lib.hid (fun W => Tryz.strconv_Atoi s _ hs18 (atoi_some hne hdg2) W)
  have hnb := numI_bound (l := s.data.toList) (by omega)
  obtain ⟨z, hz⟩ : ∃ z, z = numI s.data.toList := ⟨_, rfl⟩
  have hzb : -1000000000000000000 < z ∧ z < 1000000000000000000 := by rw [hz]; exact hnb
  have HI := Lib.hid (fun (W : World) (h : Tab W) => itoa_calls z (by omega) (by omega) W h)
  obtain ⟨t, ht2⟩ : ∃ t : ByteArray, t = ⟨(Lib.itoa z).toArray⟩ := ⟨_, rfl⟩
  have htl : t.toList = Lib.itoa z := by rw [Lib.toList_data, ht2]
  have hsl : s.toList = s.data.toList := Lib.toList_data s
  rw [← ht2] at HI
  have hbb := numB_eq (most := most) hne (by omega) hdg2
  have HA : Hid (∀ W, Calls Tryz.prog 113 #[.string s] W fun e w' => e = .returned (.tuple #[.int .i64 z, .nilIface]) ∧ ∃ t, w' = Lib.bytesWorld W 5 t) := by
    rw [hz]; exact HA
  rw [← hz] at hnb hbb
  have HR : Hid (NumQ s.data.toList most (.tuple #[.int .i64 z, .bool (Lib.itoa z == s.data.toList)])) := Lib.hid ⟨z, hnb.1, hnb.2, by rw [hbb], fun _ => hz⟩
  clear hdl hsz hss hne hdg hdg2 hz hbb h0
  go_enter Tryz.func96, Tryz.ntmps96
  go_wp2_with (first | (go_at_call 118; refine (HT.out _).mono ?_; rintro e w1 ⟨rfl, rfl⟩) | (go_at_call 68; refine (HO.out _).mono ?_; rintro e w1 ⟨rfl, rfl⟩) | (go_at_call 113; refine (HA.out _).mono ?_; rintro e w1 ⟨rfl, hb0⟩))
  have hb := bytes_below hb0
  have htw := ht.below hb
  clear hb0
  have HB : Hid (NumQ s.data.toList most (.tuple #[.int .i64 z, .bool (t.toList == s.toList)])) := by
    rw [htl, hsl]; exact HR
  clear HR htl hsl ht2 he he'
  go_wp2_with (first | (go_at_call 97; refine (HI.out _ htw).mono ?_; rintro e w2 ⟨rfl, hb2⟩))
  go_ret2
  exact ⟨_, rfl, HB.out, below_call hb hb2 (Nat.le_refl _)⟩
end Go.Proofs.YtlkapcjofgpiiaaGreatDoor
/-
  What a reading of lines holds of a world: the closure's own resources, and others; the lines as base.Lines cuts them are those that a line feed ends.
-/
namespace Go.Proofs.YtlkapcjofgpiiaaGreatDoor
open Go Go.RowKit TxtP

section
variable {w0 W W' : World} {Q : List (List UInt8) → List Rsc → Prop} {done : List (List UInt8)} {L : List Rsc}
theorem Sq.perm {w W : World} {l l' : List Rsc} (h : Sq w W l) (hp : l.Perm l') : Sq w W l' := ⟨h.below, h.hp.perm hp⟩
end
end Go.Proofs.YtlkapcjofgpiiaaGreatDoor
/-
  What a slot says, wherever its hosts lie; faults go by that alone. (Split out of XMov1 and XOclPure.)
-/
namespace Go.Proofs.YtlkapcjofgpiiaaGreatDoor
open Go Go.RowKit

theorem Sq.allNil {w W : World} {l : List Rsc} {α : Type} (h : Sq w W l) (f : α → Rsc) (hf : ∀ a, (f a).Ok) : Sq w W (rAll f [] :: l) :=
  ⟨h.below, h.hp.cons (by intro a ha; cases ha) (rAll_ok hf _) (fun g hg => by obtain ⟨a, ha, _⟩ := hg; cases ha) (fun s _ g hg => by obtain ⟨a, ha, _⟩ := hg; cases ha)⟩
end Go.Proofs.YtlkapcjofgpiiaaGreatDoor
/-
  Runs as texts: what a line's words say. No Go text is named here but types.
-/
namespace Go.Proofs.YtlkapcjofgpiiaaGreatDoor
open Go Go.RowKit TxtP

theorem info_prR : (Tryz.prog.info? 99).map (fun i => (i.zero, i.size, i.bytes)) = some (some (.agg #[.string ⟨#[]⟩, .string ⟨#[]⟩]), 2, 32) := by kernel_rfl
theorem info_rn : (Tryz.prog.info? 36).map (fun i => (i.zero, i.size, i.bytes)) = some (some (.agg #[.string ⟨#[]⟩, .string ⟨#[]⟩, .int .i64 0, .int .i64 0, .slice none 0 0]), 5, 72) := by kernel_rfl
theorem one2r {x y : Value} (hx : x.oneCell' = true) (hy : y.oneCell' = true) : ∀ v ∈ [x, y], v.oneCell' = true := by
  intro v hv
  simp only [List.mem_cons, List.not_mem_nil, or_false] at hv
  rcases hv with rfl | rfl <;> assumption
theorem one5r {a b c d e : Value} (ha : a.oneCell' = true) (hb : b.oneCell' = true) (hc : c.oneCell' = true) (hd : d.oneCell' = true) (he : e.oneCell' = true) : ∀ v ∈ [a, b, c, d, e], v.oneCell' = true := by
  intro v hv
  simp only [List.mem_cons, List.not_mem_nil, or_false] at hv
  rcases hv with rfl | rfl | rfl | rfl | rfl <;> assumption
/-- the fields of a run, in memory of the call's own -/
def fldR (base : Nat) (x : Rn) : Rsc := rOwn base 99 2 (.slice x.fa x.fs.length x.fc) x.fs.length (x.fs.flatMap prC)
theorem fldR_ok (base : Nat) (x : Rn) : (fldR base x).Ok := rOwn_ok _ _ _ _ _ _
/-- a run within its bounds -/
structure RnZ (x : Rn) : Prop where
  hi : x.id.size ≤ 1000
  hw : x.who.size ≤ 1000
  hf : ∀ p ∈ x.fs, p.1.size ≤ 1000 ∧ p.2.size ≤ 1000
  hn : x.fs.length ≤ 4
  ht : -2199023255552 ≤ x.time ∧ x.time ≤ 2199023255552
  hd : -2199023255552 ≤ x.date ∧ x.date ≤ 2199023255552
def RnZs (xs : List Rn) : Prop := ∀ x ∈ xs, RnZ x
end Go.Proofs.YtlkapcjofgpiiaaGreatDoor
/-
  rule.field by its contract.
-/
namespace Go.Proofs.YtlkapcjofgpiiaaGreatDoor
open Go Go.RowKit
attribute [local go_sem ↓] Go.wp_at_zero Go.wp_at_succ

theorem fieldV_drop {f : ByteArray} : ∀ (ps : List Pr) (k : Nat), k ≤ ps.length → (∀ j (hj : j < ps.length), j < k → ps[j].1 ≠ f) → fieldV f ps = fieldV f (ps.drop k) ∧ fieldH f ps = fieldH f (ps.drop k)
  | _, 0, _, _ => ⟨rfl, rfl⟩
  | [], k + 1, h, _ => by simp at h
  | p :: ps, k + 1, h, hn => by
    have h0 : p.1 ≠ f := hn 0 (by simp) (by omega)
    have ih := fieldV_drop ps k (by simp at h; omega) (fun j hj hjk => by have := hn (j + 1) (by simp; omega) (by omega); simpa using this)
    rw [fieldV, fieldH, if_neg h0, if_neg h0, List.drop_succ_cons]
    exact ih
set_option maxRecDepth 100000 in
theorem field_calls (b g o : Nat) (fa : Option Addr) (m fc : Nat) (fs : List Pr) (f : ByteArray) (w : World) (c4 : w.cell? ⟨g, o + 4, none⟩ = some (.slice fa m fc)) (hr : Rd w b 2 (.slice fa m fc) m (fs.flatMap prC)) :
    Calls Tryz.prog 84 #[.pointer (some ⟨g, o, none⟩), .string f] w (BRet (.tuple #[.string (fieldV f fs), .bool (fieldH f fs)]) w) := by
  obtain ⟨hl, hmc, hmm, hcells⟩ := hr.cells prC_len (by omega)
  unfold maxLen at hmm
  have HL := Lib.hid hl
  have HC := Lib.hid hcells
  clear hcells hl hr
  go_enter Tryz.func84, Tryz.ntmps84
  go_wp2_with fail
  go_loopw [13] (fun i wr => ∃ k : Nat, k ≤ m ∧ i = .int .i64 k ∧ Hid (∀ j (hj : j < fs.length), j < k → fs[j].1 ≠ f) ∧ Below w.heap.size w wr) (fun i _ => m - (intOf i).toNat)
  case atStart => exact ⟨0, Nat.zero_le _, rfl, Lib.hid (fun j hj h => by omega), Below.refl _ _⟩
  case round =>
    obtain ⟨k, hk, rfl, HN, hb⟩ := hrel
    have HD := Lib.hid (fieldV_drop fs k (by rw [HL.out]; exact hk) HN.out)
    by_cases hlt : k < m
    · have hkr : k < fs.length := by rw [HL.out]; exact hlt
      obtain ⟨q, o2, hA, _, hcs⟩ := HC.out (by omega)
      subst hA
      have d0 := below_cell hb (hcs k hkr 0 (by omega))
      have d1 := below_cell hb (hcs k hkr 1 (by omega))
      have HN2 : Hid (fs[k].1 ≠ f → ∀ j (hj : j < fs.length), j < k + 1 → fs[j].1 ≠ f) := Lib.hid (fun h j hj hjk => by
        by_cases he : j = k
        · subst he; exact h
        · exact HN.out j hj (by omega))
      have HV : Hid (fs[k].1 = f → fieldV f fs = fs[k].2 ∧ fieldH f fs = true) := Lib.hid (fun h => by
        rw [HD.out.1, HD.out.2, List.drop_eq_getElem_cons hkr, fieldV, fieldH, if_pos h, if_pos h]
        exact ⟨rfl, rfl⟩)
      obtain ⟨p, hp⟩ : ∃ p, p = fs[k] := ⟨_, rfl⟩
      rw [← hp] at d0 d1 HN2 HV
      obtain ⟨nm, vl⟩ := p
      replace d0 : wr.cell? ⟨q, o2 + k * 2, none⟩ = some (.string nm) := d0
      replace d1 : wr.cell? ⟨q, o2 + k * 2 + 1, none⟩ = some (.string vl) := d1
      have hbz := hb.alloc hb.size (.cells #[.string nm, .string vl] 99)
      have hk0 : (0 : Int) ≤ (k : Int) := by omega
      have hk1 : (k : Int) < (m : Int) := by omega
      clear hp hcs HN HD
      by_cases he : nm = f
      · subst he
        obtain ⟨e1, e2⟩ := HV.out rfl
        have heq : (nm.toList == nm.toList) = true := by simp
        clear HN2
        go_wp2_with fail
        go_ret2
        exact ⟨by first | rfl | (rw [e1, e2]; rfl), hbz⟩
      · have HN3 := Lib.hid (HN2.out he)
        have heq : (nm.toList == f.toList) = false := by
          rw [beq_eq_false_iff_ne]
          intro h
          exact he (by rw [Lib.toList_data, Lib.toList_data] at h; exact ba_inj h)
        clear HV
        go_wp2_with fail
        go_roundw
        case rel => exact ⟨k + 1, by omega, by go_num, HN3, hbz⟩
        case measure => simp [intOf]; omega
    · obtain rfl : k = m := by omega
      have e9 : fs.drop k = [] := List.drop_of_length_le (by rw [HL.out]; exact Nat.le_refl _)
      have HE := Lib.hid HD.out
      rw [e9] at HE
      clear e9 HD
      go_wp2_with fail
      go_ret2
      exact ⟨by first | (rw [HE.out.1, HE.out.2]; rfl) | rfl, hb⟩
end Go.Proofs.YtlkapcjofgpiiaaGreatDoor
