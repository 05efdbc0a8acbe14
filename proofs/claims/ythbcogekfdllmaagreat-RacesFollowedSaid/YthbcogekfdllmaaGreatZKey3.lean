/-
  splitref2.Key by a contract: it answers keyB.
-/
import Derived.Test.YthbcogekfdllmaaGreatZKey2
import Derived.Lib.IndexBytes
import Derived.Test.YthbcogekfdllmaaGreatZFlat
import Derived.Test.YthbcogekfdllmaaGreatZNum2
import Derived.Deep.RegionLaw
import Derived.Deep.RegionWith
import Derived.Deep.DrawnRows
import Derived.Deep.DeepMust
import Derived.Lib.SliceRun
import Derived.Laws.AppendOwnNone
namespace Go.Proofs.YthbcogekfdllmaaGreat
open Go Go.RowKit

theorem only_smalls_calls (s : ByteArray) (w : World) (hs : s.size ≤ maxLen) :
    Calls Tryz.prog 60 #[.string s, .string ⟨#[97, 98, 99, 100, 101, 102, 103, 104, 105, 106, 107, 108, 109, 110, 111, 112, 113, 114, 115, 116, 117, 118, 119, 120, 121, 122]⟩] w fun e w' => e = .returned (.bool (s.data.toList.all smallB)) ∧ w = w' := by
  have := only_calls s ⟨#[97, 98, 99, 100, 101, 102, 103, 104, 105, 106, 107, 108, 109, 110, 111, 112, 113, 114, 115, 116, 117, 118, 119, 120, 121, 122]⟩ w hs
  rwa [show (ByteArray.mk #[97, 98, 99, 100, 101, 102, 103, 104, 105, 106, 107, 108, 109, 110, 111, 112, 113, 114, 115, 116, 117, 118, 119, 120, 121, 122]).data.toList = smallsL from rfl, only_smalls] at this
def allOk (l : List UInt8) : Bool := l.all okB
theorem only_oks_calls (s : ByteArray) (w : World) (hs : s.size ≤ maxLen) :
    Calls Tryz.prog 60 #[.string s, .string ⟨#[97, 98, 99, 100, 101, 102, 103, 104, 105, 106, 107, 108, 109, 110, 111, 112, 113, 114, 115, 116, 117, 118, 119, 120, 121, 122, 48, 49, 50, 51, 52, 53, 54, 55, 56, 57, 45, 95]⟩] w fun e w' => e = .returned (.bool (allOk s.data.toList)) ∧ w = w' := by
  have := only_calls s ⟨#[97, 98, 99, 100, 101, 102, 103, 104, 105, 106, 107, 108, 109, 110, 111, 112, 113, 114, 115, 116, 117, 118, 119, 120, 121, 122, 48, 49, 50, 51, 52, 53, 54, 55, 56, 57, 45, 95]⟩ w hs
  rwa [show (ByteArray.mk #[97, 98, 99, 100, 101, 102, 103, 104, 105, 106, 107, 108, 109, 110, 111, 112, 113, 114, 115, 116, 117, 118, 119, 120, 121, 122, 48, 49, 50, 51, 52, 53, 54, 55, 56, 57, 45, 95]).data.toList = oksL from rfl, only_oks] at this

set_option maxRecDepth 100000 in
theorem keyQ_calls (s : ByteArray) (w : World) (hs : s.size ≤ maxLen) :
    Calls Tryz.prog 39 #[.string s] w fun e w' => e = .returned (.bool (keyB s.data.toList)) ∧ w = w' := by
  unfold maxLen at hs
  by_cases h0 : 1 ≤ s.size ∧ s.size ≤ 40
  · obtain ⟨h1, h2⟩ := h0
    have ho : outB (s.size : Int) 1 40 = false := outB_f (by omega) (by omega)
    have HO := Lib.hid ho
    clear ho
    cases hsm : smallB s[0]
    · have HK := Lib.hid (keyB_head h1 hsm)
      have HF := Lib.hid (show (s.extract 0 1).data.toList.all smallB = false by rw [Lib.extract_data]; simp [take_one s h1, hsm])
      clear hsm
      go_enter Tryz.func39, Tryz.ntmps39
      go_wp2_with fail
      refine (in_calls _ _ _ _).mono ?_
      rintro e w' ⟨rfl, rfl⟩
      rw [HO.out]
      go_wp2_with fail
      refine (only_smalls_calls _ _ (by simp [maxLen]; omega)).mono ?_
      rintro e w' ⟨rfl, rfl⟩
      rw [HF.out]
      go_wp2_with fail
      go_ret
      exact ⟨ret_bool HK.out.symm, rfl⟩
    · have HK := Lib.hid (show keyB s.data.toList = allOk s.data.toList from keyB_all h1 h2 hsm)
      have HF := Lib.hid (show (s.extract 0 1).data.toList.all smallB = true by rw [Lib.extract_data]; simp [take_one s h1, hsm])
      clear hsm
      go_enter Tryz.func39, Tryz.ntmps39
      go_wp2_with fail
      refine (in_calls _ _ _ _).mono ?_
      rintro e w' ⟨rfl, rfl⟩
      rw [HO.out]
      go_wp2_with fail
      refine (only_smalls_calls _ _ (by simp [maxLen]; omega)).mono ?_
      rintro e w' ⟨rfl, rfl⟩
      rw [HF.out]
      go_wp2_with fail
      refine (only_oks_calls _ _ (by simp [maxLen]; omega)).mono ?_
      rintro e w' ⟨rfl, rfl⟩
      go_wp2_with fail
      go_ret
      exact ⟨ret_bool HK.out.symm, rfl⟩
  · have HK := Lib.hid (keyB_size (l := s.data.toList) (by simpa using h0))
    have ho : outB (s.size : Int) 1 40 = true := outB_t (by omega)
    have HO := Lib.hid ho
    clear ho h0
    go_enter Tryz.func39, Tryz.ntmps39
    go_wp2_with fail
    refine (in_calls _ _ _ _).mono ?_
    rintro e w' ⟨rfl, rfl⟩
    rw [HO.out]
    go_wp2_with fail
    go_ret
    exact ⟨ret_bool HK.out.symm, rfl⟩
end Go.Proofs.YthbcogekfdllmaaGreat
/-
  race.ratingFault and splitref2.RatingFault by contracts: both answer ratF.
-/
namespace Go.Proofs.YthbcogekfdllmaaGreat
open Go Go.RowKit

def ratF (n d : Int) : Int := if d < 1 ∨ ¬ Int.gcd n d = 1 then 3 else if ¬ 1000 % d = 0 ∨ n < -10000 * d ∨ 10000 * d < n then 1 else 0
theorem ratF_low {n d : Int} (h : d < 1) : ratF n d = 3 := by unfold ratF; rw [if_pos (.inl h)]
theorem ratF_gcd {n d : Int} (h : ¬ Int.gcd n d = 1) : ratF n d = 3 := by unfold ratF; rw [if_pos (.inr h)]
theorem ratF_mod {n d : Int} (h : 1 ≤ d) (hg : Int.gcd n d = 1) (hm : ¬ 1000 % d = 0) : ratF n d = 1 := by unfold ratF; rw [if_neg (by omega), if_pos (.inl hm)]
theorem ratF_out {n d : Int} (h : 1 ≤ d) (hg : Int.gcd n d = 1) (hm : n < -10000 * d ∨ 10000 * d < n) : ratF n d = 1 := by unfold ratF; rw [if_neg (by omega), if_pos (.inr hm)]
theorem ratF_ok {n d : Int} (h : 1 ≤ d) (hg : Int.gcd n d = 1) (hm : 1000 % d = 0) (h1 : -10000 * d ≤ n) (h2 : n ≤ 10000 * d) : ratF n d = 0 := by unfold ratF; rw [if_neg (by omega), if_neg (by omega)]
theorem mod_le {d : Int} (_h : 1 ≤ d) (hm : 1000 % d = 0) : d ≤ 1000 := by
  rcases Int.lt_or_le 1000 d with hl | hl
  · rw [Int.emod_eq_of_lt (by omega) hl] at hm; omega
  · exact hl

set_option maxRecDepth 100000 in
theorem ratingFault_calls (n d : Int) (w : World) (hn : I64 n) (hd : I64 d) :
    Calls Tryz.prog 67 #[.agg #[.int .i64 n, .int .i64 d]] w (BRet (.int .i64 (ratF n d)) w) := by
  obtain ⟨hn0, hn1⟩ := hn
  obtain ⟨hd0, hd1⟩ := hd
  have hA : ∀ o : Obj, Below w.heap.size w (w.alloc o) := fun o => (Below.refl _ _).alloc (Nat.le_refl _) o
  by_cases h1 : d < 1
  · have HF := Lib.hid (ratF_low (n := n) h1)
    go_enter Tryz.func67, Tryz.ntmps67
    go_wp2_with fail
    go_ret
    exact ⟨ret_int HF.out.symm, hA _⟩
  by_cases h2 : Int.gcd n d = 1
  · have hL : lowB n d = true := by unfold lowB; simpa using h2
    have HL := Lib.hid hL
    by_cases h3 : 1000 % d = 0
    · have hle := mod_le (by omega) h3
      have h3' : ((1000 : Int) % d != 0) = false := by rw [h3]; rfl
      by_cases h4 : n < -10000 * d ∨ 10000 * d < n
      · have HF := Lib.hid (ratF_out (by omega) h2 h4)
        have HO := Lib.hid (outB_t (n := n) (lo := -10000 * d) (hi := 10000 * d) h4)
        clear h2 h3 h4 hL
        go_enter Tryz.func67, Tryz.ntmps67
        go_wp2_with fail
        refine (lowestB_calls n d _ hn0 hn1 (by omega) hd1).mono ?_
        rintro e w1 ⟨rfl, hb1⟩
        rw [HL.out]
        have B0 : Blk w1 w.heap.size 96 #[.int .i64 n, .int .i64 d] := (Blk.new w _ _).below hb1
        obtain ⟨b1, b2, b3, b4⟩ := B0.two
        go_wp2_with fail
        refine (out_calls _ _ _ _).mono ?_
        rintro e w2 ⟨rfl, rfl⟩
        rw [HO.out]
        go_wp2_with fail
        go_ret
        exact ⟨ret_int HF.out.symm, below_call (hA _) hb1 (Nat.le_refl _)⟩
      · have HF := Lib.hid (ratF_ok (n := n) (by omega) h2 h3 (by omega) (by omega))
        have HO := Lib.hid (outB_f (n := n) (lo := -10000 * d) (hi := 10000 * d) (by omega) (by omega))
        clear h2 h3 h4 hL
        go_enter Tryz.func67, Tryz.ntmps67
        go_wp2_with fail
        refine (lowestB_calls n d _ hn0 hn1 (by omega) hd1).mono ?_
        rintro e w1 ⟨rfl, hb1⟩
        rw [HL.out]
        have B0 : Blk w1 w.heap.size 96 #[.int .i64 n, .int .i64 d] := (Blk.new w _ _).below hb1
        obtain ⟨b1, b2, b3, b4⟩ := B0.two
        go_wp2_with fail
        refine (out_calls _ _ _ _).mono ?_
        rintro e w2 ⟨rfl, rfl⟩
        rw [HO.out]
        go_wp2_with fail
        go_ret
        exact ⟨ret_int HF.out.symm, below_call (hA _) hb1 (Nat.le_refl _)⟩
    · have HF := Lib.hid (ratF_mod (by omega) h2 h3)
      have h3' : ((1000 : Int) % d != 0) = true := by rw [bne_iff_ne]; exact h3
      clear h2 h3 hL
      go_enter Tryz.func67, Tryz.ntmps67
      go_wp2_with fail
      refine (lowestB_calls n d _ hn0 hn1 (by omega) hd1).mono ?_
      rintro e w1 ⟨rfl, hb1⟩
      rw [HL.out]
      have B0 : Blk w1 w.heap.size 96 #[.int .i64 n, .int .i64 d] := (Blk.new w _ _).below hb1
      obtain ⟨b1, b2, b3, b4⟩ := B0.two
      go_wp2_with fail
      go_ret
      exact ⟨ret_int HF.out.symm, below_call (hA _) hb1 (Nat.le_refl _)⟩
  · have HF := Lib.hid (ratF_gcd h2)
    have hL : lowB n d = false := by unfold lowB; simpa using h2
    have HL := Lib.hid hL
    clear h2 hL
    go_enter Tryz.func67, Tryz.ntmps67
    go_wp2_with fail
    refine (lowestB_calls n d _ hn0 hn1 (by omega) hd1).mono ?_
    rintro e w1 ⟨rfl, hb1⟩
    rw [HL.out]
    go_wp2_with fail
    go_ret
    exact ⟨ret_int HF.out.symm, below_call (hA _) hb1 (Nat.le_refl _)⟩
end Go.Proofs.YthbcogekfdllmaaGreat
/-
  race.CheckRated and splitref2.RatedFault by contracts: both answer ratedF.
-/
namespace Go.Proofs.YthbcogekfdllmaaGreat
open Go Go.RowKit

/-- is a at most b, byte by byte? -/
def leS (a b : ByteArray) : Bool := Op.bytesLess a.toList b.toList || a.toList == b.toList
end Go.Proofs.YthbcogekfdllmaaGreat
/-
  Slots of a marathon in plain words: what the functions of chapter 9 answer. No Go text is named here.
-/
namespace Go.Proofs.YthbcogekfdllmaaGreat
open Go Go.RowKit

def strsV (hs : List ByteArray) : List Value := hs.map Value.string
theorem Rd.take {α : Type} {w : World} {b k n c : Nat} {A : Option Addr} {f : α → List Value} {rs : List α} (h : Rd w b k (.slice A n c) n (rs.flatMap f)) (hf : ∀ a, (f a).length = k) (hk : 0 < k) {m : Nat} (hm : m ≤ n) :
    Rd w b k (.slice A m c) m ((rs.take m).flatMap f) := by
  obtain ⟨hl, h1, h2, h3⟩ := h.cells hf hk
  obtain ⟨A', c', e1, e2, e3, e4, e5, e6⟩ := h
  injection e1 with ea eb ec
  subst ea ec
  have hlen : ((rs.take m).flatMap f).length = m * k := by rw [flat_len f k hf, List.length_take, hl, Nat.min_eq_left hm]
  refine ⟨_, _, rfl, by omega, e3, hlen, fun ha => ⟨by have := (e5 ha).1; omega, (e5 ha).2⟩, fun hm0 => ?_⟩
  obtain ⟨g, o, f1, f2, f3⟩ := e6 (by omega)
  refine ⟨g, o, f1, f2, fun j u hu => f3 j u ?_⟩
  have hj : j < m * k := by
    rw [← hlen]
    exact (List.getElem?_eq_some_iff.1 hu).1
  have happ : rs.flatMap f = (rs.take m).flatMap f ++ (rs.drop m).flatMap f := by
    rw [← List.flatMap_append, List.take_append_drop]
  rw [happ, List.getElem?_append_left (by rw [hlen]; exact hj)]
  exact hu
/-- can slots begin at a moment? -/
def momB (f : Int) : Bool := !outB f 0 345686399999
end Go.Proofs.YthbcogekfdllmaaGreat
/-
  Ranks as the stream makes them, by a contract.
-/
namespace Go.Proofs.YthbcogekfdllmaaGreat
open Go Go.RowKit
attribute [local go_sem ↓] Go.wp_at_zero Go.wp_at_succ

abbrev Res := Int × ByteArray × Int
def resC (r : Res) : List Value := [.int .i64 r.1, .string r.2.1, .int .i64 r.2.2]
theorem resC_len (r : Res) : (resC r).length = 3 := rfl
theorem info_res : (Tryz.prog.info? 57).map (fun i => (i.zero, i.size, i.bytes)) = some (some (.agg #[.int .i64 0, .string ⟨#[]⟩, .int .i64 0]), 3, 32) := by kernel_rfl

theorem size1 (w : World) (o : Obj) : (w.alloc o).heap.size = w.heap.size + 1 := by simp
end Go.Proofs.YthbcogekfdllmaaGreat
/-
  slices.Clone of strings, marathon.needed and splitref2.people by contracts. (Printed by gen_slot4.py.)
-/
namespace Go.Proofs.YthbcogekfdllmaaGreat
open Go Go.RowKit
attribute [local go_sem ↓] Go.wp_at_zero Go.wp_at_succ

theorem one1 {x : Value} (hx : x.oneCell' = true) : ∀ u ∈ [x], u.oneCell' = true := by
  intro u hu
  simp at hu
  subst hu
  exact hx
end Go.Proofs.YthbcogekfdllmaaGreat
