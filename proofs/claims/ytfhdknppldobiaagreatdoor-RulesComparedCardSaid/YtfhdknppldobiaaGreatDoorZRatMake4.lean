/-
  Ranks as the stream makes them, by a contract.
-/
import Derived.Test.YtfhdknppldobiaaGreatDoorZFlat
import Derived.Test.YtfhdknppldobiaaGreatDoorZBase
import Derived.RegionTactic
import Derived.ChangeAlike
import Derived.BigRegion
import Derived.Outline
import Derived.Deep.RegionLaw
import Derived.Deep.RegionWith
import Derived.Deep.DrawnRows
import Derived.Deep.DeepMust
import Derived.Test.YtfhdknppldobiaaGreatDoorZSlotPure
import Derived.Lib.SliceRun
import Derived.Laws.AppendOwnNone
import Derived.Test.YtfhdknppldobiaaGreatDoorZKey2
import Derived.Test.YtfhdknppldobiaaGreatDoorZSq
import Derived.Test.YtfhdknppldobiaaGreatDoorZKey3
import Derived.Test.YtfhdknppldobiaaGreatDoorZBs
import Derived.Deep.DeepCutAuto
import Derived.Deep.QuietTactic
import Derived.BigQuiet
import Derived.Test.YtfhdknppldobiaaGreatDoorZChkPure2
import Derived.Test.YtfhdknppldobiaaGreatDoorZRule1
namespace Go.Proofs.YtfhdknppldobiaaGreatDoor
open Go Go.RowKit
attribute [local go_sem ↓] Go.wp_at_zero Go.wp_at_succ

theorem news_new (w : World) (cs : Array Value) (t : TypeId) (B : Nat) (hB : w.heap.size = B) : ∀ j u, cs.toList[j]? = some u → (w.alloc (.cells cs t)).cell? ((⟨B, 0, none⟩ : Addr).add j) = some u := by
  subst hB
  exact World.news_of_block (heap_alloc_new w _)

theorem base1 {w : World} {B : Nat} (h : B ≤ w.heap.size) (o : Obj) : B ≤ (w.alloc o).heap.size := by simp; omega
end Go.Proofs.YtfhdknppldobiaaGreatDoor
/-
  slices.Clone of strings, marathon.needed and splitref2.people by contracts. (Printed by gen_slot4.py.)
-/
namespace Go.Proofs.YtfhdknppldobiaaGreatDoor
open Go Go.RowKit
attribute [local go_sem ↓] Go.wp_at_zero Go.wp_at_succ

theorem info_str : (Tryz.prog.info? 9).map (fun i => (i.zero, i.size, i.bytes)) = some (some (.string ⟨#[]⟩), 1, 16) := by kernel_rfl
theorem one1 {x : Value} (hx : x.oneCell' = true) : ∀ u ∈ [x], u.oneCell' = true := by
  intro u hu
  simp at hu
  subst hu
  exact hx
end Go.Proofs.YtfhdknppldobiaaGreatDoor
/-
  What is wrong with a run: rule.CheckRun and splitref2.RunFault by contracts. (Printed by gen_run1.py.)
-/
namespace Go.Proofs.YtfhdknppldobiaaGreatDoor
open Go Go.RowKit

def wordsL_ : List UInt8 := [97, 98, 99, 100, 101, 102, 103, 104, 105, 106, 107, 108, 109, 110, 111, 112, 113, 114, 115, 116, 117, 118, 119, 120, 121, 122, 48, 49, 50, 51, 52, 53, 54, 55, 56, 57, 45, 95, 46]
theorem words_eq_ (c : UInt8) : wordsL_.contains c = wordB c := by
  have := bytes_all (fun c => wordsL_.contains c == wordB c) (by decide +kernel) c
  simpa using this
theorem only_words_ (l : List UInt8) : onlyB l wordsL_ = l.all wordB := by unfold onlyB; simp only [words_eq_]
theorem only_words_calls (s : ByteArray) (w : World) (hs : s.size ≤ maxLen) :
    Calls Tryz.prog 126 #[.string s, .string ⟨#[97, 98, 99, 100, 101, 102, 103, 104, 105, 106, 107, 108, 109, 110, 111, 112, 113, 114, 115, 116, 117, 118, 119, 120, 121, 122, 48, 49, 50, 51, 52, 53, 54, 55, 56, 57, 45, 95, 46]⟩] w fun e w' => e = .returned (.bool (s.data.toList.all wordB)) ∧ w = w' := by
  have := only_calls s ⟨#[97, 98, 99, 100, 101, 102, 103, 104, 105, 106, 107, 108, 109, 110, 111, 112, 113, 114, 115, 116, 117, 118, 119, 120, 121, 122, 48, 49, 50, 51, 52, 53, 54, 55, 56, 57, 45, 95, 46]⟩ w hs
  rwa [show (ByteArray.mk #[97, 98, 99, 100, 101, 102, 103, 104, 105, 106, 107, 108, 109, 110, 111, 112, 113, 114, 115, 116, 117, 118, 119, 120, 121, 122, 48, 49, 50, 51, 52, 53, 54, 55, 56, 57, 45, 95, 46]).data.toList = wordsL_ from rfl, only_words_] at this
theorem valueQ_calls (s : ByteArray) (w : World) (hs : s.size ≤ 1000000) : Calls Tryz.prog 88 #[.string s] w fun e w' => e = .returned (.bool (valueB s)) ∧ w = w' := by
  have HI := Lib.hid (fun W => in_calls (s.size : Int) 1 40 W)
  have HO := Lib.hid (fun W => only_words_calls s W (by unfold maxLen; omega))
  obtain ⟨B, hB⟩ : ∃ B, B = s.data.toList.all wordB := ⟨_, rfl⟩
  rw [← hB] at HO
  have hv : valueB s = (decide (1 ≤ s.size ∧ s.size ≤ 40) && B) := by rw [hB]; rfl
  by_cases h0 : 1 ≤ s.size ∧ s.size ≤ 40
  · rw [decide_eq_true h0, Bool.true_and] at hv
    have ho : outB (s.size : Int) 1 40 = false := outB_f (by omega) (by omega)
    rw [ho] at HI
    have HV := Lib.hid hv
    clear hv hB ho h0
    go_enter Tryz.func88, Tryz.ntmps88
    go_wp2_with (first | (go_at_call 86; refine (HI.out _).mono ?_; rintro e w1 ⟨rfl, rfl⟩) | (go_at_call 126; refine (HO.out _).mono ?_; rintro e w2 ⟨rfl, rfl⟩))
    go_ret
    exact ⟨ret_bool HV.out.symm, rfl⟩
  · rw [decide_eq_false h0, Bool.false_and] at hv
    have ho : outB (s.size : Int) 1 40 = true := outB_t (by omega)
    rw [ho] at HI
    have HV := Lib.hid hv
    clear hv hB ho h0
    go_enter Tryz.func88, Tryz.ntmps88
    go_wp2_with (first | (go_at_call 86; refine (HI.out _).mono ?_; rintro e w1 ⟨rfl, rfl⟩))
    go_ret
    exact ⟨ret_bool HV.out.symm, rfl⟩
theorem reservedQ_calls (x : ByteArray) (w : World) : Calls Tryz.prog 143 #[.string x] w (BRet (.bool (memS words6 x)) w) := by
  have HC : Hid (∀ W : World, Calls Tryz.prog 19 #[.slice (some ⟨W.heap.size, 0, none⟩) 6 6, .string x] (W.alloc (.cells #[.string ⟨#[116, 105, 109, 101]⟩, .string ⟨#[97, 110, 100]⟩, .string ⟨#[111, 114]⟩, .string ⟨#[110, 111, 116]⟩, .string ⟨#[104, 97, 115]⟩, .string ⟨#[116, 114, 117, 101]⟩] 9)) (QRet (.bool (memS words6 x)) (W.alloc (.cells #[.string ⟨#[116, 105, 109, 101]⟩, .string ⟨#[97, 110, 100]⟩, .string ⟨#[111, 114]⟩, .string ⟨#[110, 111, 116]⟩, .string ⟨#[104, 97, 115]⟩, .string ⟨#[116, 114, 117, 101]⟩] 9)))) :=
    Lib.hid (fun W => containsS_calls (W.heap.size + 1) (some ⟨W.heap.size, 0, none⟩) 6 6 words6 x (W.alloc (.cells #[.string ⟨#[116, 105, 109, 101]⟩, .string ⟨#[97, 110, 100]⟩, .string ⟨#[111, 114]⟩, .string ⟨#[110, 111, 116]⟩, .string ⟨#[104, 97, 115]⟩, .string ⟨#[116, 114, 117, 101]⟩] 9)) (Rd.lit W (W.heap.size + 1) 1 6 _ _ (by omega) (by decide) rfl))
  go_enter Tryz.func143, Tryz.ntmps143
  go_wp2_with (first | (go_at_call 19; refine (HC.out _).mono ?_; rintro e w1 ⟨rfl, nq, rfl⟩))
  go_ret
  exact ⟨rfl, below_drewN ((Below.refl _ _).alloc (Nat.le_refl _) _) nq⟩
theorem fieldQ_calls (x : ByteArray) (w : World) (hx : x.size ≤ 1000000) : Calls Tryz.prog 87 #[.string x] w (BRet (.bool (nameB x)) w) := by
  have HK := Lib.hid (fun W => keyQ_calls x W (by unfold maxLen; omega))
  have HC := Lib.hid (fun W => reservedQ_calls x W)
  obtain ⟨M, hM⟩ : ∃ M, memS words6 x = M := ⟨_, rfl⟩
  obtain ⟨B, hB⟩ : ∃ B, keyB x.data.toList = B := ⟨_, rfl⟩
  rw [hM] at HC
  rw [hB] at HK
  have HR : Hid (nameB x = (B && !M)) := by rw [← hM, ← hB]; exact Lib.hid rfl
  rw [HR.out]
  clear hM hB HR
  cases B
  · go_enter Tryz.func87, Tryz.ntmps87
    go_wp2_with (first | (go_at_call 66; refine (HK.out _).mono ?_; rintro e w1 ⟨rfl, rfl⟩))
    go_ret
    exact ⟨rfl, Below.refl _ _⟩
  · go_enter Tryz.func87, Tryz.ntmps87
    go_wp2_with (first | (go_at_call 66; refine (HK.out _).mono ?_; rintro e w1 ⟨rfl, rfl⟩) | (go_at_call 143; refine (HC.out _).mono ?_; rintro e w2 ⟨rfl, hb2⟩))
    go_ret
    exact ⟨rfl, hb2⟩
end Go.Proofs.YtfhdknppldobiaaGreatDoor
/-
  The reference's tokens by a contract. (Printed by gen_tok.py.)
-/
namespace Go.Proofs.YtfhdknppldobiaaGreatDoor
open Go Go.RowKit
attribute [local go_sem ↓] Go.wp_at_zero Go.wp_at_succ

def tkC (t : Tk) : List Value := [.string t.1, .int .i64 t.2]
theorem tkC_len (t : Tk) : (tkC t).length = 2 := rfl
theorem info_tk : (Tryz.prog.info? 164).map (fun i => (i.zero, i.size, i.bytes)) = some (some (.agg #[.string ⟨#[]⟩, .int .i64 0]), 2, 24) := by kernel_rfl
theorem one2t {x y : Value} (hx : x.oneCell' = true) (hy : y.oneCell' = true) : ∀ v ∈ [x, y], v.oneCell' = true := by
  intro v hv
  simp at hv
  rcases hv with rfl | rfl
  · exact hx
  · exact hy
theorem tk_snoc (ts : List Tk) (x : ByteArray) (k : Nat) : (ts ++ [(x, k)]).flatMap tkC = ts.flatMap tkC ++ [.string x, .int .i64 k] := by
  rw [List.flatMap_append]; simp [tkC]
theorem marks_calls (c : UInt8) (_w : World) : ∃ z : Int, (markB c = decide (0 ≤ z)) ∧ ∀ W, Calls Tryz.prog 173 #[.string ⟨#[40, 41, 61, 60, 62]⟩, .int .u8 c.toNat] W fun e w' => e = .returned (.int .i64 z) ∧ W = w' := by
  refine ⟨Lib.indexByte [40, 41, 61, 60, 62] c, ?_, fun W => ?_⟩
  · have hc := Lib.contains_iff_indexByte [40, 41, 61, 60, 62] c
    rw [marks_eq] at hc
    exact hc
  · have := indexByte_calls ⟨#[40, 41, 61, 60, 62]⟩ (c.toNat : Int) W
    rw [byte_back] at this
    exact this
theorem wordIdx_calls (c : UInt8) (_w : World) : ∃ z : Int, (wordB c = decide (0 ≤ z)) ∧ ∀ W, Calls Tryz.prog 173 #[.string ⟨#[97, 98, 99, 100, 101, 102, 103, 104, 105, 106, 107, 108, 109, 110, 111, 112, 113, 114, 115, 116, 117, 118, 119, 120, 121, 122, 48, 49, 50, 51, 52, 53, 54, 55, 56, 57, 45, 95, 46]⟩, .int .u8 c.toNat] W fun e w' => e = .returned (.int .i64 z) ∧ W = w' := by
  refine ⟨Lib.indexByte wordsL_ c, ?_, fun W => ?_⟩
  · have hc := Lib.contains_iff_indexByte wordsL_ c
    rw [words_eq_] at hc
    exact hc
  · have := indexByte_calls ⟨#[97, 98, 99, 100, 101, 102, 103, 104, 105, 106, 107, 108, 109, 110, 111, 112, 113, 114, 115, 116, 117, 118, 119, 120, 121, 122, 48, 49, 50, 51, 52, 53, 54, 55, 56, 57, 45, 95, 46]⟩ (c.toNat : Int) W
    rw [byte_back] at this
    exact this
section
variable {s : ByteArray} {k : Nat}
theorem toks_blank (hlt : k < s.size) (hb : blankB s[k] = true) : toks s k = toks s (k + 1) := by rw [toks, dif_pos hlt, if_pos hb]
theorem toks_mark (hlt : k < s.size) (hb : blankB s[k] = false) (hm : markB s[k] = true) : toks s k = (s.extract k (k + 1), k) :: toks s (k + 1) := by
  rw [toks, dif_pos hlt, if_neg (by rw [hb]; decide), if_pos hm]
theorem toks_word (hlt : k < s.size) (hb : blankB s[k] = false) (hm : markB s[k] = false) (hw : wordB s[k] = true) : toks s k = (s.extract k (spanF wordB s k), k) :: toks s (spanF wordB s k) := by
  rw [toks, dif_pos hlt, if_neg (by rw [hb]; decide), if_neg (by rw [hm]; decide), dif_pos hw]
theorem toks_bad (hlt : k < s.size) (hb : blankB s[k] = false) (hm : markB s[k] = false) (hw : wordB s[k] = false) : toks s k = [(⟨#[]⟩, k)] := by
  rw [toks, dif_pos hlt, if_neg (by rw [hb]; decide), if_neg (by rw [hm]; decide), dif_neg (by rw [hw]; decide)]
theorem toks_end (s : ByteArray) : toks s s.size = [(⟨#[]⟩, s.size)] := by rw [toks, dif_neg (by omega)]
end
/-- the tokens of s, in memory of the call's own -/
def TokS (s : ByteArray) (w : World) (e : Ending) (w' : World) : Prop :=
  ∃ v, e = .returned v ∧ w'.ownsRow w.heap.size 164 2 v (toks s 0).length ((toks s 0).flatMap tkC) ∧ Below w.heap.size w w'
set_option maxRecDepth 100000 in
set_option maxHeartbeats 2000000 in
theorem tokens_calls (s : ByteArray) (w : World) (hs : s.size ≤ 100000) : Calls Tryz.prog 127 #[.string s] w (TokS s w) := by
  obtain ⟨j0, hj, hy0, hy1, hy2⟩ := info_parts info_tk
  have hS0 := (Sq.start w).nil w.heap.size 164 2
  go_enter Tryz.func127, Tryz.ntmps127
  go_wp2_with fail
  go_loopw [3, 4] (fun s3 i wr => ∃ (k : Nat) (ts : List Tk), k ≤ s.size ∧ i = .int .i64 k ∧ ts.length ≤ k ∧ Hid (ts ++ toks s k = toks s 0) ∧ Sq w wr [rOwn w.heap.size 164 2 s3 ts.length (ts.flatMap tkC)]) (fun _ i _ => s.size - (intOf i).toNat)
  case atStart => exact ⟨0, [], Nat.zero_le _, rfl, Nat.le_refl _, Lib.hid rfl, hS0⟩
  case round =>
    clear hS0
    obtain ⟨k, ts, hk, rfl, htk, HT, hS⟩ := hrel
    obtain ⟨m, hm⟩ : ∃ m, ts.length = m := ⟨_, rfl⟩
    have HM := Lib.hid hm
    rw [hm] at hS htk
    clear hm
    have HO : wr.ownsRow w.heap.size 164 2 u3 m (ts.flatMap tkC) := hS.head
    have hsz := hS.size
    by_cases hlt : k < s.size
    · have hk0 : (0 : Int) ≤ (k : Int) := by omega
      have hk1 : (k : Int) < (s.size : Int) := by omega
      cases hbl : blankB s[k]
      · have t0 : ((s[k].toNat : Int) == 32) = false := by
          unfold blankB at hbl
          have := of_decide_eq_false hbl
          simp; omega
        obtain ⟨zm, hzm, HCM⟩ := marks_calls s[k] w
        have HCM := Lib.hid HCM
        cases hmk : markB s[k]
        · have hzm0 : zm < 0 := by rw [hmk] at hzm; have := of_decide_eq_false hzm.symm; omega
          obtain ⟨zw, hzw, HCW⟩ := wordIdx_calls s[k] w
          have HCW := Lib.hid HCW
          cases hwd : wordB s[k]
          · have hzw0 : zw < 0 := by rw [hwd] at hzw; have := of_decide_eq_false hzw.symm; omega
            have HE : Hid (ts ++ [((⟨#[]⟩ : ByteArray), k)] = toks s 0) := by rw [← HT.out, toks_bad hlt hbl hmk hwd]; exact Lib.hid rfl
            clear hbl hmk hwd hzm hzw HT
            go_wp2_with (first
              | (go_at_call 173; refine (HCM.out _).mono ?_; rintro e w2 ⟨rfl, rfl⟩)
              | (go_at_call 173; refine (HCW.out _).mono ?_; rintro e w2 ⟨rfl, rfl⟩)
              | (at_builtin; refine wpList_append_own_at _ rfl _ _ 161 rfl w.heap.size 164 j0 (.agg #[.string ⟨#[]⟩, .int .i64 0]) 2 24 Tryz.underlying161 hj hy0 hy1 hy2 rfl (by decide) _ _ _ rfl (HO.alloc _) ⟨_, 0, none⟩ 1 1 [.string ⟨#[]⟩, .int .i64 k] rfl rfl (World.news_of_block (heap_alloc_new _ _)) (one2t rfl rfl) (by unfold maxLen; omega) (by omega) (by simp; omega) ?_; intro v' w8 hown' hgrow _ hblk; have hS8 := (hS.alloc _).append hown' hgrow hblk; clear hown' hgrow hblk))
            go_ret
            exact ⟨_, rfl, by rw [← HE.out, List.length_append, HM.out, tk_snoc]; exact hS8.head, hS8.below⟩
          · have hzw0 : 0 ≤ zw := by rw [hwd] at hzw; exact of_decide_eq_true hzw.symm
            obtain ⟨D, hD⟩ : ∃ D, spanF wordB s k = D := ⟨_, rfl⟩
            have hkD : k < D := by rw [← hD]; exact span_gt wordB s k hlt hwd
            have hDs : D ≤ s.size := by rw [← hD]; exact span_le _ _ _ hk
            have HE : Hid ((ts ++ [(s.extract k D, k)]) ++ toks s D = toks s 0) := by
              rw [← HT.out, toks_word hlt hbl hmk hwd, hD, List.append_assoc]; exact Lib.hid rfl
            have HD := Lib.hid hD
            clear hbl hmk hwd hzm hzw HT hD
            have hk2 : (k : Int) ≤ (D : Int) := by omega
            have hk3 : (D : Int) ≤ (s.size : Int) := by omega
            go_upto_block 3 with (first
              | (go_at_call 173; refine (HCM.out _).mono ?_; rintro e w2 ⟨rfl, rfl⟩)
              | (go_at_call 173; refine (HCW.out _).mono ?_; rintro e w2 ⟨rfl, rfl⟩))
            go_cut [5] (fun s5 W => s5 = .int .i64 D ∧ W = wr)
            case first =>
              clear HE HM HO hS hsz
              go_wp2_with fail
              go_loop [5] (fun s5 => ∃ j : Nat, j ≤ s.size ∧ k ≤ j ∧ s5 = .int .i64 j ∧ Hid (spanF wordB s j = D)) (fun s5 => s.size - (intOf s5).toNat)
              case atStart => exact ⟨k, hk, Nat.le_refl _, rfl, HD⟩
              case round =>
                obtain ⟨j, hj_, hkj, rfl, HJ⟩ := hrel
                by_cases hjl : j < s.size
                · have hj0 : (0 : Int) ≤ (j : Int) := by omega
                  have hj1 : (j : Int) < (s.size : Int) := by omega
                  obtain ⟨zj, hzj, HCJ⟩ := wordIdx_calls s[j] w
                  have HCJ := Lib.hid HCJ
                  cases hwj : wordB s[j]
                  · have hzj0 : zj < 0 := by rw [hwj] at hzj; have := of_decide_eq_false hzj.symm; omega
                    have hjD : j = D := by rw [← HJ.out, span_no wordB s j hjl hwj]
                    subst hjD
                    clear hwj hzj
                    go_wp2_with (first | (go_at_call 173; refine (HCJ.out _).mono ?_; rintro e w2 ⟨rfl, rfl⟩))
                    go_meet
                    exact ⟨rfl, rfl⟩
                  · have hzj0 : 0 ≤ zj := by rw [hwj] at hzj; exact of_decide_eq_true hzj.symm
                    have HJ2 : Hid (spanF wordB s (j + 1) = D) := by rw [← span_yes wordB s j hjl hwj]; exact HJ
                    clear hwj hzj
                    go_wp2_with (first | (go_at_call 173; refine (HCJ.out _).mono ?_; rintro e w2 ⟨rfl, rfl⟩))
                    go_round
                    case rel => exact ⟨j + 1, by omega, by omega, by go_num, HJ2⟩
                    case measure => simp [intOf]; omega
                · have hjD : j = D := by rw [← HJ.out, span_end wordB s j (by omega)]
                  subst hjD
                  go_wp2_with fail
                  go_meet
                  exact ⟨rfl, rfl⟩
            case rest =>
              obtain ⟨rfl, rfl⟩ := hcut
              go_wp2_with (first | (at_builtin; refine wpList_append_own_at _ rfl _ _ 161 rfl w.heap.size 164 j0 (.agg #[.string ⟨#[]⟩, .int .i64 0]) 2 24 Tryz.underlying161 hj hy0 hy1 hy2 rfl (by decide) _ _ _ rfl (HO.alloc _) ⟨_, 0, none⟩ 1 1 [.string (s.extract k D), .int .i64 k] rfl rfl (World.news_of_block (heap_alloc_new _ _)) (one2t rfl rfl) (by unfold maxLen; omega) (by omega) (by simp; omega) ?_; intro v' w8 hown' hgrow _ hblk; have hS8 := (hS.alloc _).append hown' hgrow hblk; clear hown' hgrow hblk))
              go_roundw
              case rel => exact ⟨D, ts ++ [(s.extract k D, k)], hDs, rfl, by rw [List.length_append, HM.out]; simp; omega, HE, by rw [List.length_append, HM.out, tk_snoc]; exact hS8⟩
              case measure => simp [intOf]; omega
        · have hzm0 : 0 ≤ zm := by rw [hmk] at hzm; exact of_decide_eq_true hzm.symm
          have HE : Hid ((ts ++ [(s.extract k (k + 1), k)]) ++ toks s (k + 1) = toks s 0) := by
            rw [← HT.out, toks_mark hlt hbl hmk, List.append_assoc]; exact Lib.hid rfl
          clear hbl hmk hzm HT
          have hk2 : (k : Int) ≤ (k : Int) + 1 := by omega
          have hk3 : (k : Int) + 1 ≤ (s.size : Int) := by omega
          go_wp2_with (first
            | (go_at_call 173; refine (HCM.out _).mono ?_; rintro e w2 ⟨rfl, rfl⟩)
            | (at_builtin; refine wpList_append_own_at _ rfl _ _ 161 rfl w.heap.size 164 j0 (.agg #[.string ⟨#[]⟩, .int .i64 0]) 2 24 Tryz.underlying161 hj hy0 hy1 hy2 rfl (by decide) _ _ _ rfl (HO.alloc _) ⟨_, 0, none⟩ 1 1 [.string (s.extract k (k + 1)), .int .i64 k] rfl rfl (World.news_of_block (heap_alloc_new _ _)) (one2t rfl rfl) (by unfold maxLen; omega) (by omega) (by simp; omega) ?_; intro v' w8 hown' hgrow _ hblk; have hS8 := (hS.alloc _).append hown' hgrow hblk; clear hown' hgrow hblk))
          go_roundw
          case rel => exact ⟨k + 1, ts ++ [(s.extract k (k + 1), k)], hlt, by go_num, by rw [List.length_append, HM.out]; simp; omega, HE, by rw [List.length_append, HM.out, tk_snoc]; exact hS8⟩
          case measure => simp [intOf]; omega
      · have t0 : ((s[k].toNat : Int) == 32) = true := by
          unfold blankB at hbl
          have := of_decide_eq_true hbl
          simp; omega
        have HE : Hid (ts ++ toks s (k + 1) = toks s 0) := by rw [← HT.out, toks_blank hlt hbl]; exact Lib.hid rfl
        clear hbl HT
        go_wp2_with fail
        go_roundw
        case rel => exact ⟨k + 1, ts, hlt, by go_num, by rw [HM.out]; omega, HE, by rw [HM.out]; exact hS⟩
        case measure => simp [intOf]; omega
    · obtain rfl : k = s.size := by omega
      have HE : Hid (ts ++ [((⟨#[]⟩ : ByteArray), s.size)] = toks s 0) := by rw [← HT.out, toks_end]; exact Lib.hid rfl
      clear HT
      go_wp2_with (first | (at_builtin; refine wpList_append_own_at _ rfl _ _ 161 rfl w.heap.size 164 j0 (.agg #[.string ⟨#[]⟩, .int .i64 0]) 2 24 Tryz.underlying161 hj hy0 hy1 hy2 rfl (by decide) _ _ _ rfl (HO.alloc _) ⟨_, 0, none⟩ 1 1 [.string ⟨#[]⟩, .int .i64 s.size] rfl rfl (World.news_of_block (heap_alloc_new _ _)) (one2t rfl rfl) (by unfold maxLen; omega) (by omega) (by simp; omega) ?_; intro v' w8 hown' hgrow _ hblk; have hS8 := (hS.alloc _).append hown' hgrow hblk; clear hown' hgrow hblk))
      go_ret
      exact ⟨_, rfl, by rw [← HE.out, List.length_append, HM.out, tk_snoc]; exact hS8.head, hS8.below⟩
end Go.Proofs.YtfhdknppldobiaaGreatDoor
