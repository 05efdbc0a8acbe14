/-
  The reference's tokens by a contract. (Printed by gen_tok.py.)
-/
import Derived.Test.YtlkapcjofgpiiaaGreatDoorZChkPure2
import Derived.Test.YtlkapcjofgpiiaaGreatDoorZRule1
import Derived.Test.YtlkapcjofgpiiaaGreatDoorZRun1
import Derived.Test.YtlkapcjofgpiiaaGreatDoorZRatMake4
namespace Go.Proofs.YtlkapcjofgpiiaaGreatDoor
open Go Go.RowKit
attribute [local go_sem ↓] Go.wp_at_zero Go.wp_at_succ

def tkC (t : Tk) : List Value := [.string t.1, .int .i64 t.2]
theorem tkC_len (t : Tk) : (tkC t).length = 2 := rfl
theorem info_tk : (Tryz.prog.info? 110).map (fun i => (i.zero, i.size, i.bytes)) = some (some (.agg #[.string ⟨#[]⟩, .int .i64 0]), 2, 24) := by kernel_rfl
theorem one2t {x y : Value} (hx : x.oneCell' = true) (hy : y.oneCell' = true) : ∀ v ∈ [x, y], v.oneCell' = true := by
  intro v hv
  simp at hv
  rcases hv with rfl | rfl
  · exact hx
  · exact hy
theorem tk_snoc (ts : List Tk) (x : ByteArray) (k : Nat) : (ts ++ [(x, k)]).flatMap tkC = ts.flatMap tkC ++ [.string x, .int .i64 k] := by
  rw [List.flatMap_append]; simp [tkC]
theorem marks_calls (c : UInt8) (_w : World) : ∃ z : Int, (markB c = decide (0 ≤ z)) ∧ ∀ W, Calls Tryz.prog 95 #[.string ⟨#[40, 41, 61, 60, 62]⟩, .int .u8 c.toNat] W fun e w' => e = .returned (.int .i64 z) ∧ W = w' := by
  refine ⟨Lib.indexByte [40, 41, 61, 60, 62] c, ?_, fun W => ?_⟩
  · have hc := Lib.contains_iff_indexByte [40, 41, 61, 60, 62] c
    rw [marks_eq] at hc
    exact hc
  · have := indexByte_calls ⟨#[40, 41, 61, 60, 62]⟩ (c.toNat : Int) W
    rw [byte_back] at this
    exact this
theorem wordIdx_calls (c : UInt8) (_w : World) : ∃ z : Int, (wordB c = decide (0 ≤ z)) ∧ ∀ W, Calls Tryz.prog 95 #[.string ⟨#[97, 98, 99, 100, 101, 102, 103, 104, 105, 106, 107, 108, 109, 110, 111, 112, 113, 114, 115, 116, 117, 118, 119, 120, 121, 122, 48, 49, 50, 51, 52, 53, 54, 55, 56, 57, 45, 95, 46]⟩, .int .u8 c.toNat] W fun e w' => e = .returned (.int .i64 z) ∧ W = w' := by
  refine ⟨Lib.indexByte wordsL_ c, ?_, fun W => ?_⟩
  · have hc := Lib.contains_iff_indexByte wordsL_ c
    rw [words_eq_] at hc
    exact hc
  · have := indexByte_calls ⟨#[97, 98, 99, 100, 101, 102, 103, 104, 105, 106, 107, 108, 109, 110, 111, 112, 113, 114, 115, 116, 117, 118, 119, 120, 121, 122, 48, 49, 50, 51, 52, 53, 54, 55, 56, 57, 45, 95, 46]⟩ (c.toNat : Int) W
    rw [byte_back] at this
    exact this
section
variable {s : ByteArray} {k : Nat}
theorem toks_blank (hlt : k < s.size) (hb : blankB s[k] = true) : toks s k = toks s (k + 1) := by rw [toks, dif_pos hlt, if_pos hb]
theorem toks_mark (hlt : k < s.size) (hb : blankB s[k] = false) (hm : markB s[k] = true) : toks s k = (s.extract k (k + 1), k) :: toks s (k + 1) := by
  rw [toks, dif_pos hlt, if_neg (by rw [hb]; decide), if_pos hm]
theorem toks_word (hlt : k < s.size) (hb : blankB s[k] = false) (hm : markB s[k] = false) (hw : wordB s[k] = true) : toks s k = (s.extract k (spanF wordB s k), k) :: toks s (spanF wordB s k) := by
  rw [toks, dif_pos hlt, if_neg (by rw [hb]; decide), if_neg (by rw [hm]; decide), dif_pos hw]
theorem toks_bad (hlt : k < s.size) (hb : blankB s[k] = false) (hm : markB s[k] = false) (hw : wordB s[k] = false) : toks s k = [(⟨#[]⟩, k)] := by
  rw [toks, dif_pos hlt, if_neg (by rw [hb]; decide), if_neg (by rw [hm]; decide), dif_neg (by rw [hw]; decide)]
theorem toks_end (s : ByteArray) : toks s s.size = [(⟨#[]⟩, s.size)] := by rw [toks, dif_neg (by omega)]
end
/-- the tokens of s, in memory of the call's own -/
def TokS (s : ByteArray) (w : World) (e : Ending) (w' : World) : Prop :=
  ∃ v, e = .returned v ∧ w'.ownsRow w.heap.size 110 2 v (toks s 0).length ((toks s 0).flatMap tkC) ∧ Below w.heap.size w w'
set_option maxRecDepth 100000 in
set_option maxHeartbeats 2000000 in
theorem tokens_calls (s : ByteArray) (w : World) (hs : s.size ≤ 100000) : Calls Tryz.prog 69 #[.string s] w (TokS s w) := by
  obtain ⟨j0, hj, hy0, hy1, hy2⟩ := info_parts info_tk
  have hS0 := (Sq.start w).nil w.heap.size 110 2
  go_enter Tryz.func69, Tryz.ntmps69
  go_wp2_with fail
  go_loopw [3, 4] (fun s3 i wr => ∃ (k : Nat) (ts : List Tk), k ≤ s.size ∧ i = .int .i64 k ∧ ts.length ≤ k ∧ Hid (ts ++ toks s k = toks s 0) ∧ Sq w wr [rOwn w.heap.size 110 2 s3 ts.length (ts.flatMap tkC)]) (fun _ i _ => s.size - (intOf i).toNat)
  case atStart => exact ⟨0, [], Nat.zero_le _, rfl, Nat.le_refl _, Lib.hid rfl, hS0⟩
  case round =>
    clear hS0
    obtain ⟨k, ts, hk, rfl, htk, HT, hS⟩ := hrel
    obtain ⟨m, hm⟩ : ∃ m, ts.length = m := ⟨_, rfl⟩
    have HM := Lib.hid hm
    rw [hm] at hS htk
    clear hm
    have HO : wr.ownsRow w.heap.size 110 2 u3 m (ts.flatMap tkC) := hS.head
    have hsz := hS.size
    by_cases hlt : k < s.size
    · have hk0 : (0 : Int) ≤ (k : Int) := by omega
      have hk1 : (k : Int) < (s.size : Int) := by omega
      cases hbl : blankB s[k]
      · have t0 : ((s[k].toNat : Int) == 32) = false := by
          unfold blankB at hbl
          have := of_decide_eq_false hbl
          simp; omega
        obtain ⟨zm, hzm, HCM⟩ := marks_calls s[k] w
        have HCM := Lib.hid HCM
        cases hmk : markB s[k]
        · have hzm0 : zm < 0 := by rw [hmk] at hzm; have := of_decide_eq_false hzm.symm; omega
          obtain ⟨zw, hzw, HCW⟩ := wordIdx_calls s[k] w
          have HCW := Lib.hid HCW
          cases hwd : wordB s[k]
          · have hzw0 : zw < 0 := by rw [hwd] at hzw; have := of_decide_eq_false hzw.symm; omega
            have HE : Hid (ts ++ [((⟨#[]⟩ : ByteArray), k)] = toks s 0) := by rw [← HT.out, toks_bad hlt hbl hmk hwd]; exact Lib.hid rfl
            clear hbl hmk hwd hzm hzw HT
            go_wp2_with (first
              | (go_at_call 95; refine (HCM.out _).mono ?_; rintro e w2 ⟨rfl, rfl⟩)
              | (go_at_call 95; refine (HCW.out _).mono ?_; rintro e w2 ⟨rfl, rfl⟩)
              | (at_builtin; refine wpList_append_own_at _ rfl _ _ 107 rfl w.heap.size 110 j0 (.agg #[.string ⟨#[]⟩, .int .i64 0]) 2 24 Tryz.underlying107 hj hy0 hy1 hy2 rfl (by decide) _ _ _ rfl (HO.alloc _) ⟨_, 0, none⟩ 1 1 [.string ⟨#[]⟩, .int .i64 k] rfl rfl (World.news_of_block (heap_alloc_new _ _)) (one2t rfl rfl) (by unfold maxLen; omega) (by omega) (by simp; omega) ?_; intro v' w8 hown' hgrow _ hblk; have hS8 := (hS.alloc _).append hown' hgrow hblk; clear hown' hgrow hblk))
            go_ret
            exact ⟨_, rfl, by rw [← HE.out, List.length_append, HM.out, tk_snoc]; exact hS8.head, hS8.below⟩
          · have hzw0 : 0 ≤ zw := by rw [hwd] at hzw; exact of_decide_eq_true hzw.symm
            obtain ⟨D, hD⟩ : ∃ D, spanF wordB s k = D := ⟨_, rfl⟩
            have hkD : k < D := by rw [← hD]; exact span_gt wordB s k hlt hwd
            have hDs : D ≤ s.size := by rw [← hD]; exact span_le _ _ _ hk
            have HE : Hid ((ts ++ [(s.extract k D, k)]) ++ toks s D = toks s 0) := by
              rw [← HT.out, toks_word hlt hbl hmk hwd, hD, List.append_assoc]; exact Lib.hid rfl
            have HD := Lib.hid hD
            clear hbl hmk hwd hzm hzw HT hD
            have hk2 : (k : Int) ≤ (D : Int) := by omega
            have hk3 : (D : Int) ≤ (s.size : Int) := by omega
            go_upto_block 3 with (first
              | (go_at_call 95; refine (HCM.out _).mono ?_; rintro e w2 ⟨rfl, rfl⟩)
              | (go_at_call 95; refine (HCW.out _).mono ?_; rintro e w2 ⟨rfl, rfl⟩))
            go_cut [5] (fun s5 W => s5 = .int .i64 D ∧ W = wr)
            case first =>
              clear HE HM HO hS hsz
              go_wp2_with fail
              go_loop [5] (fun s5 => ∃ j : Nat, j ≤ s.size ∧ k ≤ j ∧ s5 = .int .i64 j ∧ Hid (spanF wordB s j = D)) (fun s5 => s.size - (intOf s5).toNat)
              case atStart => exact ⟨k, hk, Nat.le_refl _, rfl, HD⟩
              case round =>
                obtain ⟨j, hj_, hkj, rfl, HJ⟩ := hrel
                by_cases hjl : j < s.size
                · have hj0 : (0 : Int) ≤ (j : Int) := by omega
                  have hj1 : (j : Int) < (s.size : Int) := by omega
                  obtain ⟨zj, hzj, HCJ⟩ := wordIdx_calls s[j] w
                  have HCJ := Lib.hid HCJ
                  cases hwj : wordB s[j]
                  · have hzj0 : zj < 0 := by rw [hwj] at hzj; have := of_decide_eq_false hzj.symm; omega
                    have hjD : j = D := by rw [← HJ.out, span_no wordB s j hjl hwj]
                    subst hjD
                    clear hwj hzj
                    go_wp2_with (first | (go_at_call 95; refine (HCJ.out _).mono ?_; rintro e w2 ⟨rfl, rfl⟩))
                    go_meet
                    exact ⟨rfl, rfl⟩
                  · have hzj0 : 0 ≤ zj := by rw [hwj] at hzj; exact of_decide_eq_true hzj.symm
                    have HJ2 : Hid (spanF wordB s (j + 1) = D) := by rw [← span_yes wordB s j hjl hwj]; exact HJ
                    clear hwj hzj
                    go_wp2_with (first | (go_at_call 95; refine (HCJ.out _).mono ?_; rintro e w2 ⟨rfl, rfl⟩))
                    go_round
                    case rel => exact ⟨j + 1, by omega, by omega, by go_num, HJ2⟩
                    case measure => simp [intOf]; omega
                · have hjD : j = D := by rw [← HJ.out, span_end wordB s j (by omega)]
                  subst hjD
                  go_wp2_with fail
                  go_meet
                  exact ⟨rfl, rfl⟩
            case rest =>
              obtain ⟨rfl, rfl⟩ := hcut
              go_wp2_with (first | (at_builtin; refine wpList_append_own_at _ rfl _ _ 107 rfl w.heap.size 110 j0 (.agg #[.string ⟨#[]⟩, .int .i64 0]) 2 24 Tryz.underlying107 hj hy0 hy1 hy2 rfl (by decide) _ _ _ rfl (HO.alloc _) ⟨_, 0, none⟩ 1 1 [.string (s.extract k D), .int .i64 k] rfl rfl (World.news_of_block (heap_alloc_new _ _)) (one2t rfl rfl) (by unfold maxLen; omega) (by omega) (by simp; omega) ?_; intro v' w8 hown' hgrow _ hblk; have hS8 := (hS.alloc _).append hown' hgrow hblk; clear hown' hgrow hblk))
              go_roundw
              case rel => exact ⟨D, ts ++ [(s.extract k D, k)], hDs, rfl, by rw [List.length_append, HM.out]; simp; omega, HE, by rw [List.length_append, HM.out, tk_snoc]; exact hS8⟩
              case measure => simp [intOf]; omega
        · have hzm0 : 0 ≤ zm := by rw [hmk] at hzm; exact of_decide_eq_true hzm.symm
          have HE : Hid ((ts ++ [(s.extract k (k + 1), k)]) ++ toks s (k + 1) = toks s 0) := by
            rw [← HT.out, toks_mark hlt hbl hmk, List.append_assoc]; exact Lib.hid rfl
          clear hbl hmk hzm HT
          have hk2 : (k : Int) ≤ (k : Int) + 1 := by omega
          have hk3 : (k : Int) + 1 ≤ (s.size : Int) := by omega
          go_wp2_with (first
            | (go_at_call 95; refine (HCM.out _).mono ?_; rintro e w2 ⟨rfl, rfl⟩)
            | (at_builtin; refine wpList_append_own_at _ rfl _ _ 107 rfl w.heap.size 110 j0 (.agg #[.string ⟨#[]⟩, .int .i64 0]) 2 24 Tryz.underlying107 hj hy0 hy1 hy2 rfl (by decide) _ _ _ rfl (HO.alloc _) ⟨_, 0, none⟩ 1 1 [.string (s.extract k (k + 1)), .int .i64 k] rfl rfl (World.news_of_block (heap_alloc_new _ _)) (one2t rfl rfl) (by unfold maxLen; omega) (by omega) (by simp; omega) ?_; intro v' w8 hown' hgrow _ hblk; have hS8 := (hS.alloc _).append hown' hgrow hblk; clear hown' hgrow hblk))
          go_roundw
          case rel => exact ⟨k + 1, ts ++ [(s.extract k (k + 1), k)], hlt, by go_num, by rw [List.length_append, HM.out]; simp; omega, HE, by rw [List.length_append, HM.out, tk_snoc]; exact hS8⟩
          case measure => simp [intOf]; omega
      · have t0 : ((s[k].toNat : Int) == 32) = true := by
          unfold blankB at hbl
          have := of_decide_eq_true hbl
          simp; omega
        have HE : Hid (ts ++ toks s (k + 1) = toks s 0) := by rw [← HT.out, toks_blank hlt hbl]; exact Lib.hid rfl
        clear hbl HT
        go_wp2_with fail
        go_roundw
        case rel => exact ⟨k + 1, ts, hlt, by go_num, by rw [HM.out]; omega, HE, by rw [HM.out]; exact hS⟩
        case measure => simp [intOf]; omega
    · obtain rfl : k = s.size := by omega
      have HE : Hid (ts ++ [((⟨#[]⟩ : ByteArray), s.size)] = toks s 0) := by rw [← HT.out, toks_end]; exact Lib.hid rfl
      clear HT
      go_wp2_with (first | (at_builtin; refine wpList_append_own_at _ rfl _ _ 107 rfl w.heap.size 110 j0 (.agg #[.string ⟨#[]⟩, .int .i64 0]) 2 24 Tryz.underlying107 hj hy0 hy1 hy2 rfl (by decide) _ _ _ rfl (HO.alloc _) ⟨_, 0, none⟩ 1 1 [.string ⟨#[]⟩, .int .i64 s.size] rfl rfl (World.news_of_block (heap_alloc_new _ _)) (one2t rfl rfl) (by unfold maxLen; omega) (by omega) (by simp; omega) ?_; intro v' w8 hown' hgrow _ hblk; have hS8 := (hS.alloc _).append hown' hgrow hblk; clear hown' hgrow hblk))
      go_ret
      exact ⟨_, rfl, by rw [← HE.out, List.length_append, HM.out, tk_snoc]; exact hS8.head, hS8.below⟩
end Go.Proofs.YtlkapcjofgpiiaaGreatDoor
