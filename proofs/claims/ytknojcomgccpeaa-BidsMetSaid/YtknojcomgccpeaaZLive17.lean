/-
  Lives of the stream by a contract.
-/
import Derived.Test.YtknojcomgccpeaaZSlot13
import Derived.Test.YtknojcomgccpeaaZLive10
import Derived.Test.YtknojcomgccpeaaZStream
import Derived.Deep.DeepCutAuto
import Derived.Deep.CutBlock
namespace Go.Proofs.Ytknojcomgccpeaa
open Go Go.RowKit
attribute [local go_sem ↓] Go.wp_at_zero Go.wp_at_succ

theorem one3' {x y z : Value} (hx : x.oneCell' = true) (hy : y.oneCell' = true) (hz : z.oneCell' = true) : ∀ u ∈ [x, y, z], u.oneCell' = true := by
  intro u hu
  simp at hu
  rcases hu with rfl | rfl | rfl <;> assumption
def LvOks (ys : List Lv) : Prop := ∀ y ∈ ys, LvOk y
theorem LvOks.snoc {ys : List Lv} {y : Lv} (h : LvOks ys) (hy : LvOk y) : LvOks (ys ++ [y]) := by
  intro z hz
  rcases List.mem_append.1 hz with hz | hz
  · exact h z hz
  · simp at hz; subst hz; exact hy
theorem LvOks.set {ys : List Lv} {y : Lv} (h : LvOks ys) (i : Nat) (hy : LvOk y) : LvOks (ys.set i y) := by
  intro z hz
  rcases List.mem_or_eq_of_mem_set hz with hz | hz
  · exact h z hz
  · subst hz; exact hy
theorem lvD (ys : List Lv) (y : Lv) (base : Nat) (W : World) (g n c j : Nat) (o : W.ownsRow base 103 3 (.slice (some ⟨g, 0, none⟩) n c) n (ys.flatMap lvC)) (hj : j < ys.length) (hn : j < n) (hx : ys[j] = y) :
    W.cell? ⟨g, j * 3, none⟩ = some (.int .i64 y.1) ∧ W.cell? ⟨g, j * 3 + 1, none⟩ = some (.int .i64 y.2.1) ∧ W.cell? ⟨g, j * 3 + 2, none⟩ = some (.string y.2.2) ∧
    W.frozen? ⟨g, j * 3, none⟩ = false ∧ W.frozen? ⟨g, j * 3 + 1, none⟩ = false ∧ W.frozen? ⟨g, j * 3 + 2, none⟩ = false := by
  subst hx
  exact ⟨own_cell lvC 3 lvC_len o j 0 hj hn (by omega), own_cell lvC 3 lvC_len o j 1 hj hn (by omega), own_cell lvC 3 lvC_len o j 2 hj hn (by omega), o.frozenAt _, o.frozenAt _, o.frozenAt _⟩
theorem lives_field3 {w W : World} {b K g n c j : Nat} {ys : List Lv} (h : Sp w b K W [rOwn w.heap.size 103 3 (.slice (some ⟨g, 0, none⟩) n c) n (ys.flatMap lvC)]) (hn : n = ys.length) (hj : j < ys.length) (a k : Int) (s : ByteArray) :
    Sp w b K (((W.setCell ⟨g, j * 3, none⟩ (.int .i64 a)).setCell ⟨g, j * 3 + 1, none⟩ (.int .i64 k)).setCell ⟨g, j * 3 + 2, none⟩ (.string s)) [rOwn w.heap.size 103 3 (.slice (some ⟨g, 0, none⟩) n c) n ((ys.set j (a, k, s)).flatMap lvC)] := by
  subst hn
  have h1 := h.field lvC 3 lvC_len j 0 hj (by omega) (.int .i64 a) (a, ys[j].2.1, ys[j].2.2) rfl
  have h2 := h1.field lvC 3 lvC_len j 1 (by rw [List.length_set]; exact hj) (by omega) (.int .i64 k) (a, k, ys[j].2.2) (by rw [List.getElem_set_self]; rfl)
  have h3 := h2.field lvC 3 lvC_len j 2 (by rw [List.length_set, List.length_set]; exact hj) (by omega) (.string s) (a, k, s) (by rw [List.getElem_set_self]; rfl)
  simp only [List.length_set, List.set_set] at h3
  exact h3
/-- what is live, in new memory, drawn -/
def LivesS (b K m : Nat) (w : World) (e : Ending) (w' : World) : Prop :=
  ∃ (v : Value) (ys : List Lv), e = .returned v ∧ ys.length ≤ m ∧ LvOks ys ∧ Sp w b K w' [rOwn w.heap.size 103 3 v ys.length (ys.flatMap lvC)]

set_option maxRecDepth 100000 in
set_option maxHeartbeats 2000000 in
theorem lives_calls (b K : Nat) (A : Option Addr) (n c : Nat) (xs : List Slt) (w : World) (hs : Strm w b K) (hK : K ≤ 900000) (hr : Slts w b A n c xs) (hn : n ≤ 100) :
    Calls Try.prog 20 #[.pointer (some ⟨b, 0, none⟩), .slice A n c] w (LivesS b (K + 6 * n + 20) (2 * n) w) := by
  obtain ⟨hl, hnc, hcm, hcells⟩ := hr.rd.cells sltC_len (by omega)
  obtain ⟨i0, hi, hz0, hz1, hz2⟩ := info_parts info_lv
  unfold maxLen at hcm
  have HL := Lib.hid hl
  have HC := Lib.hid hcells
  have HR := Lib.hid hr
  clear hcells hl hr
  go_enter Try.func20, Try.ntmps20
  go_wp2_with fail
  refine (sp_pickL (Sp.start hs) #[.int .i64 0, .int .i64 0, .int .i64 5] 3 3 0 5 (by decide) (by decide) rfl rfl (by omega)).mono ?_
  rintro e w1 ⟨_, rfl, ⟨a0, rfl, ha0, ha5⟩, hS1⟩
  go_wp2_with fail
  refine (order_calls b _ n _ (by omega) hS1.strm (by omega)).mono ?_
  rintro e w2 ⟨v, idx, rfl, hown, hnum, hs2, hb2⟩
  have hS2 := (hS1.own hs2 hb2 hown).nil w.heap.size 103 3
  clear hS1 hs2 hb2 hs
  obtain ⟨AI, cI, hv⟩ := own_form hown
  subst hv
  go_upto_block 0 with (fail)
  go_cut [5] (fun s5 W => ∃ ys : List Lv, ys.length ≤ 2 * n ∧ LvOks ys ∧ Sp w b (K + 6 * n + 5) W [rOwn w.heap.size 103 3 s5 ys.length (ys.flatMap lvC)])
  case first =>
    simp only [Int.toNat_natCast] at hS2
    clear hown
    go_wp2_with fail
    go_loopw [5, 6, 18] (fun v s6 i wr => ∃ (k : Nat) (ys : List Lv) (a : Int), k ≤ n ∧ i = .int .i64 k ∧ s6 = .int .i64 a ∧ 0 ≤ a ∧ a ≤ 5 + 310 * (k : Int) ∧ ys.length ≤ 2 * k ∧ LvOks ys ∧ Sp w b (K + 1 + n + 5 * k) wr [rOwn w.heap.size 103 3 v ys.length (ys.flatMap lvC), rOwn w.heap.size 3 1 (.slice AI n cI) n idx]) (fun _ _ i _ => n - (intOf i).toNat)
    case atStart => exact ⟨0, [], a0, Nat.zero_le _, rfl, rfl, ha0, by simpa using ha5, by simp, (by intro y hy; cases hy), hS2⟩
    case round =>
      clear hS2
      obtain ⟨k, ys, a, hk, rfl, rfl, hal, hau, hyl, hyo, hS⟩ := hrel
      by_cases hlt : k < n
      · have hidx : wr.ownsRow w.heap.size 3 1 (.slice AI n cI) n idx := hS.nth 1 rfl
        obtain ⟨gi, ci, hv, _⟩ := hidx.form (by omega)
        injection hv with hAI _ hcI
        subst hAI hcI
        have hxl := hidx.1
        obtain ⟨z, hz, z0, z4⟩ := hnum _ (List.getElem_mem (show k < idx.length by omega))
        obtain ⟨i, rfl⟩ := Int.eq_ofNat_of_zero_le z0
        have ck : wr.cell? ⟨gi, k, none⟩ = some (.int .i64 i) := by rw [hidx.cellAt k (by omega), List.getElem?_eq_getElem (by omega), hz]
        have hin : i < n := by omega
        have hix : i < xs.length := by rw [HL.out]; exact hin
        obtain ⟨g, o, hA, hgb, hcs⟩ := HC.out (by omega)
        subst hA
        obtain ⟨x, hx⟩ : ∃ x, xs[i] = x := ⟨_, rfl⟩
        have HXK : Hid (∀ W, Bx w.heap.size b w W → W.cell? ⟨g, o + i * 5, none⟩ = some (.string x.key)) := fun W hW => by
          have := hcs i hix 0 (by omega)
          rw [hx] at this
          exact hW.cell this hgb
        have hxk : x.key.size ≤ 1000 := by rw [← hx]; exact (HR.out.ok _ (List.getElem_mem hix)).hk
        have hk0 : (0 : Int) ≤ (k : Int) := by omega
        have hkn : (k : Int) < (n : Int) := by omega
        have hi0 : (0 : Int) ≤ (i : Int) := by omega
        have hii : (i : Int) < (n : Int) := by omega
        clear hidx hcs hx hz hxl
        go_wp2_with fail
        refine (sp_flip hS 3 (by omega) (by omega) (by omega)).mono ?_
        rintro e w3 ⟨_, rfl, ⟨f3, rfl⟩, hS3⟩
        clear hS ck
        cases f3
        · go_wp2_with fail
          refine (sp_flip hS3 4 (by omega) (by omega) (by omega)).mono ?_
          rintro e w4 ⟨_, rfl, ⟨f4, rfl⟩, hS4⟩
          clear hS3
          have x4 := HXK.out w4 hS4.bx
          have hsz4 := hS4.size
          have HO : w4.ownsRow w.heap.size 103 3 u5 ys.length (ys.flatMap lvC) := hS4.head
          cases f4
          · go_wp2_with (first
              | (at_builtin; refine wpList_append_own_at _ rfl _ _ 47 rfl w.heap.size 103 i0 (.agg #[.int .i64 0, .int .i64 0, .string ⟨#[]⟩]) 3 32 Try.underlying47 hi hz0 hz1 hz2 rfl (by decide) _ _ _ rfl (HO.alloc _) ⟨w4.heap.size, 0, none⟩ 1 1 [.int .i64 a, .int .i64 1, .string x.key] rfl rfl (World.news_of_block (heap_alloc_new _ _)) (one3' rfl rfl rfl) (by unfold maxLen; omega) (by omega) (by simp; omega) ?_; intro v' w8 hown' hgrow _ hblk; have hS8 := (hS4.alloc _).append hown' hgrow hblk; clear hown' hgrow hblk))
            have hS9 : Sp w b (K + 1 + n + 5 * k + 2) w8 [rOwn w.heap.size 103 3 v' (ys ++ [(a, 1, x.key)]).length ((ys ++ [(a, 1, x.key)]).flatMap lvC), rOwn w.heap.size 3 1 (.slice (some ⟨gi, 0, none⟩) n cI) n idx] := by
              rw [flat_snoc, List.length_append]; exact hS8
            clear hS8 HO x4 hS4
            refine (sp_pickL hS9 #[.int .i64 0, .int .i64 5, .int .i64 60, .int .i64 120, .int .i64 300] 3 5 0 300 (by decide) (by decide) rfl rfl (by omega)).mono ?_
            rintro e w9 ⟨_, rfl, ⟨d, rfl, hd0, hd1⟩, hS10⟩
            clear hS9
            go_wp2_with fail
            refine (sp_flip hS10 6 (by omega) (by omega) (by omega)).mono ?_
            rintro e w10 ⟨_, rfl, ⟨f6, rfl⟩, hS11⟩
            clear hS10
            have hy1 := hyo.snoc (y := (a, 1, x.key)) ⟨⟨by simp; omega, by simp; omega⟩, ⟨by simp, by simp⟩, hxk⟩
            cases f6
            · have x9 := HXK.out w10 hS11.bx
              have hsz9 := hS11.size
              obtain ⟨Q, hQ⟩ : ∃ Q, ys ++ [(a, 1, x.key)] = Q := ⟨_, rfl⟩
              have hQl : Q.length = ys.length + 1 := by rw [← hQ]; simp
              rw [hQ] at hS11 hy1
              have HO2 : w10.ownsRow w.heap.size 103 3 v' Q.length (Q.flatMap lvC) := hS11.head
              have HQL := Lib.hid hQl
              have hQb : Q.length ≤ 2 * k + 1 := by omega
              clear hQ hQl
              go_wp2_with (first
                | (at_builtin; refine wpList_append_own_at _ rfl _ _ 47 rfl w.heap.size 103 i0 (.agg #[.int .i64 0, .int .i64 0, .string ⟨#[]⟩]) 3 32 Try.underlying47 hi hz0 hz1 hz2 rfl (by decide) _ _ _ rfl (HO2.alloc _) ⟨w10.heap.size, 0, none⟩ 1 1 [.int .i64 (a + d), .int .i64 2, .string x.key] rfl rfl (World.news_of_block (heap_alloc_new _ _)) (one3' rfl rfl rfl) (by unfold maxLen; omega) (by omega) (by simp; omega) ?_; intro v2 w11 hown' hgrow _ hblk; have hS12 := (hS11.alloc _).append hown' hgrow hblk; clear hown' hgrow hblk))
              have hS13 : Sp w b (K + 1 + n + 5 * k + 4) w11 [rOwn w.heap.size 103 3 v2 (Q ++ [(a + d, 2, x.key)]).length ((Q ++ [(a + d, 2, x.key)]).flatMap lvC), rOwn w.heap.size 3 1 (.slice (some ⟨gi, 0, none⟩) n cI) n idx] := by
                rw [flat_snoc, List.length_append]; exact hS12
              refine (sp_pickL hS13 #[.int .i64 0, .int .i64 0, .int .i64 10] 3 3 0 10 (by decide) (by decide) rfl rfl (by omega)).mono ?_
              rintro e w12 ⟨_, rfl, ⟨d2, rfl, he0, he1⟩, hS14⟩
              clear hS13 hS12 hS11 HO2
              go_wp2_with fail
              go_roundw
              case rel => exact ⟨k + 1, _, a + d + d2, by omega, by go_num, rfl, by omega, by omega, by simp; omega, hy1.snoc (y := (a + d, 2, x.key)) ⟨⟨by simp; omega, by simp; omega⟩, ⟨by simp, by simp⟩, hxk⟩, hS14.more (by omega)⟩
              case measure => simp [intOf]; omega
            · go_wp2_with fail
              go_meet
              exact ⟨_, by simp; omega, hy1, (hS11.drop 1 rfl rfl).more (by omega)⟩
          · go_wp2_with (first
              | (at_builtin; refine wpList_append_own_at _ rfl _ _ 47 rfl w.heap.size 103 i0 (.agg #[.int .i64 0, .int .i64 0, .string ⟨#[]⟩]) 3 32 Try.underlying47 hi hz0 hz1 hz2 rfl (by decide) _ _ _ rfl (HO.alloc _) ⟨w4.heap.size, 0, none⟩ 1 1 [.int .i64 a, .int .i64 3, .string x.key] rfl rfl (World.news_of_block (heap_alloc_new _ _)) (one3' rfl rfl rfl) (by unfold maxLen; omega) (by omega) (by simp; omega) ?_; intro v' w8 hown' hgrow _ hblk; have hS8 := (hS4.alloc _).append hown' hgrow hblk; clear hown' hgrow hblk))
            have hS9 : Sp w b (K + 1 + n + 5 * k + 2) w8 [rOwn w.heap.size 103 3 v' (ys ++ [(a, 3, x.key)]).length ((ys ++ [(a, 3, x.key)]).flatMap lvC), rOwn w.heap.size 3 1 (.slice (some ⟨gi, 0, none⟩) n cI) n idx] := by
              rw [flat_snoc, List.length_append]; exact hS8
            go_roundw
            case rel => exact ⟨k + 1, _, a, by omega, by go_num, rfl, hal, by omega, by simp; omega, hyo.snoc (y := (a, 3, x.key)) ⟨⟨by simp; omega, by simp; omega⟩, ⟨by simp, by simp⟩, hxk⟩, hS9.more (by omega)⟩
            case measure => simp [intOf]; omega
        · go_wp2_with fail
          go_roundw
          case rel => exact ⟨k + 1, ys, a, by omega, by go_num, rfl, hal, by omega, by omega, hyo, hS3.more (by omega)⟩
          case measure => simp [intOf]; omega
      · obtain rfl : k = n := by omega
        go_wp2_with fail
        go_meet
        exact ⟨ys, hyl, hyo, (hS.drop 1 rfl rfl).more (by omega)⟩
  case rest =>
    obtain ⟨ys, hyn, hyo, hS⟩ := hcut
    have ho : World.ownsRow wc _ _ _ _ _ _ := hS.head
    obtain ⟨A5, c5, hv⟩ := own_form ho
    subst hv
    clear ho
    obtain ⟨L, hL⟩ : ∃ L, ys.length = L := ⟨_, rfl⟩
    rw [hL] at hS hyn ⊢
    by_cases h0 : L = 0
    · subst h0
      go_wp2_with fail
      go_ret
      exact ⟨_, ys, rfl, by omega, hyo, by rw [hL]; exact hS.more (by omega)⟩
    · have hl0 : (0 : Int) < (L : Int) := by omega
      go_wp2_with fail
      refine (sp_flip hS 8 (by omega) (by omega) (by omega)).mono ?_
      rintro e w3 ⟨_, rfl, ⟨fv, rfl⟩, hS3⟩
      clear hS
      cases fv
      · go_wp2_with fail
        go_ret
        exact ⟨_, ys, rfl, by omega, hyo, by rw [hL]; exact hS3.more (by omega)⟩
      · go_wp2_with fail
        refine (sp_next hS3 L (by omega) (by omega) (by omega)).mono ?_
        rintro e w4 ⟨_, rfl, ⟨jv, rfl, jv0, jv1⟩, hS4⟩
        obtain ⟨j, rfl⟩ := Int.eq_ofNat_of_zero_le jv0
        have hjl : j < L := by omega
        have hjr : j < ys.length := by omega
        obtain ⟨g, cap, hv, _⟩ := World.ownsRow.form (show w4.ownsRow _ _ _ (.slice A5 L c5) L _ from hS4.head) (by omega)
        injection hv with hA _ hc
        subst hA hc
        have hj0 : (0 : Int) ≤ (j : Int) := by omega
        have hj1 : (j : Int) < (L : Int) := by omega
        clear hS3
        go_wp2_with fail
        obtain ⟨y, hy⟩ : ∃ y, ys[j] = y := ⟨_, rfl⟩
        have hyk : y.2.2.size ≤ 1000 := by rw [← hy]; exact (hyo _ (List.getElem_mem hjr)).2.2
        obtain ⟨m0, m1, m2, n0, n1, n2⟩ := lvD ys y w.heap.size w4 g L c5 j hS4.head hjr hjl hy
        have HD : Hid (∀ W l K', Sp w b K' W l → l[l.length - 1]? = some (rOwn w.heap.size 103 3 (.slice (some ⟨g, 0, none⟩) L c5) L (ys.flatMap lvC)) →
            W.cell? ⟨g, j * 3, none⟩ = some (.int .i64 y.1) ∧ W.cell? ⟨g, j * 3 + 1, none⟩ = some (.int .i64 y.2.1) ∧ W.cell? ⟨g, j * 3 + 2, none⟩ = some (.string y.2.2) ∧
            W.frozen? ⟨g, j * 3, none⟩ = false ∧ W.frozen? ⟨g, j * 3 + 1, none⟩ = false ∧ W.frozen? ⟨g, j * 3 + 2, none⟩ = false) := fun W l K' h hl => lvD ys y w.heap.size W g L c5 j (h.nth _ hl) hjr hjl hy
        have HO1 : Hid (∀ W l, Sp w b (K + 6 * n + 5 + 1 + 1) W l → Calls Try.prog 60 #[.pointer (some ⟨b, 0, none⟩), .int .i64 0, .int .i64 300] W (SpS (IsInt (-1099511627776) 1099511627776) w b (K + 6 * n + 5 + 1 + 1 + 2) l)) := fun W l h => sp_odd h 0 300 (by omega) (by omega) (by omega) (by omega)
        have HO2 : Hid (∀ W l, Sp w b (K + 6 * n + 5 + 1 + 1 + 2) W l → Calls Try.prog 60 #[.pointer (some ⟨b, 0, none⟩), .int .i64 1, .int .i64 3] W (SpS (IsInt (-1099511627776) 1099511627776) w b (K + 6 * n + 5 + 1 + 1 + 2 + 2) l)) := fun W l h => sp_odd h 1 3 (by omega) (by omega) (by omega) (by omega)
        have hL3 : ∀ z ∈ (#[.string y.2.2, .string ⟨#[122, 122]⟩, .string ⟨#[115, 97]⟩] : Array Value).toList, ∃ s, z = .string s ∧ s.size ≤ 1000 := lit_v hyk (strLit_ok (cs := #[.string ⟨#[122, 122]⟩, .string ⟨#[115, 97]⟩]) rfl)
        have HS0 : Hid (∀ W, Sp w b (K + 6 * n + 5 + 1 + 1 + 2 + 2) W [rOwn w.heap.size 103 3 (.slice (some ⟨g, 0, none⟩) L c5) L (ys.flatMap lvC)] → Calls Try.prog 13 #[.pointer (some ⟨b, 0, none⟩), .slice (some ⟨W.heap.size, 0, none⟩) 3 3] (W.alloc (.cells #[.string y.2.2, .string ⟨#[122, 122]⟩, .string ⟨#[115, 97]⟩] 9)) (SpS IsStr w b (K + 6 * n + 5 + 1 + 1 + 2 + 2 + 1) [rOwn w.heap.size 103 3 (.slice (some ⟨g, 0, none⟩) L c5) L (ys.flatMap lvC)])) := fun W h =>
          sp_someL h #[.string y.2.2, .string ⟨#[122, 122]⟩, .string ⟨#[115, 97]⟩] 9 3 (by decide) (by decide) rfl hL3 (by omega)
        have HS1 : Hid (∀ W G, Sp w b (K + 6 * n + 5 + 1 + 1 + 2 + 2) W [rBlk G 9 #[.string y.2.2, .string ⟨#[122, 122]⟩, .string ⟨#[115, 97]⟩], rOwn w.heap.size 103 3 (.slice (some ⟨g, 0, none⟩) L c5) L (ys.flatMap lvC)] → Calls Try.prog 13 #[.pointer (some ⟨b, 0, none⟩), .slice (some ⟨G, 0, none⟩) 3 3] W (SpS IsStr w b (K + 6 * n + 5 + 1 + 1 + 2 + 2 + 1) [rOwn w.heap.size 103 3 (.slice (some ⟨g, 0, none⟩) L c5) L (ys.flatMap lvC)])) := fun W G h =>
          (sp_some h 0 (g := G) (n := 3) (t := 9) (cs := #[.string y.2.2, .string ⟨#[122, 122]⟩, .string ⟨#[115, 97]⟩]) rfl (by decide) (by decide) rfl hL3 (by omega)).mono (fun e w' ⟨v, he, h1, hs⟩ => ⟨v, he, h1, hs.tail⟩)
        have hT0 := hS4.drew
        have hT0a := (hS4.add #[.string y.2.2, .string ⟨#[122, 122]⟩, .string ⟨#[115, 97]⟩] 9).drew
        have HYO := Lib.hid hyo
        have hlY : L = ys.length := hL.symm
        have HLY := Lib.hid hlY
        clear hS4 hL3 hy hyo hL hlY hyk
        go_region_law (first
          | (go_simp; go_at_call 60; ((with_reducible refine (HO1.out _ _ hT0).mono ?_); rintro e w5 ⟨_, rfl, ⟨p, rfl, p0, p1⟩, hT1⟩; obtain ⟨m0, m1, m2, n0, n1, n2⟩ := HD.out _ _ _ hT1 rfl))
          | (go_simp; go_at_call 60; ((with_reducible refine (HO1.out _ _ hT0a).mono ?_); rintro e w5 ⟨_, rfl, ⟨p, rfl, p0, p1⟩, hT1⟩; obtain ⟨m0, m1, m2, n0, n1, n2⟩ := HD.out _ _ _ hT1 rfl))
          | (go_simp; go_at_call 60; ((with_reducible refine (HO2.out _ _ hT1).mono ?_); rintro e w6 ⟨_, rfl, ⟨q, rfl, q0, q1⟩, hT2⟩; obtain ⟨m0, m1, m2, n0, n1, n2⟩ := HD.out _ _ _ hT2 rfl))
          | (go_simp; go_at_call 60; ((with_reducible refine (HO2.out _ _ (hT1.add #[.string y.2.2, .string ⟨#[122, 122]⟩, .string ⟨#[115, 97]⟩] 9)).mono ?_); rintro e w6 ⟨_, rfl, ⟨q, rfl, q0, q1⟩, hT2⟩; obtain ⟨m0, m1, m2, n0, n1, n2⟩ := HD.out _ _ _ hT2 rfl))
          | (go_simp; go_at_call 13; ((with_reducible refine (HS0.out _ hT2).mono ?_); rintro e w7 ⟨_, rfl, ⟨s1, rfl, hs1⟩, hU⟩; obtain ⟨m0, m1, m2, n0, n1, n2⟩ := HD.out _ _ _ hU rfl))
          | (go_simp; go_at_call 13; ((with_reducible refine (HS1.out _ _ hT2).mono ?_); rintro e w7 ⟨_, rfl, ⟨s1, rfl, hs1⟩, hU⟩; obtain ⟨m0, m1, m2, n0, n1, n2⟩ := HD.out _ _ _ hU rfl)))
        all_goals
          have hV := lives_field3 hU HLY.out hjr p q s1
          go_wp2_with fail
          go_ret
          refine ⟨_, ys.set j (p, q, s1), rfl, by rw [List.length_set, ← HLY.out]; omega, HYO.out.set j ⟨(⟨by omega, by omega⟩ : -2199023255552 ≤ p ∧ p ≤ 2199023255552), (⟨by omega, by omega⟩ : -2199023255552 ≤ q ∧ q ≤ 2199023255552), hs1⟩, ?_⟩
          rw [List.length_set, ← HLY.out]
          exact hV.more (by omega)
end Go.Proofs.Ytknojcomgccpeaa
