/-
  AdvanceOf of the reference by a contract.
-/
import Derived.Test.YtejadhehmcifoaaZAdv2
import Derived.Test.YtejadhehmcifoaaZMemI
namespace Go.Proofs.Ytejadhehmcifoaa
open Go Go.RowKit
attribute [local go_sem] run_ixa run_ixb

theorem advE_form {gs : List Gm} {ws : List ByteArray} (h : gs.length ∉ pw6) : advE gs ws = 3 := by
  unfold advE
  rw [if_neg h]
theorem one1A {x : Value} (hx : x.oneCell' = true) : ∀ u ∈ [x], u.oneCell' = true := by
  intro u hu
  simp at hu
  subst hu
  exact hx
theorem info_strA : (Try.prog.info? 9).map (fun i => (i.zero, i.size, i.bytes)) = some (some (.string ⟨#[]⟩), 1, 16) := by kernel_rfl
theorem memI_pw (n : Nat) : memI [2, 4, 8, 16, 32, 64] (n : Int) = decide (n ∈ pw6) := by
  rw [memI_dec, decide_eq_decide]
  simp only [pw6, List.mem_cons, List.not_mem_nil, or_false]
  constructor <;> intro h <;> omega
theorem twB_two {l : List ByteArray} {x y : ByteArray} (h : (emB x && emB y) = false) : twB l (x, y) = ((!emB x && memS l x) || (!emB y && memS (l ++ [x]) y)) := by
  unfold twB
  have hm : memS (l ++ [x]) y = (memS l y || eqS y x || decide (x = y)) := by
    unfold memS
    rw [List.any_append]
    simp only [List.any_cons, List.any_nil, Bool.or_false]
    have : eqS y x = decide (x = y) := by
      rw [Bool.eq_iff_iff, eqS_iff, decide_eq_true_iff]
      exact eq_comm
    rw [this]
    cases decide (x = y) <;> simp
  rw [hm]
  by_cases hxy : x = y
  · subst hxy
    have he : eqS x x = true := (eqS_iff _ _).2 rfl
    rw [Bool.and_self] at h
    rw [h, he]
    cases memS l x <;> simp
  · have he : eqS y x = false := by
      cases hq : eqS y x
      · rfl
      · exact absurd ((eqS_iff _ _).1 hq).symm hxy
    rw [he, decide_eq_false hxy]
    cases emB x <;> cases memS l x <;> cases emB y <;> cases memS l y <;> simp

set_option maxRecDepth 100000 in
set_option maxHeartbeats 4000000 in
theorem advanceQ_calls (b : Nat) (A A2 : Option Addr) (n c n2 c2 : Nat) (gs : List Gm) (ws : List ByteArray) (w : World) (hr : Rd w b 2 (.slice A n c) n (gs.flatMap gmC)) (hr2 : Rd w b 1 (.slice A2 n2 c2) n2 (strsV ws))
    (hk : ∀ g ∈ gs, g.1.size ≤ 4000 ∧ g.2.size ≤ 4000) (hb : b < w.heap.size) :
    Calls Try.prog 14 #[.slice A n c, .slice A2 n2 c2] w (AdvS gs ws w) := by
  obtain ⟨hl, hnc, hcm, hcells⟩ := hr.cells gmC_len (by omega)
  obtain ⟨hl2, hnc2, hcm2, hcells2⟩ := strs_cells hr2
  unfold maxLen at hcm hcm2
  have HCI : Hid (Calls Try.prog 44 #[.slice (some ⟨w.heap.size, 0, none⟩) 6 6, .int .i64 (n : Int)] (w.alloc (.cells #[.int .i64 2, .int .i64 4, .int .i64 8, .int .i64 16, .int .i64 32, .int .i64 64] 3)) (QRet (.bool (decide (n ∈ pw6))) (w.alloc (.cells #[.int .i64 2, .int .i64 4, .int .i64 8, .int .i64 16, .int .i64 32, .int .i64 64] 3)))) := Lib.hid (by
    have := containsI_calls b _ 6 6 [2, 4, 8, 16, 32, 64] (n : Int) _ (Rd.lit0 (w := w) (b := b) (cs := #[.int .i64 2, .int .i64 4, .int .i64 8, .int .i64 16, .int .i64 32, .int .i64 64]) (t := 3) (size := 1) (n := 6) hb (by decide) rfl)
    rw [memI_pw] at this
    exact this)
  have hb1 : Below w.heap.size w (w.alloc (.cells #[.int .i64 2, .int .i64 4, .int .i64 8, .int .i64 16, .int .i64 32, .int .i64 64] 3)) := (Below.refl _ _).alloc (Nat.le_refl _) _
  by_cases hp : n ∈ pw6
  · rw [decide_eq_true hp] at HCI
    have hn64 : 2 ≤ n ∧ n ≤ 64 := by
      simp [pw6] at hp
      omega
    have HE0 := Lib.hid (show advE gs ws = if advG [] gs = 0 then if ws.length = gs.length then advW gs ws else 3 else advG [] gs by unfold advE; rw [if_pos (by rw [hl]; exact hp)])
    have HF : Hid (advG [] gs = advG (flatG (gs.take 0)) (gs.drop 0)) := Lib.hid rfl
    have HL := Lib.hid hl
    have HL2 := Lib.hid hl2
    have HC := Lib.hid hcells
    have HC2 := Lib.hid hcells2
    have HP := Lib.hid hp
    have HS0 := Lib.hid (((Sq.start w).callB hb1).nil w.heap.size 9 1)
    clear hl hl2 hcells hcells2 hp hb1
    go_enter Try.func14, Try.ntmps14
    go_wp2_with fail
    refine HCI.out.mono ?_
    rintro e w1 ⟨rfl, nq, rfl⟩
    have hS0 : Sq w _ [rOwn w.heap.size 9 1 (.slice none 0 0) (2 * 0) (strsV (flatG (gs.take 0)))] := HS0.out.drewN nq
    go_wp2_with fail
    go_loopw [6, 23] (fun v i wr => ∃ k : Nat, k ≤ n ∧ i = .int .i64 k ∧ Hid (advG [] gs = advG (flatG (gs.take k)) (gs.drop k)) ∧ Sq w wr [rOwn w.heap.size 9 1 v (2 * k) (strsV (flatG (gs.take k)))]) (fun _ i _ => n - (intOf i).toNat)
    case atStart => exact ⟨0, Nat.zero_le _, rfl, HF, hS0⟩
    case round =>
      clear HF hS0
      obtain ⟨k, hk', rfl, HF, hS⟩ := hrel
      by_cases hlt : k < n
      · have hkr : k < gs.length := by rw [HL.out]; exact hlt
        obtain ⟨g, o, hA, hgb, hcs⟩ := HC.out (by omega)
        subst hA
        have d0 := below_cell hS.below (hcs k hkr 0 (by omega))
        have d1 := below_cell hS.below (hcs k hkr 1 (by omega))
        have hst := HF.out.trans (advG_step gs k hkr)
        have hsz := hk _ (List.getElem_mem hkr)
        have hfl : Hid (flatG (gs.take (k + 1)) = flatG (gs.take k) ++ [gs[k].1] ++ [gs[k].2]) := Lib.hid (by rw [List.take_succ_eq_append_getElem hkr]; unfold flatG; rw [List.flatMap_append]; simp)
        obtain ⟨q, hq⟩ : ∃ q, gs[k] = q := ⟨_, rfl⟩
        rw [hq] at d0 d1 hst hsz hfl
        obtain ⟨x, y⟩ := q
        replace d0 : wr.cell? ⟨g, o + k * 2, none⟩ = some (.string x) := d0
        replace d1 : wr.cell? ⟨g, o + k * 2 + 1, none⟩ = some (.string y) := d1
        simp only at hst hsz hfl
        obtain ⟨hxz, hyz⟩ := hsz
        have hk0 : (0 : Int) ≤ (k : Int) := by omega
        have hk1 : (k : Int) < (n : Int) := by omega
        have hS1 := (hS.add #[.string x, .string y] 35).front 1 rfl rfl
        have HFL := Lib.hid hfl.out
        have HST := Lib.hid hst
        clear hcs hq hS hfl hst
        obtain ⟨l, hll⟩ : ∃ l, flatG (gs.take k) = l := ⟨_, rfl⟩
        rw [hll] at hS1 HST HFL
        clear hll
        go_upto_region 7 with (fail)
        replace hS1 : Sq w (wr.alloc (.cells #[.string x, .string y] 35)) [rOwn w.heap.size 9 1 u6 (2 * k) (strsV l), rBlk wr.heap.size 35 #[.string x, .string y]] := hS1
        obtain ⟨gx, hgx⟩ : ∃ gx, wr.heap.size = gx := ⟨_, rfl⟩
        rw [hgx] at hS1 ⊢
        obtain ⟨W, hW⟩ : ∃ W, wr.alloc (.cells #[.string x, .string y] 35) = W := ⟨_, rfl⟩
        rw [hW] at hS1 ⊢
        clear hW
        have z0 : W.cell? ⟨gx, 0, none⟩ = some (.string x) := (show Blk W gx 35 #[.string x, .string y] from hS1.nth 1 rfl).cell 0
        have z1 : W.cell? ⟨gx, 1, none⟩ = some (.string y) := (show Blk W gx 35 #[.string x, .string y] from hS1.nth 1 rfl).cell 1
        have HKX := Lib.hid (keyQ_calls x W (by unfold maxLen; omega))
        have HKY := Lib.hid (keyQ_calls y W (by unfold maxLen; omega))
        obtain ⟨KX, hKX⟩ : ∃ B, keyB x.data.toList = B := ⟨_, rfl⟩
        obtain ⟨KY, hKY⟩ : ∃ B, keyB y.data.toList = B := ⟨_, rfl⟩
        rw [hKX] at HKX
        rw [hKY] at HKY
        obtain ⟨BX, hBX⟩ : ∃ B, (!emB x && !KX) = B := ⟨_, rfl⟩
        obtain ⟨BY, hBY⟩ : ∃ B, (!emB y && !KY) = B := ⟨_, rfl⟩
        have hbad : badB (x, y) = (BX || BY) := by unfold badB; rw [hKX, hKY, hBX, hBY]
        rw [hbad] at HST
        have HBX := Lib.hid hBX
        have HBY := Lib.hid hBY
        clear hKX hKY hBX hBY hbad d0 d1
        go_wp2_with fail
        go_loopw [28] (fun i V => ∃ j : Nat, j ≤ 2 ∧ i = .int .i64 j ∧ (1 ≤ j → BX = false) ∧ (2 ≤ j → BY = false) ∧ V = W) (fun i _ => 2 - (intOf i).toNat)
        case atStart => exact ⟨0, by omega, rfl, (fun h => absurd h (by decide)), (fun h => absurd h (by decide)), rfl⟩
        case round =>
          obtain ⟨j, hj, rfl, hj1, hj2, rfl⟩ := hrel
          rcases (show j = 0 ∨ j = 1 ∨ j = 2 by omega) with rfl | rfl | rfl
          · by_cases h0 : x = ⟨#[]⟩
            · have hb0 := HBX.out
              rw [emB_t.2 h0] at hb0
              simp at hb0
              subst hb0 h0
              go_wp2_with fail
              go_roundw
              case rel => exact ⟨1, by omega, rfl, by simp, by simp, by first | trivial | rfl⟩
              case measure => simp [intOf]
            · have hvb := em_list h0
              have hve : x.toList.isEmpty = false := by simpa using hvb
              have hb0 := HBX.out
              rw [emB_f.2 h0] at hb0
              cases KX
              · simp at hb0
                subst hb0
                have hg5 : advG [] gs = 5 := HST.out.trans (if_pos (by simp))
                have HE1 := Lib.hid (show advE gs ws = 5 by rw [HE0.out, if_neg (by rw [hg5]; decide), hg5])
                clear hg5
                have hB := hS1.below
                go_wp2_with fail
                refine HKX.out.mono ?_
                rintro e w2 ⟨rfl, rfl⟩
                go_wp2_with fail
                exact bodyPost_ret (v := .tuple #[.slice none 0 0, .int .i64 5]) (by simp [results, Try.results14, go_sem]) rfl (AdvS.bad HE1.out (by decide) hB)
              · simp at hb0
                subst hb0
                go_wp2_with fail
                refine HKX.out.mono ?_
                rintro e w2 ⟨rfl, rfl⟩
                go_wp2_with fail
                go_roundw
                case rel => exact ⟨1, by omega, rfl, by simp, by simp, by first | trivial | rfl⟩
                case measure => simp [intOf]
          · by_cases h0 : y = ⟨#[]⟩
            · have hb0 := HBY.out
              rw [emB_t.2 h0] at hb0
              simp at hb0
              subst hb0 h0
              go_wp2_with fail
              go_roundw
              case rel => exact ⟨2, by omega, rfl, (by first | exact (fun _ => hj1 (by omega)) | exact hj1 (by omega) | simp), by simp, by first | trivial | rfl⟩
              case measure => simp [intOf]
            · have hvb := em_list h0
              have hve : y.toList.isEmpty = false := by simpa using hvb
              have hb0 := HBY.out
              rw [emB_f.2 h0] at hb0
              cases KY
              · simp at hb0
                subst hb0
                have hg5 : advG [] gs = 5 := HST.out.trans (if_pos (by simp))
                have HE1 := Lib.hid (show advE gs ws = 5 by rw [HE0.out, if_neg (by rw [hg5]; decide), hg5])
                clear hg5
                have hB := hS1.below
                go_wp2_with fail
                refine HKY.out.mono ?_
                rintro e w2 ⟨rfl, rfl⟩
                go_wp2_with fail
                exact bodyPost_ret (v := .tuple #[.slice none 0 0, .int .i64 5]) (by simp [results, Try.results14, go_sem]) rfl (AdvS.bad HE1.out (by decide) hB)
              · simp at hb0
                subst hb0
                go_wp2_with fail
                refine HKY.out.mono ?_
                rintro e w2 ⟨rfl, rfl⟩
                go_wp2_with fail
                go_roundw
                case rel => exact ⟨2, by omega, rfl, (by first | exact (fun _ => hj1 (by omega)) | exact hj1 (by omega) | simp), by simp, by first | trivial | rfl⟩
                case measure => simp [intOf]
          · have hbx := hj1 (by omega)
            have hby := hj2 (by omega)
            subst hbx hby
            have HS1 := Lib.hid (HST.out.trans (if_neg (by decide)))
            obtain ⟨EE, hEE⟩ : ∃ B, (emB x && emB y) = B := ⟨_, rfl⟩
            rw [hEE] at HS1
            clear HST HBX HBY HKX HKY hj1 hj2
            cases EE
            · have HS2 := Lib.hid (HS1.out.trans (if_neg (by decide)))
              clear HS1
              obtain ⟨TX, hTX⟩ : ∃ B, (!emB x && memS l x) = B := ⟨_, rfl⟩
              obtain ⟨TY, hTY⟩ : ∃ B, (!emB y && memS (l ++ [x]) y) = B := ⟨_, rfl⟩
              have htw := twB_two (l := l) hEE
              rw [hTX, hTY] at htw
              rw [htw] at HS2
              have hS5 : Sq w wr [rOwn w.heap.size 9 1 u6 (2 * k + 0) (strsV (l ++ [x, y].take 0)), rBlk gx 35 #[.string x, .string y]] := by
                rw [List.take_zero, List.append_nil]
                exact hS1
              have HTX := Lib.hid hTX
              have HTY := Lib.hid hTY
              have HEE := Lib.hid hEE
              clear htw hTX hTY hEE hS1
              have hnoe : ¬ (x = ⟨#[]⟩ ∧ y = ⟨#[]⟩) := by
                rintro ⟨rfl, rfl⟩
                have := HEE.out
                simp [emB] at this
              go_upto_region 13 with (fail)
              obtain ⟨W, hW⟩ : ∃ W, wr = W := ⟨_, rfl⟩
              rw [hW] at hS5 z0 z1 ⊢
              clear hW
              go_cut [46] (fun s46 V => s46 = .bool false ∧ V = W)
              case first =>
                by_cases hx : x = ⟨#[]⟩
                · have hy : ¬ y = ⟨#[]⟩ := fun h => hnoe ⟨hx, h⟩
                  subst hx
                  have hyb := em_list hy
                  have hye : y.toList.isEmpty = false := by simpa using hyb
                  go_wp2_with fail
                  go_meet
                  exact ⟨by first | rfl | simp [hye], rfl⟩
                · have hxb := em_list hx
                  have hxe : x.toList.isEmpty = false := by simpa using hxb
                  go_wp2_with fail
                  go_meet
                  exact ⟨by first | rfl | simp [hxe], rfl⟩
              case rest =>
                obtain ⟨rfl, rfl⟩ := hcut
                go_wp2_with fail
                go_loopw [6, 48] (fun v i V => ∃ j : Nat, j ≤ 2 ∧ i = .int .i64 j ∧ (1 ≤ j → TX = false) ∧ (2 ≤ j → TY = false) ∧ Sq w V [rOwn w.heap.size 9 1 v (2 * k + j) (strsV (l ++ [x, y].take j)), rBlk gx 35 #[.string x, .string y]]) (fun _ i _ => 2 - (intOf i).toNat)
                case atStart => exact ⟨0, by omega, rfl, (fun h => absurd h (by decide)), (fun h => absurd h (by decide)), hS5⟩
                case round =>
                  clear hS5 z0 z1
                  obtain ⟨j, hj, rfl, hj1, hj2, hS⟩ := hrel
                  have hown : wr.ownsRow w.heap.size 9 1 u6 (2 * k + j) (strsV (l ++ [x, y].take j)) := hS.head
                  obtain ⟨A6, c6, hv⟩ := own_form hown
                  subst hv
                  have hsz := hS.size
                  obtain ⟨i0, hi0, hyy0, hyy1, hyy2⟩ := info_parts info_strA
                  rcases (show j = 0 ∨ j = 1 ∨ j = 2 by omega) with rfl | rfl | rfl
                  · rw [Nat.add_zero] at hS hown ⊢
                    by_cases h0 : x = ⟨#[]⟩
                    · have hb0 := HTX.out
                      rw [emB_t.2 h0] at hb0
                      simp at hb0
                      subst hb0
                      have hS2 := hS
                      have hown2 := hown
                      have hve : x.toList.isEmpty = true := by rw [h0, Lib.toList_data]; rfl
                      clear h0
                      go_wp2_with (first
                        | (at_builtin; refine wpList_append_own_at _ rfl _ _ 26 rfl w.heap.size 9 i0 (.string ⟨#[]⟩) 1 16 Try.underlying26 hi0 hyy0 hyy1 hyy2 rfl (by decide) _ _ _ rfl (hown2.alloc _) ⟨wr.heap.size, 0, none⟩ 1 1 [.string x] rfl rfl (World.news_of_block (heap_alloc_new _ _)) (one1A rfl) (by unfold maxLen; omega) (by omega) (by simp; omega) ?_; intro v' w8 hown' hgrow _ hblk; have hT8 := (hS2.alloc (.cells #[.string x] 9)).append hown' hgrow hblk; clear hown' hgrow hblk))
                      have hS9 : Sq w w8 [rOwn w.heap.size 9 1 v' (2 * k + 1) (strsV (l ++ [x, y].take 1)), rBlk gx 35 #[.string x, .string y]] := by
                        have e : strsV (l ++ [x, y].take 0) ++ [.string x] = strsV (l ++ [x, y].take 1) := by simp [strsV]
                        rw [e] at hT8
                        exact hT8
                      go_roundw
                      case rel => (first | exact ⟨_, _, _, _, _, ⟨1, (by omega), rfl, hS9⟩, rfl, rfl, rfl, rfl, rfl⟩ | exact ⟨_, _, _, _, _, ⟨1, (by omega), rfl, (by simp), hS9⟩, rfl, rfl, rfl, rfl, rfl⟩ | exact ⟨_, _, _, _, _, _, _, _, _, _, _, _, _, _, _, _, _, _, _, ⟨1, (by omega), rfl, (by simp), (by simp), hS9⟩, rfl⟩ | exact ⟨_, _, _, _, _, _, _, _, _, _, _, _, _, _, _, _, _, _, _, ⟨1, (by omega), rfl, (by simp), hS9⟩, rfl⟩)
                      case measure => simp [intOf]
                    · have hvb := em_list h0
                      have hve : x.toList.isEmpty = false := by simpa using hvb
                      have hb0 := HTX.out
                      rw [emB_f.2 h0] at hb0
                      have HCT := Lib.hid (containsS_calls b A6 _ c6 _ x wr (Rd.own (b := b) hown hb))
                      have e0 : l ++ [x, y].take 0 = l := by simp
                      rw [e0] at HCT
                      cases hm : memS l x
                      · rw [hm] at hb0 HCT
                        simp at hb0
                        subst hb0
                        clear hm e0
                        go_wp2_with fail
                        refine HCT.out.mono ?_
                        rintro e w2 ⟨rfl, nq2, rfl⟩
                        have hS2 := hS.drewN nq2
                        have hown2 : (wr.drewN nq2).ownsRow w.heap.size 9 1 (.slice A6 (2 * k) c6) (2 * k) (strsV (l ++ [x, y].take 0)) := hS2.head
                        obtain ⟨WZ, hWZ⟩ : ∃ W, wr.drewN nq2 = W := ⟨_, rfl⟩
                        have hsz2 := hS2.size
                        rw [hWZ] at hS2 hown2 hsz2 ⊢
                        clear hWZ hS hown hsz
                        go_wp2_with (first
                          | (at_builtin; refine wpList_append_own_at _ rfl _ _ 26 rfl w.heap.size 9 i0 (.string ⟨#[]⟩) 1 16 Try.underlying26 hi0 hyy0 hyy1 hyy2 rfl (by decide) _ _ _ rfl (hown2.alloc _) ⟨WZ.heap.size, 0, none⟩ 1 1 [.string x] rfl rfl (World.news_of_block (heap_alloc_new _ _)) (one1A rfl) (by unfold maxLen; omega) (by omega) (by simp; omega) ?_; intro v' w8 hown' hgrow _ hblk; have hT8 := (hS2.alloc (.cells #[.string x] 9)).append hown' hgrow hblk; clear hown' hgrow hblk))
                        have hS9 : Sq w w8 [rOwn w.heap.size 9 1 v' (2 * k + 1) (strsV (l ++ [x, y].take 1)), rBlk gx 35 #[.string x, .string y]] := by
                          have e : strsV (l ++ [x, y].take 0) ++ [.string x] = strsV (l ++ [x, y].take 1) := by simp [strsV]
                          rw [e] at hT8
                          exact hT8
                        go_roundw
                        case rel => (first | exact ⟨_, _, _, _, _, ⟨1, (by omega), rfl, hS9⟩, rfl, rfl, rfl, rfl, rfl⟩ | exact ⟨_, _, _, _, _, ⟨1, (by omega), rfl, (by simp), hS9⟩, rfl, rfl, rfl, rfl, rfl⟩ | exact ⟨_, _, _, _, _, _, _, _, _, _, _, _, _, _, _, _, _, _, _, ⟨1, (by omega), rfl, (by simp), (by simp), hS9⟩, rfl⟩ | exact ⟨_, _, _, _, _, _, _, _, _, _, _, _, _, _, _, _, _, _, _, ⟨1, (by omega), rfl, (by simp), hS9⟩, rfl⟩)
                        case measure => simp [intOf]
                      · rw [hm] at hb0 HCT
                        simp at hb0
                        subst hb0
                        have hg6 : advG [] gs = 6 := HS2.out.trans (if_pos (by simp))
                        have HE1 := Lib.hid (show advE gs ws = 6 by rw [HE0.out, if_neg (by rw [hg6]; decide), hg6])
                        have hB := hS.below
                        clear hg6 hm e0
                        go_wp2_with fail
                        refine HCT.out.mono ?_
                        rintro e w2 ⟨rfl, nq2, rfl⟩
                        go_wp2_with fail
                        exact bodyPost_ret (v := .tuple #[.slice none 0 0, .int .i64 6]) (by simp [results, Try.results14, go_sem]) rfl (AdvS.bad HE1.out (by decide) (below_drewN hB nq2))
                  · by_cases h0 : y = ⟨#[]⟩
                    · have hb0 := HTY.out
                      rw [emB_t.2 h0] at hb0
                      simp at hb0
                      subst hb0
                      have hS2 := hS
                      have hown2 := hown
                      have hve : y.toList.isEmpty = true := by rw [h0, Lib.toList_data]; rfl
                      clear h0
                      go_wp2_with (first
                        | (at_builtin; refine wpList_append_own_at _ rfl _ _ 26 rfl w.heap.size 9 i0 (.string ⟨#[]⟩) 1 16 Try.underlying26 hi0 hyy0 hyy1 hyy2 rfl (by decide) _ _ _ rfl (hown2.alloc _) ⟨wr.heap.size, 0, none⟩ 1 1 [.string y] rfl rfl (World.news_of_block (heap_alloc_new _ _)) (one1A rfl) (by unfold maxLen; omega) (by omega) (by simp; omega) ?_; intro v' w8 hown' hgrow _ hblk; have hT8 := (hS2.alloc (.cells #[.string y] 9)).append hown' hgrow hblk; clear hown' hgrow hblk))
                      have hS9 : Sq w w8 [rOwn w.heap.size 9 1 v' (2 * k + 2) (strsV (l ++ [x, y].take 2)), rBlk gx 35 #[.string x, .string y]] := by
                        have e : strsV (l ++ [x, y].take 1) ++ [.string y] = strsV (l ++ [x, y].take 2) := by simp [strsV]
                        rw [e] at hT8
                        exact hT8
                      go_roundw
                      case rel => (first | exact ⟨_, _, _, _, _, ⟨2, (by omega), rfl, hS9⟩, rfl, rfl, rfl, rfl, rfl⟩ | exact ⟨_, _, _, _, _, ⟨2, (by omega), rfl, (by simp), hS9⟩, rfl, rfl, rfl, rfl, rfl⟩ | exact ⟨_, _, _, _, _, ⟨2, (by omega), rfl, (fun _ => hj1 (by omega)), hS9⟩, rfl, rfl, rfl, rfl, rfl⟩ | exact ⟨_, _, _, _, _, ⟨2, (by omega), rfl, (fun _ => hj1 (by omega)), (by simp), hS9⟩, rfl, rfl, rfl, rfl, rfl⟩ | exact ⟨_, _, _, _, _, _, _, _, _, _, _, _, _, _, _, _, _, _, _, ⟨2, (by omega), rfl, (fun _ => hj1 (by omega)), (by simp), hS9⟩, rfl⟩ | exact ⟨_, _, _, _, _, _, _, _, _, _, _, _, _, _, _, _, _, _, _, ⟨2, (by omega), rfl, (by simp), (by simp), hS9⟩, rfl⟩ | exact ⟨_, _, _, _, _, _, _, _, _, _, _, _, _, _, _, _, _, _, _, ⟨2, (by omega), rfl, (by simp), hS9⟩, rfl⟩ | exact ⟨_, _, _, _, _, _, _, _, _, _, _, _, _, _, _, _, _, _, _, ⟨2, (by omega), rfl, (fun _ => hj1 (by omega)), hS9⟩, rfl⟩)
                      case measure => simp [intOf]
                    · have hvb := em_list h0
                      have hve : y.toList.isEmpty = false := by simpa using hvb
                      have hb0 := HTY.out
                      rw [emB_f.2 h0] at hb0
                      have HCT := Lib.hid (containsS_calls b A6 _ c6 _ y wr (Rd.own (b := b) hown hb))
                      have e0 : l ++ [x, y].take 1 = (l ++ [x]) := by simp
                      rw [e0] at HCT
                      cases hm : memS (l ++ [x]) y
                      · rw [hm] at hb0 HCT
                        simp at hb0
                        subst hb0
                        clear hm e0
                        go_wp2_with fail
                        refine HCT.out.mono ?_
                        rintro e w2 ⟨rfl, nq2, rfl⟩
                        have hS2 := hS.drewN nq2
                        have hown2 : (wr.drewN nq2).ownsRow w.heap.size 9 1 (.slice A6 (2 * k + 1) c6) (2 * k + 1) (strsV (l ++ [x, y].take 1)) := hS2.head
                        obtain ⟨WZ, hWZ⟩ : ∃ W, wr.drewN nq2 = W := ⟨_, rfl⟩
                        have hsz2 := hS2.size
                        rw [hWZ] at hS2 hown2 hsz2 ⊢
                        clear hWZ hS hown hsz
                        go_wp2_with (first
                          | (at_builtin; refine wpList_append_own_at _ rfl _ _ 26 rfl w.heap.size 9 i0 (.string ⟨#[]⟩) 1 16 Try.underlying26 hi0 hyy0 hyy1 hyy2 rfl (by decide) _ _ _ rfl (hown2.alloc _) ⟨WZ.heap.size, 0, none⟩ 1 1 [.string y] rfl rfl (World.news_of_block (heap_alloc_new _ _)) (one1A rfl) (by unfold maxLen; omega) (by omega) (by simp; omega) ?_; intro v' w8 hown' hgrow _ hblk; have hT8 := (hS2.alloc (.cells #[.string y] 9)).append hown' hgrow hblk; clear hown' hgrow hblk))
                        have hS9 : Sq w w8 [rOwn w.heap.size 9 1 v' (2 * k + 2) (strsV (l ++ [x, y].take 2)), rBlk gx 35 #[.string x, .string y]] := by
                          have e : strsV (l ++ [x, y].take 1) ++ [.string y] = strsV (l ++ [x, y].take 2) := by simp [strsV]
                          rw [e] at hT8
                          exact hT8
                        go_roundw
                        case rel => (first | exact ⟨_, _, _, _, _, ⟨2, (by omega), rfl, hS9⟩, rfl, rfl, rfl, rfl, rfl⟩ | exact ⟨_, _, _, _, _, ⟨2, (by omega), rfl, (by simp), hS9⟩, rfl, rfl, rfl, rfl, rfl⟩ | exact ⟨_, _, _, _, _, ⟨2, (by omega), rfl, (fun _ => hj1 (by omega)), hS9⟩, rfl, rfl, rfl, rfl, rfl⟩ | exact ⟨_, _, _, _, _, ⟨2, (by omega), rfl, (fun _ => hj1 (by omega)), (by simp), hS9⟩, rfl, rfl, rfl, rfl, rfl⟩ | exact ⟨_, _, _, _, _, _, _, _, _, _, _, _, _, _, _, _, _, _, _, ⟨2, (by omega), rfl, (fun _ => hj1 (by omega)), (by simp), hS9⟩, rfl⟩ | exact ⟨_, _, _, _, _, _, _, _, _, _, _, _, _, _, _, _, _, _, _, ⟨2, (by omega), rfl, (by simp), (by simp), hS9⟩, rfl⟩ | exact ⟨_, _, _, _, _, _, _, _, _, _, _, _, _, _, _, _, _, _, _, ⟨2, (by omega), rfl, (by simp), hS9⟩, rfl⟩ | exact ⟨_, _, _, _, _, _, _, _, _, _, _, _, _, _, _, _, _, _, _, ⟨2, (by omega), rfl, (fun _ => hj1 (by omega)), hS9⟩, rfl⟩)
                        case measure => simp [intOf]
                      · rw [hm] at hb0 HCT
                        simp at hb0
                        subst hb0
                        have hg6 : advG [] gs = 6 := HS2.out.trans (if_pos (by simp))
                        have HE1 := Lib.hid (show advE gs ws = 6 by rw [HE0.out, if_neg (by rw [hg6]; decide), hg6])
                        have hB := hS.below
                        clear hg6 hm e0
                        go_wp2_with fail
                        refine HCT.out.mono ?_
                        rintro e w2 ⟨rfl, nq2, rfl⟩
                        go_wp2_with fail
                        exact bodyPost_ret (v := .tuple #[.slice none 0 0, .int .i64 6]) (by simp [results, Try.results14, go_sem]) rfl (AdvS.bad HE1.out (by decide) (below_drewN hB nq2))
                  · have htx := hj1 (by omega)
                    have hty := hj2 (by omega)
                    subst htx hty
                    have HS3 := Lib.hid (HS2.out.trans (if_neg (by decide)))
                    have hS3 : Sq w wr [rOwn w.heap.size 9 1 (.slice A6 (2 * k + 2) c6) (2 * (k + 1)) (strsV (flatG (gs.take (k + 1))))] := by
                      have e : l ++ [x, y].take 2 = l ++ [x] ++ [y] := by simp
                      have h := hS.drop 1 rfl rfl
                      rw [e, ← HFL.out] at h
                      exact h
                    clear hown hS
                    go_wp2_with fail
                    go_roundw
                    case rel => exact ⟨k + 1, by omega, by go_num, HS3, hS3⟩
                    case measure => simp [intOf]; omega
            · have HS2 := Lib.hid (HS1.out.trans (if_pos rfl))
              have hB := hS1.below
              rw [Bool.and_eq_true, emB_t, emB_t] at hEE
              obtain ⟨rfl, rfl⟩ := hEE
              have HE1 := Lib.hid (show advE gs ws = 8 by rw [HE0.out, if_neg (by rw [HS2.out]; decide), HS2.out])
              clear HS1
              go_wp2_with fail
              exact bodyPost_ret (v := .tuple #[.slice none 0 0, .int .i64 8]) (by simp [results, Try.results14, go_sem]) rfl (AdvS.bad HE1.out (by decide) hB)
      · obtain rfl : k = n := by omega
        have HG0 := Lib.hid (show advG [] gs = 0 by rw [HF.out, List.drop_of_length_le (by rw [HL.out]; exact Nat.le_refl _)]; rfl)
        have hB0 := hS.below
        by_cases h1 : n2 = k
        · subst h1
          have HEW : Hid (advE gs ws = advW (gs.drop 0) (ws.drop 0)) := Lib.hid (by rw [HE0.out, if_pos HG0.out, if_pos (by rw [HL.out, HL2.out])]; rfl)
          have hT0 : Sq w wr [rGm w.heap.size none 0 0 (twos id (ws.take (2 * 0)))] := ((Sq.start w).callB hB0).nil w.heap.size 35 2
          clear hS HF HE0 HG0
          go_wp2_with fail
          go_loopw [13, 71] (fun v i wr => ∃ (q m : Nat) (A3 : Option Addr) (c3 : Nat), q ≤ n2 ∧ i = .int .i64 q ∧ q / 2 = m ∧ v = .slice A3 m c3 ∧ Hid (advE gs ws = advW (gs.drop q) (ws.drop q)) ∧ Sq w wr [rGm w.heap.size A3 m c3 (twos id (ws.take (2 * m)))]) (fun _ i _ => n2 - (intOf i).toNat)
          case atStart => exact ⟨0, 0, none, 0, Nat.zero_le _, rfl, rfl, rfl, HEW, hT0⟩
          case round =>
            clear hT0 HEW hB0
            obtain ⟨q, m, A3, c3, hq, rfl, hqm, rfl, HE, hT⟩ := hrel
            have hbw := hT.below
            by_cases hlt : q < n2
            · have hkr : q < gs.length := by rw [HL.out]; exact hlt
              have hkr2 : q < ws.length := by rw [HL2.out]; exact hlt
              obtain ⟨g, o, hA, hgb, hcs⟩ := HC.out (by omega)
              obtain ⟨g2, o2, hA2, hgb2, hcs2⟩ := HC2.out (by omega)
              subst hA hA2
              have d0 := below_cell hbw (hcs q hkr 0 (by omega))
              have d1 := below_cell hbw (hcs q hkr 1 (by omega))
              have d2 := below_cell hbw (hcs2 q hkr2)
              have hst := HE.out.trans (advW_step gs ws q hkr hkr2)
              have hsq : ws[q]? = some ws[q] := List.getElem?_eq_getElem hkr2
              obtain ⟨gq, hgq⟩ : ∃ z, gs[q] = z := ⟨_, rfl⟩
              obtain ⟨s, hs⟩ : ∃ z, ws[q] = z := ⟨_, rfl⟩
              rw [hgq] at d0 d1 hst
              rw [hs] at d2 hst hsq
              have HSQ := Lib.hid hsq
              obtain ⟨x, y⟩ := gq
              replace d0 : wr.cell? ⟨g, o + q * 2, none⟩ = some (.string x) := d0
              replace d1 : wr.cell? ⟨g, o + q * 2 + 1, none⟩ = some (.string y) := d1
              have hk0 : (0 : Int) ≤ (q : Int) := by omega
              have hk1 : (q : Int) < (n2 : Int) := by omega
              obtain ⟨WB, hWB⟩ : ∃ B, winB (x, y) s = B := ⟨_, rfl⟩
              rw [hWB] at hst
              have HST := Lib.hid hst
              have HWB := Lib.hid hWB
              clear hgq hs hst hWB hsq
              by_cases hs0 : s = ⟨#[]⟩
              · have hw0 := HWB.out
                unfold winB at hw0
                rw [emB_t.2 hs0] at hw0
                simp at hw0
                subst hw0 hs0
                have HS := Lib.hid (HST.out.trans (if_neg (by decide)))
                go_wp2_with fail
                exact bodyPost_ret (v := .tuple #[.slice none 0 0, .int .i64 8]) (by simp [results, Try.results14, go_sem]) rfl (AdvS.bad HS.out (by decide) hbw)
              · have hsl := em_list hs0
                have hse : s.toList.isEmpty = false := by simpa using hsl
                have hw0 := HWB.out
                unfold winB at hw0
                rw [emB_f.2 hs0] at hw0
                by_cases hx : s = x
                · rw [decide_eq_true hx] at hw0
                  simp at hw0
                  subst hw0 hx
                  have HS := Lib.hid (HST.out.trans (if_pos rfl))
                  rcases (show q = 2 * m ∨ q = 2 * m + 1 by omega) with hqe | hqe
                  · have hrem : ((q : Int)).tmod 2 = 0 := by rw [Int.tmod_eq_emod_of_nonneg (by omega)]; omega
                    have hq2 : (q + 1) / 2 = m := by omega
                    clear hqe hqm
                    go_wp2_with fail
                    go_roundw
                    case rel => exact ⟨q + 1, m, A3, c3, by omega, by go_num, hq2, rfl, HS, hT⟩
                    case measure => simp [intOf]; omega
                  · obtain ⟨q1, hq1⟩ : ∃ q1, 2 * m = q1 := ⟨_, rfl⟩
                    rw [hq1] at hqe
                    have hq1r : q1 < ws.length := by rw [HL2.out]; omega
                    have d3 := below_cell hbw (hcs2 q1 hq1r)
                    have hsn : Hid (twos id (ws.take (2 * (m + 1))) = twos id (ws.take (2 * m)) ++ [(ws[q1], s)]) := Lib.hid (twos_take id ws m _ _ (by rw [hq1]; exact List.getElem?_eq_getElem hq1r) (by rw [hq1, ← hqe]; exact HSQ.out))
                    obtain ⟨s1, hs1⟩ : ∃ z, ws[q1] = z := ⟨_, rfl⟩
                    rw [hs1] at d3 hsn
                    have hrem : ((q : Int)).tmod 2 = 1 := by rw [Int.tmod_eq_emod_of_nonneg (by omega)]; omega
                    have hqi : (q : Int) - 1 = (q1 : Int) := by omega
                    have hown : wr.ownsRow w.heap.size 35 2 (.slice A3 m c3) m ((twos id (ws.take (2 * m))).flatMap gmC) := hT.head
                    have hsz := hT.size
                    obtain ⟨i0, hi, hz0, hz1, hz2⟩ := info_parts info_gm
                    have hq10 : (0 : Int) ≤ (q1 : Int) := by omega
                    have hq11 : (q1 : Int) < (n2 : Int) := by omega
                    have hq2 : (q + 1) / 2 = m + 1 := by omega
                    have hm64 : m ≤ 64 := by omega
                    clear hs1 hcs hcs2 hqe hq1 hqm hq1r
                    go_wp2_with (first
                      | (at_builtin; refine wpList_append_own_at _ rfl _ _ 28 rfl w.heap.size 35 i0 (.agg #[.string ⟨#[]⟩, .string ⟨#[]⟩]) 2 32 Try.underlying28 hi hz0 hz1 hz2 rfl (by decide) _ _ _ rfl (hown.alloc _) ⟨wr.heap.size, 0, none⟩ 1 1 [.string s1, .string s] rfl rfl (World.news_of_block (heap_alloc_new _ _)) (one2 rfl rfl) (by unfold maxLen; omega) (by omega) (by simp; omega) ?_; intro v' w8 hown' hgrow _ hblk; have hT8 := (hT.alloc (.cells #[.string s1, .string s] 35)).append hown' hgrow hblk; clear hown' hgrow hblk))
                    obtain ⟨A9, c9, hv9⟩ := own_form (show w8.ownsRow w.heap.size 35 2 v' (m + 1) _ from hT8.head)
                    subst hv9
                    have hT9 : Sq w w8 [rGm w.heap.size A9 (m + 1) c9 (twos id (ws.take (2 * (m + 1))))] := by
                      have e : (twos id (ws.take (2 * m))).flatMap gmC ++ [.string s1, .string s] = (twos id (ws.take (2 * (m + 1)))).flatMap gmC := by rw [hsn.out, List.flatMap_append]; rfl
                      rw [e] at hT8
                      exact hT8
                    go_roundw
                    case rel => exact ⟨q + 1, m + 1, A9, c9, by omega, by go_num, hq2, rfl, HS, hT9⟩
                    case measure => simp [intOf]; omega
                · have hxl := list_ne hx
                  have hxe : (s.toList == x.toList) = false := by simpa using hxl
                  rw [decide_eq_false hx] at hw0
                  by_cases hy : s = y
                  · rw [decide_eq_true hy] at hw0
                    simp at hw0
                    subst hw0 hy
                    have HS := Lib.hid (HST.out.trans (if_pos rfl))
                    rcases (show q = 2 * m ∨ q = 2 * m + 1 by omega) with hqe | hqe
                    · have hrem : ((q : Int)).tmod 2 = 0 := by rw [Int.tmod_eq_emod_of_nonneg (by omega)]; omega
                      have hq2 : (q + 1) / 2 = m := by omega
                      clear hqe hqm
                      go_wp2_with fail
                      go_roundw
                      case rel => exact ⟨q + 1, m, A3, c3, by omega, by go_num, hq2, rfl, HS, hT⟩
                      case measure => simp [intOf]; omega
                    · obtain ⟨q1, hq1⟩ : ∃ q1, 2 * m = q1 := ⟨_, rfl⟩
                      rw [hq1] at hqe
                      have hq1r : q1 < ws.length := by rw [HL2.out]; omega
                      have d3 := below_cell hbw (hcs2 q1 hq1r)
                      have hsn : Hid (twos id (ws.take (2 * (m + 1))) = twos id (ws.take (2 * m)) ++ [(ws[q1], s)]) := Lib.hid (twos_take id ws m _ _ (by rw [hq1]; exact List.getElem?_eq_getElem hq1r) (by rw [hq1, ← hqe]; exact HSQ.out))
                      obtain ⟨s1, hs1⟩ : ∃ z, ws[q1] = z := ⟨_, rfl⟩
                      rw [hs1] at d3 hsn
                      have hrem : ((q : Int)).tmod 2 = 1 := by rw [Int.tmod_eq_emod_of_nonneg (by omega)]; omega
                      have hqi : (q : Int) - 1 = (q1 : Int) := by omega
                      have hown : wr.ownsRow w.heap.size 35 2 (.slice A3 m c3) m ((twos id (ws.take (2 * m))).flatMap gmC) := hT.head
                      have hsz := hT.size
                      obtain ⟨i0, hi, hz0, hz1, hz2⟩ := info_parts info_gm
                      have hq10 : (0 : Int) ≤ (q1 : Int) := by omega
                      have hq11 : (q1 : Int) < (n2 : Int) := by omega
                      have hq2 : (q + 1) / 2 = m + 1 := by omega
                      have hm64 : m ≤ 64 := by omega
                      clear hs1 hcs hcs2 hqe hq1 hqm hq1r
                      go_wp2_with (first
                        | (at_builtin; refine wpList_append_own_at _ rfl _ _ 28 rfl w.heap.size 35 i0 (.agg #[.string ⟨#[]⟩, .string ⟨#[]⟩]) 2 32 Try.underlying28 hi hz0 hz1 hz2 rfl (by decide) _ _ _ rfl (hown.alloc _) ⟨wr.heap.size, 0, none⟩ 1 1 [.string s1, .string s] rfl rfl (World.news_of_block (heap_alloc_new _ _)) (one2 rfl rfl) (by unfold maxLen; omega) (by omega) (by simp; omega) ?_; intro v' w8 hown' hgrow _ hblk; have hT8 := (hT.alloc (.cells #[.string s1, .string s] 35)).append hown' hgrow hblk; clear hown' hgrow hblk))
                      obtain ⟨A9, c9, hv9⟩ := own_form (show w8.ownsRow w.heap.size 35 2 v' (m + 1) _ from hT8.head)
                      subst hv9
                      have hT9 : Sq w w8 [rGm w.heap.size A9 (m + 1) c9 (twos id (ws.take (2 * (m + 1))))] := by
                        have e : (twos id (ws.take (2 * m))).flatMap gmC ++ [.string s1, .string s] = (twos id (ws.take (2 * (m + 1)))).flatMap gmC := by rw [hsn.out, List.flatMap_append]; rfl
                        rw [e] at hT8
                        exact hT8
                      go_roundw
                      case rel => exact ⟨q + 1, m + 1, A9, c9, by omega, by go_num, hq2, rfl, HS, hT9⟩
                      case measure => simp [intOf]; omega
                  · have hyl := list_ne hy
                    have hye : (s.toList == y.toList) = false := by simpa using hyl
                    rw [decide_eq_false hy] at hw0
                    simp at hw0
                    subst hw0
                    have HS := Lib.hid (HST.out.trans (if_neg (by decide)))
                    go_wp2_with fail
                    exact bodyPost_ret (v := .tuple #[.slice none 0 0, .int .i64 8]) (by simp [results, Try.results14, go_sem]) rfl (AdvS.bad HS.out (by decide) hbw)
            · obtain rfl : q = n2 := by omega
              have HEZ : advE gs ws = 0 := by rw [HE.out, List.drop_of_length_le (by rw [HL.out]; exact Nat.le_refl _)]; rfl
              obtain ⟨t, ht⟩ := pw6_even HP.out
              have hmt : 2 * m = q := by omega
              have hown : wr.ownsRow w.heap.size 35 2 (.slice A3 m c3) m ((twos id (ws.take (2 * m))).flatMap gmC) := hT.head
              rw [hmt, List.take_of_length_le (by rw [HL2.out]; exact Nat.le_refl _)] at hown
              have hA : advA gs ws = twos id ws := by unfold advA; rw [if_pos HEZ]
              have hln : (twos id ws).length = m := by rw [twos_len, HL2.out]; omega
              rw [← hA] at hown hln
              have HO := Lib.hid hown
              have HLN := Lib.hid hln
              have HZ0 := Lib.hid HEZ
              clear hown hln hA HEZ
              go_wp2_with fail
              exact bodyPost_ret (v := .tuple #[.slice A3 m c3, .int .i64 0]) (by simp [results, Try.results14, go_sem]) rfl ⟨_, by rw [HZ0.out], by rw [HLN.out]; exact HO.out, hbw⟩
        · have HE1 := Lib.hid (show advE gs ws = 3 by rw [HE0.out, if_pos HG0.out, if_neg (by rw [HL.out, HL2.out]; exact h1)])
          have hni : ¬ (n2 : Int) = (k : Int) := by omega
          have hbw := hB0
          go_wp2_with fail
          exact bodyPost_ret (v := .tuple #[.slice none 0 0, .int .i64 3]) (by simp [results, Try.results14, go_sem]) rfl (AdvS.bad HE1.out (by decide) hbw)
  · have HE := Lib.hid (advE_form (gs := gs) (ws := ws) (by rw [hl]; exact hp))
    rw [decide_eq_false hp] at HCI
    clear hl hl2 hcells hcells2
    go_enter Try.func14, Try.ntmps14
    go_wp2_with fail
    refine HCI.out.mono ?_
    rintro e w1 ⟨rfl, nq, rfl⟩
    go_wp2_with fail
    exact bodyPost_ret (v := .tuple #[.slice none 0 0, .int .i64 3]) (by simp [results, Try.results14, go_sem]) rfl (AdvS.bad HE.out (by decide) (below_drewN hb1 nq))
end Go.Proofs.Ytejadhehmcifoaa
