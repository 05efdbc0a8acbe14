/-
  bracketFault of the program by a contract.
-/
import Derived.Test.YtejadhehmcifoaaGreatDoorZBrkPure
import Derived.Test.YtejadhehmcifoaaGreatDoorZMap
import Derived.Test.YtejadhehmcifoaaGreatDoorZBrkR
namespace Go.Proofs.YtejadhehmcifoaaGreatDoor
open Go Go.RowKit

theorem run_ixa (x y : ByteArray) (w : World) : (Instr.index 32 (.agg #[.string x, .string y]) (.int .i64 0)).run Tryz.prog w = .ok (.string x) w := by
  have h : Tryz.prog.underlying 32 = some (.array 2 9) := Tryz.underlying32
  simp [Instr.index, Sem.run_bind, go_sem]
theorem run_ixb (x y : ByteArray) (w : World) : (Instr.index 32 (.agg #[.string x, .string y]) (.int .i64 1)).run Tryz.prog w = .ok (.string y) w := by
  have h : Tryz.prog.underlying 32 = some (.array 2 9) := Tryz.underlying32
  simp [Instr.index, Sem.run_bind, go_sem]
attribute [local go_sem] run_ixa run_ixb
theorem em_list {x : ByteArray} (h : ¬ x = ⟨#[]⟩) : ¬ x.toList = [] := by
  rw [Lib.toList_data]
  intro he
  exact h (by cases x; simp at he; rw [he])
theorem emB_list (x : ByteArray) : emB x = x.toList.isEmpty := by
  cases h : emB x
  · have := em_list (emB_f.1 h)
    simp [this]
  · rw [emB_t.1 h, Lib.toList_data]
    rfl
theorem list_ne {x y : ByteArray} (h : ¬ x = y) : ¬ x.toList = y.toList := by
  rw [Lib.toList_data, Lib.toList_data]
  intro he
  exact h (by cases x; cases y; simp at he; rw [he])
theorem zero_boolA (w : World) : (zeroValue 4).run Tryz.prog w = .ok (.bool false) w := by kernel_rfl
/-- who was there, as the program keeps it -/
def seenS (l : List ByteArray) : ByteArray → Option Value := fun s => if memS l s = true then some (.bool (!emB s)) else none
theorem seenS_nil : seenS [] = fun _ => none := by funext s; rfl
theorem seenS_upd (l : List ByteArray) (s : ByteArray) : upd (seenS l) s (.bool (!emB s)) = seenS (l ++ [s]) := by
  funext t
  unfold upd seenS
  have hm : memS (l ++ [s]) t = (memS l t || eqS t s) := by simp [memS]
  rw [hm]
  by_cases h : t = s
  · subst h
    have : eqS t t = true := (eqS_iff _ _).2 rfl
    simp [this]
  · have : eqS t s = false := by
      cases he : eqS t s
      · rfl
      · exact absurd ((eqS_iff _ _).1 he) h
    simp [h, this]
theorem seenS_look {W : World} {g N : Nat} {l : List ByteArray} (h : MapS W 9 g N (seenS l)) {s : ByteArray} (hs : s.size ≤ 4000) :
    (Instr.lookup 87 (.map (some g)) (.string s) false).run Tryz.prog W = .ok (.bool (!emB s && memS l s)) W := by
  have := h.look Tryz.underlying9 Tryz.underlying87 (zero_boolA W) (s := s) (by unfold maxLen; omega)
  have e : (seenS l s).getD (.bool false) = .bool (!emB s && memS l s) := by
    unfold seenS
    cases memS l s <;> simp
  rw [e] at this
  exact this
theorem seenS_put {w W : World} {r : List Rsc} {g N : Nat} {l : List ByteArray} (hS : Sq w W (rMap 9 g N (seenS l) :: r)) (hN : N ≤ 100000) {s : ByteArray} (hs : s.size ≤ 4000) :
    ∃ W', (Instr.mapUpdate 87 (.map (some g)) (.string s) (.bool (!emB s))).run Tryz.prog W = .ok () W' ∧ Sq w W' (rMap 9 g (N + 1) (seenS (l ++ [s])) :: r) := by
  have h : MapS W 9 g N (seenS l) := hS.head
  obtain ⟨W', h1, h2, h3⟩ := h.update Tryz.underlying9 Tryz.underlying87 (by unfold maxLen; omega) (s := s) (by unfold maxLen; omega) (.bool (!emB s))
  rw [seenS_upd] at h2
  exact ⟨W', h1, hS.mapSet h2 h3⟩

set_option maxRecDepth 100000 in
set_option maxHeartbeats 4000000 in
theorem bracketFaultP_calls (b : Nat) (A : Option Addr) (n c : Nat) (gs : List Gm) (w : World) (hr : Rd w b 2 (.slice A n c) n (gs.flatMap gmC)) (hk : ∀ g ∈ gs, g.1.size ≤ 4000 ∧ g.2.size ≤ 4000) (hn : n = 0 ∨ n = 1 ∨ n ∈ pw6) (_hb : b < w.heap.size) :
    Calls Tryz.prog 21 #[.slice A n c] w (BRet (.int .i64 (brfE gs)) w) := by
  obtain ⟨hl, hnc, hcm, hcells⟩ := hr.cells gmC_len (by omega)
  unfold maxLen at hcm
  by_cases hp : n ∈ pw6
  · have HO := Lib.hid (fun W => out_calls (n : Int) 2 64 W)
    have hout : outB (n : Int) 2 64 = false := by
      simp [pw6] at hp
      unfold outB
      exact decide_eq_false (by omega)
    rw [hout] at HO
    have hbits : bits BinOp.and IntKind.i64 (n : Int) ((n : Int) - 1) = 0 := by
      simp [pw6] at hp
      rcases hp with rfl | rfl | rfl | rfl | rfl | rfl <;> decide +kernel
    have hn64 : n ≤ 64 := by
      simp [pw6] at hp
      omega
    have hn2 : 2 ≤ n := by
      simp [pw6] at hp
      omega
    have HF := Lib.hid (show brfE gs = advG (flatG (gs.take 0)) (gs.drop 0) by unfold brfE; rw [if_pos (by rw [hl]; exact hp)]; rfl)
    have hmm := @run_makeMap Tryz.prog
    have HL := Lib.hid hl
    have HC := Lib.hid hcells
    have hS0 : Sq w (w.alloc (.map #[] 0)) [rMap 9 w.heap.size (2 * 0) (seenS (flatG (gs.take 0)))] := by
      have : seenS (flatG (gs.take 0)) = fun _ => none := seenS_nil
      rw [this]
      exact (Sq.start w).addMap 9
    clear hl hcells hout
    go_enter Tryz.func21, Tryz.ntmps21
    go_wp2_with fail
    refine (HO.out _).mono ?_
    rintro e w1 ⟨rfl, rfl⟩
    go_wp2_with fail
    clear hmm hbits
    go_loopw [23] (fun i wr => ∃ k : Nat, k ≤ n ∧ i = .int .i64 k ∧ Hid (brfE gs = advG (flatG (gs.take k)) (gs.drop k)) ∧ Sq w wr [rMap 9 w.heap.size (2 * k) (seenS (flatG (gs.take k)))]) (fun i _ => n - (intOf i).toNat)
    case atStart => exact ⟨0, Nat.zero_le _, rfl, HF, hS0⟩
    case round =>
      clear HF hS0
      obtain ⟨k, hk', rfl, HF, hS⟩ := hrel
      by_cases hlt : k < n
      · have hkr : k < gs.length := by rw [HL.out]; exact hlt
        obtain ⟨g, o, hA, hgb, hcs⟩ := HC.out (by omega)
        subst hA
        have d0 := below_cell hS.below (hcs k hkr 0 (by omega))
        have d1 := below_cell hS.below (hcs k hkr 1 (by omega))
        have hst := HF.out.trans (advG_step gs k hkr)
        have hsz := hk _ (List.getElem_mem hkr)
        have hfl : Hid (flatG (gs.take (k + 1)) = flatG (gs.take k) ++ [gs[k].1] ++ [gs[k].2]) := Lib.hid (by rw [List.take_succ_eq_append_getElem hkr]; unfold flatG; rw [List.flatMap_append]; simp)
        obtain ⟨q, hq⟩ : ∃ q, gs[k] = q := ⟨_, rfl⟩
        rw [hq] at d0 d1 hst hsz hfl
        obtain ⟨x, y⟩ := q
        replace d0 : wr.cell? ⟨g, o + k * 2, none⟩ = some (.string x) := d0
        replace d1 : wr.cell? ⟨g, o + k * 2 + 1, none⟩ = some (.string y) := d1
        simp only at hst hsz hfl
        obtain ⟨hxz, hyz⟩ := hsz
        have hk0 : (0 : Int) ≤ (k : Int) := by omega
        have hk1 : (k : Int) < (n : Int) := by omega
        have hS1 := (hS.add #[.string x, .string y] 32).front 1 rfl rfl
        have HFL := Lib.hid hfl.out
        have HST := Lib.hid hst
        clear hcs hq hS hfl hst
        obtain ⟨l, hll⟩ : ∃ l, flatG (gs.take k) = l := ⟨_, rfl⟩
        rw [hll] at hS1 HST HFL
        clear hll
        go_upto_region 8 with (fail)
        replace hS1 : Sq w (wr.alloc (.cells #[.string x, .string y] 32)) [rMap 9 w.heap.size (2 * k) (seenS l), rBlk wr.heap.size 32 #[.string x, .string y]] := hS1
        obtain ⟨gx, hgx⟩ : ∃ gx, wr.heap.size = gx := ⟨_, rfl⟩
        rw [hgx] at hS1 ⊢
        obtain ⟨W, hW⟩ : ∃ W, wr.alloc (.cells #[.string x, .string y] 32) = W := ⟨_, rfl⟩
        rw [hW] at hS1 ⊢
        clear hW
        have z0 : W.cell? ⟨gx, 0, none⟩ = some (.string x) := (show Blk W gx 32 #[.string x, .string y] from hS1.nth 1 rfl).cell 0
        have z1 : W.cell? ⟨gx, 1, none⟩ = some (.string y) := (show Blk W gx 32 #[.string x, .string y] from hS1.nth 1 rfl).cell 1
        have HKX := Lib.hid (key_calls x W (by unfold maxLen; omega))
        have HKY := Lib.hid (key_calls y W (by unfold maxLen; omega))
        obtain ⟨KX, hKX⟩ : ∃ B, keyB x.data.toList = B := ⟨_, rfl⟩
        obtain ⟨KY, hKY⟩ : ∃ B, keyB y.data.toList = B := ⟨_, rfl⟩
        rw [hKX] at HKX
        rw [hKY] at HKY
        have HBB : Hid (badB (x, y) = ((!emB x && !KX) || (!emB y && !KY))) := Lib.hid (by unfold badB; rw [hKX, hKY])
        obtain ⟨BB, hBB⟩ : ∃ B, badB (x, y) = B := ⟨_, rfl⟩
        rw [hBB] at HBB HST
        clear hKX hKY hBB d0 d1
        go_cut [27] (fun s27 V => s27 = .bool BB ∧ V = W)
        case first =>
          by_cases hx : x = ⟨#[]⟩
          · by_cases hy : y = ⟨#[]⟩
            · have hb0 := HBB.out
              rw [emB_t.2 hx, emB_t.2 hy] at hb0
              simp at hb0
              subst hb0 hx hy
              go_wp2_with fail
              go_meet
              exact ⟨rfl, rfl⟩
            · have hb0 := HBB.out
              rw [emB_t.2 hx, emB_f.2 hy] at hb0
              simp at hb0
              subst hb0 hx
              have hyb := em_list hy
              go_wp2_with fail
              refine HKY.out.mono ?_
              rintro e w2 ⟨rfl, rfl⟩
              go_wp2_with fail
              go_meet
              exact ⟨by simp [hyb], rfl⟩
          · have hxb := em_list hx
            cases KX
            · have hb0 := HBB.out
              rw [emB_f.2 hx] at hb0
              simp at hb0
              subst hb0
              go_wp2_with fail
              refine HKX.out.mono ?_
              rintro e w2 ⟨rfl, rfl⟩
              go_wp2_with fail
              go_meet
              exact ⟨rfl, rfl⟩
            · by_cases hy : y = ⟨#[]⟩
              · have hb0 := HBB.out
                rw [emB_f.2 hx, emB_t.2 hy] at hb0
                simp at hb0
                subst hb0 hy
                go_wp2_with fail
                refine HKX.out.mono ?_
                rintro e w2 ⟨rfl, rfl⟩
                go_wp2_with fail
                go_meet
                exact ⟨rfl, rfl⟩
              · have hb0 := HBB.out
                rw [emB_f.2 hx, emB_f.2 hy] at hb0
                simp at hb0
                subst hb0
                have hyb := em_list hy
                go_wp2_with fail
                refine HKX.out.mono ?_
                rintro e w2 ⟨rfl, rfl⟩
                go_wp2_with fail
                refine HKY.out.mono ?_
                rintro e w2 ⟨rfl, rfl⟩
                go_wp2_with fail
                go_meet
                exact ⟨by simp [hyb], rfl⟩
        case rest =>
          obtain ⟨rfl, rfl⟩ := hcut
          clear HKX HKY HBB
          cases BB
          · have HS1 := Lib.hid (HST.out.trans (if_neg (by decide)))
            clear HST
            obtain ⟨EE, hEE⟩ : ∃ B, (emB x && emB y) = B := ⟨_, rfl⟩
            rw [hEE] at HS1
            have HEE := Lib.hid hEE
            clear hEE
            go_upto_region 10 with (fail)
            obtain ⟨W, hW⟩ : ∃ W, wc = W := ⟨_, rfl⟩
            rw [hW] at hS1 z0 z1 ⊢
            clear hW
            go_cut [48] (fun s48 V => s48 = .bool EE ∧ V = W)
            case first =>
              by_cases hx : x = ⟨#[]⟩
              · by_cases hy : y = ⟨#[]⟩
                · have hb0 := HEE.out
                  rw [emB_t.2 hx, emB_t.2 hy] at hb0
                  simp at hb0
                  subst hb0 hx hy
                  go_wp2_with fail
                  go_meet
                  exact ⟨rfl, rfl⟩
                · have hb0 := HEE.out
                  rw [emB_t.2 hx, emB_f.2 hy] at hb0
                  simp at hb0
                  subst hb0 hx
                  have hyb := em_list hy
                  go_wp2_with fail
                  go_meet
                  exact ⟨by simp [hyb], rfl⟩
              · have hb0 := HEE.out
                rw [emB_f.2 hx] at hb0
                simp at hb0
                subst hb0
                have hxb := em_list hx
                go_wp2_with fail
                go_meet
                exact ⟨by simp, rfl⟩
            case rest =>
              obtain ⟨rfl, rfl⟩ := hcut
              clear HEE
              cases EE
              · have HS2 := Lib.hid (HS1.out.trans (if_neg (by decide)))
                clear HS1
                have hm : MapS wc 9 w.heap.size (2 * k) (seenS l) := hS1.head
                have hlx := seenS_look hm hxz
                have hly := seenS_look hm hyz
                obtain ⟨TX, hTX⟩ : ∃ B, (!emB x && memS l x) = B := ⟨_, rfl⟩
                obtain ⟨TY, hTY⟩ : ∃ B, (!emB y && memS l y) = B := ⟨_, rfl⟩
                obtain ⟨TT, hTT⟩ : ∃ B, twB l (x, y) = B := ⟨_, rfl⟩
                have HTT : Hid (TT = (TX || TY || decide (x = y))) := Lib.hid (by rw [← hTT, ← hTX, ← hTY]; rfl)
                rw [hTX] at hlx
                rw [hTY] at hly
                rw [hTT] at HS2
                clear hTX hTY hTT hm
                go_upto_region 12 with (fail)
                obtain ⟨W, hW⟩ : ∃ W, wc = W := ⟨_, rfl⟩
                rw [hW] at hS1 z0 z1 hlx hly ⊢
                clear hW
                go_cut [57] (fun s57 V => s57 = .bool TT ∧ V = W)
                case first =>
                  cases TX
                  · cases TY
                    · by_cases hxy : x = y
                      · have hb0 := HTT.out
                        rw [decide_eq_true hxy] at hb0
                        simp at hb0
                        subst hb0 hxy
                        go_wp2_with fail
                        go_meet
                        exact ⟨rfl, rfl⟩
                      · have hb0 := HTT.out
                        rw [decide_eq_false hxy] at hb0
                        simp at hb0
                        subst hb0
                        have hxy2 := list_ne hxy
                        go_wp2_with fail
                        go_meet
                        exact ⟨by simp [hxy2], rfl⟩
                    · have hb0 := HTT.out
                      simp at hb0
                      subst hb0
                      go_wp2_with fail
                      go_meet
                      exact ⟨rfl, rfl⟩
                  · have hb0 := HTT.out
                    simp at hb0
                    subst hb0
                    go_wp2_with fail
                    go_meet
                    exact ⟨rfl, rfl⟩
                case rest =>
                  obtain ⟨rfl, rfl⟩ := hcut
                  clear HTT hlx hly
                  cases TT
                  · have HS3 := Lib.hid (HS2.out.trans (if_neg (by decide)))
                    clear HS2
                    have hS5 : Sq w wc [rMap 9 w.heap.size (2 * k + 0) (seenS (l ++ [x, y].take 0)), rBlk gx 32 #[.string x, .string y]] := by
                      rw [List.take_zero, List.append_nil]
                      exact hS1
                    clear hS1
                    go_wp2_with fail
                    clear z0 z1
                    go_loopw [76] (fun i V => ∃ j : Nat, j ≤ 2 ∧ i = .int .i64 j ∧ Sq w V [rMap 9 w.heap.size (2 * k + j) (seenS (l ++ [x, y].take j)), rBlk gx 32 #[.string x, .string y]]) (fun i _ => 2 - (intOf i).toNat)
                    case atStart => exact ⟨0, by omega, rfl, hS5⟩
                    case round =>
                      clear hS5
                      obtain ⟨j, hj, rfl, hS⟩ := hrel
                      rcases (show j = 0 ∨ j = 1 ∨ j = 2 by omega) with rfl | rfl | rfl
                      · obtain ⟨W2, hrun, hS2⟩ := seenS_put hS (by omega) hxz
                        rw [emB_list] at hrun
                        have hS3 : Sq w W2 [rMap 9 w.heap.size (2 * k + 1) (seenS (l ++ [x, y].take 1)), rBlk gx 32 #[.string x, .string y]] := by
                          have e : l ++ [x, y].take 0 ++ [x] = l ++ [x, y].take 1 := by simp
                          rw [e] at hS2
                          exact hS2
                        go_wp2_with fail
                        go_roundw
                        case rel => exact ⟨1, by omega, rfl, hS3⟩
                        case measure => simp [intOf]
                      · obtain ⟨W2, hrun, hS2⟩ := seenS_put hS (by omega) hyz
                        rw [emB_list] at hrun
                        have hS3 : Sq w W2 [rMap 9 w.heap.size (2 * k + 2) (seenS (l ++ [x, y].take 2)), rBlk gx 32 #[.string x, .string y]] := by
                          have e : l ++ [x, y].take 1 ++ [y] = l ++ [x, y].take 2 := by simp
                          rw [e] at hS2
                          exact hS2
                        go_wp2_with fail
                        go_roundw
                        case rel => exact ⟨2, by omega, rfl, hS3⟩
                        case measure => simp [intOf]
                      · have hS3 : Sq w wr [rMap 9 w.heap.size (2 * (k + 1)) (seenS (flatG (gs.take (k + 1))))] := by
                          have e : l ++ [x, y].take 2 = l ++ [x] ++ [y] := by simp
                          have h := hS.drop 1 rfl rfl
                          rw [e, ← HFL.out] at h
                          exact h
                        go_wp2_with fail
                        go_roundw
                        case rel => exact ⟨k + 1, by omega, by go_num, HS3, hS3⟩
                        case measure => simp [intOf]; omega
                  · have HS3 := Lib.hid (HS2.out.trans (if_pos rfl))
                    have hB := hS1.below
                    clear HS2
                    go_wp2_with fail
                    go_ret
                    exact ⟨ret_int HS3.out.symm, hB⟩
              · have HS2 := Lib.hid (HS1.out.trans (if_pos rfl))
                have hB := hS1.below
                clear HS1
                go_wp2_with fail
                go_ret
                exact ⟨ret_int HS2.out.symm, hB⟩
          · have HS1 := Lib.hid (HST.out.trans (if_pos rfl))
            have hB := hS1.below
            clear HST
            go_wp2_with fail
            go_ret
            exact ⟨ret_int HS1.out.symm, hB⟩
      · obtain rfl : k = n := by omega
        have HE := Lib.hid (show brfE gs = 0 by rw [HF.out, List.drop_of_length_le (by rw [HL.out]; exact Nat.le_refl _)]; rfl)
        have hB := hS.below
        clear HF hS
        go_wp2_with fail
        go_ret
        exact ⟨ret_int HE.out.symm, hB⟩
  · have hn1 : (n : Int) < 2 := by
      rcases hn with h | h | h
      · omega
      · omega
      · exact absurd h hp
    have HF := Lib.hid (show brfE gs = 3 by unfold brfE; rw [if_neg (by rw [hl]; exact hp)])
    have HO := Lib.hid (fun W => out_calls (n : Int) 2 64 W)
    rw [show outB (n : Int) 2 64 = true by unfold outB; exact decide_eq_true (.inl hn1)] at HO
    clear hl hcells hn hp
    go_enter Tryz.func21, Tryz.ntmps21
    go_wp2_with fail
    refine (HO.out _).mono ?_
    rintro e w1 ⟨rfl, rfl⟩
    go_wp2_with fail
    go_ret
    exact ⟨ret_int HF.out.symm, Below.refl _ _⟩
end Go.Proofs.YtejadhehmcifoaaGreatDoor
