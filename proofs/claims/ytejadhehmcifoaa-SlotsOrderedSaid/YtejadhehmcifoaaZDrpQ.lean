/-
  The reference's DropOf by a contract.
-/
import Derived.Test.YtejadhehmcifoaaZDrp2
import Derived.Test.YtejadhehmcifoaaZSortMem
namespace Go.Proofs.Ytejadhehmcifoaa
open Go Go.RowKit
attribute [local go_sem ↓] Go.wp_at_zero Go.wp_at_succ

theorem cmpI_lt (x y : Int) : cmpI x y < 0 ↔ x < y := by unfold cmpI; split <;> (try split) <;> constructor <;> intro h <;> omega
theorem cmpI_eq (x y : Int) : cmpI x y = 0 ↔ x = y := by unfold cmpI; split <;> (try split) <;> constructor <;> intro h <;> omega
theorem first3_lt (a b c : Int) : firstE [a, b, c] < 0 ↔ a < 0 ∨ (a = 0 ∧ (b < 0 ∨ (b = 0 ∧ c < 0))) := by
  simp only [firstE]
  split
  · split
    · split
      · constructor <;> intro h <;> omega
      · constructor <;> intro h <;> omega
    · constructor <;> intro h <;> omega
  · constructor <;> intro h <;> omega
theorem les_iff (xs : List Slt) (n a b : Nat) : lesE xs n a b < 0 ↔ ((ixV a n).length : Int) < (ixV b n).length ∨ (((ixV a n).length : Int) = (ixV b n).length ∧ (lngS xs a n < lngS xs b n ∨ (lngS xs a n = lngS xs b n ∧ cmpLI (ixV a n) (ixV b n) < 0))) := by
  unfold lesE
  rw [first3_lt, cmpI_lt, cmpI_eq, cmpI_lt, cmpI_eq]
/-- numbers in a row of one's own -/
abbrev rIn (base : Nat) (A : Option Addr) (n c : Nat) (is : List Int) : Rsc := rOwn base 3 1 (.slice A n c) n (is.map (Value.int .i64))
theorem step_app_i {w V : World} {l : List Rsc} {A : Option Addr} {n c : Nat} {is : List Int} {z : Int} {g : Nat} {ops : Array Oper} {o : Oper} {a : Act} {K : Act → World → Prop} {Q : Exit → Act → World → Prop} {E : Prop} (hgd : o.guard = none) (s x : Operand) (ho : o.op = .call { callee := .builtin .append, args := #[s, x], argTypes := #[22, 22] })
    (hT : Sq w V (rBlk g 3 #[.int .i64 z] :: rIn w.heap.size A n c is :: l)) (b : Nat) (hb : b < w.heap.size) (hn : n ≤ 1000) (hs : a.eval s = .slice A n c) (hx : a.eval x = .slice (some ⟨g, 0, none⟩) 1 1)
    (h : ∀ A' c' V', Sq w V' (rIn w.heap.size A' (n + 1) c' (is ++ [z]) :: l) → K (a.put o.dst (.slice A' (n + 1) c')) V') :
    if Region.wanted o (yielded ops a.tmps) = true then Oper.wp Try.prog o a V K Q else E := by
  obtain ⟨i0, hi, hz0, hz1, hz2⟩ := info_parts info_int3
  have hw : Region.wanted o (yielded ops a.tmps) = true := by simp [Region.wanted, hgd]
  rw [if_pos hw]
  have hb' : Blk V g 3 #[.int .i64 z] := hT.nth 0 rfl
  have hS1 := hT.front 1 rfl rfl
  have hown : V.ownsRow w.heap.size 3 1 (.slice A n c) n (is.map (Value.int .i64)) := hS1.head
  have hge : w.heap.size ≤ g := hT.ge 0 rfl
  have hr : Rd V b 1 (.slice (some ⟨g, 0, none⟩) 1 1) 1 [.int .i64 z] := blkRd 1 1 hb' (by omega) (by decide) rfl
  refine wp_app_rd V s x 22 ho w.heap.size 3 i0 (.int .i64 0) 1 8 Try.underlying22 hi hz0 hz1 hz2 rfl (by decide) _ n _ hs hown b _ 1 1 [.int .i64 z] hx hr (one1 rfl) (by unfold maxLen; omega) (by omega) hT.size ?_
  intro v' w' h1 h2 h3
  obtain ⟨A', c', rfl⟩ := own_form h1
  refine h A' c' w' ?_
  have h4 := (hS1.append h1 h2 h3).drop 1 rfl rfl
  show Sq w w' (rOwn w.heap.size 3 1 (.slice A' (n + 1) c') (n + 1) ((is ++ [z]).map (Value.int .i64)) :: l)
  rw [List.map_append]
  exact h4
/-- the best choice so far, as the reference keeps it -/
def BstDq (base : Nat) (xs : List Slt) (n : Nat) (l : List Rsc) (v mm ll : Value) (o : Option Nat) : Prop := match o with
  | none => v = .slice none 0 0 ∧ mm = .int .i64 (-1) ∧ ll = .int .i64 0 ∧ l = []
  | some s => ∃ A c, v = .slice A (ixV s n).length c ∧ mm = .int .i64 (ixV s n).length ∧ ll = .int .i64 (lngS xs s n) ∧ l = [rIn base A (ixV s n).length c (ixV s n)]

set_option maxRecDepth 100000 in
set_option maxHeartbeats 8000000 in
theorem dropQ_calls (b : Nat) (A : Option Addr) (n c : Nat) (xs : List Slt) (f by_ : Int) (w : World) (hr : Slts w b A n c xs) (hb : b < w.heap.size) (hn16 : n ≤ 16) (f0 : 0 ≤ f) (f1 : f ≤ 345686399999) (y0 : f ≤ by_) (y1 : by_ ≤ 345686400000) :
    Calls Try.prog 25 #[.slice A n c, .int .i64 f, .int .i64 by_] w (fun e w' => ∃ v, e = .returned v ∧ w'.ownsRow w.heap.size 9 1 v (keysO xs n (bstS xs f by_ n (2 ^ n))).length (strsV (keysO xs n (bstS xs f by_ n (2 ^ n)))) ∧ Below w.heap.size w w') := by
  obtain ⟨i0, hi, hz0, hz1, hz2⟩ := info_parts info_int3
  obtain ⟨j0, hj, hy0, hy1, hy2⟩ := info_parts info_str3
  obtain ⟨hl, hnc, hcm, hcells⟩ := hr.rd.cells sltC_len (by omega)
  unfold maxLen at hcm
  have hsml : SmlS xs := hr.sml
  have HBD := Lib.hid (fun s k (hk : k ≤ n) => lngS_bd hsml s k (by omega))
  have HAD := Lib.hid (fun s k (hk : k ≤ n) => atS_bd hsml s f k (by omega))
  have HSM := Lib.hid hsml
  have HEX := Lib.hid (bst_ex (xs := xs) (f := f) (by_ := by_) n y0)
  have HL := Lib.hid hl
  have HC := Lib.hid hcells
  obtain ⟨N, hN⟩ : ∃ N, 2 ^ n = N := ⟨_, rfl⟩
  have hN1 : N ≤ 65536 := by rw [← hN]; exact Nat.pow_le_pow_right (by decide) hn16
  have hNw : IntKind.i64.wrap ((2 : Int) ^ n) = (N : Int) := by
    have : ((2 : Int) ^ n) = (N : Int) := by rw [← hN]; simp
    rw [this]
    exact IntWalk.i64_in _ (by omega)
  have HNW := Lib.hid hNw
  rw [hN] at HEX ⊢
  have HS0 : Hid (Sq w w []) := Lib.hid (Sq.start w)
  have HB0 : Hid (BstDq w.heap.size xs n [] (.slice none 0 0) (.int .i64 (-1)) (.int .i64 0) (bstS xs f by_ n 0)) := Lib.hid ⟨rfl, rfl, rfl, rfl⟩
  have HR := Lib.hid hr
  clear hcells hl hr hsml hN
  go_enter Try.func25, Try.ntmps25
  go_wp2_with fail
  have hS1 := HS0.out
  clear HS0
  go_loopw [7, 8, 9, 23] (fun v mm ll i wr => ∃ (s : Nat) (l : List Rsc), s ≤ N ∧ i = .int .i64 s ∧ Sq w wr l ∧ Hid (BstDq w.heap.size xs n l v mm ll (bstS xs f by_ n s))) (fun _ _ _ i _ => N - (intOf i).toNat)
  case atStart => exact ⟨0, [], Nat.zero_le _, rfl, hS1, HB0⟩
  case round =>
    clear hS1 HB0
    obtain ⟨s, l, hs, rfl, hS, HB⟩ := hrel
    by_cases hlt : s < N
    · have hSb : Sq w wr (rIn w.heap.size none (ixV s 0).length 0 (ixV s 0) :: l) := hS.nil w.heap.size 3 1
      have HA0 : Hid (Value.int .i64 f = .int .i64 (atS xs s f 0) ∧ Value.int .i64 0 = .int .i64 (lngS xs s 0)) := Lib.hid ⟨rfl, rfl⟩
      clear hS
      go_wp2_with fail
      go_loopw [11, 12, 13, 29] (fun a ls v i w2 => ∃ (k : Nat) (A2 : Option Addr) (c2 : Nat), k ≤ n ∧ i = .int .i64 k ∧ a = .int .i64 (atS xs s f k) ∧ ls = .int .i64 (lngS xs s k) ∧ v = .slice A2 (ixV s k).length c2 ∧ Sq w w2 (rIn w.heap.size A2 (ixV s k).length c2 (ixV s k) :: l)) (fun _ _ _ i _ => n - (intOf i).toNat)
      case atStart => exact ⟨0, none, 0, Nat.zero_le _, rfl, HA0.out.1, HA0.out.2, rfl, hSb⟩
      case round =>
        clear hSb HA0
        obtain ⟨k, A2, c2, hk, rfl, rfl, rfl, rfl, hS⟩ := hrel
        by_cases hlt2 : k < n
        · have hkr : k < xs.length := by rw [HL.out]; exact hlt2
          obtain ⟨g, o, hA, _, hcs⟩ := HC.out (by omega)
          subst hA
          have c0 := below_cell hS.below (hcs k hkr 0 (by omega))
          have c1 := below_cell hS.below (hcs k hkr 1 (by omega))
          have c2' := below_cell hS.below (hcs k hkr 2 (by omega))
          have c3 := below_cell hS.below (hcs k hkr 3 (by omega))
          have c4 := below_cell hS.below (hcs k hkr 4 (by omega))
          have hls := lngS_step xs s k hkr
          have has := atS_step xs s f k hkr
          have his := ixV_succ s k
          have hxs := HSM.out _ (List.getElem_mem hkr)
          have hb1 := HBD.out s k hk
          have hb2 := HAD.out s k hk
          have hil : (ixV s k).length ≤ 16 := by rw [ixV_len]; exact Nat.le_trans (idxS_len s k) (by omega)
          obtain ⟨x, hx⟩ : ∃ x, xs[k] = x := ⟨_, rfl⟩
          rw [hx] at c0 c1 c2' c3 c4 hls has hxs
          obtain ⟨sk, sw, ha, hc, hh, su, lo⟩ := x
          simp only at hls has hxs
          obtain ⟨⟨u1, u2⟩, u3', u4'⟩ := hxs
          obtain ⟨m, hm⟩ : ∃ m, hh.length = m := ⟨_, rfl⟩
          replace c0 : wr.cell? ⟨g, o + k * 5, none⟩ = some (.string sk) := c0
          replace c1 : wr.cell? ⟨g, o + k * 5 + 1, none⟩ = some (.string sw) := c1
          replace c2' : wr.cell? ⟨g, o + k * 5 + 2, none⟩ = some (.slice ha m hc) := by rw [← hm]; exact c2'
          replace c3 : wr.cell? ⟨g, o + k * 5 + 3, none⟩ = some (.int .i64 su) := c3
          replace c4 : wr.cell? ⟨g, o + k * 5 + 4, none⟩ = some (.int .i64 lo) := c4
          have hSx := (hS.add #[.string sk, .string sw, .slice ha m hc, .int .i64 su, .int .i64 lo] 59)
          have hsz := hS.size
          have hs63 : s < 9223372036854775808 := by omega
          have hk0 : (0 : Int) ≤ (k : Int) := by omega
          have hk1 : (k : Int) < (n : Int) := by omega
          obtain ⟨q1, q2⟩ := hb1
          obtain ⟨q3, q4⟩ := hb2
          clear hcs hx
          cases hbit : bitS s k
          · have hbv := bit_no hs63 hbit
            have HLS : Hid (lngS xs s (k + 1) = lngS xs s k) := Lib.hid (by rw [hls, hbit]; rfl)
            have HAS : Hid (atS xs s f (k + 1) = atS xs s f k + (su + lo)) := Lib.hid (by rw [has, hbit]; rfl)
            have HIS : Hid (ixV s (k + 1) = ixV s k) := Lib.hid (by rw [his, hbit]; rfl)
            have HS2 := Lib.hid hSx.tail
            clear hls has his hbit hS hSx
            obtain ⟨at_, hat⟩ : ∃ a, atS xs s f k = a := ⟨_, rfl⟩
            rw [hat] at q3 q4 HAS ⊢
            clear hat
            go_wp2_with fail
            go_roundw
            case rel => exact ⟨k + 1, A2, c2, by omega, by go_num, by rw [HAS.out], by rw [HLS.out], by rw [HIS.out], by rw [HIS.out]; exact HS2.out⟩
            case measure => simp [intOf]; omega
          · have hbv := bit_yes hs63 hbit
            have HLS : Hid (lngS xs s (k + 1) = lngS xs s k + lo) := Lib.hid (by rw [hls, hbit]; rfl)
            have HAS : Hid (atS xs s f (k + 1) = atS xs s f k) := Lib.hid (by rw [has, hbit]; rfl)
            have HIS : Hid (ixV s (k + 1) = ixV s k ++ [(k : Int)]) := Lib.hid (by rw [his, hbit]; rfl)
            obtain ⟨ln, hln⟩ : ∃ z, lngS xs s k = z := ⟨_, rfl⟩
            obtain ⟨iv, hiv⟩ : ∃ z, ixV s k = z := ⟨_, rfl⟩
            obtain ⟨nv, hnv⟩ : ∃ z, iv.length = z := ⟨_, rfl⟩
            rw [hiv, hnv] at hSx hil ⊢
            rw [hiv] at HIS
            rw [hln] at HLS q1 q2 ⊢
            have HNV := Lib.hid hnv
            clear hls has his hbit hS hln hiv hnv
            obtain ⟨G, hG⟩ : ∃ G, wr.heap.size = G := ⟨_, rfl⟩
            rw [hG] at hSx hsz
            go_upto_region 12 with (fail)
            obtain ⟨W1, hW1⟩ : ∃ W, wr.alloc (.cells #[.string sk, .string sw, .slice ha m hc, .int .i64 su, .int .i64 lo] 59) = W := ⟨_, rfl⟩
            have hSx0 := hSx
            rw [hW1] at hSx0 ⊢
            have hsz1 : G < W1.heap.size := (show Blk W1 G 59 _ from hSx0.nth 0 rfl).lt
            have HX : Hid (∀ (V : World) (l' : List Rsc), Sq w V l' → ∀ i, l'[i]? = some (rBlk G 59 #[.string sk, .string sw, .slice ha m hc, .int .i64 su, .int .i64 lo]) → V.cell? ⟨G, 4, none⟩ = some (.int .i64 lo)) := Lib.hid (fun V l' h i hi => (show Blk V G 59 _ from h.nth i hi).cell 4)
            have x4 := HX.out _ _ hSx0 0 rfl
            have hD := hSx0.drew
            have hT := ((hSx0.add #[.int .i64 k] 3).front 2 rfl rfl).drew
            have hT := hT.front 1 rfl rfl
            have hil2 : nv ≤ 1000 := by omega
            have hlw : IntKind.i64.wrap (ln + lo) = ln + lo := IntWalk.i64_in _ (by omega)
            clear hSx hSx0 hW1 c0 c1 c2' c3 c4 hG
            go_region_held3 (fun W => W.cell? ⟨G, 4, none⟩ = some (.int .i64 lo))
              (first | (with_reducible exact HX.out _ _ hD 0 rfl) | (with_reducible exact HX.out _ _ hT 2 rfl) | (with_reducible exact HX.out _ _ hV 1 rfl) | go_keep)
              (first
                | ((with_reducible refine step_app_i rfl (.tmp 39) (.tmp 41) rfl hT b hb hil2 rfl rfl ?_); intro A3 c3' V hV))
            have hV2 := hV.drop 1 rfl rfl
            go_wp2_with fail
            go_roundw
            case rel => exact ⟨k + 1, A3, c3', by omega, by go_num, by rw [HAS.out], by rw [HLS.out], by rw [HIS.out, List.length_append, HNV.out]; rfl, by rw [HIS.out, List.length_append, HNV.out]; exact hV2⟩
            case measure => simp [intOf]; omega
        · obtain rfl : k = n := by omega
          have hb2 := HAD.out s k hk
          obtain ⟨q3, q4⟩ := hb2
          by_cases hby : by_ < atS xs s f k
          · have HB2 : Hid (BstDq w.heap.size xs k l u7 u8 u9 (bstS xs f by_ k (s + 1))) := Lib.hid (by rw [bstS, if_pos hby]; exact HB.out)
            have hS2 := hS.tail
            clear hS
            go_wp2_with fail
            go_roundw
            case rel => exact ⟨s + 1, l, by omega, by go_num, hS2, HB2⟩
            case measure => simp [intOf]; omega
          · have HNB := Lib.hid hby
            cases ho : bstS xs f by_ k s with
            | none =>
              obtain ⟨hu7, hu8, hu9, hl0⟩ : u7 = .slice none 0 0 ∧ u8 = .int .i64 (-1) ∧ u9 = .int .i64 0 ∧ l = [] := by
                have := HB.out
                rw [ho] at this
                exact this
              subst hu7 hu8 hu9 hl0
              have HB2 : Hid (BstDq w.heap.size xs k [rIn w.heap.size A2 (ixV s k).length c2 (ixV s k)] (.slice A2 (ixV s k).length c2) (.int .i64 (ixV s k).length) (.int .i64 (lngS xs s k)) (bstS xs f by_ k (s + 1))) := Lib.hid (by
                rw [bstS, if_neg hby, ho]
                exact ⟨A2, c2, rfl, rfl, rfl, rfl⟩)
              have hS2 := hS
              clear hS ho HB
              go_wp2_with fail
              go_roundw
              case rel => exact ⟨s + 1, _, by omega, by go_num, hS2, HB2⟩
              case measure => simp [intOf]; omega
            | some q =>
              obtain ⟨qA, qc, hu7, hu8, hu9, hl0⟩ : ∃ A c, u7 = .slice A (ixV q k).length c ∧ u8 = .int .i64 (ixV q k).length ∧ u9 = .int .i64 (lngS xs q k) ∧ l = [rIn w.heap.size A (ixV q k).length c (ixV q k)] := by
                have := HB.out
                rw [ho] at this
                exact this
              subst hu7 hu8 hu9 hl0
              have hiff := les_iff xs k s q
              have HB2 : Hid (lesE xs k s q < 0 → BstDq w.heap.size xs k [rIn w.heap.size A2 (ixV s k).length c2 (ixV s k)] (.slice A2 (ixV s k).length c2) (.int .i64 (ixV s k).length) (.int .i64 (lngS xs s k)) (bstS xs f by_ k (s + 1))) := Lib.hid (fun h => by
                rw [bstS, if_neg hby, ho]
                simp only
                rw [if_pos h]
                exact ⟨A2, c2, rfl, rfl, rfl, rfl⟩)
              have HB3 : Hid (¬ lesE xs k s q < 0 → BstDq w.heap.size xs k [rIn w.heap.size qA (ixV q k).length qc (ixV q k)] (.slice qA (ixV q k).length qc) (.int .i64 (ixV q k).length) (.int .i64 (lngS xs q k)) (bstS xs f by_ k (s + 1))) := Lib.hid (fun h => by
                rw [bstS, if_neg hby, ho]
                simp only
                rw [if_neg h]
                exact ⟨qA, qc, rfl, rfl, rfl, rfl⟩)
              have HCM := Lib.hid (compareI_calls b A2 qA _ c2 _ qc (ixV s k) (ixV q k) wr (Rd.own (hS.nth 0 rfl) hb) (Rd.own (hS.nth 1 rfl) hb))
              obtain ⟨C, hC⟩ : ∃ C, cmpLI (ixV s k) (ixV q k) = C := ⟨_, rfl⟩
              rw [hC] at HCM hiff
              obtain ⟨m1, hm1⟩ : ∃ m, (ixV s k).length = m := ⟨_, rfl⟩
              obtain ⟨m2, hm2⟩ : ∃ m, (ixV q k).length = m := ⟨_, rfl⟩
              obtain ⟨n1, hn1⟩ : ∃ z, lngS xs s k = z := ⟨_, rfl⟩
              obtain ⟨n2, hn2⟩ : ∃ z, lngS xs q k = z := ⟨_, rfl⟩
              rw [hm1, hm2, hn1, hn2] at hiff
              rw [hm1, hn1] at HB2
              rw [hm2, hn2] at HB3
              rw [hm1, hm2] at HCM
              have hM1 : (ixV s k).length = m1 := hm1
              have hM2 : (ixV q k).length = m2 := hm2
              rw [hm1, hm2] at hS
              obtain ⟨B, hB⟩ : ∃ B : Bool, B = decide (lesE xs k s q < 0) := ⟨_, rfl⟩
              have HBB : Hid (B = decide ((m1 : Int) < m2 ∨ ((m1 : Int) = m2 ∧ (n1 < n2 ∨ (n1 = n2 ∧ C < 0))))) := Lib.hid (by rw [hB]; simp only [hiff])
              have HBL := Lib.hid hB
              have HSS := Lib.hid hS
              have hM1 := Lib.hid hM1
              have hM2 := Lib.hid hM2
              rw [hm1, hm2, hn1, hn2]
              clear hS ho HB hC hm1 hm2 hn1 hn2 hB hiff
              go_upto_region 17 with (fail)
              go_cut [87] (fun s87 WW => s87 = .bool B ∧ WW = wr)
              case first =>
                have hmn : ¬ ((m2 : Int) < 0) := by omega
                by_cases h1 : (m1 : Int) < m2
                · obtain rfl : B = true := by rw [HBB.out]; exact decide_eq_true (.inl h1)
                  go_wp2_with fail
                  go_meet
                  exact ⟨rfl, rfl⟩
                · by_cases h2 : (m1 : Int) = m2
                  · have h2' : ((m1 : Int) == (m2 : Int)) = true := by simpa using h2
                    by_cases h3 : n1 < n2
                    · obtain rfl : B = true := by rw [HBB.out]; exact decide_eq_true (.inr ⟨h2, .inl h3⟩)
                      clear h2
                      go_wp2_with fail
                      go_meet
                      exact ⟨rfl, rfl⟩
                    · by_cases h4 : n1 = n2
                      · have h4' : (n1 == n2) = true := by simpa using h4
                        by_cases h5 : C < 0
                        · obtain rfl : B = true := by rw [HBB.out]; exact decide_eq_true (.inr ⟨h2, .inr ⟨h4, h5⟩⟩)
                          clear h2 h4
                          go_wp2_with fail
                          refine HCM.out.mono ?_
                          rintro e w4 ⟨rfl, rfl⟩
                          go_wp2_with fail
                          go_meet
                          exact ⟨rfl, rfl⟩
                        · obtain rfl : B = false := by rw [HBB.out]; exact decide_eq_false (by rintro (h | ⟨_, h | ⟨_, h⟩⟩); exact h1 h; exact h3 h; exact h5 h)
                          clear h2 h4
                          go_wp2_with fail
                          refine HCM.out.mono ?_
                          rintro e w4 ⟨rfl, rfl⟩
                          go_wp2_with fail
                          go_meet
                          exact ⟨by rw [decide_eq_false (show ¬ C < 0 by omega)], rfl⟩
                      · obtain rfl : B = false := by rw [HBB.out]; exact decide_eq_false (by rintro (h | ⟨_, h | ⟨h, _⟩⟩); exact h1 h; exact h3 h; exact h4 h)
                        have h4' : (n1 == n2) = false := by simpa using h4
                        clear h2
                        go_wp2_with fail
                        go_meet
                        exact ⟨rfl, rfl⟩
                  · obtain rfl : B = false := by rw [HBB.out]; exact decide_eq_false (by rintro (h | ⟨h, _⟩); exact h1 h; exact h2 h)
                    have h2' : ((m1 : Int) == (m2 : Int)) = false := by simpa using h2
                    go_wp2_with fail
                    go_meet
                    exact ⟨rfl, rfl⟩
              case rest =>
                obtain ⟨rfl, hw⟩ := hcut
                subst hw
                cases B
                · have HB4 := Lib.hid (HB3.out (of_decide_eq_false HBL.out.symm))
                  have hS2 := HSS.out.tail
                  have HM := hM2
                  go_wp2_with fail
                  go_roundw
                  case rel => exact ⟨s + 1, _, by omega, by go_num, hS2, HB4⟩
                  case measure => simp [intOf]; omega
                · have HB4 := Lib.hid (HB2.out (of_decide_eq_true HBL.out.symm))
                  have hS2 := HSS.out.drop 1 rfl rfl
                  have HM := hM1
                  go_wp2_with fail
                  go_roundw
                  case rel => exact ⟨s + 1, _, by omega, by go_num, hS2, HB4⟩
                  case measure => simp [intOf]; omega
    · obtain rfl : s = N := by omega
      obtain ⟨q, hq⟩ := HEX.out
      obtain ⟨qA, qc, hu7, hu8, hu9, hl0⟩ : ∃ A c, u7 = .slice A (ixV q n).length c ∧ u8 = .int .i64 (ixV q n).length ∧ u9 = .int .i64 (lngS xs q n) ∧ l = [rIn w.heap.size A (ixV q n).length c (ixV q n)] := by
        have := HB.out
        rw [hq] at this
        exact this
      subst hu7 hu8 hu9 hl0
      have HK := Lib.hid (show keysO xs n (bstS xs f by_ n s) = keysS xs (idxS q n) by rw [hq]; rfl)
      have HQ := Lib.hid hq
      clear hq HB
      have hml : (ixV q n).length ≤ 16 := by rw [ixV_len]; exact Nat.le_trans (idxS_len q n) (by omega)
      obtain ⟨m, hm⟩ : ∃ m, (ixV q n).length = m := ⟨_, rfl⟩
      have HM2 := Lib.hid hm
      rw [hm] at hS hml ⊢
      have hS1 := hS.nil w.heap.size 9 1
      clear hS hm
      go_wp2_with fail
      go_loopw [17, 94] (fun v i w2 => ∃ (k : Nat) (acc : List ByteArray), k ≤ m ∧ i = .int .i64 k ∧ acc.length = k ∧ Hid (keysS xs ((idxS q n).take k) = acc) ∧ Sq w w2 [rOwn w.heap.size 9 1 v acc.length (strsV acc), rIn w.heap.size qA m qc (ixV q n)]) (fun _ i _ => m - (intOf i).toNat)
      case atStart => exact ⟨0, [], Nat.zero_le _, rfl, rfl, Lib.hid rfl, hS1⟩
      case round =>
        clear hS1
        obtain ⟨k, acc, hk, rfl, hac, HKA, hS⟩ := hrel
        by_cases hlt3 : k < m
        · have hki : k < (idxS q n).length := by rw [← ixV_len, HM2.out]; exact hlt3
          obtain ⟨i, hiq⟩ : ∃ i, (idxS q n)[k] = i := ⟨_, rfl⟩
          have hin : i < n := (idxS_lt (hiq ▸ List.getElem_mem hki)).1
          have hir : i < xs.length := by rw [HL.out]; exact hin
          have r2 := Rd.own (b := b) (show wr.ownsRow w.heap.size 3 1 (.slice qA m qc) m ((ixV q n).map (Value.int .i64)) from hS.nth 1 rfl) hb
          obtain ⟨A', c', e1, _, _, _, _, e6⟩ := r2
          injection e1 with ea eb ec
          subst ea ec
          obtain ⟨gi, oi, hA1, _, hci⟩ := e6 (by omega)
          subst hA1
          have ci := hci k (.int .i64 i) (by rw [List.getElem?_map, ixV, List.getElem?_map, List.getElem?_eq_getElem hki, hiq]; rfl)
          obtain ⟨gs, os, hA2, _, hcs⟩ := HC.out (by omega)
          subst hA2
          have c0 := below_cell hS.below (hcs i hir 0 (by omega))
          have hstep : keysS xs ((idxS q n).take (k + 1)) = acc ++ [xs[i].key] := by
            rw [← HKA.out, List.take_add_one, List.getElem?_eq_getElem hki, hiq]
            simp [keysS, List.getElem?_eq_getElem hir]
          obtain ⟨x, hx⟩ : ∃ x, xs[i].key = x := ⟨_, rfl⟩
          replace c0 : wr.cell? ⟨gs, os + i * 5, none⟩ = some (.string x) := by rw [← hx]; exact c0
          rw [hx] at hstep
          have HST := Lib.hid hstep
          have hi0 : (0 : Int) ≤ (i : Int) := by omega
          have hi1 : (i : Int) < (n : Int) := by omega
          have hown : wr.ownsRow w.heap.size 9 1 u17 acc.length (strsV acc) := hS.head
          have hsz := hS.size
          have hacl : acc.length < 16 := by omega
          clear hcs hci hx hstep e6 hiq
          go_wp2_with (first
            | (at_builtin; refine wpList_append_own_at _ rfl _ _ 26 rfl w.heap.size 9 j0 (.string ⟨#[]⟩) 1 16 Try.underlying26 hj hy0 hy1 hy2 rfl (by decide) _ _ _ rfl (hown.alloc _) ⟨wr.heap.size, 0, none⟩ 1 1 [.string x] rfl rfl (World.news_of_block (heap_alloc_new _ _)) (one1 rfl) (by unfold maxLen; omega) (by omega) (by simp; omega) ?_; intro v' w8 hown' hgrow _ hblk; have hS8 := (hS.alloc (.cells #[.string x] 9)).append hown' hgrow hblk; clear hown' hgrow hblk))
          go_roundw
          case rel => exact ⟨k + 1, acc ++ [x], by omega, by go_num, by simp [hac], HST, by rw [List.length_append, strsV, List.map_append]; exact hS8⟩
          case measure => simp [intOf]; omega
        · obtain rfl : k = m := by omega
          have HFIN := Lib.hid (show acc = keysS xs (idxS q n) from HKA.out.symm.trans (by rw [List.take_of_length_le (by rw [← ixV_len, HM2.out]; exact Nat.le_refl _)]))
          have hS9 := hS
          clear hS
          go_wp2_with fail
          go_ret
          exact ⟨_, rfl, by rw [HK.out, ← HFIN.out]; exact hS9.head, hS9.below⟩
end Go.Proofs.Ytejadhehmcifoaa
