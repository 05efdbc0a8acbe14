/-
  Slots that are written: the reference's SlotLines by its contract.
-/
import Derived.Test.YtaendemgkabdfaaGreatDoorZSlt4
import Derived.Test.YtaendemgkabdfaaGreatDoorZTxt4
namespace Go.Proofs.YtaendemgkabdfaaGreatDoor
open Go Go.RowKit TxtP
attribute [local go_sem ↓ high] run_sumS

theorem joinN_two (a b : Int) : joinN [a, b] = ⟨(Lib.itoa a ++ [32] ++ Lib.itoa b).toArray⟩ := by
  unfold joinN
  rw [List.map_cons, List.map_cons, List.map_nil, Lib.join_cons]
  simp [Lib.joinTail]
/-- a slot's line as the reference adds it up -/
abbrev lineM (key who hT nT : ByteArray) : ByteArray := sumS (sumS (sumS (sumS (sumS (sumS (sumS key ⟨#[32]⟩) who) ⟨#[32]⟩) hT) ⟨#[32]⟩) nT) ⟨#[10]⟩
structure AddM (X key who hT nT : ByteArray) : Prop where
  a1 : AddOk key ⟨#[32]⟩
  a2 : AddOk (sumS key ⟨#[32]⟩) who
  a3 : AddOk (sumS (sumS key ⟨#[32]⟩) who) ⟨#[32]⟩
  a4 : AddOk (sumS (sumS (sumS key ⟨#[32]⟩) who) ⟨#[32]⟩) hT
  a5 : AddOk (sumS (sumS (sumS (sumS key ⟨#[32]⟩) who) ⟨#[32]⟩) hT) ⟨#[32]⟩
  a6 : AddOk (sumS (sumS (sumS (sumS (sumS key ⟨#[32]⟩) who) ⟨#[32]⟩) hT) ⟨#[32]⟩) nT
  a7 : AddOk (sumS (sumS (sumS (sumS (sumS (sumS key ⟨#[32]⟩) who) ⟨#[32]⟩) hT) ⟨#[32]⟩) nT) ⟨#[10]⟩
  a8 : AddOk X (lineM key who hT nT)
theorem addM_of {X key who hT nT : ByteArray} (h0 : X.size ≤ 100000) (h1 : key.size ≤ 1000) (h2 : who.size ≤ 1000) (h3 : hT.size ≤ 4010) (h4 : nT.size ≤ 50) : AddM X key who hT nT := by
  have e1 : (⟨#[32]⟩ : ByteArray).size = 1 := rfl
  have e2 : (⟨#[10]⟩ : ByteArray).size = 1 := rfl
  constructor <;> (try unfold AddOk) <;> (try unfold lineM) <;> simp only [sumS_size, e1, e2] <;> omega
theorem lineM_data (key who hT nT : ByteArray) : (lineM key who hT nT).data.toList = key.data.toList ++ [32] ++ who.data.toList ++ [32] ++ hT.data.toList ++ [32] ++ nT.data.toList ++ [10] := by
  unfold lineM
  simp only [sumS_data]
set_option maxRecDepth 100000 in
set_option maxHeartbeats 4000000 in
theorem slotLines_calls (b : Nat) (A : Option Addr) (n c : Nat) (l : List Slt) (w : World) (hr : Slts w b A n c l) (hb : b < w.heap.size) (ht : Tab w) (hn : n ≤ 10) (hz : SltZs 4 l) :
    Calls Tryz.prog 19 #[.slice A n c] w (BRet (.string ⟨(sltsT l).toArray⟩) w) := by
  obtain ⟨hl, hnc, hcm, hcells⟩ := hr.rd.cells sltC_len (by omega)
  have HZ := Lib.hid hz
  have HRD := Lib.hid hr.ok
  have HL := Lib.hid hl
  have HCL := Lib.hid hcells
  clear hr hz hcells hl
  go_enter Tryz.func19, Tryz.ntmps19
  go_wp2
  go_loopw [3, 8] (fun s i wr => ∃ (k : Nat) (x : ByteArray), k ≤ n ∧ s = .string x ∧ i = .int .i64 k ∧ Hid (x = ⟨(sltsT (l.take k)).toArray⟩) ∧ Below w.heap.size w wr) (fun _ i _ => n - (intOf i).toNat)
  case atStart => exact ⟨0, ⟨#[]⟩, Nat.zero_le _, rfl, rfl, Lib.hid rfl, Below.refl _ _⟩
  case round =>
    obtain ⟨k, X, hk, rfl, rfl, HX, hbr⟩ := hrel
    by_cases hlt : k < n
    · have hkr : k < l.length := by rw [HL.out]; exact hlt
      obtain ⟨g, o, hA, _, hcs⟩ := HCL.out (by omega)
      subst hA
      have c0 := below_cell hbr (hcs k hkr 0 (by omega))
      have c1 := below_cell hbr (hcs k hkr 1 (by omega))
      have c2 := below_cell hbr (hcs k hkr 2 (by omega))
      have c3 := below_cell hbr (hcs k hkr 3 (by omega))
      have c4 := below_cell hbr (hcs k hkr 4 (by omega))
      have hxz := HZ.out _ (List.getElem_mem hkr)
      have hxr := (HRD.out _ (List.getElem_mem hkr)).rd.below hbr
      have hlk : X.size ≤ 100000 := by
        have := sltsT_le (HZ.out.take k)
        rw [List.length_take] at this
        rw [HX.out, ba_size]
        omega
      have htk := sltsT_take hkr
      obtain ⟨x, hx⟩ : ∃ x, x = l[k] := ⟨_, rfl⟩
      rw [← hx] at c0 c1 c2 c3 c4 hxz hxr htk
      obtain ⟨key, who, ha, hc, hh, su, lo⟩ := x
      obtain ⟨m, hm⟩ : ∃ m, hh.length = m := ⟨_, rfl⟩
      replace c0 : wr.cell? ⟨g, o + k * 5, none⟩ = some (.string key) := c0
      replace c1 : wr.cell? ⟨g, o + k * 5 + 1, none⟩ = some (.string who) := c1
      replace c2 : wr.cell? ⟨g, o + k * 5 + 2, none⟩ = some (.slice ha m hc) := by rw [← hm]; exact c2
      replace c3 : wr.cell? ⟨g, o + k * 5 + 3, none⟩ = some (.int .i64 su) := c3
      replace c4 : wr.cell? ⟨g, o + k * 5 + 4, none⟩ = some (.int .i64 lo) := c4
      replace hxr : Rd wr b 1 (.slice ha m hc) m (strsV hh) := by rw [← hm]; exact hxr
      have hsu : -2199023255552 ≤ su ∧ su ≤ 2199023255552 := hxz.hs
      have hlo : -2199023255552 ≤ lo ∧ lo ≤ 2199023255552 := hxz.hl
      obtain ⟨hT, hhT⟩ : ∃ t : ByteArray, t = ⟨(hostT hh).toArray⟩ := ⟨_, rfl⟩
      obtain ⟨nT, hnT⟩ : ∃ t : ByteArray, t = joinN [su, lo] := ⟨_, rfl⟩
      have hm4 : m ≤ 4 := by rw [← hm]; exact hxz.hn
      have hAM : AddM X key who hT nT := by
        refine addM_of hlk hxz.hk hxz.hw ?_ ?_
        · have h1 := hostT_le hxz.hh
          have h2 : hh.length * (1000 + 1) ≤ 4 * (1000 + 1) := Nat.mul_le_mul_right _ hxz.hn
          rw [hhT, ba_size]
          exact Nat.le_trans h1 (by show hh.length * (1000 + 1) + 1 ≤ 4010; omega)
        · have h1 := Lib.itoa_length_le su (by omega) (by omega)
          have h2 := Lib.itoa_length_le lo (by omega) (by omega)
          rw [hnT, joinN_two, ba_size]
          simp only [List.length_append, List.length_singleton]
          omega
      have HLN : Hid (sumS X (lineM key who hT nT) = ⟨(sltsT (l.take (k + 1))).toArray⟩) := by
        refine Lib.hid ?_
        have h1 : (sumS X (lineM key who hT nT)).data.toList = sltsT (l.take (k + 1)) := by
          rw [sumS_data, lineM_data, htk, HX.out, hhT, hnT, joinN_two]
          unfold sltT
          simp only [List.append_assoc]
        rw [← h1, ba_eta]
      have HLS : Hid (∀ V, Rd V b 1 (.slice ha m hc) m (strsV hh) → Calls Tryz.prog 60 #[.slice ha m hc] V (BRet (.string hT) V)) := by
        rw [hhT]; exact Lib.hid (fun V h => list_calls b ha m hc hh V h hxz.hh (by omega))
      have HNU : Hid (∀ V G, b < G → Tab V → Blk V G 3 #[.int .i64 su, .int .i64 lo] → Calls Tryz.prog 41 #[.slice (some ⟨G, 0, none⟩) 2 2] V (BRet (.string nT) V)) := by
        rw [hnT]
        refine Lib.hid (fun V G hG hT h => numbers_calls b _ 2 2 [su, lo] V (blkRd 1 2 h (by omega) (by decide) rfl) (fun z hz => ?_) hT (by omega) (by omega))
        simp only [List.mem_cons, List.not_mem_nil, or_false] at hz
        rcases hz with rfl | rfl <;> omega
      obtain ⟨a1, a2, a3, a4, a5, a6, a7, a8⟩ := hAM
      clear hcs hx hhT hnT hxz htk hm hlk
      go_upto_region 5 with (fail)
      obtain ⟨V0, hV0, hbV, hkV, hrV⟩ : ∃ V0, V0 = wr.alloc (.cells #[.string key, .string who, .slice ha m hc, .int .i64 su, .int .i64 lo] 52) ∧ Below w.heap.size w V0 ∧ Blk V0 wr.heap.size 52 #[.string key, .string who, .slice ha m hc, .int .i64 su, .int .i64 lo] ∧ Rd V0 b 1 (.slice ha m hc) m (strsV hh) :=
        ⟨_, rfl, hbr.alloc hbr.size _, Blk.new _ _ _, hxr.below ((Below.refl _ _).alloc (Nat.le_refl _) _)⟩
      rw [← hV0]
      obtain ⟨H, hH⟩ : ∃ H, H = wr.heap.size := ⟨_, rfl⟩
      rw [← hH] at hkV ⊢
      clear hV0 hH hbr c0 c1 c2 c3 c4 hxr
      have hbD := below_drewN hbV 1
      have htD : Tab V0.drew := ht.below hbD
      have hkD : Blk V0.drew H 52 #[.string key, .string who, .slice ha m hc, .int .i64 su, .int .i64 lo] := hkV
      have hrD : Rd V0.drew b 1 (.slice ha m hc) m (strsV hh) := hrV.below (below_drewN (Below.refl _ _) 1)
      have s0 := hkV.c5
      have hbA : Below V0.heap.size V0 (V0.alloc (.cells #[.int .i64 su, .int .i64 lo] 3)).drew := below_drewN ((Below.refl _ _).alloc (Nat.le_refl _) _) 1
      have hbVA := below_call hbV hbA (Nat.le_refl _)
      have htA := ht.below hbVA
      have hkA := hkV.below hbA
      have hrA := hrV.below hbA
      have sA := hkA.c5
      have kA : Blk (V0.alloc (.cells #[.int .i64 su, .int .i64 lo] 3)).drew V0.heap.size 3 #[.int .i64 su, .int .i64 lo] := Blk.new _ _ _
      have hbV0 : b < V0.heap.size := Nat.lt_of_lt_of_le hb hbV.size
      have HBS : Hid (∀ V, Below V0.drew.heap.size V0.drew V → b < V.heap.size) := Lib.hid (fun V h => Nat.lt_of_lt_of_le hbV0 h.size)
      go_region_held3 (fun V => V.cell? ⟨H, 0, none⟩ = some (.string key) ∧ V.cell? ⟨H, 1, none⟩ = some (.string who) ∧ V.cell? ⟨H, 2, none⟩ = some (.slice ha m hc) ∧ V.cell? ⟨H, 3, none⟩ = some (.int .i64 su) ∧ V.cell? ⟨H, 4, none⟩ = some (.int .i64 lo))
        (first | exact s0 | exact sA | exact sL | exact sLB | exact sN | go_keep)
        (first
          | (go_at_call 60; ((with_reducible refine (HLS.out _ hrD).mono ?_); rintro e wL ⟨rfl, hbL⟩; have hkL := hkD.below hbL; have sL := hkL.c5; have hbB := below_call hbD hbL (Nat.le_refl _); have hbC := hbB.alloc hbB.size (.cells #[.int .i64 su, .int .i64 lo] 3); have kB : Blk (wL.alloc (.cells #[.int .i64 su, .int .i64 lo] 3)) wL.heap.size 3 #[.int .i64 su, .int .i64 lo] := Blk.new _ _ _; have hkB := hkL.below ((Below.refl _ _).alloc (Nat.le_refl _) (.cells #[.int .i64 su, .int .i64 lo] 3)); have sLB := hkB.c5; have htB := ht.below hbC; have hbG := HBS.out _ hbL))
          | (go_at_call 60; ((with_reducible refine (HLS.out _ hrA).mono ?_); rintro e wL ⟨rfl, hbL⟩; have hkL := hkA.below hbL; have sL := hkL.c5; have kL := kA.below hbL; have hbE := below_call hbVA hbL (Nat.le_refl _); have htE := ht.below hbE))
          | (go_at_call 41; ((with_reducible refine (HNU.out _ _ hbG htB kB).mono ?_); rintro e wN ⟨rfl, hbN⟩; have sN := (hkB.below hbN).c5; have hbX := below_call hbC hbN (Nat.le_refl _)))
          | (go_at_call 41; ((with_reducible refine (HNU.out _ _ hbV0 htE kL).mono ?_); rintro e wN ⟨rfl, hbN⟩; have sN := (hkL.below hbN).c5; have hbX := below_call hbE hbN (Nat.le_refl _))))
      all_goals
        clear s0 sA hkA hkD hkV kA HLS HNU a1 a2 a3 a4 a5 a6 a7 a8 HBS sL sN
        go_wp2_with fail
        go_roundw
        case rel => exact ⟨k + 1, _, by omega, rfl, by go_num, HLN, hbX⟩
        case measure => simp [intOf]; omega
    · obtain rfl : k = n := by omega
      have HX2 : Hid (X = ⟨(sltsT l).toArray⟩) := by
        have := HX.out
        rw [List.take_of_length_le (by rw [HL.out]; exact Nat.le_refl _)] at this
        exact Lib.hid this
      go_wp2
      go_ret
      exact ⟨by rw [← HX2.out]; rfl, hbr⟩
end Go.Proofs.YtaendemgkabdfaaGreatDoor
