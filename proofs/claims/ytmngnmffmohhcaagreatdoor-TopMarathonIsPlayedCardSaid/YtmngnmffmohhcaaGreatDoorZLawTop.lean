/-
  TopMarathonIsPlayed: the law's own walk.
-/
import Derived.Test.YtmngnmffmohhcaaGreatDoorZStream
import Derived.Test.YtmngnmffmohhcaaGreatDoorZSlfPure
import Derived.Test.YtmngnmffmohhcaaGreatDoorZTopFacts
import Derived.Test.YtmngnmffmohhcaaGreatDoorZKeepPure
import Derived.Test.YtmngnmffmohhcaaGreatDoorZSlot11
import Derived.Deep.DeepCutAuto
namespace Go.Proofs.YtmngnmffmohhcaaGreatDoor
open Go Go.RowKit

theorem slts_ofR2 {w W : World} {b K n c h : Nat} {A : Option Addr} {xs : List Slt} {l : List Rsc} (hS : Sp w b K W (rOwn w.heap.size 49 5 (.slice A n c) n (xs.flatMap sltC) :: rAll (hostR w.heap.size) xs :: l)) (hz : SltZs h xs) (hh : h ≤ 1000) : Slts W b A n c xs := by
  have h0 : W.ownsRow w.heap.size 49 5 (.slice A n c) n (xs.flatMap sltC) := hS.head
  have h1 : ∀ x ∈ xs, (hostR w.heap.size x).P W := hS.tail.head
  exact ⟨Rd.own h0 hS.hb, fun x hx => ⟨Rd.own (h1 x hx) hS.hb, (hz x hx).hk, (hz x hx).hw, (hz x hx).hh, Nat.le_trans (hz x hx).hn hh, (hz x hx).hs, (hz x hx).hl⟩⟩
theorem info_lvT : (Tryz.prog.info? 39).map (fun i => (i.zero, i.size, i.bytes)) = some (some (.agg #[.int .i64 0, .int .i64 0, .string ⟨#[]⟩]), 3, 32) := by kernel_rfl
theorem run_maxT {P : Program} {w : World} (ts : Array TypeId) (t : TypeId) (k k' : IntKind) (x y : Int) : (Builtin.max_ ts t #[.int k x, .int k' y]).run P w = .ok (.int k (max x y)) w := by
  rw [run_max_int2, show (if y > x then y else x) = max x y by split <;> omega]
attribute [local go_sem ↓] run_maxT
theorem one6 {a b c d e f : Value} (ha : a.oneCell' = true) (hb : b.oneCell' = true) (hc : c.oneCell' = true) (hd : d.oneCell' = true) (he : e.oneCell' = true) (hf : f.oneCell' = true) : ∀ u ∈ [a, b, c, d, e, f], u.oneCell' = true := by
  intro u hu
  simp at hu
  rcases hu with rfl | rfl | rfl | rfl | rfl | rfl <;> assumption
theorem topL_ok {xs : List Slt} (h : RSlots xs) {f : Int} (hf : 0 ≤ f ∧ f ≤ 1000) (hz : ∀ x ∈ xs, x.key.size ≤ 1000) : ∀ k, k ≤ xs.length → ∀ y ∈ topL f xs k, LvOk y
  | 0, _ => by intro y hy; cases hy
  | k + 1, hk => by
    intro y hy
    have h5 := h.len
    have hb0 := rsl_from h hf k (by omega)
    have hb1 := rsl_from h hf (k + 1) hk
    have hkz := hz _ (List.getElem_mem (show k < xs.length by omega))
    rw [topL_step f xs k (by omega)] at hy
    rcases List.mem_append.1 hy with hy | hy
    · exact topL_ok h hf hz k (by omega) y hy
    · simp at hy
      rcases hy with rfl | rfl
      · refine ⟨⟨?_, ?_⟩, ⟨?_, ?_⟩, hkz⟩ <;> simp only <;> omega
      · refine ⟨⟨?_, ?_⟩, ⟨?_, ?_⟩, hkz⟩ <;> simp only <;> omega
theorem topL_flat (f : Int) (xs : List Slt) (k : Nat) (hk : k < xs.length) : (topL f xs (k + 1)).flatMap lvC = (topL f xs k).flatMap lvC ++ [.int .i64 (fromAt f xs k), .int .i64 1, .string xs[k].key, .int .i64 (fromAt f xs (k + 1)), .int .i64 2, .string xs[k].key] := by
  rw [topL_step f xs k hk, List.flatMap_append]
  rfl
set_option maxRecDepth 100000 in
set_option maxHeartbeats 4000000 in
theorem top_walk (a0 : Option Addr) (len0 cap0 : Nat) (z0 : List Int) (w : World) (w0 : InRow w a0 len0 cap0 z0) (ht : Tab w) :
    Calls Tryz.prog 3 #[.slice a0 len0 cap0] w fun e w' => e = .returned (.bool true) ∧ Below w.heap.size w w' := by
  have hs0 := strm_start w0 25
  have hb0 : Bx w.heap.size w.heap.size w (w.alloc (.cells #[.slice a0 len0 cap0, .int .i64 0] 25)) := (Bx.refl _ _ _).alloc (Nat.le_refl _) _
  obtain ⟨i0, hi, hi0, hi1, hi2⟩ := info_parts info_lvT
  clear w0
  go_enter Tryz.func3, Tryz.ntmps3
  go_wp2_with fail
  refine (rightSlotsR_calls w.heap.size 0 4 _ hs0 (by omega) (by omega)).mono ?_
  rintro e w1 ⟨v, xs, rfl, hx5, hz, hR, hS⟩
  obtain ⟨n, hn⟩ : ∃ n, xs.length = n := ⟨_, rfl⟩
  rw [hn] at hS hx5
  obtain ⟨A, c, hv⟩ := own_form (show w1.ownsRow _ _ _ v n _ from hS.head)
  subst hv
  have hr1 := slts_ofR2 hS hz (by omega)
  have hs1 := hS.strm
  have hb1 := hb0.call hS.bx (Nat.le_refl _)
  have hkz : ∀ x ∈ xs, x.key.size ≤ 1000 := fun x hx => (hz x hx).hk
  have HR := Lib.hid hR
  have HN := Lib.hid hn
  have HKZ := Lib.hid hkz
  clear hS hs0 hb0 hz hn hR hkz
  go_wp2_with fail
  refine (range_calls w.heap.size _ 0 1000 _ (by omega) (by omega) (by omega) hs1 (by omega)).mono ?_
  rintro e w2 ⟨f, rfl, f0, f1, hs2, hc2⟩
  have hr2 := hr1.bx hc2
  have hb2 := hb1.call hc2 (Nat.le_refl _)
  have hlt2 := hs2.lt
  have HT := Lib.hid (timetableX_calls w.heap.size A n c xs f w2 hr2 (by omega) (by omega) hlt2)
  rw [rsl_tabE HR.out ⟨f0, f1⟩, rsl_tabL HR.out ⟨f0, f1⟩] at HT
  obtain ⟨L, hL⟩ : ∃ L, placesF f xs = L := ⟨_, rfl⟩
  have hLn : L.length = n := by rw [← hL]; unfold placesF; rw [placesTo_len f xs _ (Nat.le_refl _), HN.out]
  rw [hL] at HT
  have HL := Lib.hid hL
  clear hs1 hr1 hc2 hb1 hL
  go_wp2_with fail
  refine HT.out.mono ?_
  rintro e w3 ⟨v3, rfl, ho3, hb3⟩
  rw [hLn] at ho3
  obtain ⟨A3, c3, hv3⟩ := own_form ho3
  subst hv3
  have hr3 := hr2.below hb3
  have hB3 := (hb2.callB hb3 (Nat.le_refl _)).below (Nat.le_refl _)
  have hlt3 : w.heap.size < w3.heap.size := by have := hb3.size; omega
  have hcap3 := own_cap ho3
  have hcx := (hr3.rd.cells sltC_len (by omega))
  have hcap := hcx.2.2.1
  have hncap := hcx.2.1
  unfold maxLen at hcap
  have HC := Lib.hid hcx.2.2.2
  have HP := Lib.hid ho3
  have hS0 := (Sq.start w3).nil w3.heap.size 39 3
  have HLATE : Hid (∀ W (k cv : Nat) (Av : Option Addr), k < n → Below w3.heap.size w3 W → Rd W w.heap.size 3 (.slice Av (2 * k) cv) (2 * k) ((topL f xs k).flatMap lvC) → Calls Tryz.prog 8 #[.slice A n c, .int .i64 f, .slice Av (2 * k) cv, .int .i64 (max f (fromAt f xs k))] W (BRet (.tuple #[.int .i64 0, .int .i64 0]) W)) := fun W k cv Av hk h hrv => by
    have hkx : k ≤ xs.length := by rw [HN.out]; omega
    have hb := rsl_from HR.out ⟨f0, f1⟩ k hkx
    have h5 := HR.out.len
    have hge : f ≤ fromAt f xs k := by
      clear hk hrv hb
      induction k with
      | zero => exact Int.le_refl _
      | succ j ih =>
        have := ih (by omega)
        have := rsl_up HR.out f j (by omega)
        omega
    have := late_calls w.heap.size A Av n c (2 * k) cv xs (topL f xs k) f (fromAt f xs k) W (hr3.below h) (by omega) hrv (topL_ok HR.out ⟨f0, f1⟩ HKZ.out k hkx) (by have := h.size; omega)
    rw [top_knownE HR.out ⟨f0, f1⟩ hkx (Int.le_refl _) hge (by omega) (.inl rfl), top_knownL HR.out ⟨f0, f1⟩ hkx (Int.le_refl _) hge (by omega) (.inl rfl), lateV_self] at this
    rw [Int.max_eq_right hge]
    exact this
  have HEXP : Hid (∀ W (cv : Nat) (Av : Option Addr), Below w3.heap.size w3 W → Rd W w.heap.size 3 (.slice Av (2 * n) cv) (2 * n) ((topL f xs n).flatMap lvC) → Calls Tryz.prog 10 #[.slice A n c, .int .i64 f, .slice Av (2 * n) cv, .int .i64 86400000] W (KnownS L 0 W)) := fun W cv Av h hrv => by
    have hnx : n ≤ xs.length := by rw [HN.out]; exact Nat.le_refl _
    have hb := rsl_from HR.out ⟨f0, f1⟩ n hnx
    have h5 := HR.out.len
    have := expectedX_calls w.heap.size A Av n c (2 * n) cv xs (topL f xs n) f 86400000 W (hr3.below h) (by omega) hrv (topL_ok HR.out ⟨f0, f1⟩ HKZ.out n hnx) (by have := h.size; omega)
    rw [top_knownE HR.out ⟨f0, f1⟩ hnx (by omega) (by omega) (by omega) (.inr HN.out.symm), top_knownL HR.out ⟨f0, f1⟩ hnx (by omega) (by omega) (by omega) (.inr HN.out.symm), HL.out] at this
    exact this
  have HFIN : Hid (∀ (W : World) (b e : Int), w.heap.size < W.heap.size → 0 ≤ b → b ≤ e → e ≤ 100000 → ∃ Y Z, Calls Tryz.prog 9 #[.int .i64 1, .slice (some ⟨W.heap.size, 0, none⟩) 2 2] (W.alloc (.cells #[.int .i64 b, .int .i64 1, .int .i64 e, .int .i64 2] 45)) (BRet (.tuple #[.agg #[.int .i64 (e - b), .int .i64 Y, .bool Z], .bool true, .int .i64 0]) (W.alloc (.cells #[.int .i64 b, .int .i64 1, .int .i64 e, .int .i64 2] 45)))) := fun W b e hW hb hbe he => by
    have hok : PzOk [(b, 1), (e, 2)] := by
      have := (PzOk.snoc (l := [(b, 1)]) ⟨(by intro p hp; simp at hp; subst hp; simp only; omega), (by intro p hp; simp at hp; subst hp; simp), fun i h => absurd h (by simp)⟩ (p := (e, 2)) (by simp only; omega) (by simp) (by intro q hq; simp at hq; subst hq; exact hbe))
      exact this
    have hseg : segF ((1 : Nat) : Int) [(b, 1), (e, 2)] = 0 := hok.seg (by simp) (by omega)
    obtain ⟨h1, h2, h3⟩ := top_fin hbe (by omega) (by omega)
    have := final_ok w.heap.size 1 (some ⟨W.heap.size, 0, none⟩) 2 2 [(b, 1), (e, 2)] (W.alloc (.cells #[.int .i64 b, .int .i64 1, .int .i64 e, .int .i64 2] 45)) (Rd.lit0 hW (by decide) rfl) hseg
    rw [show ((1 : Nat) : Int) = 1 from rfl, h1, h2] at this
    unfold cutV at this
    rw [h3] at this
    exact ⟨_, _, this⟩
  have HFT : Hid (∀ W, Below w3.heap.size w3 W → Calls Tryz.prog 12 #[] W (BRet (.bool true) W)) := fun W h => facts_calls w.heap.size W (by have := h.size; omega) (ht.below (below_call hB3 h (Nat.le_refl _)))
  have HEND : Hid (∀ W W', Below w3.heap.size w3 W → Below W.heap.size W W' → Below w.heap.size w W') := fun W W' h h' => below_call (below_call hB3 h (Nat.le_refl _)) h' (Nat.le_refl _)
  have HLT2 := Lib.hid hlt2
  have HLT3 := Lib.hid hlt3
  clear HT hr2 hs2 hb2 hb3 hr3 hcx ho3 hB3 ht hlt2 hlt3
  go_wp2_with fail
  go_loopw [8, 42] (fun v i wr => ∃ k : Nat, k ≤ n ∧ i = .int .i64 k ∧ Sq w3 wr [rOwn w3.heap.size 39 3 v (2 * k) ((topL f xs k).flatMap lvC)]) (fun _ i _ => n - (intOf i).toNat)
  case atStart => exact ⟨0, Nat.zero_le _, rfl, hS0⟩
  case round =>
    clear hS0
    obtain ⟨k, hk, rfl, hS⟩ := hrel
    obtain ⟨Av, cv, hv⟩ := own_form (show wr.ownsRow w3.heap.size 39 3 u8 (2 * k) ((topL f xs k).flatMap lvC) from hS.head)
    subst hv
    by_cases hlt : k < n
    · have hkx : k < xs.length := by rw [HN.out]; exact hlt
      have hkl : k < L.length := by omega
      obtain ⟨g, o, hA, hgb, hcs⟩ := HC.out (by omega)
      have hA' := hA
      subst hA'
      obtain ⟨g3, cp3, hv3, hg3, _⟩ := HP.out.form (by omega)
      injection hv3 with hA3 _ hc3
      subst hA3 hc3
      have hle : L[k] = plcOf (fromAt f xs k) xs[k] := by
        have hg := placesTo_get f xs xs.length (Nat.le_refl _) k hkx hkx
        have h2 : L[k]? = some L[k] := List.getElem?_eq_getElem hkl
        have h3 : L[k]? = some (plcOf (fromAt f xs k) xs[k]) := by rw [← HL.out]; exact hg
        have h4 := h2.symm.trans h3
        injection h4
      have hfs := fromAt_step f xs k hkx
      have hbd := rsl_from HR.out ⟨f0, f1⟩ k (by omega)
      have hrx := HR.out.all _ (List.getElem_mem hkx)
      have hfl := topL_flat f xs k hkx
      have h5 := HR.out.len
      have y0 := below_cell hS.below (own_cell plcC 4 plcC_len HP.out k 0 hkl hlt (by omega))
      have y1 := below_cell hS.below (own_cell plcC 4 plcC_len HP.out k 1 hkl hlt (by omega))
      have y2 := below_cell hS.below (own_cell plcC 4 plcC_len HP.out k 2 hkl hlt (by omega))
      have y3 := below_cell hS.below (own_cell plcC 4 plcC_len HP.out k 3 hkl hlt (by omega))
      have x4 := hcs k hkx 4 (by omega)
      rw [hle] at y0 y1 y2 y3
      obtain ⟨x, hx⟩ : ∃ x, xs[k] = x := ⟨_, rfl⟩
      obtain ⟨fk, hfk⟩ : ∃ fk, fromAt f xs k = fk := ⟨_, rfl⟩
      have HLA := HLATE.out
      have hLA := fun W cv Av h1 h2 => HLA W k cv Av hlt h1 h2
      rw [hfk] at hLA
      have HLA2 := Lib.hid hLA
      rw [hx] at x4 hfs hrx y0 y1 y2 y3 hfl
      rw [hfk] at hfs hbd y0 y1 y2 y3 hfl
      obtain ⟨key, who, ha, hc, hh, sp, lg⟩ := x
      have hsu : 0 ≤ sp ∧ sp ≤ 20 := hrx.setup
      have hlo : 50 ≤ lg ∧ lg ≤ 200 := hrx.long
      obtain ⟨su0, su1⟩ := hsu
      obtain ⟨lo0, lo1⟩ := hlo
      obtain ⟨bd0, bd1⟩ := hbd
      replace x4 := (show w3.cell? ⟨g, o + k * 5 + 4, none⟩ = some (.int .i64 lg) from x4)
      replace y0 : wr.cell? ⟨g3, k * 4, none⟩ = some (.string key) := y0
      replace y1 : wr.cell? ⟨g3, k * 4 + 1, none⟩ = some (.int .i64 fk) := y1
      replace y2 : wr.cell? ⟨g3, k * 4 + 2, none⟩ = some (.int .i64 (fk + sp)) := y2
      replace y3 : wr.cell? ⟨g3, k * 4 + 3, none⟩ = some (.int .i64 (fk + sp + lg)) := y3
      have hfs : fromAt f xs (k + 1) = fk + sp + lg := hfs
      rw [hfs] at hfl
      have hfl : (topL f xs (k + 1)).flatMap lvC = (topL f xs k).flatMap lvC ++ [.int .i64 fk, .int .i64 1, .string key, .int .i64 (fk + sp + lg), .int .i64 2, .string key] := hfl
      have HFL := Lib.hid hfl
      have X4 := Lib.hid x4
      have hSa := hS.add #[.string key, .int .i64 fk, .int .i64 (fk + sp), .int .i64 (fk + sp + lg)] 35
      have hra := Rd.own (b := w.heap.size) (show (wr.alloc (.cells #[.string key, .int .i64 fk, .int .i64 (fk + sp), .int .i64 (fk + sp + lg)] 35)).ownsRow w3.heap.size 39 3 (.slice Av (2 * k) cv) (2 * k) ((topL f xs k).flatMap lvC) from hSa.nth 1 rfl) HLT3.out
      have HLA3 := Lib.hid (HLA2.out _ _ _ hSa.below hra)
      clear hcs hle hfs hrx hx hfk hA hgb hS hra HLA hLA x4 hfl hg3
      go_wp2_with fail
      refine HLA3.out.mono ?_
      rintro e w4 ⟨rfl, hb4⟩
      have hS4 := (hSa.callB hb4).front 1 rfl rfl
      obtain ⟨g10, hg10⟩ : ∃ g10, wr.heap.size = g10 := ⟨_, rfl⟩
      rw [hg10] at hS4 ⊢
      have K := show Blk w4 g10 35 #[.string key, .int .i64 fk, .int .i64 (fk + sp), .int .i64 (fk + sp + lg)] from hS4.nth 1 rfl
      have z0 := K.cell 0
      have z1 := K.cell 1
      have z2 := K.cell 2
      have z3 := K.cell 3
      have hz4 := hS4.size
      have HO := hS4.head
      clear hSa hb4 y0 y1 y2 y3 K hg10
      go_wp2_with (first
        | (at_builtin; refine wpList_append_own_at _ rfl _ _ 33 rfl w3.heap.size 39 i0 (.agg #[.int .i64 0, .int .i64 0, .string ⟨#[]⟩]) 3 32 Tryz.underlying33 hi hi0 hi1 hi2 rfl (by decide) _ _ _ rfl (HO.alloc _) ⟨w4.heap.size, 0, none⟩ 2 2 [.int .i64 fk, .int .i64 1, .string key, .int .i64 (fk + sp + lg), .int .i64 2, .string key] rfl rfl (World.news_of_block (heap_alloc_new _ _)) (one6 rfl rfl rfl rfl rfl rfl) (by unfold maxLen; omega) (by omega) (by simp; omega) ?_; intro v' w5 hown' hgrow _ hblk; have hS5 := (hS4.alloc _).append hown' hgrow hblk; have z2 := Blk.cell (show Blk w5 g10 35 #[.string key, .int .i64 fk, .int .i64 (fk + sp), .int .i64 (fk + sp + lg)] from hS5.nth 1 rfl) 2; have z3 := Blk.cell (show Blk w5 g10 35 #[.string key, .int .i64 fk, .int .i64 (fk + sp), .int .i64 (fk + sp + lg)] from hS5.nth 1 rfl) 3; clear hown' hgrow hblk HO))
      have hz5 := hS5.size
      obtain ⟨Y, Z, hfin⟩ := HFIN.out w5 (fk + sp) (fk + sp + lg) (by have := HLT3.out; omega) (by omega) (by omega) (by have := hx5; omega)
      have hd : fk + sp + lg - (fk + sp) = lg := by omega
      rw [hd] at hfin
      have HF := Lib.hid hfin
      clear hfin hd
      have hSp := hS5.add #[.int .i64 (fk + sp), .int .i64 1, .int .i64 (fk + sp + lg), .int .i64 2] 45
      refine HF.out.mono ?_
      rintro e w6 ⟨rfl, hb6⟩
      have hS6 := (hSp.callB hb6).add #[.int .i64 lg, .int .i64 Y, .bool Z] 41
      obtain ⟨g13, hg13⟩ : ∃ g13, w6.heap.size = g13 := ⟨_, rfl⟩
      rw [hg13] at hS6
      clear hSp hb6 hS5 hS4 z0 z1 z2 z3
      go_upto_region 15 with (fail)
      obtain ⟨W6, hW6⟩ : ∃ W6, W6 = w6.alloc (.cells #[.int .i64 lg, .int .i64 Y, .bool Z] 41) := ⟨_, rfl⟩
      rw [← hW6] at hS6 ⊢
      have q0 := Blk.cell (show Blk W6 g13 41 #[.int .i64 lg, .int .i64 Y, .bool Z] from hS6.head) 0
      have x4 := below_cell hS6.below X4.out
      have hk0 : (0 : Int) ≤ (k : Int) := by omega
      have hk1 : (k : Int) < (n : Int) := by omega
      have hSz : Sq w3 W6 [rOwn w3.heap.size 39 3 v' (2 * (k + 1)) ((topL f xs (k + 1)).flatMap lvC)] := by
        rw [HFL.out]
        exact ((hS6.drop 0 rfl rfl).drop 0 rfl rfl).drop 1 rfl rfl
      clear hW6 hg13 hS6
      go_quiet (fail)
      go_wp2_with fail
      go_roundw
      case rel => exact ⟨k + 1, by omega, by go_num, hSz.drewN _⟩
      case measure => simp [intOf]; omega
    · obtain rfl : k = n := by omega
      have hrv := Rd.own (b := w.heap.size) (show wr.ownsRow w3.heap.size 39 3 (.slice Av (2 * k) cv) (2 * k) ((topL f xs k).flatMap lvC) from hS.head) HLT3.out
      have HE := Lib.hid (HEXP.out wr cv Av hS.below hrv)
      have hp3 := own_below HP.out hS.below
      clear hrv
      go_wp2_with fail
      refine HE.out.mono ?_
      rintro e w4 ⟨v4, rfl, ho4, hb4⟩
      rw [hLn] at ho4
      obtain ⟨A4, c4, hv⟩ := own_form ho4
      subst hv
      have hp4 := own_below hp3 hb4
      have hB4 := below_call hS.below hb4 (Nat.le_refl _)
      have HQ := Lib.hid (equalPlc_calls w.heap.size A3 A4 k c3 c4 L w4 (Rd.own hp4 HLT2.out) (Rd.own ho4 (by have := hS.size; have := HLT3.out; omega)))
      clear hS hb4 ho4 hp3 hp4
      go_wp2_with fail
      refine HQ.out.mono ?_
      rintro e w5 ⟨rfl, nq, rfl⟩
      have hB5 := below_drewN hB4 nq
      go_wp2_with fail
      refine (HFT.out _ hB5).mono ?_
      rintro e w6 ⟨rfl, hb6⟩
      go_wp2_with fail
      go_ret
      exact ⟨rfl, HEND.out _ _ hB5 hb6⟩
end Go.Proofs.YtmngnmffmohhcaaGreatDoor
