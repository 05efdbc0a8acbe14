/-
  A run's line: rule.readRun and rule.Read's closure by contracts. (Printed by gen_rtx1.py.)
-/
import Derived.Test.YthbcogekfdllmaaGreatDoorZCntS
import Derived.Test.YthbcogekfdllmaaGreatDoorZPrt2
import Derived.Test.YthbcogekfdllmaaGreatDoorZRatMake4
import Derived.BigQuiet
import Derived.Deep.DeepCutAuto
import Derived.Deep.RegionHeld3
namespace Go.Proofs.YthbcogekfdllmaaGreatDoor
open Go Go.RowKit TxtP

theorem countC_calls (s : ByteArray) (c : UInt8) (w : World) : Calls Tryz.prog 157 #[.string s, .string ⟨#[c]⟩] w (fun e w' => e = .returned (.int .i64 (((pcs c s).length : Int) - 1)) ∧ w = w') := by
  refine (Tryz.strings_Count_one s c w).mono ?_
  rintro e w' ⟨rfl, rfl⟩
  refine ⟨?_, rfl⟩
  have h1 := congrArg List.length (pcs_data c s)
  rw [List.length_map, spl_len] at h1
  rw [h1]
  unfold Lib.countByte
  congr 2
  omega
theorem cutF_calls {s x y : ByteArray} (h : pcs 61 s = [x, y]) (w : World) (hs : s.size < 4294967281) (hx : MxL w) : Calls Tryz.prog 159 #[.string s, .string ⟨#[61]⟩] w (fun e w' => e = .returned (.tuple #[.string x, .string y, .bool true]) ∧ ∃ n, w' = w.drewN n) := by
  obtain ⟨m, hm⟩ := hx
  refine (Tryz.strings_Cut s ⟨#[61]⟩ m w hs hm).mono ?_
  rintro e w' ⟨rfl, h2⟩
  refine ⟨?_, h2⟩
  have h3 : Lib.cut s.data.toList (⟨#[61]⟩ : ByteArray).data.toList = (x.data.toList, y.data.toList, true) := cut_fld h
  rw [h3]
theorem Blk.ten {w : World} {g : Nat} {t : TypeId} {a b c d e : Value} (h : Blk w g t #[a, b, c, d, e]) :
    (w.cell? ⟨g, 0, none⟩ = some a ∧ w.cell? ⟨g, 1, none⟩ = some b ∧ w.cell? ⟨g, 2, none⟩ = some c ∧ w.cell? ⟨g, 3, none⟩ = some d ∧ w.cell? ⟨g, 4, none⟩ = some e) ∧
    w.frozen? ⟨g, 0, none⟩ = false ∧ w.frozen? ⟨g, 1, none⟩ = false ∧ w.frozen? ⟨g, 2, none⟩ = false ∧ w.frozen? ⟨g, 3, none⟩ = false ∧ w.frozen? ⟨g, 4, none⟩ = false :=
  ⟨⟨h.cell 0, h.cell 1, h.cell 2, h.cell 3, h.cell 4⟩, h.frozen 0, h.frozen 1, h.frozen 2, h.frozen 3, h.frozen 4⟩
/-- what readRun answers -/
def RunR (s : ByteArray) (w : World) (e : Ending) (w' : World) : Prop :=
  ∃ x : Rn, e = .returned (.tuple #[.agg #[.string x.id, .string x.who, .int .i64 x.time, .int .i64 x.date, .slice x.fa x.fs.length x.fc], .bool (fR s.data.toList)]) ∧ (fR s.data.toList = true → cntR x = vR s.data.toList) ∧
    w'.ownsRow w.heap.size 75 2 (.slice x.fa x.fs.length x.fc) x.fs.length (x.fs.flatMap prC) ∧ Below w.heap.size w w'
theorem run_res {tmps : Array Value} {w : World} {g : Nat} {t : TypeId} {a b c d e : Value} {v : Value} (h : Blk w g t #[a, b, c, d, e]) (h2 : tmps.getD 2 undef = .pointer (some ⟨g, 0, none⟩)) (h3 : tmps.getD 3 undef = v) :
    (results Tryz.f107 tmps).run Tryz.prog w = .ok (.tuple #[.agg #[a, b, c, d, e], v]) w := by
  obtain ⟨⟨z0, z1, z2, z3, z4⟩, _⟩ := h.ten
  have h2' : tmps[2]?.getD undef = .pointer (some ⟨g, 0, none⟩) := by simpa using h2
  have h3' : tmps[3]?.getD undef = v := by simpa using h3
  simp [results, Tryz.results107, h2', h3', go_sem, z0, z1, z2, z3, z4]
theorem fld_all {r : List ByteArray} {k : Nat} (hk : k < r.length) (h : fldB r[k] = false) : r.all fldB = false := by
  rw [List.all_eq_false]
  exact ⟨r[k], List.getElem_mem hk, by rw [h]; decide⟩

set_option maxRecDepth 100000 in
set_option maxHeartbeats 4000000 in
theorem readRun_calls (s : ByteArray) (w : World) (hs : s.size ≤ 200000) (hx : MxL w) : Calls Tryz.prog 107 #[.string s] w (RunR s w) := by
  obtain ⟨N, hN⟩ : ∃ n, n = (pcs 32 s).length := ⟨_, rfl⟩
  have hle := pcs_le 32 s
  rw [← hN] at hle
  have hn1 : 1 ≤ N := by rw [hN, pcs_len]; omega
  have HCN : Hid (∀ V, Calls Tryz.prog 157 #[.string s, .string ⟨#[32]⟩] V (fun e w' => e = .returned (.int .i64 ((N : Int) - 1)) ∧ V = w')) := by
    rw [hN]; exact Lib.hid (fun V => countC_calls s 32 V)
  have eN : (N : Int) - 1 + 1 = N := by omega
  obtain ⟨W0, hW0⟩ : ∃ W0, W0 = w.alloc (.cells #[.string ⟨#[]⟩, .string ⟨#[]⟩, .int .i64 0, .int .i64 0, .slice none 0 0] 101) := ⟨_, rfl⟩
  have hS0 : Sq w W0 [rBlk w.heap.size 101 #[.string ⟨#[]⟩, .string ⟨#[]⟩, .int .i64 0, .int .i64 0, .slice none 0 0]] := by
    rw [hW0]; exact (Sq.start w).add _ _
  have hx0 : MxL W0 := hx.below hS0.below
  have HMX := Lib.hid (fun V (k : Below w.heap.size w V) => hx.below k)
  obtain ⟨b0, hb0⟩ : ∃ b0, b0 < w.heap.size := by
    obtain ⟨m, hm⟩ := hx
    exact ⟨_, World.block_lt_of_cell? _ _ hm⟩
  have HWD := Lib.hid (fun V (k : Below W0.heap.size W0 V) => words_calls s N V (by omega) (hx0.below k))
  have wB : wrdB s N = wrdQ s := by rw [wrd_split, decide_eq_true hN.symm, Bool.true_and]
  have ff : fR s.data.toList = (wrdQ s && fR4 (pcs 32 s)) := by unfold fR; rw [ba_eta]
  have vv : vR s.data.toList = vR4 (pcs 32 s) := by unfold vR; rw [ba_eta]
  have HRF : Hid (fR s.data.toList = false → ∀ w', Below w.heap.size w w' → RunR s w (.returned (.tuple #[.agg #[.string ⟨#[]⟩, .string ⟨#[]⟩, .int .i64 0, .int .i64 0, .slice none 0 0], .bool false])) w') := by
    refine Lib.hid (fun h0 w' hb => ⟨⟨⟨#[]⟩, ⟨#[]⟩, 0, 0, none, 0, []⟩, by rw [h0]; rfl, fun h => ?_, World.ownsRow_nil _ _ _ _, hb⟩)
    rw [h0] at h; cases h
  clear hx hx0
  cases hq : wrdQ s
  · have HR := Lib.hid (HRF.out (by rw [ff, hq]; rfl))
    have HW2 : Hid (∀ V, Below W0.heap.size W0 V → Calls Tryz.prog 156 #[.string s, .int .i64 N] V (fun e w' => e = .returned (.tuple #[.slice none 0 0, .bool false]) ∧ Below V.heap.size V w')) := by
      refine Lib.hid (fun V k => (HWD.out V k).mono (fun e w' h => ⟨h.2.2 (by rw [wB, hq]), h.1⟩))
    clear HWD wB ff vv hq hN HRF HMX
    go_enter Tryz.func107, Tryz.ntmps107
    go_wp2_with (first
      | (go_at_call 157; refine (HCN.out _).mono ?_; rintro e w1 ⟨rfl, rfl⟩)
      | (go_at_call 156; rw [← hW0]; refine (HW2.out _ (Below.refl _ _)).mono ?_; rintro e w2 ⟨rfl, hb2⟩; have hS2 := hS0.callB hb2; have hk2 : Blk w2 _ _ #[.string ⟨#[]⟩, .string ⟨#[]⟩, .int .i64 0, .int .i64 0, .slice none 0 0] := hS2.nth 0 rfl; obtain ⟨⟨z0, z1, z2, z3, z4⟩, f0, f1, f2, f3, f4⟩ := hk2.ten))
    have hS3 := ((((hS2.set_ 0 (.string ⟨#[]⟩)).set_ 1 (.string ⟨#[]⟩)).set_ 2 (.int .i64 0)).set_ 3 (.int .i64 0)).set_ 4 (.slice none 0 0)
    exact bodyPost_ret (run_res hS3.head rfl rfl) rfl (HR.out _ hS3.below)
  by_cases h4 : 4 ≤ N
  · obtain ⟨a, b, p, d, r, hab⟩ := four_of (p := pcs 32 s) (by omega)
    have hsz : ∀ x ∈ a :: b :: p :: d :: r, x.size ≤ 200000 := fun x hx => by rw [← hab] at hx; have := pcs_size hx; omega
    have ff2 : fR s.data.toList = (nmsB [p, d] 15 && r.all fldB) := by rw [ff, hq, Bool.true_and, hab]; rfl
    have vv2 : vR s.data.toList = (a, b, numI p.data.toList, numI d.data.toList, r.map fldV) := by rw [vv, hab]; rfl
    have hNr : N = r.length + 4 := by rw [hN, hab]; rfl
    obtain ⟨G, hG⟩ : ∃ G, W0.heap.size = G := ⟨_, rfl⟩
    obtain ⟨WS, hWS⟩ : ∃ WS, WS = strCs (a :: b :: p :: d :: r) := ⟨_, rfl⟩
    have HW2 : Hid (Calls Tryz.prog 156 #[.string s, .int .i64 N] W0 (fun e w' => e = .returned (.tuple #[.slice (some ⟨G, 0, none⟩) N N, .bool true]) ∧ Below W0.heap.size W0 w' ∧ Blk w' G 9 WS)) := by
      refine Lib.hid ((HWD.out W0 (Below.refl _ _)).mono (fun e w' h => ?_))
      obtain ⟨q1, q2⟩ := h.2.1 (by rw [wB, hq])
      rw [hab, hG, ← hWS] at q2
      rw [hG] at q1
      exact ⟨q1, h.1, q2⟩
    have HW0 : Hid (WS[0]? = some (.string a) ∧ WS[1]? = some (.string b) ∧ WS[2]? = some (.string p) ∧ WS[3]? = some (.string d) ∧ ∀ j (hj : j < r.length), WS[4 + j]? = some (.string r[j])) := by
      rw [hWS]
      refine Lib.hid ⟨rfl, rfl, rfl, rfl, fun j hj => ?_⟩
      rw [strCs_at (by simp; omega)]
      congr 2
      rw [List.getElem_cons, dif_neg (by omega), List.getElem_cons, dif_neg (by omega), List.getElem_cons, dif_neg (by omega), List.getElem_cons, dif_neg (by omega)]
      congr 1
      omega
    have HNU : Hid (∀ V c, 2 ≤ c ∧ c ≤ maxLen → Blk V G 9 WS → Calls Tryz.prog 158 #[.slice (some ⟨G, 2, none⟩) 2 c, .int .i64 15] V (NmR [p, d] 15 V)) := by
      refine Lib.hid (fun V c hc h => ?_)
      refine numbersP_calls (G + 1) (some ⟨G, 2, none⟩) 2 c 15 [p, d] V ⟨_, _, rfl, hc.1, hc.2, rfl, (fun h => by cases h), fun _ => ⟨G, 2, rfl, by omega, fun j u hu => ?_⟩⟩ (by decide) (by omega) (fun x hx => by have := hsz x (by simp only [List.mem_cons, List.not_mem_nil, or_false] at hx ⊢; rcases hx with rfl | rfl <;> simp); omega)
      match j, hu with
      | 0, hu => exact ((h.cell 2).trans HW0.out.2.2.1).trans hu
      | 1, hu => exact ((h.cell 3).trans HW0.out.2.2.2.1).trans hu
      | j + 2, hu => simp [strsV] at hu
    have hc2 : 2 ≤ N - 2 ∧ N - 2 ≤ maxLen := by unfold maxLen; omega
    obtain ⟨B2, hB2⟩ : ∃ B, nmsB [p, d] 15 = B := ⟨_, rfl⟩
    rw [hB2] at ff2
    obtain ⟨zp, hzp⟩ : ∃ z, numI p.data.toList = z := ⟨_, rfl⟩
    obtain ⟨zd, hzd⟩ : ∃ z, numI d.data.toList = z := ⟨_, rfl⟩
    rw [hzp, hzd] at vv2
    have HNU2 : Hid (∀ V c, 2 ≤ c ∧ c ≤ maxLen → Blk V G 9 WS → Calls Tryz.prog 158 #[.slice (some ⟨G, 2, none⟩) 2 c, .int .i64 15] V (fun e' V' => Below V.heap.size V V' ∧ (B2 = true → ∃ A c, e' = .returned (.tuple #[.slice A 2 c, .bool true]) ∧ V'.ownsRow V.heap.size 3 1 (.slice A 2 c) 2 [.int .i64 zp, .int .i64 zd]) ∧ (B2 = false → e' = .returned (.tuple #[.slice none 0 0, .bool false])))) := by
      rw [← hB2, ← hzp, ← hzd]
      exact Lib.hid HNU.out
    have hNi : (4 : Int) ≤ (N : Int) := by omega
    have hNi0 : 0 < N := by omega
    have hNi1 : (1 : Int) < (N : Int) := by omega
    clear HNU hB2 hzp hzd
    cases B2
    · have HR := Lib.hid (HRF.out (by rw [ff2]; rfl))
      have HNU3 : Hid (∀ V c, 2 ≤ c ∧ c ≤ maxLen → Blk V G 9 WS → Calls Tryz.prog 158 #[.slice (some ⟨G, 2, none⟩) 2 c, .int .i64 15] V (fun e' V' => e' = .returned (.tuple #[.slice none 0 0, .bool false]) ∧ Below V.heap.size V V')) := Lib.hid (fun V c hc h => (HNU2.out V c hc h).mono (fun e' V' h => ⟨h.2.2 rfl, h.1⟩))
      clear HWD wB ff vv ff2 vv2 hq hN HRF HMX HNU2 HW0 hsz hab hNr hWS h4
      go_enter Tryz.func107, Tryz.ntmps107
      go_wp2_with (first
        | (go_at_call 157; refine (HCN.out _).mono ?_; rintro e w1 ⟨rfl, rfl⟩)
        | (go_at_call 156; rw [← hW0]; refine HW2.out.mono ?_; rintro e w2 ⟨rfl, hb2, hk2⟩; have hS2 := hS0.blk hb2 hk2 (Nat.le_of_eq hG))
        | (go_at_call 158; refine (HNU3.out _ _ hc2 hS2.head).mono ?_; rintro e w3 ⟨rfl, hb3⟩; have hS3 := (hS2.callB hb3).front 1 rfl rfl; have hk3 : Blk w3 _ _ #[.string ⟨#[]⟩, .string ⟨#[]⟩, .int .i64 0, .int .i64 0, .slice none 0 0] := hS3.nth 0 rfl; obtain ⟨⟨z0, z1, z2, z3, z4⟩, f0, f1, f2, f3, f4⟩ := hk3.ten))
      have hS4 := ((((hS3.set_ 0 (.string ⟨#[]⟩)).set_ 1 (.string ⟨#[]⟩)).set_ 2 (.int .i64 0)).set_ 3 (.int .i64 0)).set_ 4 (.slice none 0 0)
      exact bodyPost_ret (run_res hS4.head rfl rfl) rfl (HR.out _ hS4.below)
    · have HNU3 : Hid (∀ V c, 2 ≤ c ∧ c ≤ maxLen → Blk V G 9 WS → Calls Tryz.prog 158 #[.slice (some ⟨G, 2, none⟩) 2 c, .int .i64 15] V (fun e' V' => ∃ g c, e' = .returned (.tuple #[.slice (some ⟨g, 0, none⟩) 2 c, .bool true]) ∧ Below V.heap.size V V' ∧ V'.ownsRow V.heap.size 3 1 (.slice (some ⟨g, 0, none⟩) 2 c) 2 [.int .i64 zp, .int .i64 zd] ∧ 2 ≤ c)) := by
        refine Lib.hid (fun V c hc h => (HNU2.out V c hc h).mono (fun e' V' h => ?_))
        obtain ⟨A', c', h1, h2⟩ := h.2.1 rfl
        obtain ⟨g, cap, hv, _, _⟩ := h2.form (by omega)
        have hcap := own_cap h2
        injection hv with hA _ _
        subst hA
        exact ⟨g, c', h1, h.1, h2, hcap.1⟩
      rw [Bool.true_and] at ff2
      have HR0 : Hid (∀ k (hk : k < r.length), fldB r[k] = false → ∀ w', Below w.heap.size w w' → RunR s w (.returned (.tuple #[.agg #[.string ⟨#[]⟩, .string ⟨#[]⟩, .int .i64 0, .int .i64 0, .slice none 0 0], .bool false])) w') := Lib.hid (fun k hk h => HRF.out (by rw [ff2]; exact fld_all hk h))
      have HRY : Hid (r.all fldB = true → ∀ w' A c, w'.ownsRow w.heap.size 75 2 (.slice A r.length c) r.length ((r.map fldV).flatMap prC) → Below w.heap.size w w' → RunR s w (.returned (.tuple #[.agg #[.string a, .string b, .int .i64 zp, .int .i64 zd, .slice A r.length c], .bool true])) w') := by
        refine Lib.hid (fun h w' A c ho hb => ⟨⟨a, b, zp, zd, A, c, r.map fldV⟩, by rw [ff2, h]; simp only [List.length_map], fun _ => vv2.symm, ?_, hb⟩)
        simp only [List.length_map]
        exact ho
      have HSZ := Lib.hid (fun j (hj : j < r.length) => hsz r[j] (by simp [List.getElem_mem hj]))
      obtain ⟨i0, hi, hi0, hi1, hi2⟩ := info_parts info_prR
      clear HWD wB ff vv ff2 vv2 hq hN HRF HNU2 hsz hab hWS h4
      obtain ⟨m, hm⟩ : ∃ m, m = r.length := ⟨_, rfl⟩
      rw [← hm] at HRY
      have HML : Hid (m = r.length) := Lib.hid hm
      have hNm : N = m + 4 := by rw [hm]; exact hNr
      have hml : m ≤ 200000 := by omega
      clear hm hNr
      by_cases hm0 : m = 0
      · obtain rfl : N = 4 := by omega
        subst hm0
        clear hNm
        go_enter Tryz.func107, Tryz.ntmps107
        go_upto_region 7 with (first
          | (go_at_call 157; refine (HCN.out _).mono ?_; rintro e w1 ⟨rfl, rfl⟩)
          | (go_at_call 156; rw [← hW0]; refine HW2.out.mono ?_; rintro e w2 ⟨rfl, hb2, hk2⟩; have hS2 := hS0.blk hb2 hk2 (Nat.le_of_eq hG))
          | (go_at_call 158; refine (HNU3.out _ _ hc2 hS2.head).mono ?_; rintro e w3 ⟨g3, c3, rfl, hb3, ho3, hc3⟩; have hS3 := hS2.ownB hb3 ho3))
        clear hb2 hk2 hS2 hb3 ho3 hS0
        have SF : Hid (∀ V, V.ownsRow w.heap.size 3 1 (.slice (some ⟨g3, 0, none⟩) 2 c3) 2 [.int .i64 zp, .int .i64 zd] → Blk V G 9 WS → V.cell? ⟨G, 0, none⟩ = some (.string a) ∧ V.cell? ⟨G, 1, none⟩ = some (.string b) ∧ V.cell? ⟨g3, 0, none⟩ = some (.int .i64 zp) ∧ V.cell? ⟨g3, 1, none⟩ = some (.int .i64 zd)) :=
          Lib.hid (fun V h k => ⟨(k.cell 0).trans HW0.out.1, (k.cell 1).trans HW0.out.2.1, own_cell (fun z : Int => [Value.int .i64 z]) 1 (fun _ => rfl) (rs := [zp, zd]) h 0 0 (by simp) (by omega) (by omega), own_cell (fun z : Int => [Value.int .i64 z]) 1 (fun _ => rfl) (rs := [zp, zd]) h 1 0 (by simp) (by omega) (by omega)⟩)
        have s0 := SF.out _ (hS3.nth 0 rfl) (hS3.nth 1 rfl)
        obtain ⟨d0, d1, x0, x1⟩ := s0
        have s0 := SF.out _ (hS3.nth 0 rfl) (hS3.nth 1 rfl)
        have hS3d := hS3.drew
        have hSA := (hS3.add #[.string ⟨#[]⟩, .string ⟨#[]⟩, .int .i64 0, .int .i64 0, .slice none 0 0] 101).drew
        clear hS3
        go_cut [7] (fun s7 V => ∃ g, s7 = .pointer (some ⟨g, 0, none⟩) ∧ Sq w V [rBlk g 101 #[.string a, .string b, .int .i64 zp, .int .i64 zd, .slice none 0 0], rOwn w.heap.size 3 1 (.slice (some ⟨g3, 0, none⟩) 2 c3) 2 [.int .i64 zp, .int .i64 zd], rBlk G 9 WS, rBlk w.heap.size 101 #[.string ⟨#[]⟩, .string ⟨#[]⟩, .int .i64 0, .int .i64 0, .slice none 0 0]])
        case first =>
          clear HR0 HRY HML HSZ HMX
          go_region_held3 (fun V => V.cell? ⟨G, 0, none⟩ = some (.string a) ∧ V.cell? ⟨G, 1, none⟩ = some (.string b) ∧ V.cell? ⟨g3, 0, none⟩ = some (.int .i64 zp) ∧ V.cell? ⟨g3, 1, none⟩ = some (.int .i64 zd))
            (first | exact s0 | exact (SF.out _ (hSA.nth 1 rfl) (hSA.nth 2 rfl)) | exact (SF.out _ ((hS3d.add _ _).nth 1 rfl) ((hS3d.add _ _).nth 2 rfl)) | exact (SF.out _ ((((((hSA.set_ 0 _).set_ 1 _).set_ 2 _).set_ 3 _).set_ 4 _).nth 1 rfl) ((((((hSA.set_ 0 _).set_ 1 _).set_ 2 _).set_ 3 _).set_ 4 _).nth 2 rfl)) | go_keep)
            (fail)
          all_goals (go_wp2_with fail; go_meet)
          all_goals first
            | exact ⟨_, rfl, hS3d.add _ _⟩
            | exact ⟨_, rfl, ((((hSA.set_ 0 (.string a)).set_ 1 (.string b)).set_ 2 (.int .i64 zp)).set_ 3 (.int .i64 zd)).set_ 4 (.slice none 0 0)⟩
        case rest =>
          obtain ⟨g, rfl, hM⟩ := hcut
          clear d0 d1 x0 x1 s0 SF hS3d hSA
          replace hM := (hM.drop 1 rfl rfl).nil w.heap.size 75 2
          have HLM : Hid (∀ k, k ≤ r.length → ((r.take k).map fldV).length = k) := Lib.hid (fun k hk => by rw [List.length_map, List.length_take]; omega)
          go_wp2_with fail
          go_loopw [54] (fun i wr => ∃ (k : Nat) (A1 : Option Addr) (c1 : Nat), k ≤ 0 ∧ i = .int .i64 k ∧ Hid (∀ j (hj : j < r.length), j < k → fldB r[j] = true) ∧ Sq w wr [rOwn w.heap.size 75 2 (.slice A1 k c1) k (((r.take k).map fldV).flatMap prC), rBlk g 101 #[.string a, .string b, .int .i64 zp, .int .i64 zd, .slice A1 k c1], rBlk G 9 WS, rBlk w.heap.size 101 #[.string ⟨#[]⟩, .string ⟨#[]⟩, .int .i64 0, .int .i64 0, .slice none 0 0]]) (fun i _ => 0 - (intOf i).toNat)
          case atStart => exact ⟨0, none, 0, Nat.zero_le _, rfl, Lib.hid (fun j hj h => by omega), hM⟩
          case round =>
            clear hM
            obtain ⟨k, A1, c1, hk, rfl, HB, hS⟩ := hrel
            by_cases hlt : k < 0
            · omega
            · obtain rfl : k = 0 := by omega
              have hall : r.all fldB = true := by
                rw [List.all_eq_true]
                intro x hx
                obtain ⟨j, hj, rfl⟩ := List.getElem_of_mem hx
                exact HB.out j hj (by rw [HML.out]; exact hj)
              have hkg : Blk wr g _ #[.string a, .string b, .int .i64 zp, .int .i64 zd, .slice A1 0 c1] := hS.nth 1 rfl
              obtain ⟨⟨y0, y1, y2, y3, y4⟩, _⟩ := hkg.ten
              have hS2 := hS.front 3 rfl rfl
              have hk3 : Blk wr w.heap.size _ #[.string ⟨#[]⟩, .string ⟨#[]⟩, .int .i64 0, .int .i64 0, .slice none 0 0] := hS2.nth 0 rfl
              obtain ⟨⟨z0, z1, z2, z3, z4⟩, f0, f1, f2, f3, f4⟩ := hk3.ten
              have HRZ := Lib.hid (HRY.out hall)
              clear hall HRY
              go_wp2_with fail
              have hS4 := ((((hS2.set_ 0 (.string a)).set_ 1 (.string b)).set_ 2 (.int .i64 zp)).set_ 3 (.int .i64 zd)).set_ 4 (.slice A1 0 c1)
              have ho4 := (hS4.nth 1 rfl : World.ownsRow _ _ _ _ _ _ _)
              rw [List.take_of_length_le (by rw [← HML.out]; exact Nat.le_refl _)] at ho4
              exact bodyPost_ret (run_res hS4.head rfl rfl) rfl (HRZ.out _ A1 c1 ho4 hS4.below)
      · have hN4 : ¬ N = 4 := by omega
        have hN4z : ¬ N - 4 = 0 := by omega
        have hNe : N - 4 = m := by omega
        clear hNm
        go_enter Tryz.func107, Tryz.ntmps107
        go_upto_region 7 with (first
          | (go_at_call 157; refine (HCN.out _).mono ?_; rintro e w1 ⟨rfl, rfl⟩)
          | (go_at_call 156; rw [← hW0]; refine HW2.out.mono ?_; rintro e w2 ⟨rfl, hb2, hk2⟩; have hS2 := hS0.blk hb2 hk2 (Nat.le_of_eq hG))
          | (go_at_call 158; refine (HNU3.out _ _ hc2 hS2.head).mono ?_; rintro e w3 ⟨g3, c3, rfl, hb3, ho3, hc3⟩; have hS3 := hS2.ownB hb3 ho3))
        clear hb2 hk2 hS2 hb3 ho3 hS0
        have SF : Hid (∀ V, V.ownsRow w.heap.size 3 1 (.slice (some ⟨g3, 0, none⟩) 2 c3) 2 [.int .i64 zp, .int .i64 zd] → Blk V G 9 WS → V.cell? ⟨G, 0, none⟩ = some (.string a) ∧ V.cell? ⟨G, 1, none⟩ = some (.string b) ∧ V.cell? ⟨g3, 0, none⟩ = some (.int .i64 zp) ∧ V.cell? ⟨g3, 1, none⟩ = some (.int .i64 zd)) :=
          Lib.hid (fun V h k => ⟨(k.cell 0).trans HW0.out.1, (k.cell 1).trans HW0.out.2.1, own_cell (fun z : Int => [Value.int .i64 z]) 1 (fun _ => rfl) (rs := [zp, zd]) h 0 0 (by simp) (by omega) (by omega), own_cell (fun z : Int => [Value.int .i64 z]) 1 (fun _ => rfl) (rs := [zp, zd]) h 1 0 (by simp) (by omega) (by omega)⟩)
        have s0 := SF.out _ (hS3.nth 0 rfl) (hS3.nth 1 rfl)
        obtain ⟨d0, d1, x0, x1⟩ := s0
        have s0 := SF.out _ (hS3.nth 0 rfl) (hS3.nth 1 rfl)
        have hS3d := hS3.drew
        have hSA := (hS3.add #[.string ⟨#[]⟩, .string ⟨#[]⟩, .int .i64 0, .int .i64 0, .slice none 0 0] 101).drew
        clear hS3
        go_cut [7] (fun s7 V => ∃ g, s7 = .pointer (some ⟨g, 0, none⟩) ∧ Sq w V [rBlk g 101 #[.string a, .string b, .int .i64 zp, .int .i64 zd, .slice none 0 0], rOwn w.heap.size 3 1 (.slice (some ⟨g3, 0, none⟩) 2 c3) 2 [.int .i64 zp, .int .i64 zd], rBlk G 9 WS, rBlk w.heap.size 101 #[.string ⟨#[]⟩, .string ⟨#[]⟩, .int .i64 0, .int .i64 0, .slice none 0 0]])
        case first =>
          clear HR0 HRY HML HSZ HMX
          go_region_held3 (fun V => V.cell? ⟨G, 0, none⟩ = some (.string a) ∧ V.cell? ⟨G, 1, none⟩ = some (.string b) ∧ V.cell? ⟨g3, 0, none⟩ = some (.int .i64 zp) ∧ V.cell? ⟨g3, 1, none⟩ = some (.int .i64 zd))
            (first | exact s0 | exact (SF.out _ (hSA.nth 1 rfl) (hSA.nth 2 rfl)) | exact (SF.out _ ((hS3d.add _ _).nth 1 rfl) ((hS3d.add _ _).nth 2 rfl)) | exact (SF.out _ ((((((hSA.set_ 0 _).set_ 1 _).set_ 2 _).set_ 3 _).set_ 4 _).nth 1 rfl) ((((((hSA.set_ 0 _).set_ 1 _).set_ 2 _).set_ 3 _).set_ 4 _).nth 2 rfl)) | go_keep)
            (fail)
          all_goals (go_wp2_with fail; go_meet)
          all_goals first
            | exact ⟨_, rfl, hS3d.add _ _⟩
            | exact ⟨_, rfl, ((((hSA.set_ 0 (.string a)).set_ 1 (.string b)).set_ 2 (.int .i64 zp)).set_ 3 (.int .i64 zd)).set_ 4 (.slice none 0 0)⟩
        case rest =>
          obtain ⟨g, rfl, hM⟩ := hcut
          clear d0 d1 x0 x1 s0 SF hS3d hSA
          replace hM := (hM.drop 1 rfl rfl).nil w.heap.size 75 2
          have HLM : Hid (∀ k, k ≤ r.length → ((r.take k).map fldV).length = k) := Lib.hid (fun k hk => by rw [List.length_map, List.length_take]; omega)
          go_wp2_with fail
          go_loopw [54] (fun i wr => ∃ (k : Nat) (A1 : Option Addr) (c1 : Nat), k ≤ m ∧ i = .int .i64 k ∧ Hid (∀ j (hj : j < r.length), j < k → fldB r[j] = true) ∧ Sq w wr [rOwn w.heap.size 75 2 (.slice A1 k c1) k (((r.take k).map fldV).flatMap prC), rBlk g 101 #[.string a, .string b, .int .i64 zp, .int .i64 zd, .slice A1 k c1], rBlk G 9 WS, rBlk w.heap.size 101 #[.string ⟨#[]⟩, .string ⟨#[]⟩, .int .i64 0, .int .i64 0, .slice none 0 0]]) (fun i _ => m - (intOf i).toNat)
          case atStart => exact ⟨0, none, 0, Nat.zero_le _, rfl, Lib.hid (fun j hj h => by omega), hM⟩
          case round =>
            clear hM
            obtain ⟨k, A1, c1, hk, rfl, HB, hS⟩ := hrel
            by_cases hlt : k < m
            · have hkr : k < r.length := by rw [← HML.out]; exact hlt
              have c0 := (Blk.cell (hS.nth 2 rfl : Blk wr G _ WS) (4 + k)).trans (HW0.out.2.2.2.2 k hkr)
              have hszk := HSZ.out k hkr
              have HNO := Lib.hid (HR0.out k hkr)
              have HB1 : Hid (fldB r[k] = true → ∀ j (hj : j < r.length), j < k + 1 → fldB r[j] = true) := by
                refine Lib.hid (fun h j hj hjk => ?_)
                by_cases he : j = k
                · subst he; exact h
                · exact HB.out j hj (by omega)
              have HTK : Hid (((r.take (k + 1)).map fldV).flatMap prC = ((r.take k).map fldV).flatMap prC ++ prC (fldV r[k])) := by
                refine Lib.hid ?_
                rw [List.take_succ_eq_append_getElem hkr, List.map_append, List.flatMap_append]
                simp
              obtain ⟨x, hxk⟩ : ∃ x, x = r[k] := ⟨_, rfl⟩
              rw [← hxk] at c0 hszk HNO HB1 HTK
              have HCT := Lib.hid (fun V => countC_calls x 61 V)
              have hk0 : (0 : Int) ≤ (k : Int) := by omega
              have hkm : (k : Int) < (m : Int) := by omega
              have hkn : (k : Int) < ((N - 4 : Nat) : Int) := by omega
              have hk2 : k ≤ 200000 := by omega
              have hzw : w.heap.size ≤ wr.heap.size := hS.size
              clear hxk HB
              cases hfb : fldB x
              · have HR := Lib.hid (HNO.out hfb)
                have hpl : ¬ (pcs 61 x).length = 2 := of_decide_eq_false hfb
                obtain ⟨q, hq⟩ : ∃ q, q = (pcs 61 x).length := ⟨_, rfl⟩
                rw [← hq] at hpl HCT
                have hqb : ((q : Int) - 1 != 1) = true := by rw [bne_iff_ne]; omega
                have hS2 := hS.front 3 rfl rfl
                have hk3 : Blk wr w.heap.size _ #[.string ⟨#[]⟩, .string ⟨#[]⟩, .int .i64 0, .int .i64 0, .slice none 0 0] := hS2.nth 0 rfl
                obtain ⟨⟨z0, z1, z2, z3, z4⟩, f0, f1, f2, f3, f4⟩ := hk3.ten
                clear hq hpl HNO HB1 HTK hfb
                go_wp2_with (first | (go_at_call 157; refine (HCT.out _).mono ?_; rintro e wA ⟨rfl, rfl⟩))
                have hS4 := ((((hS2.set_ 0 (.string ⟨#[]⟩)).set_ 1 (.string ⟨#[]⟩)).set_ 2 (.int .i64 0)).set_ 3 (.int .i64 0)).set_ 4 (.slice none 0 0)
                exact bodyPost_ret (run_res hS4.head rfl rfl) rfl (HR.out _ hS4.below)
              · obtain ⟨u, v, huv⟩ := fldB_of hfb
                have hus : u.size ≤ 200000 := by have := pcs_size (c := 61) (s := x) (x := u) (by rw [huv]; simp); omega
                have hq2 : (pcs 61 x).length = 2 := by rw [huv]; rfl
                rw [hq2] at HCT
                have HCU := Lib.hid (fun V (h : MxL V) => cutF_calls huv V (by omega) h)
                have hmx := HMX.out _ hS.below
                have HB2 := Lib.hid (HB1.out hfb)
                rw [fldV_of huv] at HTK
                have hS1 := hS.front 1 rfl rfl
                have hkg : Blk wr g _ #[.string a, .string b, .int .i64 zp, .int .i64 zd, .slice A1 k c1] := hS1.nth 0 rfl
                obtain ⟨⟨y0, y1, y2, y3, y4⟩, h0, h1, h2, h3, h4⟩ := hkg.ten
                clear HNO HB1 hfb huv hq2 hkg hS
                go_wp2_with (first
                  | (go_at_call 157; refine (HCT.out _).mono ?_; rintro e wA ⟨rfl, rfl⟩)
                  | (go_at_call 159; refine (HCU.out _ hmx).mono ?_; rintro e wB ⟨rfl, nq, rfl⟩; have hS2 := (hS1.drewN nq).front 1 rfl rfl; have HO : World.ownsRow _ w.heap.size 75 2 (.slice A1 k c1) k _ := hS2.nth 0 rfl; have hz2 := hS2.size)
                  | (at_builtin; refine wpList_append_own_at _ rfl _ _ 45 rfl w.heap.size 75 i0 (.agg #[.string ⟨#[]⟩, .string ⟨#[]⟩]) 2 32 Tryz.underlying45 hi hi0 hi1 hi2 rfl (by decide) _ _ _ rfl (HO.alloc _) ⟨wr.heap.size, 0, none⟩ 1 1 [.string u, .string v] rfl rfl (World.news_of_block (heap_alloc_new _ _)) (one2r rfl rfl) (by unfold maxLen; omega) (by first | omega | exact hzw | (simp; omega)) (by first | (simp; omega) | exact Nat.le_of_lt (Nat.lt_succ_of_le hzw)) ?_; intro v' w8 hown' hgrow _ hblk; have hS8 := (hS2.alloc _).append hown' hgrow hblk; obtain ⟨A8, c8, hv8⟩ := own_form hown'; subst hv8; have kg8 : Blk w8 g _ #[.string a, .string b, .int .i64 zp, .int .i64 zd, .slice A1 k c1] := hS8.nth 1 rfl; have cg8 := kg8.cell 4; have fg8 := kg8.frozen 4; clear hown' hgrow hblk HO))
                have hS9 := (((hS8.front 1 rfl rfl).set_ 4 (.slice A8 (k + 1) c8)).front 1 rfl rfl)
                go_roundw
                case rel => exact ⟨k + 1, A8, c8, by omega, by go_num, HB2, by rw [HTK.out]; exact hS9⟩
                case measure => simp [intOf]; omega
            · obtain rfl : k = m := by omega
              have hall : r.all fldB = true := by
                rw [List.all_eq_true]
                intro x hx
                obtain ⟨j, hj, rfl⟩ := List.getElem_of_mem hx
                exact HB.out j hj (by rw [HML.out]; exact hj)
              have hkg : Blk wr g _ #[.string a, .string b, .int .i64 zp, .int .i64 zd, .slice A1 k c1] := hS.nth 1 rfl
              obtain ⟨⟨y0, y1, y2, y3, y4⟩, _⟩ := hkg.ten
              have hS2 := hS.front 3 rfl rfl
              have hk3 : Blk wr w.heap.size _ #[.string ⟨#[]⟩, .string ⟨#[]⟩, .int .i64 0, .int .i64 0, .slice none 0 0] := hS2.nth 0 rfl
              obtain ⟨⟨z0, z1, z2, z3, z4⟩, f0, f1, f2, f3, f4⟩ := hk3.ten
              have HRZ := Lib.hid (HRY.out hall)
              clear hall HRY
              go_wp2_with fail
              have hS4 := ((((hS2.set_ 0 (.string a)).set_ 1 (.string b)).set_ 2 (.int .i64 zp)).set_ 3 (.int .i64 zd)).set_ 4 (.slice A1 k c1)
              have ho4 := (hS4.nth 1 rfl : World.ownsRow _ _ _ _ _ _ _)
              rw [List.take_of_length_le (by rw [← HML.out]; exact Nat.le_refl _)] at ho4
              exact bodyPost_ret (run_res hS4.head rfl rfl) rfl (HRZ.out _ A1 c1 ho4 hS4.below)
  · have HR := Lib.hid (HRF.out (by rw [ff, fR4_len (by omega), Bool.and_false]))
    obtain ⟨WS, hWS⟩ : ∃ WS, WS = strCs (pcs 32 s) := ⟨_, rfl⟩
    have HW2 : Hid (Calls Tryz.prog 156 #[.string s, .int .i64 N] W0 (fun e w' => e = .returned (.tuple #[.slice (some ⟨W0.heap.size, 0, none⟩) N N, .bool true]) ∧ Below W0.heap.size W0 w')) := by
      refine Lib.hid ((HWD.out W0 (Below.refl _ _)).mono (fun e w' h => ?_))
      obtain ⟨q1, q2⟩ := h.2.1 (by rw [wB, hq])
      exact ⟨q1, h.1⟩
    have hNi : (N : Int) < 4 := by omega
    clear HWD wB ff vv hq hN HRF HMX h4 hWS
    go_enter Tryz.func107, Tryz.ntmps107
    go_wp2_with (first
      | (go_at_call 157; refine (HCN.out _).mono ?_; rintro e w1 ⟨rfl, rfl⟩)
      | (go_at_call 156; rw [← hW0]; refine HW2.out.mono ?_; rintro e w2 ⟨rfl, hb2⟩; have hS2 := hS0.callB hb2; have hk2 : Blk w2 _ _ #[.string ⟨#[]⟩, .string ⟨#[]⟩, .int .i64 0, .int .i64 0, .slice none 0 0] := hS2.nth 0 rfl; obtain ⟨⟨z0, z1, z2, z3, z4⟩, f0, f1, f2, f3, f4⟩ := hk2.ten))
    have hS3 := ((((hS2.set_ 0 (.string ⟨#[]⟩)).set_ 1 (.string ⟨#[]⟩)).set_ 2 (.int .i64 0)).set_ 3 (.int .i64 0)).set_ 4 (.slice none 0 0)
    exact bodyPost_ret (run_res hS3.head rfl rfl) rfl (HR.out _ hS3.below)

/-- what a reading of runs holds -/
def QR (w0 : World) (gO : Nat) (done : List (List UInt8)) (rs : List Rsc) : Prop :=
  ∃ A c xs, xs.map cntR = done.map vR ∧ rs = [rOwn w0.heap.size 101 5 (.slice A done.length c) done.length (xs.flatMap rnC), rBlk gO 89 #[.slice A done.length c], rAll (fldR w0.heap.size) xs]
theorem StP.openR {w0 W : World} {gO : Nat} {done : List (List UInt8)} {L : List Rsc} (h : StP w0 (QR w0 gO) done W L) :
    ∃ A c xs, xs.map cntR = done.map vR ∧ Sq w0 W (rOwn w0.heap.size 101 5 (.slice A done.length c) done.length (xs.flatMap rnC) :: rBlk gO 89 #[.slice A done.length c] :: rAll (fldR w0.heap.size) xs :: L) := by
  obtain ⟨rs, ⟨A, c, xs, hx, rfl⟩, hS⟩ := h
  exact ⟨A, c, xs, hx, hS⟩
theorem StP.shutR {w0 W : World} {gO : Nat} {done : List (List UInt8)} {L : List Rsc} {l : List UInt8} {A : Option Addr} {c : Nat} {xs : List Rn} {x : Rn} (hx : xs.map cntR = done.map vR) (hl : cntR x = vR l)
    (h : Sq w0 W (rOwn w0.heap.size 101 5 (.slice A (done.length + 1) c) (done.length + 1) (xs.flatMap rnC ++ rnC x) :: rBlk gO 89 #[.slice A (done.length + 1) c] :: rAll (fldR w0.heap.size) (xs ++ [x]) :: L)) :
    StP w0 (QR w0 gO) (done ++ [l]) W L := by
  refine ⟨_, ⟨A, c, xs ++ [x], by rw [List.map_append, List.map_append, hx]; simp [hl], rfl⟩, ?_⟩
  rw [List.length_append, List.length_singleton, List.flatMap_append]
  simpa using h
set_option maxRecDepth 100000 in
set_option maxHeartbeats 2000000 in
theorem readR_calls (w0 : World) (gO M : Nat) (hx : MxL w0) (hM : M ≤ 200000) : CloR w0 (QR w0 gO) 106 (.pointer (some ⟨gO, 0, none⟩)) fR M := by
  intro W done s L hS0 hs hdl
  have hmx : MxL W := hx.below hS0.below
  have HRS := Lib.hid (readRun_calls s W (by omega) hmx)
  obtain ⟨A, c, xs, hxs, hS⟩ := hS0.openR
  clear hS0 hmx
  obtain ⟨n, hn⟩ : ∃ n, n = done.length := ⟨_, rfl⟩
  obtain ⟨FT, hFT⟩ : ∃ FT, FT = fR s.data.toList := ⟨_, rfl⟩
  have HR : Hid (Calls Tryz.prog 107 #[.string s] W (fun e w' => ∃ x : Rn, e = .returned (.tuple #[.agg #[.string x.id, .string x.who, .int .i64 x.time, .int .i64 x.date, .slice x.fa x.fs.length x.fc], .bool FT]) ∧ Hid (FT = true → cntR x = vR s.data.toList) ∧ w'.ownsRow W.heap.size 75 2 (.slice x.fa x.fs.length x.fc) x.fs.length (x.fs.flatMap prC) ∧ Below W.heap.size W w')) := by
    refine Lib.hid (HRS.out.mono ?_)
    rintro e w' ⟨x, rfl, h2, h3, h4⟩
    exact ⟨x, by rw [hFT], Lib.hid (by rw [hFT]; exact h2), h3, h4⟩
  have HSH : Hid (∀ V A' c' (x : Rn), cntR x = vR s.data.toList → Sq w0 V (rOwn w0.heap.size 101 5 (.slice A' (n + 1) c') (n + 1) (xs.flatMap rnC ++ rnC x) :: rBlk gO 89 #[.slice A' (n + 1) c'] :: rAll (fldR w0.heap.size) (xs ++ [x]) :: L) → StP w0 (QR w0 gO) (done ++ [s.data.toList]) V L) := by
    rw [hn]
    exact Lib.hid (fun V A' c' x hv h => StP.shutR hxs hv h)
  have hdl2 : n ≤ 200000 := by omega
  rw [← hn] at hS
  rw [← hFT]
  have hlt : w0.heap.size ≤ W.heap.size := hS.size
  clear hn hFT HRS hdl hx hs hxs
  obtain ⟨i0, hi, hi0, hi1, hi2⟩ := info_parts info_rn
  go_enter Tryz.func106, Tryz.ntmps106
  go_upto_region 2 with (first | (go_at_call 107; refine HR.out.mono ?_; rintro e w1 ⟨⟨id, who, ti, da, fa, fc, fs⟩, rfl, HV, ho1, hb1⟩; have hS1 := hS.ownB hb1 ho1))
  clear HR hS ho1 hb1
  obtain ⟨m, hm⟩ : ∃ m, fs.length = m := ⟨_, rfl⟩
  have HMM := Lib.hid hm
  simp only [hm]
  simp only [hm] at hS1
  clear hm
  obtain ⟨g, hg⟩ : ∃ g, g = w1.heap.size := ⟨_, rfl⟩
  have hS2 := hS1.add #[.string id, .string who, .int .i64 ti, .int .i64 da, .slice fa m fc] 101
  rw [← hg] at hS2 ⊢
  obtain ⟨W2, hW2⟩ : ∃ W2, W2 = w1.alloc (.cells #[.string id, .string who, .int .i64 ti, .int .i64 da, .slice fa m fc] 101) := ⟨_, rfl⟩
  rw [← hW2] at hS2 ⊢
  clear hW2 hg hS1
  obtain ⟨⟨p0, p1, p2, p3, p4⟩, _⟩ := Blk.ten (hS2.nth 0 rfl : Blk W2 g _ #[.string id, .string who, .int .i64 ti, .int .i64 da, .slice fa m fc])
  replace hS2 := hS2.drop 0 rfl rfl
  replace hS2 := (hS2.front 2 rfl rfl).front 2 rfl rfl
  have cb : W2.cell? ⟨gO, 0, none⟩ = some (.slice A n c) := (hS2.nth 1 rfl : Blk W2 gO _ _).cell 0
  have HO : W2.ownsRow w0.heap.size 101 5 (.slice A n c) n (xs.flatMap rnC) := hS2.nth 0 rfl
  have hz2 := hS2.size
  go_wp2_with (first
    | (at_builtin; refine wpList_append_own_at _ rfl _ _ 89 rfl w0.heap.size 101 i0 (.agg #[.string ⟨#[]⟩, .string ⟨#[]⟩, .int .i64 0, .int .i64 0, .slice none 0 0]) 5 72 Tryz.underlying89 hi hi0 hi1 hi2 rfl (by decide) _ _ _ rfl (HO.alloc _) ⟨W2.heap.size, 0, none⟩ 1 1 [.string id, .string who, .int .i64 ti, .int .i64 da, .slice fa m fc] rfl rfl (World.news_of_block (heap_alloc_new _ _)) (one5r rfl rfl rfl rfl rfl) (by unfold maxLen; omega) (by omega) (by simp; omega) ?_; intro v' w8 hown' hgrow _ hblk; have hS8 := (hS2.alloc _).append hown' hgrow hblk; obtain ⟨A8, c8, hv8⟩ := own_form hown'; subst hv8; have cb8 := (hS8.nth 1 rfl : Blk w8 gO _ _).cell 0; have fb8 := (hS8.nth 1 rfl : Blk w8 gO _ _).frozen 0; clear hown' hgrow hblk HO))
  go_ret
  have hS9 := (hS8.front 1 rfl rfl).set_ 0 (.slice A8 (n + 1) c8)
  refine ⟨rfl, fun h => HSH.out _ A8 c8 ⟨id, who, ti, da, fa, fc, fs⟩ (HV.out h) ?_, hS9.below⟩
  have h3 := (hS9.front 2 rfl rfl).front 3 rfl rfl
  have h5 : Sq w0 (w8.setCell ⟨gO, 0, none⟩ (.slice A8 (n + 1) c8)) (fldR w0.heap.size ⟨id, who, ti, da, fa, fc, fs⟩ :: rAll (fldR w0.heap.size) xs :: rBlk gO 89 #[.slice A8 (n + 1) c8] :: rOwn w0.heap.size 101 5 (.slice A8 (n + 1) c8) (n + 1) (xs.flatMap rnC ++ rnC ⟨id, who, ti, da, fa, fc, fs⟩) :: L) := by
    have h4 := h3.front 1 rfl rfl
    unfold fldR rnC
    simp only [HMM.out]
    exact h4
  have h6 := h5.snocR (fldR_ok _)
  exact ((h6.front 2 rfl rfl).front 2 rfl rfl).front 1 rfl rfl
end Go.Proofs.YthbcogekfdllmaaGreatDoor
