/-
  splitref2.(*contest).follow by its contract: it answers as stpQ. (Printed by gen_qf2.py.)
-/
import Derived.Test.YthbcogekfdllmaaGreatZMapE
namespace Go.Proofs.YthbcogekfdllmaaGreat
open Go Go.RowKit
attribute [local go_sem ↓] Go.wp_at_zero Go.wp_at_succ

theorem ba_nil {x : ByteArray} (h : x.toList = []) : x = ⟨#[]⟩ := by
  rw [Lib.toList_data] at h
  cases x
  congr
  exact Array.toList_inj.1 h
/-- what a step makes of a contest in memory -/
def ConR (w0 : World) (g m2 n n2 : Nat) (G : QF) (o : Option QF) (l : List Rsc) (e : Ending) (w' : World) : Prop :=
  ∃ m', e = .returned (.bool o.isSome) ∧ Sq w0 w' (conL g m' (n + 1) m2 (n2 + 1) (o.getD G) l)
theorem con_more {w W : World} {g m n n' m2 n2 n2' : Nat} {G : QF} {l : List Rsc} (h : Sq w W (conL g m n m2 n2 G l)) (h1 : n ≤ n') (h2 : n2 ≤ n2') : Sq w W (conL g m n' m2 n2' G l) := by
  have a := rMap_more (h.front 1 rfl rfl) h1
  have b := rMap_more (a.front 2 rfl rfl) h2
  exact ((b.front 2 rfl rfl).front 2 rfl rfl).front 1 rfl rfl
theorem con_no {w0 W : World} {g m n m2 n2 : Nat} {G : QF} {o : Option QF} {l : List Rsc} (ho : o = none) (h : Sq w0 W (conL g m n m2 n2 G l)) : ConR w0 g m2 n n2 G o l (.returned (.bool false)) W := by
  subst ho
  exact ⟨m, rfl, con_more h (Nat.le_succ n) (Nat.le_succ n2)⟩
theorem con_yes {w0 W : World} {g m n m2 n2 : Nat} {G G' : QF} {o : Option QF} {l : List Rsc} (ho : o = some G') (h : Sq w0 W (conL g m (n + 1) m2 (n2 + 1) G' l)) : ConR w0 g m2 n n2 G o l (.returned (.bool true)) W := by
  subst ho
  exact ⟨m, rfl, h⟩
/-- what the new map holds while follow ranges -/
def newQ (G : QF) (seen : List ByteArray) : ByteArray → Option Value := fun s => if inB seen s = true ∧ G.hw s = some 1 then some (.string (hwB 2)) else none
theorem newQ_nil (G : QF) : newQ G [] = fun _ => none := by
  funext s
  unfold newQ
  rw [if_neg (fun h => by have := (inB_iff _ _).1 h.1; cases this)]
theorem newQ_skip (G : QF) (seen : List ByteArray) {s : ByteArray} (h : ¬ G.hw s = some 1) : newQ G (seen ++ [s]) = newQ G seen := by
  funext t
  unfold newQ
  by_cases e : t = s
  · subst e; rw [if_neg (fun h2 => h h2.2), if_neg (fun h2 => h h2.2)]
  · rw [inB_ne seen e]
theorem newQ_take (G : QF) (seen : List ByteArray) {s : ByteArray} (h : G.hw s = some 1) : upd (newQ G seen) s (.string (hwB 2)) = newQ G (seen ++ [s]) := by
  funext t
  unfold upd newQ
  by_cases e : t = s
  · subst e; rw [if_pos rfl, if_pos ⟨(inB_iff _ _).2 (by simp), h⟩]
  · rw [if_neg e, inB_ne seen e]
theorem newQ_done (G : QF) (en : ByteArray → Option Int) (a : Int) (ks : List ByteArray) {seen : List ByteArray} (h : ∀ s, s ∈ seen ↔ (G.hw s).isSome = true) : newQ G seen = qfH ⟨ks, fun s => if G.hw s = some 1 then some 2 else none, en, a⟩ := by
  funext s
  unfold newQ
  show _ = (if G.hw s = some 1 then some 2 else none : Option Nat).map _
  by_cases e : G.hw s = some 1
  · have : s ∈ seen := (h s).2 (by rw [e]; rfl)
    rw [if_pos ⟨(inB_iff _ _).2 this, e⟩, if_pos e]; rfl
  · rw [if_neg (fun h2 => e h2.2), if_neg e]; rfl

set_option maxRecDepth 100000 in
set_option maxHeartbeats 4000000 in
theorem qfolN_calls (w0 : World) (g m n m2 n2 : Nat) (G : QF) (l : List Rsc) (at_ kd : Int) (who : ByteArray) (w : World) (hS : Sq w0 w (conL g m n m2 n2 G l)) (hK : KQ G) (hn : n ≤ 100000) (_hn2 : n2 ≤ 100000) (hz : who.size ≤ 40) (hkd : 1 ≤ kd ∧ kd ≤ 8) (hc : G.hw who = none) :
    Calls Tryz.prog 61 #[.pointer (some ⟨g, 0, none⟩), .agg #[.int .i64 at_, .int .i64 kd, .string who]] w (ConR w0 g m2 n n2 G (stpQ G ⟨at_, kd, who⟩) l) := by
  obtain ⟨o, ho⟩ : ∃ o, o = stpQ G ⟨at_, kd, who⟩ := ⟨_, rfl⟩
  rw [← ho]
  obtain ⟨a0, ha0⟩ : ∃ a0, G.at0 = a0 := ⟨_, rfl⟩
  have HC : Hid (G.hw who = none) := Lib.hid hc
  have HO := Lib.hid ho
  have HKG := Lib.hid hK
  have HA0 : Hid (G.at0 = a0) := ha0
  unfold conL at hS
  rw [ha0] at hS
  have hM0 : MapS w 9 m n (qfH G) := hS.nth 1 rfl
  have hgl : g < w.heap.size := Blk.lt (show Blk w g _ _ from hS.nth 0 rfl)
  have hL : ∀ W, Below w.heap.size w W → (Instr.lookup 88 (.map (some m)) (.string who) false).run Tryz.prog W = .ok (.string ⟨#[]⟩) W := fun W h => by
    have h1 := (hM0.below h).look (t := 88) (e := 9) Tryz.underlying9 Tryz.underlying88 (zero_strM W) (s := who) (by unfold maxLen; omega)
    rw [show qfH G who = none by unfold qfH; rw [hc]; rfl] at h1
    skip
    exact h1
  obtain ⟨gx, hgx⟩ : ∃ gx, gx = w.heap.size := ⟨_, rfl⟩
  have hS1 := hS.add #[.int .i64 at_, .int .i64 kd, .string who] 63
  obtain ⟨w1, hw1⟩ : ∃ W, w.alloc (.cells #[.int .i64 at_, .int .i64 kd, .string who] 63) = W := ⟨_, rfl⟩
  have hbw1 : Below w.heap.size w w1 := by rw [← hw1]; exact (Below.refl _ _).alloc (Nat.le_refl _) _
  rw [hw1, ← hgx] at hS1
  have bx : Blk w1 gx 63 #[.int .i64 at_, .int .i64 kd, .string who] := hS1.nth 0 rfl
  have bg : Blk w1 g 91 #[.int .i64 a0, .map (some m), .map (some m2)] := hS1.nth 1 rfl
  have HSP : Hid (∀ W, Below w1.heap.size w1 W → W.cell? ⟨g, 1, none⟩ = some (.map (some m)) ∧ W.cell? ⟨gx, 2, none⟩ = some (.string who) ∧ (Instr.lookup 88 (.map (some m)) (.string who) false).run Tryz.prog W = .ok (.string ⟨#[]⟩) W) := fun W hW => ⟨(bg.below hW).cell 1, (bx.below hW).cell 2, hL W (below_call hbw1 hW (Nat.le_refl _))⟩
  have hge : ¬ g = gx := by omega
  have hge2 : ¬ gx = g := by omega
  clear hS hL hM0 ho hK bx bg hbw1 hc 
  go_enter Tryz.func61, Tryz.ntmps61
  go_upto_region 1 with (fail)
  rw [← hgx]
  clear hw1 hgx
  go_cut [5] (fun s W => s = .string ⟨#[]⟩ ∧ Sq w0 W (rBlk gx 63 #[.int .i64 at_, .int .i64 kd, .string who] :: rBlk g 91 #[.int .i64 a0, .map (some m), .map (some m2)] :: rMap 9 m n (qfH G) :: rMap 9 m2 n2 (qfE G) :: l))
  case first =>
    have HDR := Lib.hid (fun q => hS1.drewN q)
    have hdr : Below w1.heap.size w1 w1.drew := below_drewN (Below.refl _ _) 1
    clear hS1
    go_wp2_with fail
    go_region_held3 (fun W => W.cell? ⟨g, 1, none⟩ = some (.map (some m)) ∧ W.cell? ⟨gx, 2, none⟩ = some (.string who) ∧ (Instr.lookup 88 (.map (some m)) (.string who) false).run Tryz.prog W = .ok (.string ⟨#[]⟩) W)
      (first | exact HSP.out _ hdr | go_keep) (fail)
    all_goals (go_wp2_with fail; go_meet; exact ⟨rfl, HDR.out 1⟩)
  case rest =>
    obtain ⟨rfl, hS3⟩ := hcut
    obtain ⟨w2, hw2⟩ : ∃ z, z = wc := ⟨_, rfl⟩
    subst hw2
    have hS2 := hS3
    clear hS3 hS1 HSP
    have hbx : Blk w2 gx 63 #[.int .i64 at_, .int .i64 kd, .string who] := hS2.nth 0 rfl
    have hbg : Blk w2 g 91 #[.int .i64 a0, .map (some m), .map (some m2)] := hS2.nth 1 rfl
    have x0 := hbx.cell 0
    have x1 := hbx.cell 1
    have x2 := hbx.cell 2
    have s0 := hbg.cell 0
    have s1 := hbg.cell 1
    have s2 := hbg.cell 2
    have HKB : Hid (∀ W, Sq w0 W (rBlk gx 63 #[.int .i64 at_, .int .i64 kd, .string who] :: rBlk g 91 #[.int .i64 a0, .map (some m), .map (some m2)] :: rMap 9 m n (qfH G) :: rMap 9 m2 n2 (qfE G) :: l) → W.cell? ⟨g, 1, none⟩ = some (.map (some m)) ∧ W.cell? ⟨g, 2, none⟩ = some (.map (some m2)) ∧ W.cell? ⟨gx, 2, none⟩ = some (.string who) ∧ W.cell? ⟨gx, 0, none⟩ = some (.int .i64 at_)) := Lib.hid (fun W h => by
      have h1 : Blk W gx 63 #[.int .i64 at_, .int .i64 kd, .string who] := h.nth 0 rfl
      have h2 : Blk W g 91 #[.int .i64 a0, .map (some m), .map (some m2)] := h.nth 1 rfl
      exact ⟨h2.cell 1, h2.cell 2, h1.cell 2, h1.cell 0⟩)
    have HKP : Hid (∀ W r r2, Sq w0 W (r :: rBlk gx 63 #[.int .i64 at_, .int .i64 kd, .string who] :: rBlk g 91 #[.int .i64 a0, .map (some m), .map (some m2)] :: r2 :: l) → W.cell? ⟨g, 1, none⟩ = some (.map (some m)) ∧ W.cell? ⟨g, 2, none⟩ = some (.map (some m2)) ∧ W.cell? ⟨gx, 2, none⟩ = some (.string who) ∧ W.cell? ⟨gx, 0, none⟩ = some (.int .i64 at_)) := Lib.hid (fun W r r2 h => by
      have h1 : Blk W gx 63 #[.int .i64 at_, .int .i64 kd, .string who] := h.nth 1 rfl
      have h2 : Blk W g 91 #[.int .i64 a0, .map (some m), .map (some m2)] := h.nth 2 rfl
      exact ⟨h2.cell 1, h2.cell 2, h1.cell 2, h1.cell 0⟩)
    have HAP : Hid (∀ W, Sq w0 W (rBlk gx 63 #[.int .i64 at_, .int .i64 kd, .string who] :: rBlk g 91 #[.int .i64 a0, .map (some m), .map (some m2)] :: rMap 9 m n (qfH G) :: rMap 9 m2 n2 (qfE G) :: l) → g < W.heap.size ∧ gx < W.heap.size ∧ g ≠ m ∧ g ≠ m2 ∧ gx ≠ m ∧ gx ≠ m2) := Lib.hid (fun W h => by
      have h1 : Blk W gx 63 #[.int .i64 at_, .int .i64 kd, .string who] := h.nth 0 rfl
      have h2 : Blk W g 91 #[.int .i64 a0, .map (some m), .map (some m2)] := h.nth 1 rfl
      have ha := h.hp.apart
      obtain ⟨a1, a2⟩ := List.pairwise_cons.1 ha
      obtain ⟨a3, _⟩ := List.pairwise_cons.1 a2
      exact ⟨h2.lt, h1.lt, fun e => a3 (rMap 9 m n (qfH G)) (by simp) g rfl e, fun e => a3 (rMap 9 m2 n2 (qfE G)) (by simp) g rfl e, fun e => a1 (rMap 9 m n (qfH G)) (by simp) gx rfl e, fun e => a1 (rMap 9 m2 n2 (qfE G)) (by simp) gx rfl e⟩)
    clear hbx hbg
    rcases (show kd = 1 ∨ kd = 2 ∨ kd = 3 ∨ kd = 4 ∨ kd = 5 ∨ kd = 6 ∨ kd = 7 ∨ kd = 8 by omega) with rfl | rfl | rfl | rfl | rfl | rfl | rfl | rfl
    · have HE : Hid (o = if 0 ≤ G.at0 ∨ (G.hw who).isSome = true ∨ G.ks.length = 128 then none else some ⟨G.ks ++ [who], setE G.hw who 0, G.en, G.at0⟩) := Lib.hid (HO.out.trans (by unfold stpQ; simp only [↓reduceIte]))
      by_cases hp : 0 ≤ a0
      · have HFI : Hid (∀ q, ConR w0 g m2 n n2 G o l (.returned (.bool false)) (w2.drewN q)) := Lib.hid (fun q => con_no (m := m) (HE.out.trans (if_pos (.inl (by rw [HA0.out]; exact hp)))) (by unfold conL; rw [ha0]; exact (hS2.drop 0 rfl rfl).drewN q))
        clear hS2 ha0
        go_wp2_with fail
        go_ret
        exact HFI.out 0
      · have hM2 : MapS w2 9 m n (qfH G) := hS2.nth 2 rfl
        have L1 := (MapS.size_eq Tryz.underlying9 hM2 HKG.out.keys).2 88 9 3 Tryz.underlying88
        obtain ⟨d, hd⟩ : ∃ d, G.ks.length = d := ⟨_, rfl⟩
        rw [hd] at L1
        have HD := Lib.hid hd
        clear hM2 hd
        by_cases h128 : d = 128
        · subst h128
          have HFI : Hid (∀ q, ConR w0 g m2 n n2 G o l (.returned (.bool false)) (w2.drewN q)) := Lib.hid (fun q => con_no (m := m) (HE.out.trans (if_pos (.inr (.inr HD.out)))) (by unfold conL; rw [ha0]; exact (hS2.drop 0 rfl rfl).drewN q))
          clear hS2 ha0
          go_wp2_with fail
          go_ret
          exact HFI.out 0
        · have h128i : ((d : Int) == 128) = false := by simp; omega
          obtain ⟨w6, hput, hS6⟩ := hq_put ((hS2.drew).front 2 rfl rfl) (by omega) (s := who) (by omega) (.string ⟨#[101, 110, 116, 101, 114]⟩)
          have HFI : Hid (ConR w0 g m2 n n2 G o l (.returned (.bool true)) w6) := Lib.hid (con_yes (m := m) (G' := ⟨G.ks ++ [who], setE G.hw who 0, G.en, G.at0⟩) (HE.out.trans (if_neg (by rw [HC.out, HD.out, HA0.out]; rintro (h | h | h); exact hp h; cases h; exact h128 h))) (by
            unfold conL
            rw [← qfH_set G who 0 G.en G.at0 (G.ks ++ [who])]
            show Sq w0 w6 (rBlk g 91 #[.int .i64 G.at0, .map (some m), .map (some m2)] :: _ :: rMap 9 m2 (n2 + 1) (qfE G) :: l)
            rw [ha0]
            have h1 := (hS6.drop 1 rfl rfl).front 2 rfl rfl
            have h2 := rMap_more h1 (Nat.le_succ n2)
            exact ((h2.front 1 rfl rfl).front 2 rfl rfl)))
          have HK6 := HKP.out _ _ _ hS6
          clear hS6 hS2 ha0
          go_wp2_with fail
          go_region_held3 (fun W => W.cell? ⟨g, 1, none⟩ = some (.map (some m)) ∧ W.cell? ⟨g, 2, none⟩ = some (.map (some m2)) ∧ W.cell? ⟨gx, 2, none⟩ = some (.string who) ∧ W.cell? ⟨gx, 0, none⟩ = some (.int .i64 at_))
            (first | go_keep | exact HK6) (fail)
          all_goals (go_wp2_with fail; go_ret; exact HFI.out)
    · have HE : Hid (o = mvQ G ⟨at_, 2, who⟩ 0 1) := Lib.hid (HO.out.trans (by unfold stpQ; simp only [Int.reduceEq, ↓reduceIte]))
      have HFI : Hid (∀ q, ConR w0 g m2 n n2 G o l (.returned (.bool false)) (w2.drewN q)) := Lib.hid (fun q => con_no (m := m) (HE.out.trans (by unfold mvQ; rw [if_neg (by rw [HC.out]; intro h; cases h)])) (by unfold conL; rw [ha0]; exact (hS2.drop 0 rfl rfl).drewN q))
      clear hS2 ha0
      go_wp2_with fail
      go_ret
      exact HFI.out 0
    · have HE : Hid (o = mvQ G ⟨at_, 3, who⟩ 1 0) := Lib.hid (HO.out.trans (by unfold stpQ; simp only [Int.reduceEq, ↓reduceIte]))
      have HFI : Hid (∀ q, ConR w0 g m2 n n2 G o l (.returned (.bool false)) (w2.drewN q)) := Lib.hid (fun q => con_no (m := m) (HE.out.trans (by unfold mvQ; rw [if_neg (by rw [HC.out]; intro h; cases h)])) (by unfold conL; rw [ha0]; exact (hS2.drop 0 rfl rfl).drewN q))
      clear hS2 ha0
      go_wp2_with fail
      go_ret
      exact HFI.out 0
    · have HE : Hid (o = if 0 ≤ G.at0 ∨ G.hw who = none then none else some ⟨G.ks.filter (fun t => decide (t ≠ who)), delE G.hw who, G.en, G.at0⟩) := Lib.hid (HO.out.trans (by unfold stpQ; simp only [Int.reduceEq, ↓reduceIte]))
      by_cases hp : 0 ≤ a0
      · have HFI : Hid (∀ q, ConR w0 g m2 n n2 G o l (.returned (.bool false)) (w2.drewN q)) := Lib.hid (fun q => con_no (m := m) (HE.out.trans (if_pos (.inr HC.out))) (by unfold conL; rw [ha0]; exact (hS2.drop 0 rfl rfl).drewN q))
        clear hS2 ha0
        go_wp2_with fail
        go_ret
        exact HFI.out 0
      · have HFI : Hid (∀ q, ConR w0 g m2 n n2 G o l (.returned (.bool false)) (w2.drewN q)) := Lib.hid (fun q => con_no (m := m) (HE.out.trans (if_pos (.inr HC.out))) (by unfold conL; rw [ha0]; exact (hS2.drop 0 rfl rfl).drewN q))
        clear hS2 ha0
        go_wp2_with fail
        go_ret
        exact HFI.out 0
    · have HE : Hid (o = if 0 ≤ G.at0 ∨ (rdyQ G).length < 2 then none else some ⟨rdyQ G, fun s => if G.hw s = some 1 then some 2 else none, G.en, at_⟩) := Lib.hid (HO.out.trans (by unfold stpQ; simp only [Int.reduceEq, ↓reduceIte]))
      have HRD := Lib.hid (readyQ_calls w0 g m n m2 n2 G l w2 (by unfold conL; rw [ha0]; exact hS2.drop 0 rfl rfl) HKG.out hn)
      go_upto_region 11 with (fail)
      go_cut [56] (fun s W => ∃ B : Bool, s = .bool B ∧ Hid (B = true ↔ 0 ≤ a0 ∨ (rdyQ G).length < 2) ∧ Sq w0 W (rBlk gx 63 #[.int .i64 at_, .int .i64 5, .string who] :: rBlk g 91 #[.int .i64 a0, .map (some m), .map (some m2)] :: rMap 9 m n (qfH G) :: rMap 9 m2 n2 (qfE G) :: l))
      case first =>
        by_cases hp : 0 ≤ a0
        · go_wp2_with fail
          go_meet
          exact ⟨true, rfl, Lib.hid ⟨fun _ => .inl hp, fun _ => rfl⟩, hS2⟩
        · have HSH := Lib.hid (fun W (h : Below w2.heap.size w2 W) => hS2.callB h)
          obtain ⟨d, hd⟩ : ∃ d, (rdyQ G).length = d := ⟨_, rfl⟩
          rw [hd] at HRD
          have HD := Lib.hid hd
          clear hS2 hd
          go_wp2_with fail
          refine HRD.out.mono ?_
          rintro e w3 ⟨rfl, hb3⟩
          have hS4 := HSH.out _ hb3
          clear hb3
          go_wp2_with fail
          go_meet
          exact ⟨decide ((d : Int) < 2), rfl, Lib.hid (by rw [HD.out]; simp only [decide_eq_true_eq]; omega), hS4⟩
      case rest =>
        obtain ⟨B, rfl, HBB, hS3⟩ := hcut
        clear hS2 x0 x1 x2 s0 s1 s2 HRD
        obtain ⟨w3, hw3⟩ : ∃ z, z = wc := ⟨_, rfl⟩
        subst hw3
        cases B
        · have hbx : Blk w3 gx 63 #[.int .i64 at_, .int .i64 5, .string who] := hS3.nth 0 rfl
          have hbg : Blk w3 g 91 #[.int .i64 a0, .map (some m), .map (some m2)] := hS3.nth 1 rfl
          have x0 := hbx.cell 0
          have s0 := hbg.cell 0
          have f0 := hbg.frozen 0
          have hmm := @run_makeMap Tryz.prog
          have hS4 := ((hS3.front 1 rfl rfl).set_ 0 (.int .i64 at_)).addMap 9
          obtain ⟨w4, hw4⟩ : ∃ z, w3.setCell ⟨g, 0, none⟩ (.int .i64 at_) = z := ⟨_, rfl⟩
          rw [hw4] at hS4
          obtain ⟨q, hq⟩ : ∃ q, q = w4.heap.size := ⟨_, rfl⟩
          rw [← hq] at hS4
          have HNO : Hid (¬ (0 ≤ G.at0 ∨ (rdyQ G).length < 2)) := Lib.hid (fun h => by rw [HA0.out] at h; have := HBB.out.2 h; cases this)
          have HYES : Hid (∀ W k, k ≤ n → Sq w0 W (rMap 9 q k (qfH ⟨rdyQ G, fun s => if G.hw s = some 1 then some 2 else none, G.en, at_⟩) :: rMap 9 m n (qfH G) :: rBlk g 91 #[.int .i64 at_, .map (some q), .map (some m2)] :: rBlk gx 63 #[.int .i64 at_, .int .i64 5, .string who] :: rMap 9 m2 n2 (qfE G) :: l) → ConR w0 g m2 n n2 G o l (.returned (.bool true)) W) := Lib.hid (fun W k hk h => by
            refine con_yes (m := q) (HE.out.trans (if_neg HNO.out)) ?_
            have h1 : Sq w0 W (conL g q k m2 n2 ⟨rdyQ G, fun s => if G.hw s = some 1 then some 2 else none, G.en, at_⟩ l) := ((h.drop 1 rfl rfl).front 1 rfl rfl).drop 2 rfl rfl
            exact con_more h1 (by omega) (Nat.le_succ n2))
          have HKN := Lib.hid ((MapS.size_eq Tryz.underlying9 (show MapS w3 9 m n (qfH G) from hS3.nth 2 rfl) HKG.out.keys).1)
          clear hS3 hbx hbg
          go_upto_region 15 with (fail)
          rw [← hq]
          clear hmm hw4
          have hS5 : Sq w0 (w4.alloc (.map #[] 0)) (rMap 9 m n (qfH G) :: rMap 9 q 0 (newQ G []) :: rBlk g 91 #[.int .i64 at_, .map (some m), .map (some m2)] :: rBlk gx 63 #[.int .i64 at_, .int .i64 5, .string who] :: rMap 9 m2 n2 (qfE G) :: l) := by
            rw [newQ_nil]
            exact hS4.front 3 rfl rfl
          obtain ⟨w5, hw5⟩ : ∃ z, z = w4.alloc (.map #[] 0) := ⟨_, rfl⟩
          rw [← hw5] at hS5 ⊢
          clear hw5 hS4 hq x0 s0 f0
          have cg : w5.cell? ⟨g, 1, none⟩ = some (.map (some m)) := (hS5.nth 2 rfl : Blk w5 g _ _).cell 1
          have HMP : MapS w5 9 m n (qfH G) := hS5.head
          go_wp2_with (first
            | (at_range; refine wpList_range_map _ rfl _ 88 rfl 9 9 Tryz.underlying9 Tryz.underlying88 m n (qfH G) rfl HMP ?_; intro w6 cnt0 hr0 hg0 hs0))
          go_frame
          have hS6 := (hS5.rngStart hr0 hg0).front 1 rfl rfl
          obtain ⟨r, hr⟩ : ∃ r, r = w5.heap.size := ⟨_, rfl⟩
          rw [← hr] at hS6 ⊢
          clear hS5 hr0 hg0 hs0 HMP hr cg
          go_loopw [9] (fun _ wq => ∃ (seen : List ByteArray) (cnt : Nat), Hid (∀ s ∈ seen, s ∈ G.ks) ∧ Sq w0 wq (rMap 9 q seen.length (newQ G seen) :: rRng 9 m r n (qfH G) seen cnt :: rBlk g 91 #[.int .i64 at_, .map (some m), .map (some m2)] :: rBlk gx 63 #[.int .i64 at_, .int .i64 5, .string who] :: rMap 9 m2 n2 (qfE G) :: l)) (fun _ wq => wq.rangeLeft m r)
          case atStart => exact ⟨[], cnt0, Lib.hid (fun s hs => by cases hs), hS6⟩
          case round =>
            clear hS6
            obtain ⟨seen, cnt, HM, hS⟩ := hrel
            have hrg : RngS wr 9 m r n (qfH G) seen cnt := hS.nth 1 rfl
            have hlen : seen.length ≤ G.ks.length := seen_leR seen G.ks hrg.nodup HM.out
            have hln : seen.length ≤ n := Nat.le_trans hlen HKN.out
            go_wp2_with (first
              | (at_next; refine wpList_next_map _ rfl _ rfl 9 Tryz.underlying9 m r n (qfH G) seen cnt rfl hrg ?_ ?_))
            · intro hdone
              have hmem : ∀ s, s ∈ seen ↔ (G.hw s).isSome = true := fun s => ((HKG.out.keys.seen hrg.nodup HM.out hdone).mem_iff).trans (HKG.out.iff s)
              have e1 := newQ_done G G.en at_ (rdyQ G) hmem
              have hS7 : Sq w0 wr (rMap 9 q seen.length (qfH ⟨rdyQ G, fun s => if G.hw s = some 1 then some 2 else none, G.en, at_⟩) :: rMap 9 m n (qfH G) :: rBlk g 91 #[.int .i64 at_, .map (some m), .map (some m2)] :: rBlk gx 63 #[.int .i64 at_, .int .i64 5, .string who] :: rMap 9 m2 n2 (qfE G) :: l) := by
                rw [← e1]
                exact (hS.front 1 rfl rfl).rngEnd.front 1 rfl rfl
              have hB : Blk wr g 91 #[.int .i64 at_, .map (some m), .map (some m2)] := hS7.nth 2 rfl
              have c1 := hB.cell 1
              have f1 := hB.frozen 1
              have hS8 := (((hS7.front 2 rfl rfl).set_ 1 (.map (some q))).front 1 rfl rfl).front 2 rfl rfl |> fun z => z.front 1 rfl rfl
              have HR := Lib.hid (HYES.out _ _ hln hS8)
              clear hS hS7 hS8 hB e1 hmem hdone hrg HM hlen
              go_wp2_with fail
              go_ret
              exact HR.out
            · intro s v w7 cnt2 hnew hsl hf hrg2 hlt2 hg2 hs2 hen
              obtain ⟨cc, he, rfl⟩ := Option.map_eq_some_iff.1 hf
              have hsk : s ∈ G.ks := (HKG.out.iff s).2 (by rw [he]; rfl)
              have hsz := HKG.out.sz s hsk
              have hcc4 : cc ≤ 4 := HKG.out.c4 s cc he
              have hS7 := ((hS.front 1 rfl rfl).rngStep hrg2 hg2)
              have HM2 : Hid (∀ x ∈ seen ++ [s], x ∈ G.ks) := Lib.hid (fun x hx => by
                rcases List.mem_append.1 hx with hx | hx
                · exact HM.out x hx
                · simp at hx; subst hx; exact hsk)
              have hl2 : wr.rangeLeft m r = cnt := hrg.left
              obtain ⟨hb, hhb⟩ : ∃ hb, hb = hwB cc := ⟨_, rfl⟩
              have hBQ := litB hb [114, 101, 97, 100, 121] (hwB 1) rfl
              have hen2 : (Instr.entry (.pointer (some ⟨r, 0, none⟩))).run Tryz.prog w7 = .ok (.tuple #[.string s, .string hb]) w7 := by rw [hhb]; exact hen
              have hl3 : (seen ++ [s]).length = seen.length + 1 := by simp
              have HL3 := Lib.hid hl3
              by_cases h1 : cc = 1
              · have hB1 : (hb.toList == [114, 101, 97, 100, 121]) = true := hBQ.trans (decide_eq_true (by rw [hhb, h1]))
                have HT := Lib.hid (newQ_take G seen (s := s) (by rw [he, h1]))
                obtain ⟨w8, hput, hS8⟩ := hq_put (hS7.front 1 rfl rfl) (by omega) (s := s) (by omega) (.string ⟨#[114, 97, 99, 101]⟩)
                clear hS hrg hrg2 hg2 hs2 hf hen hnew HM hhb hBQ he hS7 hl3 h1
                go_wp2_with fail
                have hS9 : Sq w0 w8 (rMap 9 q (seen ++ [s]).length (newQ G (seen ++ [s])) :: rRng 9 m r n (qfH G) (seen ++ [s]) cnt2 :: rBlk g 91 #[.int .i64 at_, .map (some m), .map (some m2)] :: rBlk gx 63 #[.int .i64 at_, .int .i64 5, .string who] :: rMap 9 m2 n2 (qfE G) :: l) := by
                  rw [HL3.out, ← HT.out]
                  exact hS8
                have hr8 : RngS w8 9 m r n (qfH G) (seen ++ [s]) cnt2 := hS9.nth 1 rfl
                go_roundw
                case rel => exact ⟨seen ++ [s], cnt2, HM2, hS9⟩
                case measure => rw [hr8.left, hl2]; exact hlt2
              · have hB1 : (hb.toList == [114, 101, 97, 100, 121]) = false := hBQ.trans (decide_eq_false (fun h => h1 (hwB_inj hcc4 (by omega) (hhb ▸ h))))
                have HT := Lib.hid (newQ_skip G seen (s := s) (by rw [he]; intro h; injection h with h; exact h1 h))
                have hS9 : Sq w0 w7 (rMap 9 q (seen ++ [s]).length (newQ G (seen ++ [s])) :: rRng 9 m r n (qfH G) (seen ++ [s]) cnt2 :: rBlk g 91 #[.int .i64 at_, .map (some m), .map (some m2)] :: rBlk gx 63 #[.int .i64 at_, .int .i64 5, .string who] :: rMap 9 m2 n2 (qfE G) :: l) := by
                  rw [HL3.out, HT.out]
                  exact rMap_more (hS7.front 1 rfl rfl) (Nat.le_succ _)
                clear hS hrg hg2 hs2 hf hen hnew HM hhb hBQ he hS7 hl3 h1
                go_wp2_with fail
                go_roundw
                case rel => exact ⟨seen ++ [s], cnt2, HM2, hS9⟩
                case measure => rw [hrg2.left, hl2]; exact hlt2
        · have hS2 := hS3
          have HFI : Hid (∀ q, ConR w0 g m2 n n2 G o l (.returned (.bool false)) (w3.drewN q)) := Lib.hid (fun q => con_no (m := m) (HE.out.trans (if_pos (by rw [HA0.out]; exact HBB.out.1 rfl))) (by unfold conL; rw [ha0]; exact (hS2.drop 0 rfl rfl).drewN q))
          clear hS2 ha0
          go_wp2_with fail
          go_ret
          exact HFI.out 0
    · have HE : Hid (o = if at_ = G.at0 then none else mvQ G ⟨at_, 6, who⟩ 2 3) := Lib.hid (HO.out.trans (by unfold stpQ; simp only [Int.reduceEq, ↓reduceIte]))
      go_upto_region 37 with (fail)
      go_cut [124] (fun s W => s = .bool (at_ == a0) ∧ Sq w0 W (rBlk gx 63 #[.int .i64 at_, .int .i64 6, .string who] :: rBlk g 91 #[.int .i64 a0, .map (some m), .map (some m2)] :: rMap 9 m n (qfH G) :: rMap 9 m2 n2 (qfE G) :: l))
      case first =>
        have HDR := Lib.hid (fun q => hS2.drewN q)
        clear hS2
        go_wp2_with fail
        go_quiet (fail)
        go_wp2_with fail
        go_meet
        exact ⟨rfl, HDR.out _⟩
      case rest =>
        obtain ⟨rfl, hS3⟩ := hcut
        clear hS2 x0 x1 x2 s0 s1 s2
        obtain ⟨w2, hw2⟩ : ∃ z, z = wc := ⟨_, rfl⟩
        subst hw2
        have hS2 := hS3
        clear hS3
        have hbx : Blk w2 gx 63 #[.int .i64 at_, .int .i64 6, .string who] := hS2.nth 0 rfl
        have hbg : Blk w2 g 91 #[.int .i64 a0, .map (some m), .map (some m2)] := hS2.nth 1 rfl
        have x0 := hbx.cell 0
        have x2 := hbx.cell 2
        have s1 := hbg.cell 1
        have s2 := hbg.cell 2
        clear hbx hbg
        by_cases he : at_ = a0
        · have heb : (at_ == a0) = true := by simpa using he
          have HEQ := Lib.hid he
          clear he
          have HFI : Hid (∀ q, ConR w0 g m2 n n2 G o l (.returned (.bool false)) (w2.drewN q)) := Lib.hid (fun q => con_no (m := m) (HE.out.trans (if_pos (by rw [HA0.out]; exact HEQ.out))) (by unfold conL; rw [ha0]; exact (hS2.drop 0 rfl rfl).drewN q))
          clear hS2 ha0
          go_wp2_with fail
          go_ret
          exact HFI.out 0
        · have heb : (at_ == a0) = false := by simpa using he
          have HEQ := Lib.hid he
          clear he
          have HFI : Hid (∀ q, ConR w0 g m2 n n2 G o l (.returned (.bool false)) (w2.drewN q)) := Lib.hid (fun q => con_no (m := m) (HE.out.trans ((if_neg (by rw [HA0.out]; exact HEQ.out)).trans (by unfold mvQ; rw [if_neg (by rw [HC.out]; intro h; cases h)]))) (by unfold conL; rw [ha0]; exact (hS2.drop 0 rfl rfl).drewN q))
          clear hS2 ha0
          go_wp2_with fail
          go_ret
          exact HFI.out 0
    · have HE : Hid (o = mvQ G ⟨at_, 7, who⟩ 2 4) := Lib.hid (HO.out.trans (by unfold stpQ; simp only [Int.reduceEq, ↓reduceIte]))
      have HFI : Hid (∀ q, ConR w0 g m2 n n2 G o l (.returned (.bool false)) (w2.drewN q)) := Lib.hid (fun q => con_no (m := m) (HE.out.trans (by unfold mvQ; rw [if_neg (by rw [HC.out]; intro h; cases h)])) (by unfold conL; rw [ha0]; exact (hS2.drop 0 rfl rfl).drewN q))
      clear hS2 ha0
      go_wp2_with fail
      go_ret
      exact HFI.out 0
    · have HE : Hid (o = if G.hw who = some 3 ∨ G.hw who = some 4 then some ⟨G.ks, setE G.hw who 2, G.en, G.at0⟩ else none) := Lib.hid (HO.out.trans (by unfold stpQ; simp only [Int.reduceEq, ↓reduceIte]))
      have HFI : Hid (∀ q, ConR w0 g m2 n n2 G o l (.returned (.bool false)) (w2.drewN q)) := Lib.hid (fun q => con_no (m := m) (HE.out.trans (if_neg (by rw [HC.out]; rintro (h | h) <;> cases h))) (by unfold conL; rw [ha0]; exact (hS2.drop 0 rfl rfl).drewN q))
      clear hS2 ha0
      go_wp2_with fail
      go_ret
      exact HFI.out 0
set_option maxRecDepth 100000 in
set_option maxHeartbeats 4000000 in
theorem qfolS_calls (w0 : World) (g m n m2 n2 : Nat) (G : QF) (l : List Rsc) (at_ kd : Int) (who : ByteArray) (w : World) (hS : Sq w0 w (conL g m n m2 n2 G l)) (hK : KQ G) (hn : n ≤ 100000) (hn2 : n2 ≤ 100000) (hz : who.size ≤ 40) (hkd : 1 ≤ kd ∧ kd ≤ 8) (c : Nat) (hc : G.hw who = some c) :
    Calls Tryz.prog 61 #[.pointer (some ⟨g, 0, none⟩), .agg #[.int .i64 at_, .int .i64 kd, .string who]] w (ConR w0 g m2 n n2 G (stpQ G ⟨at_, kd, who⟩) l) := by
  obtain ⟨o, ho⟩ : ∃ o, o = stpQ G ⟨at_, kd, who⟩ := ⟨_, rfl⟩
  rw [← ho]
  obtain ⟨a0, ha0⟩ : ∃ a0, G.at0 = a0 := ⟨_, rfl⟩
  have hc4 : c ≤ 4 := hK.c4 who c hc
  obtain ⟨hs, hhs⟩ : ∃ hs, hs = hwB c := ⟨_, rfl⟩
  obtain ⟨b0, hb0⟩ : ∃ b, decide (c = 0) = b := ⟨_, rfl⟩
  have hB0 : (hs.toList == [101, 110, 116, 101, 114]) = b0 := (litB hs [101, 110, 116, 101, 114] (hwB 0) rfl).trans (by rw [← hb0]; exact decide_eq_decide.2 ⟨fun h => hwB_inj hc4 (by decide) (hhs ▸ h), fun h => by rw [hhs, h]⟩)
  have HB0 : Hid (b0 = true ↔ G.hw who = some 0) := Lib.hid (by rw [← hb0, hc]; simp)
  obtain ⟨b1, hb1⟩ : ∃ b, decide (c = 1) = b := ⟨_, rfl⟩
  have hB1 : (hs.toList == [114, 101, 97, 100, 121]) = b1 := (litB hs [114, 101, 97, 100, 121] (hwB 1) rfl).trans (by rw [← hb1]; exact decide_eq_decide.2 ⟨fun h => hwB_inj hc4 (by decide) (hhs ▸ h), fun h => by rw [hhs, h]⟩)
  have HB1 : Hid (b1 = true ↔ G.hw who = some 1) := Lib.hid (by rw [← hb1, hc]; simp)
  obtain ⟨b2, hb2⟩ : ∃ b, decide (c = 2) = b := ⟨_, rfl⟩
  have hB2 : (hs.toList == [114, 97, 99, 101]) = b2 := (litB hs [114, 97, 99, 101] (hwB 2) rfl).trans (by rw [← hb2]; exact decide_eq_decide.2 ⟨fun h => hwB_inj hc4 (by decide) (hhs ▸ h), fun h => by rw [hhs, h]⟩)
  have HB2 : Hid (b2 = true ↔ G.hw who = some 2) := Lib.hid (by rw [← hb2, hc]; simp)
  obtain ⟨b3, hb3⟩ : ∃ b, decide (c = 3) = b := ⟨_, rfl⟩
  have hB3 : (hs.toList == [100, 111, 110, 101]) = b3 := (litB hs [100, 111, 110, 101] (hwB 3) rfl).trans (by rw [← hb3]; exact decide_eq_decide.2 ⟨fun h => hwB_inj hc4 (by decide) (hhs ▸ h), fun h => by rw [hhs, h]⟩)
  have HB3 : Hid (b3 = true ↔ G.hw who = some 3) := Lib.hid (by rw [← hb3, hc]; simp)
  obtain ⟨b4, hb4⟩ : ∃ b, decide (c = 4) = b := ⟨_, rfl⟩
  have hB4 : (hs.toList == [115, 116, 111, 112]) = b4 := (litB hs [115, 116, 111, 112] (hwB 4) rfl).trans (by rw [← hb4]; exact decide_eq_decide.2 ⟨fun h => hwB_inj hc4 (by decide) (hhs ▸ h), fun h => by rw [hhs, h]⟩)
  have HB4 : Hid (b4 = true ↔ G.hw who = some 4) := Lib.hid (by rw [← hb4, hc]; simp)
  have hne : ¬ hs.toList = [] := fun h => hwB_ne c (by rw [← hhs]; exact ba_nil h)
  have hne2 : hs.toList.isEmpty = false := by simpa using hne
  have HCS : Hid ((G.hw who).isSome = true) := Lib.hid (by rw [hc]; rfl)
  have HCN : Hid (¬ G.hw who = none) := Lib.hid (by rw [hc]; intro h; cases h)
  have HO := Lib.hid ho
  have HKG := Lib.hid hK
  have HA0 : Hid (G.at0 = a0) := ha0
  unfold conL at hS
  rw [ha0] at hS
  have hM0 : MapS w 9 m n (qfH G) := hS.nth 1 rfl
  have hgl : g < w.heap.size := Blk.lt (show Blk w g _ _ from hS.nth 0 rfl)
  have hL : ∀ W, Below w.heap.size w W → (Instr.lookup 88 (.map (some m)) (.string who) false).run Tryz.prog W = .ok (.string hs) W := fun W h => by
    have h1 := (hM0.below h).look (t := 88) (e := 9) Tryz.underlying9 Tryz.underlying88 (zero_strM W) (s := who) (by unfold maxLen; omega)
    rw [show qfH G who = some (.string (hwB c)) by unfold qfH; rw [hc]; rfl] at h1
    rw [← hhs] at h1
    exact h1
  obtain ⟨gx, hgx⟩ : ∃ gx, gx = w.heap.size := ⟨_, rfl⟩
  have hS1 := hS.add #[.int .i64 at_, .int .i64 kd, .string who] 63
  obtain ⟨w1, hw1⟩ : ∃ W, w.alloc (.cells #[.int .i64 at_, .int .i64 kd, .string who] 63) = W := ⟨_, rfl⟩
  have hbw1 : Below w.heap.size w w1 := by rw [← hw1]; exact (Below.refl _ _).alloc (Nat.le_refl _) _
  rw [hw1, ← hgx] at hS1
  have bx : Blk w1 gx 63 #[.int .i64 at_, .int .i64 kd, .string who] := hS1.nth 0 rfl
  have bg : Blk w1 g 91 #[.int .i64 a0, .map (some m), .map (some m2)] := hS1.nth 1 rfl
  have HSP : Hid (∀ W, Below w1.heap.size w1 W → W.cell? ⟨g, 1, none⟩ = some (.map (some m)) ∧ W.cell? ⟨gx, 2, none⟩ = some (.string who) ∧ (Instr.lookup 88 (.map (some m)) (.string who) false).run Tryz.prog W = .ok (.string hs) W) := fun W hW => ⟨(bg.below hW).cell 1, (bx.below hW).cell 2, hL W (below_call hbw1 hW (Nat.le_refl _))⟩
  have hge : ¬ g = gx := by omega
  have hge2 : ¬ gx = g := by omega
  clear hS hL hM0 ho hK bx bg hbw1 hc hhs hc4 hb0 hb1 hb2 hb3 hb4
  go_enter Tryz.func61, Tryz.ntmps61
  go_upto_region 1 with (fail)
  rw [← hgx]
  clear hw1 hgx
  go_cut [5] (fun s W => s = .string hs ∧ Sq w0 W (rBlk gx 63 #[.int .i64 at_, .int .i64 kd, .string who] :: rBlk g 91 #[.int .i64 a0, .map (some m), .map (some m2)] :: rMap 9 m n (qfH G) :: rMap 9 m2 n2 (qfE G) :: l))
  case first =>
    have HDR := Lib.hid (fun q => hS1.drewN q)
    have hdr : Below w1.heap.size w1 w1.drew := below_drewN (Below.refl _ _) 1
    clear hS1
    go_wp2_with fail
    go_region_held3 (fun W => W.cell? ⟨g, 1, none⟩ = some (.map (some m)) ∧ W.cell? ⟨gx, 2, none⟩ = some (.string who) ∧ (Instr.lookup 88 (.map (some m)) (.string who) false).run Tryz.prog W = .ok (.string hs) W)
      (first | exact HSP.out _ hdr | go_keep) (fail)
    all_goals (go_wp2_with fail; go_meet; exact ⟨rfl, HDR.out 1⟩)
  case rest =>
    obtain ⟨rfl, hS3⟩ := hcut
    obtain ⟨w2, hw2⟩ : ∃ z, z = wc := ⟨_, rfl⟩
    subst hw2
    have hS2 := hS3
    clear hS3 hS1 HSP
    have hbx : Blk w2 gx 63 #[.int .i64 at_, .int .i64 kd, .string who] := hS2.nth 0 rfl
    have hbg : Blk w2 g 91 #[.int .i64 a0, .map (some m), .map (some m2)] := hS2.nth 1 rfl
    have x0 := hbx.cell 0
    have x1 := hbx.cell 1
    have x2 := hbx.cell 2
    have s0 := hbg.cell 0
    have s1 := hbg.cell 1
    have s2 := hbg.cell 2
    have HKB : Hid (∀ W, Sq w0 W (rBlk gx 63 #[.int .i64 at_, .int .i64 kd, .string who] :: rBlk g 91 #[.int .i64 a0, .map (some m), .map (some m2)] :: rMap 9 m n (qfH G) :: rMap 9 m2 n2 (qfE G) :: l) → W.cell? ⟨g, 1, none⟩ = some (.map (some m)) ∧ W.cell? ⟨g, 2, none⟩ = some (.map (some m2)) ∧ W.cell? ⟨gx, 2, none⟩ = some (.string who) ∧ W.cell? ⟨gx, 0, none⟩ = some (.int .i64 at_)) := Lib.hid (fun W h => by
      have h1 : Blk W gx 63 #[.int .i64 at_, .int .i64 kd, .string who] := h.nth 0 rfl
      have h2 : Blk W g 91 #[.int .i64 a0, .map (some m), .map (some m2)] := h.nth 1 rfl
      exact ⟨h2.cell 1, h2.cell 2, h1.cell 2, h1.cell 0⟩)
    have HKP : Hid (∀ W r r2, Sq w0 W (r :: rBlk gx 63 #[.int .i64 at_, .int .i64 kd, .string who] :: rBlk g 91 #[.int .i64 a0, .map (some m), .map (some m2)] :: r2 :: l) → W.cell? ⟨g, 1, none⟩ = some (.map (some m)) ∧ W.cell? ⟨g, 2, none⟩ = some (.map (some m2)) ∧ W.cell? ⟨gx, 2, none⟩ = some (.string who) ∧ W.cell? ⟨gx, 0, none⟩ = some (.int .i64 at_)) := Lib.hid (fun W r r2 h => by
      have h1 : Blk W gx 63 #[.int .i64 at_, .int .i64 kd, .string who] := h.nth 1 rfl
      have h2 : Blk W g 91 #[.int .i64 a0, .map (some m), .map (some m2)] := h.nth 2 rfl
      exact ⟨h2.cell 1, h2.cell 2, h1.cell 2, h1.cell 0⟩)
    have HAP : Hid (∀ W, Sq w0 W (rBlk gx 63 #[.int .i64 at_, .int .i64 kd, .string who] :: rBlk g 91 #[.int .i64 a0, .map (some m), .map (some m2)] :: rMap 9 m n (qfH G) :: rMap 9 m2 n2 (qfE G) :: l) → g < W.heap.size ∧ gx < W.heap.size ∧ g ≠ m ∧ g ≠ m2 ∧ gx ≠ m ∧ gx ≠ m2) := Lib.hid (fun W h => by
      have h1 : Blk W gx 63 #[.int .i64 at_, .int .i64 kd, .string who] := h.nth 0 rfl
      have h2 : Blk W g 91 #[.int .i64 a0, .map (some m), .map (some m2)] := h.nth 1 rfl
      have ha := h.hp.apart
      obtain ⟨a1, a2⟩ := List.pairwise_cons.1 ha
      obtain ⟨a3, _⟩ := List.pairwise_cons.1 a2
      exact ⟨h2.lt, h1.lt, fun e => a3 (rMap 9 m n (qfH G)) (by simp) g rfl e, fun e => a3 (rMap 9 m2 n2 (qfE G)) (by simp) g rfl e, fun e => a1 (rMap 9 m n (qfH G)) (by simp) gx rfl e, fun e => a1 (rMap 9 m2 n2 (qfE G)) (by simp) gx rfl e⟩)
    clear hbx hbg
    rcases (show kd = 1 ∨ kd = 2 ∨ kd = 3 ∨ kd = 4 ∨ kd = 5 ∨ kd = 6 ∨ kd = 7 ∨ kd = 8 by omega) with rfl | rfl | rfl | rfl | rfl | rfl | rfl | rfl
    · have HE : Hid (o = if 0 ≤ G.at0 ∨ (G.hw who).isSome = true ∨ G.ks.length = 128 then none else some ⟨G.ks ++ [who], setE G.hw who 0, G.en, G.at0⟩) := Lib.hid (HO.out.trans (by unfold stpQ; simp only [↓reduceIte]))
      by_cases hp : 0 ≤ a0
      · have HFI : Hid (∀ q, ConR w0 g m2 n n2 G o l (.returned (.bool false)) (w2.drewN q)) := Lib.hid (fun q => con_no (m := m) (HE.out.trans (if_pos (.inr (.inl HCS.out)))) (by unfold conL; rw [ha0]; exact (hS2.drop 0 rfl rfl).drewN q))
        clear hS2 ha0
        go_wp2_with fail
        go_ret
        exact HFI.out 0
      · have HFI : Hid (∀ q, ConR w0 g m2 n n2 G o l (.returned (.bool false)) (w2.drewN q)) := Lib.hid (fun q => con_no (m := m) (HE.out.trans (if_pos (.inr (.inl HCS.out)))) (by unfold conL; rw [ha0]; exact (hS2.drop 0 rfl rfl).drewN q))
        clear hS2 ha0
        go_wp2_with fail
        go_ret
        exact HFI.out 0
    · have HE : Hid (o = mvQ G ⟨at_, 2, who⟩ 0 1) := Lib.hid (HO.out.trans (by unfold stpQ; simp only [Int.reduceEq, ↓reduceIte]))
      cases b0
      · have HFI : Hid (∀ q, ConR w0 g m2 n n2 G o l (.returned (.bool false)) (w2.drewN q)) := Lib.hid (fun q => con_no (m := m) (HE.out.trans (by unfold mvQ; rw [if_neg (fun h => by have := HB0.out.2 h; cases this)])) (by unfold conL; rw [ha0]; exact (hS2.drop 0 rfl rfl).drewN q))
        clear hS2 ha0
        go_wp2_with fail
        go_ret
        exact HFI.out 0
      · have hMa : MapS w2.drew 9 m n (qfH G) := (hS2.drew).nth 2 rfl
        obtain ⟨v1, st1, w3, he1, hg1, hn1⟩ := hMa.entry (t := 88) (e := 9) Tryz.underlying9 Tryz.underlying88 zero_strM (by unfold maxLen; omega) (s := who) (by unfold maxLen; omega)
        obtain ⟨w4, hs1, hm1, hg2⟩ := hn1 w3 (.string ⟨#[114, 101, 97, 100, 121]⟩) rfl
        have hg12 : w2.drew.grownBy w4 (some m) := hg1.andThen hg2 (fun j hj => .inr hj)
        have hS4 := ((hS2.drew).front 2 rfl rfl).mapSet hm1 hg12
        have hMb : MapS w4 9 m2 n2 (qfE G) := hS4.nth 3 rfl
        obtain ⟨v2, st2, w5, he2, hg3, hn2⟩ := hMb.entry (t := 89) (e := 3) Tryz.underlying9 Tryz.underlying89 zero_intM (by unfold maxLen; omega) (s := who) (by unfold maxLen; omega)
        obtain ⟨w6, hs2, hm2, hg4⟩ := hn2 w5 (.int .i64 at_) rfl
        have hg34 : w4.grownBy w6 (some m2) := hg3.andThen hg4 (fun j hj => .inr hj)
        have hS6 := (hS4.front 3 rfl rfl).mapSet hm2 hg34
        have HFI : Hid (ConR w0 g m2 n n2 G o l (.returned (.bool true)) w6) := Lib.hid (con_yes (m := m) (G' := ⟨G.ks, setE G.hw who 1, setE G.en who at_, G.at0⟩) (HE.out.trans (by unfold mvQ; rw [if_pos (HB0.out.1 rfl)])) (by
          unfold conL
          rw [← qfH_set, ← qfE_set]
          show Sq w0 w6 (rBlk g 91 #[.int .i64 G.at0, .map (some m), .map (some m2)] :: _)
          rw [ha0]
          exact ((hS6.drop 2 rfl rfl).front 1 rfl rfl).front 2 rfl rfl))
        have HCG : Hid (∀ i, w3.cell? ⟨g, i, none⟩ = w2.cell? ⟨g, i, none⟩ ∧ w4.cell? ⟨g, i, none⟩ = w2.cell? ⟨g, i, none⟩ ∧ w5.cell? ⟨g, i, none⟩ = w2.cell? ⟨g, i, none⟩ ∧ w6.cell? ⟨g, i, none⟩ = w2.cell? ⟨g, i, none⟩ ∧ w3.cell? ⟨gx, i, none⟩ = w2.cell? ⟨gx, i, none⟩ ∧ w4.cell? ⟨gx, i, none⟩ = w2.cell? ⟨gx, i, none⟩ ∧ w5.cell? ⟨gx, i, none⟩ = w2.cell? ⟨gx, i, none⟩ ∧ w6.cell? ⟨gx, i, none⟩ = w2.cell? ⟨gx, i, none⟩) := Lib.hid (fun i => by
          have k1 := HAP.out _ hS2
          obtain ⟨k2, k3, k4, k5, k6, k7⟩ := k1
          have z1 := hg1.size
          have z2 := hg2.size
          have z3 := hg3.size
          have hz0 : w2.drew.heap.size = w2.heap.size := rfl
          have q3 : ∀ b, b < w2.heap.size → b ≠ m → w3.heap[b]? = w2.heap[b]? := fun b hb hn => hg1.block b hb (by simpa using hn)
          have q4 : ∀ b, b < w2.heap.size → b ≠ m → w4.heap[b]? = w2.heap[b]? := fun b hb hn => hg12.block b hb (by simpa using hn)
          have q5 : ∀ b, b < w2.heap.size → b ≠ m → b ≠ m2 → w5.heap[b]? = w2.heap[b]? := fun b hb hn hn2 => (hg3.block b (by omega) (by simpa using hn2)).trans (q4 b hb hn)
          have q6 : ∀ b, b < w2.heap.size → b ≠ m → b ≠ m2 → w6.heap[b]? = w2.heap[b]? := fun b hb hn hn2 => (hg34.block b (by omega) (by simpa using hn2)).trans (q4 b hb hn)
          exact ⟨World.cell?_of_block (q3 g k2 k4), World.cell?_of_block (q4 g k2 k4), World.cell?_of_block (q5 g k2 k4 k5), World.cell?_of_block (q6 g k2 k4 k5), World.cell?_of_block (q3 gx k3 k6), World.cell?_of_block (q4 gx k3 k6), World.cell?_of_block (q5 gx k3 k6 k7), World.cell?_of_block (q6 gx k3 k6 k7)⟩)
        have HK0 := HKB.out _ hS2
        have HK3 : Hid (w3.cell? ⟨g, 1, none⟩ = some (.map (some m)) ∧ w3.cell? ⟨g, 2, none⟩ = some (.map (some m2)) ∧ w3.cell? ⟨gx, 2, none⟩ = some (.string who) ∧ w3.cell? ⟨gx, 0, none⟩ = some (.int .i64 at_)) := Lib.hid ⟨((HCG.out 1).1).trans HK0.1, ((HCG.out 2).1).trans HK0.2.1, ((HCG.out 2).2.2.2.2.1).trans HK0.2.2.1, ((HCG.out 0).2.2.2.2.1).trans HK0.2.2.2⟩
        have HK4 : Hid (w4.cell? ⟨g, 1, none⟩ = some (.map (some m)) ∧ w4.cell? ⟨g, 2, none⟩ = some (.map (some m2)) ∧ w4.cell? ⟨gx, 2, none⟩ = some (.string who) ∧ w4.cell? ⟨gx, 0, none⟩ = some (.int .i64 at_)) := Lib.hid ⟨((HCG.out 1).2.1).trans HK0.1, ((HCG.out 2).2.1).trans HK0.2.1, ((HCG.out 2).2.2.2.2.2.1).trans HK0.2.2.1, ((HCG.out 0).2.2.2.2.2.1).trans HK0.2.2.2⟩
        have HK5 : Hid (w5.cell? ⟨g, 1, none⟩ = some (.map (some m)) ∧ w5.cell? ⟨g, 2, none⟩ = some (.map (some m2)) ∧ w5.cell? ⟨gx, 2, none⟩ = some (.string who) ∧ w5.cell? ⟨gx, 0, none⟩ = some (.int .i64 at_)) := Lib.hid ⟨((HCG.out 1).2.2.1).trans HK0.1, ((HCG.out 2).2.2.1).trans HK0.2.1, ((HCG.out 2).2.2.2.2.2.2.1).trans HK0.2.2.1, ((HCG.out 0).2.2.2.2.2.2.1).trans HK0.2.2.2⟩
        have HK6 : Hid (w6.cell? ⟨g, 1, none⟩ = some (.map (some m)) ∧ w6.cell? ⟨g, 2, none⟩ = some (.map (some m2)) ∧ w6.cell? ⟨gx, 2, none⟩ = some (.string who) ∧ w6.cell? ⟨gx, 0, none⟩ = some (.int .i64 at_)) := Lib.hid ⟨((HCG.out 1).2.2.2.1).trans HK0.1, ((HCG.out 2).2.2.2.1).trans HK0.2.1, ((HCG.out 2).2.2.2.2.2.2.2).trans HK0.2.2.1, ((HCG.out 0).2.2.2.2.2.2.2).trans HK0.2.2.2⟩
        clear hS6 hS4 hS2 ha0 hMa hMb hg1 hg2 hg3 hg4 hg12 hg34 hm1 hm2 hn1 hn2 HCG HK0
        go_wp2_with fail
        go_region_held3 (fun W => W.cell? ⟨g, 1, none⟩ = some (.map (some m)) ∧ W.cell? ⟨g, 2, none⟩ = some (.map (some m2)) ∧ W.cell? ⟨gx, 2, none⟩ = some (.string who) ∧ W.cell? ⟨gx, 0, none⟩ = some (.int .i64 at_))
          (first | exact HK3.out | exact HK4.out | exact HK5.out | exact HK6.out | go_keep) (fail)
        all_goals (go_wp2_with fail; go_ret; exact HFI.out)
    · have HE : Hid (o = mvQ G ⟨at_, 3, who⟩ 1 0) := Lib.hid (HO.out.trans (by unfold stpQ; simp only [Int.reduceEq, ↓reduceIte]))
      cases b1
      · have HFI : Hid (∀ q, ConR w0 g m2 n n2 G o l (.returned (.bool false)) (w2.drewN q)) := Lib.hid (fun q => con_no (m := m) (HE.out.trans (by unfold mvQ; rw [if_neg (fun h => by have := HB1.out.2 h; cases this)])) (by unfold conL; rw [ha0]; exact (hS2.drop 0 rfl rfl).drewN q))
        clear hS2 ha0
        go_wp2_with fail
        go_ret
        exact HFI.out 0
      · have hMa : MapS w2.drew 9 m n (qfH G) := (hS2.drew).nth 2 rfl
        obtain ⟨v1, st1, w3, he1, hg1, hn1⟩ := hMa.entry (t := 88) (e := 9) Tryz.underlying9 Tryz.underlying88 zero_strM (by unfold maxLen; omega) (s := who) (by unfold maxLen; omega)
        obtain ⟨w4, hs1, hm1, hg2⟩ := hn1 w3 (.string ⟨#[101, 110, 116, 101, 114]⟩) rfl
        have hg12 : w2.drew.grownBy w4 (some m) := hg1.andThen hg2 (fun j hj => .inr hj)
        have hS4 := ((hS2.drew).front 2 rfl rfl).mapSet hm1 hg12
        have hMb : MapS w4 9 m2 n2 (qfE G) := hS4.nth 3 rfl
        obtain ⟨v2, st2, w5, he2, hg3, hn2⟩ := hMb.entry (t := 89) (e := 3) Tryz.underlying9 Tryz.underlying89 zero_intM (by unfold maxLen; omega) (s := who) (by unfold maxLen; omega)
        obtain ⟨w6, hs2, hm2, hg4⟩ := hn2 w5 (.int .i64 at_) rfl
        have hg34 : w4.grownBy w6 (some m2) := hg3.andThen hg4 (fun j hj => .inr hj)
        have hS6 := (hS4.front 3 rfl rfl).mapSet hm2 hg34
        have HFI : Hid (ConR w0 g m2 n n2 G o l (.returned (.bool true)) w6) := Lib.hid (con_yes (m := m) (G' := ⟨G.ks, setE G.hw who 0, setE G.en who at_, G.at0⟩) (HE.out.trans (by unfold mvQ; rw [if_pos (HB1.out.1 rfl)])) (by
          unfold conL
          rw [← qfH_set, ← qfE_set]
          show Sq w0 w6 (rBlk g 91 #[.int .i64 G.at0, .map (some m), .map (some m2)] :: _)
          rw [ha0]
          exact ((hS6.drop 2 rfl rfl).front 1 rfl rfl).front 2 rfl rfl))
        have HCG : Hid (∀ i, w3.cell? ⟨g, i, none⟩ = w2.cell? ⟨g, i, none⟩ ∧ w4.cell? ⟨g, i, none⟩ = w2.cell? ⟨g, i, none⟩ ∧ w5.cell? ⟨g, i, none⟩ = w2.cell? ⟨g, i, none⟩ ∧ w6.cell? ⟨g, i, none⟩ = w2.cell? ⟨g, i, none⟩ ∧ w3.cell? ⟨gx, i, none⟩ = w2.cell? ⟨gx, i, none⟩ ∧ w4.cell? ⟨gx, i, none⟩ = w2.cell? ⟨gx, i, none⟩ ∧ w5.cell? ⟨gx, i, none⟩ = w2.cell? ⟨gx, i, none⟩ ∧ w6.cell? ⟨gx, i, none⟩ = w2.cell? ⟨gx, i, none⟩) := Lib.hid (fun i => by
          have k1 := HAP.out _ hS2
          obtain ⟨k2, k3, k4, k5, k6, k7⟩ := k1
          have z1 := hg1.size
          have z2 := hg2.size
          have z3 := hg3.size
          have hz0 : w2.drew.heap.size = w2.heap.size := rfl
          have q3 : ∀ b, b < w2.heap.size → b ≠ m → w3.heap[b]? = w2.heap[b]? := fun b hb hn => hg1.block b hb (by simpa using hn)
          have q4 : ∀ b, b < w2.heap.size → b ≠ m → w4.heap[b]? = w2.heap[b]? := fun b hb hn => hg12.block b hb (by simpa using hn)
          have q5 : ∀ b, b < w2.heap.size → b ≠ m → b ≠ m2 → w5.heap[b]? = w2.heap[b]? := fun b hb hn hn2 => (hg3.block b (by omega) (by simpa using hn2)).trans (q4 b hb hn)
          have q6 : ∀ b, b < w2.heap.size → b ≠ m → b ≠ m2 → w6.heap[b]? = w2.heap[b]? := fun b hb hn hn2 => (hg34.block b (by omega) (by simpa using hn2)).trans (q4 b hb hn)
          exact ⟨World.cell?_of_block (q3 g k2 k4), World.cell?_of_block (q4 g k2 k4), World.cell?_of_block (q5 g k2 k4 k5), World.cell?_of_block (q6 g k2 k4 k5), World.cell?_of_block (q3 gx k3 k6), World.cell?_of_block (q4 gx k3 k6), World.cell?_of_block (q5 gx k3 k6 k7), World.cell?_of_block (q6 gx k3 k6 k7)⟩)
        have HK0 := HKB.out _ hS2
        have HK3 : Hid (w3.cell? ⟨g, 1, none⟩ = some (.map (some m)) ∧ w3.cell? ⟨g, 2, none⟩ = some (.map (some m2)) ∧ w3.cell? ⟨gx, 2, none⟩ = some (.string who) ∧ w3.cell? ⟨gx, 0, none⟩ = some (.int .i64 at_)) := Lib.hid ⟨((HCG.out 1).1).trans HK0.1, ((HCG.out 2).1).trans HK0.2.1, ((HCG.out 2).2.2.2.2.1).trans HK0.2.2.1, ((HCG.out 0).2.2.2.2.1).trans HK0.2.2.2⟩
        have HK4 : Hid (w4.cell? ⟨g, 1, none⟩ = some (.map (some m)) ∧ w4.cell? ⟨g, 2, none⟩ = some (.map (some m2)) ∧ w4.cell? ⟨gx, 2, none⟩ = some (.string who) ∧ w4.cell? ⟨gx, 0, none⟩ = some (.int .i64 at_)) := Lib.hid ⟨((HCG.out 1).2.1).trans HK0.1, ((HCG.out 2).2.1).trans HK0.2.1, ((HCG.out 2).2.2.2.2.2.1).trans HK0.2.2.1, ((HCG.out 0).2.2.2.2.2.1).trans HK0.2.2.2⟩
        have HK5 : Hid (w5.cell? ⟨g, 1, none⟩ = some (.map (some m)) ∧ w5.cell? ⟨g, 2, none⟩ = some (.map (some m2)) ∧ w5.cell? ⟨gx, 2, none⟩ = some (.string who) ∧ w5.cell? ⟨gx, 0, none⟩ = some (.int .i64 at_)) := Lib.hid ⟨((HCG.out 1).2.2.1).trans HK0.1, ((HCG.out 2).2.2.1).trans HK0.2.1, ((HCG.out 2).2.2.2.2.2.2.1).trans HK0.2.2.1, ((HCG.out 0).2.2.2.2.2.2.1).trans HK0.2.2.2⟩
        have HK6 : Hid (w6.cell? ⟨g, 1, none⟩ = some (.map (some m)) ∧ w6.cell? ⟨g, 2, none⟩ = some (.map (some m2)) ∧ w6.cell? ⟨gx, 2, none⟩ = some (.string who) ∧ w6.cell? ⟨gx, 0, none⟩ = some (.int .i64 at_)) := Lib.hid ⟨((HCG.out 1).2.2.2.1).trans HK0.1, ((HCG.out 2).2.2.2.1).trans HK0.2.1, ((HCG.out 2).2.2.2.2.2.2.2).trans HK0.2.2.1, ((HCG.out 0).2.2.2.2.2.2.2).trans HK0.2.2.2⟩
        clear hS6 hS4 hS2 ha0 hMa hMb hg1 hg2 hg3 hg4 hg12 hg34 hm1 hm2 hn1 hn2 HCG HK0
        go_wp2_with fail
        go_region_held3 (fun W => W.cell? ⟨g, 1, none⟩ = some (.map (some m)) ∧ W.cell? ⟨g, 2, none⟩ = some (.map (some m2)) ∧ W.cell? ⟨gx, 2, none⟩ = some (.string who) ∧ W.cell? ⟨gx, 0, none⟩ = some (.int .i64 at_))
          (first | exact HK3.out | exact HK4.out | exact HK5.out | exact HK6.out | go_keep) (fail)
        all_goals (go_wp2_with fail; go_ret; exact HFI.out)
    · have HE : Hid (o = if 0 ≤ G.at0 ∨ G.hw who = none then none else some ⟨G.ks.filter (fun t => decide (t ≠ who)), delE G.hw who, G.en, G.at0⟩) := Lib.hid (HO.out.trans (by unfold stpQ; simp only [Int.reduceEq, ↓reduceIte]))
      by_cases hp : 0 ≤ a0
      · have HFI : Hid (∀ q, ConR w0 g m2 n n2 G o l (.returned (.bool false)) (w2.drewN q)) := Lib.hid (fun q => con_no (m := m) (HE.out.trans (if_pos (.inl (by rw [HA0.out]; exact hp)))) (by unfold conL; rw [ha0]; exact (hS2.drop 0 rfl rfl).drewN q))
        clear hS2 ha0
        go_wp2_with fail
        go_ret
        exact HFI.out 0
      · have hM2 : MapS w2.drew 9 m n (qfH G) := (hS2.drew).nth 2 rfl
        obtain ⟨w6, hdel, hm6, hg6⟩ := hM2.deleteA (t := 88) (e := 9) Tryz.underlying9 Tryz.underlying88 (s := who) (by unfold maxLen; omega)
        have hS6 := ((hS2.drew).front 2 rfl rfl).mapDel hm6 hg6
        have HFI : Hid (ConR w0 g m2 n n2 G o l (.returned (.bool true)) w6) := Lib.hid (con_yes (m := m) (G' := ⟨G.ks.filter (fun t => decide (t ≠ who)), delE G.hw who, G.en, G.at0⟩) (HE.out.trans (if_neg (by rw [HA0.out]; rintro (h | h); exact hp h; exact HCN.out h))) (by
          unfold conL
          rw [← qfH_del]
          show Sq w0 w6 (rBlk g 91 #[.int .i64 G.at0, .map (some m), .map (some m2)] :: _ :: rMap 9 m2 (n2 + 1) (qfE G) :: l)
          rw [ha0]
          have h0 := rMap_more (hS6.drop 1 rfl rfl) (Nat.le_succ n)
          have h2 := rMap_more (h0.front 2 rfl rfl) (Nat.le_succ n2)
          exact ((h2.front 1 rfl rfl).front 2 rfl rfl)))
        have HK6 := HKP.out _ _ _ hS6
        clear hS6 hS2 ha0 hM2 hm6 hg6
        go_wp2_with fail
        go_region_held3 (fun W => W.cell? ⟨g, 1, none⟩ = some (.map (some m)) ∧ W.cell? ⟨g, 2, none⟩ = some (.map (some m2)) ∧ W.cell? ⟨gx, 2, none⟩ = some (.string who) ∧ W.cell? ⟨gx, 0, none⟩ = some (.int .i64 at_))
          (first | go_keep | exact HK6) (fail)
        all_goals (go_wp2_with fail; go_ret; exact HFI.out)
    · have HE : Hid (o = if 0 ≤ G.at0 ∨ (rdyQ G).length < 2 then none else some ⟨rdyQ G, fun s => if G.hw s = some 1 then some 2 else none, G.en, at_⟩) := Lib.hid (HO.out.trans (by unfold stpQ; simp only [Int.reduceEq, ↓reduceIte]))
      have HRD := Lib.hid (readyQ_calls w0 g m n m2 n2 G l w2 (by unfold conL; rw [ha0]; exact hS2.drop 0 rfl rfl) HKG.out hn)
      go_upto_region 11 with (fail)
      go_cut [56] (fun s W => ∃ B : Bool, s = .bool B ∧ Hid (B = true ↔ 0 ≤ a0 ∨ (rdyQ G).length < 2) ∧ Sq w0 W (rBlk gx 63 #[.int .i64 at_, .int .i64 5, .string who] :: rBlk g 91 #[.int .i64 a0, .map (some m), .map (some m2)] :: rMap 9 m n (qfH G) :: rMap 9 m2 n2 (qfE G) :: l))
      case first =>
        by_cases hp : 0 ≤ a0
        · go_wp2_with fail
          go_meet
          exact ⟨true, rfl, Lib.hid ⟨fun _ => .inl hp, fun _ => rfl⟩, hS2⟩
        · have HSH := Lib.hid (fun W (h : Below w2.heap.size w2 W) => hS2.callB h)
          obtain ⟨d, hd⟩ : ∃ d, (rdyQ G).length = d := ⟨_, rfl⟩
          rw [hd] at HRD
          have HD := Lib.hid hd
          clear hS2 hd
          go_wp2_with fail
          refine HRD.out.mono ?_
          rintro e w3 ⟨rfl, hb3⟩
          have hS4 := HSH.out _ hb3
          clear hb3
          go_wp2_with fail
          go_meet
          exact ⟨decide ((d : Int) < 2), rfl, Lib.hid (by rw [HD.out]; simp only [decide_eq_true_eq]; omega), hS4⟩
      case rest =>
        obtain ⟨B, rfl, HBB, hS3⟩ := hcut
        clear hS2 x0 x1 x2 s0 s1 s2 HRD
        obtain ⟨w3, hw3⟩ : ∃ z, z = wc := ⟨_, rfl⟩
        subst hw3
        cases B
        · have hbx : Blk w3 gx 63 #[.int .i64 at_, .int .i64 5, .string who] := hS3.nth 0 rfl
          have hbg : Blk w3 g 91 #[.int .i64 a0, .map (some m), .map (some m2)] := hS3.nth 1 rfl
          have x0 := hbx.cell 0
          have s0 := hbg.cell 0
          have f0 := hbg.frozen 0
          have hmm := @run_makeMap Tryz.prog
          have hS4 := ((hS3.front 1 rfl rfl).set_ 0 (.int .i64 at_)).addMap 9
          obtain ⟨w4, hw4⟩ : ∃ z, w3.setCell ⟨g, 0, none⟩ (.int .i64 at_) = z := ⟨_, rfl⟩
          rw [hw4] at hS4
          obtain ⟨q, hq⟩ : ∃ q, q = w4.heap.size := ⟨_, rfl⟩
          rw [← hq] at hS4
          have HNO : Hid (¬ (0 ≤ G.at0 ∨ (rdyQ G).length < 2)) := Lib.hid (fun h => by rw [HA0.out] at h; have := HBB.out.2 h; cases this)
          have HYES : Hid (∀ W k, k ≤ n → Sq w0 W (rMap 9 q k (qfH ⟨rdyQ G, fun s => if G.hw s = some 1 then some 2 else none, G.en, at_⟩) :: rMap 9 m n (qfH G) :: rBlk g 91 #[.int .i64 at_, .map (some q), .map (some m2)] :: rBlk gx 63 #[.int .i64 at_, .int .i64 5, .string who] :: rMap 9 m2 n2 (qfE G) :: l) → ConR w0 g m2 n n2 G o l (.returned (.bool true)) W) := Lib.hid (fun W k hk h => by
            refine con_yes (m := q) (HE.out.trans (if_neg HNO.out)) ?_
            have h1 : Sq w0 W (conL g q k m2 n2 ⟨rdyQ G, fun s => if G.hw s = some 1 then some 2 else none, G.en, at_⟩ l) := ((h.drop 1 rfl rfl).front 1 rfl rfl).drop 2 rfl rfl
            exact con_more h1 (by omega) (Nat.le_succ n2))
          have HKN := Lib.hid ((MapS.size_eq Tryz.underlying9 (show MapS w3 9 m n (qfH G) from hS3.nth 2 rfl) HKG.out.keys).1)
          clear hS3 hbx hbg
          go_upto_region 15 with (fail)
          rw [← hq]
          clear hmm hw4
          have hS5 : Sq w0 (w4.alloc (.map #[] 0)) (rMap 9 m n (qfH G) :: rMap 9 q 0 (newQ G []) :: rBlk g 91 #[.int .i64 at_, .map (some m), .map (some m2)] :: rBlk gx 63 #[.int .i64 at_, .int .i64 5, .string who] :: rMap 9 m2 n2 (qfE G) :: l) := by
            rw [newQ_nil]
            exact hS4.front 3 rfl rfl
          obtain ⟨w5, hw5⟩ : ∃ z, z = w4.alloc (.map #[] 0) := ⟨_, rfl⟩
          rw [← hw5] at hS5 ⊢
          clear hw5 hS4 hq x0 s0 f0
          have cg : w5.cell? ⟨g, 1, none⟩ = some (.map (some m)) := (hS5.nth 2 rfl : Blk w5 g _ _).cell 1
          have HMP : MapS w5 9 m n (qfH G) := hS5.head
          go_wp2_with (first
            | (at_range; refine wpList_range_map _ rfl _ 88 rfl 9 9 Tryz.underlying9 Tryz.underlying88 m n (qfH G) rfl HMP ?_; intro w6 cnt0 hr0 hg0 hs0))
          go_frame
          have hS6 := (hS5.rngStart hr0 hg0).front 1 rfl rfl
          obtain ⟨r, hr⟩ : ∃ r, r = w5.heap.size := ⟨_, rfl⟩
          rw [← hr] at hS6 ⊢
          clear hS5 hr0 hg0 hs0 HMP hr cg
          go_loopw [9] (fun _ wq => ∃ (seen : List ByteArray) (cnt : Nat), Hid (∀ s ∈ seen, s ∈ G.ks) ∧ Sq w0 wq (rMap 9 q seen.length (newQ G seen) :: rRng 9 m r n (qfH G) seen cnt :: rBlk g 91 #[.int .i64 at_, .map (some m), .map (some m2)] :: rBlk gx 63 #[.int .i64 at_, .int .i64 5, .string who] :: rMap 9 m2 n2 (qfE G) :: l)) (fun _ wq => wq.rangeLeft m r)
          case atStart => exact ⟨[], cnt0, Lib.hid (fun s hs => by cases hs), hS6⟩
          case round =>
            clear hS6
            obtain ⟨seen, cnt, HM, hS⟩ := hrel
            have hrg : RngS wr 9 m r n (qfH G) seen cnt := hS.nth 1 rfl
            have hlen : seen.length ≤ G.ks.length := seen_leR seen G.ks hrg.nodup HM.out
            have hln : seen.length ≤ n := Nat.le_trans hlen HKN.out
            go_wp2_with (first
              | (at_next; refine wpList_next_map _ rfl _ rfl 9 Tryz.underlying9 m r n (qfH G) seen cnt rfl hrg ?_ ?_))
            · intro hdone
              have hmem : ∀ s, s ∈ seen ↔ (G.hw s).isSome = true := fun s => ((HKG.out.keys.seen hrg.nodup HM.out hdone).mem_iff).trans (HKG.out.iff s)
              have e1 := newQ_done G G.en at_ (rdyQ G) hmem
              have hS7 : Sq w0 wr (rMap 9 q seen.length (qfH ⟨rdyQ G, fun s => if G.hw s = some 1 then some 2 else none, G.en, at_⟩) :: rMap 9 m n (qfH G) :: rBlk g 91 #[.int .i64 at_, .map (some m), .map (some m2)] :: rBlk gx 63 #[.int .i64 at_, .int .i64 5, .string who] :: rMap 9 m2 n2 (qfE G) :: l) := by
                rw [← e1]
                exact (hS.front 1 rfl rfl).rngEnd.front 1 rfl rfl
              have hB : Blk wr g 91 #[.int .i64 at_, .map (some m), .map (some m2)] := hS7.nth 2 rfl
              have c1 := hB.cell 1
              have f1 := hB.frozen 1
              have hS8 := (((hS7.front 2 rfl rfl).set_ 1 (.map (some q))).front 1 rfl rfl).front 2 rfl rfl |> fun z => z.front 1 rfl rfl
              have HR := Lib.hid (HYES.out _ _ hln hS8)
              clear hS hS7 hS8 hB e1 hmem hdone hrg HM hlen
              go_wp2_with fail
              go_ret
              exact HR.out
            · intro s v w7 cnt2 hnew hsl hf hrg2 hlt2 hg2 hs2 hen
              obtain ⟨cc, he, rfl⟩ := Option.map_eq_some_iff.1 hf
              have hsk : s ∈ G.ks := (HKG.out.iff s).2 (by rw [he]; rfl)
              have hsz := HKG.out.sz s hsk
              have hcc4 : cc ≤ 4 := HKG.out.c4 s cc he
              have hS7 := ((hS.front 1 rfl rfl).rngStep hrg2 hg2)
              have HM2 : Hid (∀ x ∈ seen ++ [s], x ∈ G.ks) := Lib.hid (fun x hx => by
                rcases List.mem_append.1 hx with hx | hx
                · exact HM.out x hx
                · simp at hx; subst hx; exact hsk)
              have hl2 : wr.rangeLeft m r = cnt := hrg.left
              obtain ⟨hb, hhb⟩ : ∃ hb, hb = hwB cc := ⟨_, rfl⟩
              have hBQ := litB hb [114, 101, 97, 100, 121] (hwB 1) rfl
              have hen2 : (Instr.entry (.pointer (some ⟨r, 0, none⟩))).run Tryz.prog w7 = .ok (.tuple #[.string s, .string hb]) w7 := by rw [hhb]; exact hen
              have hl3 : (seen ++ [s]).length = seen.length + 1 := by simp
              have HL3 := Lib.hid hl3
              by_cases h1 : cc = 1
              · have hB1 : (hb.toList == [114, 101, 97, 100, 121]) = true := hBQ.trans (decide_eq_true (by rw [hhb, h1]))
                have HT := Lib.hid (newQ_take G seen (s := s) (by rw [he, h1]))
                obtain ⟨w8, hput, hS8⟩ := hq_put (hS7.front 1 rfl rfl) (by omega) (s := s) (by omega) (.string ⟨#[114, 97, 99, 101]⟩)
                clear hS hrg hrg2 hg2 hs2 hf hen hnew HM hhb hBQ he hS7 hl3 h1
                go_wp2_with fail
                have hS9 : Sq w0 w8 (rMap 9 q (seen ++ [s]).length (newQ G (seen ++ [s])) :: rRng 9 m r n (qfH G) (seen ++ [s]) cnt2 :: rBlk g 91 #[.int .i64 at_, .map (some m), .map (some m2)] :: rBlk gx 63 #[.int .i64 at_, .int .i64 5, .string who] :: rMap 9 m2 n2 (qfE G) :: l) := by
                  rw [HL3.out, ← HT.out]
                  exact hS8
                have hr8 : RngS w8 9 m r n (qfH G) (seen ++ [s]) cnt2 := hS9.nth 1 rfl
                go_roundw
                case rel => exact ⟨seen ++ [s], cnt2, HM2, hS9⟩
                case measure => rw [hr8.left, hl2]; exact hlt2
              · have hB1 : (hb.toList == [114, 101, 97, 100, 121]) = false := hBQ.trans (decide_eq_false (fun h => h1 (hwB_inj hcc4 (by omega) (hhb ▸ h))))
                have HT := Lib.hid (newQ_skip G seen (s := s) (by rw [he]; intro h; injection h with h; exact h1 h))
                have hS9 : Sq w0 w7 (rMap 9 q (seen ++ [s]).length (newQ G (seen ++ [s])) :: rRng 9 m r n (qfH G) (seen ++ [s]) cnt2 :: rBlk g 91 #[.int .i64 at_, .map (some m), .map (some m2)] :: rBlk gx 63 #[.int .i64 at_, .int .i64 5, .string who] :: rMap 9 m2 n2 (qfE G) :: l) := by
                  rw [HL3.out, HT.out]
                  exact rMap_more (hS7.front 1 rfl rfl) (Nat.le_succ _)
                clear hS hrg hg2 hs2 hf hen hnew HM hhb hBQ he hS7 hl3 h1
                go_wp2_with fail
                go_roundw
                case rel => exact ⟨seen ++ [s], cnt2, HM2, hS9⟩
                case measure => rw [hrg2.left, hl2]; exact hlt2
        · have hS2 := hS3
          have HFI : Hid (∀ q, ConR w0 g m2 n n2 G o l (.returned (.bool false)) (w3.drewN q)) := Lib.hid (fun q => con_no (m := m) (HE.out.trans (if_pos (by rw [HA0.out]; exact HBB.out.1 rfl))) (by unfold conL; rw [ha0]; exact (hS2.drop 0 rfl rfl).drewN q))
          clear hS2 ha0
          go_wp2_with fail
          go_ret
          exact HFI.out 0
    · have HE : Hid (o = if at_ = G.at0 then none else mvQ G ⟨at_, 6, who⟩ 2 3) := Lib.hid (HO.out.trans (by unfold stpQ; simp only [Int.reduceEq, ↓reduceIte]))
      go_upto_region 37 with (fail)
      go_cut [124] (fun s W => s = .bool (at_ == a0) ∧ Sq w0 W (rBlk gx 63 #[.int .i64 at_, .int .i64 6, .string who] :: rBlk g 91 #[.int .i64 a0, .map (some m), .map (some m2)] :: rMap 9 m n (qfH G) :: rMap 9 m2 n2 (qfE G) :: l))
      case first =>
        have HDR := Lib.hid (fun q => hS2.drewN q)
        clear hS2
        go_wp2_with fail
        go_quiet (fail)
        go_wp2_with fail
        go_meet
        exact ⟨rfl, HDR.out _⟩
      case rest =>
        obtain ⟨rfl, hS3⟩ := hcut
        clear hS2 x0 x1 x2 s0 s1 s2
        obtain ⟨w2, hw2⟩ : ∃ z, z = wc := ⟨_, rfl⟩
        subst hw2
        have hS2 := hS3
        clear hS3
        have hbx : Blk w2 gx 63 #[.int .i64 at_, .int .i64 6, .string who] := hS2.nth 0 rfl
        have hbg : Blk w2 g 91 #[.int .i64 a0, .map (some m), .map (some m2)] := hS2.nth 1 rfl
        have x0 := hbx.cell 0
        have x2 := hbx.cell 2
        have s1 := hbg.cell 1
        have s2 := hbg.cell 2
        clear hbx hbg
        by_cases he : at_ = a0
        · have heb : (at_ == a0) = true := by simpa using he
          have HEQ := Lib.hid he
          clear he
          have HFI : Hid (∀ q, ConR w0 g m2 n n2 G o l (.returned (.bool false)) (w2.drewN q)) := Lib.hid (fun q => con_no (m := m) (HE.out.trans (if_pos (by rw [HA0.out]; exact HEQ.out))) (by unfold conL; rw [ha0]; exact (hS2.drop 0 rfl rfl).drewN q))
          clear hS2 ha0
          go_wp2_with fail
          go_ret
          exact HFI.out 0
        · have heb : (at_ == a0) = false := by simpa using he
          have HEQ := Lib.hid he
          clear he
          cases b2
          · have HFI : Hid (∀ q, ConR w0 g m2 n n2 G o l (.returned (.bool false)) (w2.drewN q)) := Lib.hid (fun q => con_no (m := m) (HE.out.trans ((if_neg (by rw [HA0.out]; exact HEQ.out)).trans (by unfold mvQ; rw [if_neg (fun h => by have := HB2.out.2 h; cases this)]))) (by unfold conL; rw [ha0]; exact (hS2.drop 0 rfl rfl).drewN q))
            clear hS2 ha0
            go_wp2_with fail
            go_ret
            exact HFI.out 0
          · have hMa : MapS w2.drew 9 m n (qfH G) := (hS2.drew).nth 2 rfl
            obtain ⟨v1, st1, w3, he1, hg1, hn1⟩ := hMa.entry (t := 88) (e := 9) Tryz.underlying9 Tryz.underlying88 zero_strM (by unfold maxLen; omega) (s := who) (by unfold maxLen; omega)
            obtain ⟨w4, hs1, hm1, hg2⟩ := hn1 w3 (.string ⟨#[100, 111, 110, 101]⟩) rfl
            have hg12 : w2.drew.grownBy w4 (some m) := hg1.andThen hg2 (fun j hj => .inr hj)
            have hS4 := ((hS2.drew).front 2 rfl rfl).mapSet hm1 hg12
            have hMb : MapS w4 9 m2 n2 (qfE G) := hS4.nth 3 rfl
            obtain ⟨v2, st2, w5, he2, hg3, hn2⟩ := hMb.entry (t := 89) (e := 3) Tryz.underlying9 Tryz.underlying89 zero_intM (by unfold maxLen; omega) (s := who) (by unfold maxLen; omega)
            obtain ⟨w6, hs2, hm2, hg4⟩ := hn2 w5 (.int .i64 at_) rfl
            have hg34 : w4.grownBy w6 (some m2) := hg3.andThen hg4 (fun j hj => .inr hj)
            have hS6 := (hS4.front 3 rfl rfl).mapSet hm2 hg34
            have HFI : Hid (ConR w0 g m2 n n2 G o l (.returned (.bool true)) w6) := Lib.hid (con_yes (m := m) (G' := ⟨G.ks, setE G.hw who 3, setE G.en who at_, G.at0⟩) (HE.out.trans ((if_neg (by rw [HA0.out]; exact HEQ.out)).trans (by unfold mvQ; rw [if_pos (HB2.out.1 rfl)]))) (by
              unfold conL
              rw [← qfH_set, ← qfE_set]
              show Sq w0 w6 (rBlk g 91 #[.int .i64 G.at0, .map (some m), .map (some m2)] :: _)
              rw [ha0]
              exact ((hS6.drop 2 rfl rfl).front 1 rfl rfl).front 2 rfl rfl))
            have HCG : Hid (∀ i, w3.cell? ⟨g, i, none⟩ = w2.cell? ⟨g, i, none⟩ ∧ w4.cell? ⟨g, i, none⟩ = w2.cell? ⟨g, i, none⟩ ∧ w5.cell? ⟨g, i, none⟩ = w2.cell? ⟨g, i, none⟩ ∧ w6.cell? ⟨g, i, none⟩ = w2.cell? ⟨g, i, none⟩ ∧ w3.cell? ⟨gx, i, none⟩ = w2.cell? ⟨gx, i, none⟩ ∧ w4.cell? ⟨gx, i, none⟩ = w2.cell? ⟨gx, i, none⟩ ∧ w5.cell? ⟨gx, i, none⟩ = w2.cell? ⟨gx, i, none⟩ ∧ w6.cell? ⟨gx, i, none⟩ = w2.cell? ⟨gx, i, none⟩) := Lib.hid (fun i => by
              have k1 := HAP.out _ hS2
              obtain ⟨k2, k3, k4, k5, k6, k7⟩ := k1
              have z1 := hg1.size
              have z2 := hg2.size
              have z3 := hg3.size
              have hz0 : w2.drew.heap.size = w2.heap.size := rfl
              have q3 : ∀ b, b < w2.heap.size → b ≠ m → w3.heap[b]? = w2.heap[b]? := fun b hb hn => hg1.block b hb (by simpa using hn)
              have q4 : ∀ b, b < w2.heap.size → b ≠ m → w4.heap[b]? = w2.heap[b]? := fun b hb hn => hg12.block b hb (by simpa using hn)
              have q5 : ∀ b, b < w2.heap.size → b ≠ m → b ≠ m2 → w5.heap[b]? = w2.heap[b]? := fun b hb hn hn2 => (hg3.block b (by omega) (by simpa using hn2)).trans (q4 b hb hn)
              have q6 : ∀ b, b < w2.heap.size → b ≠ m → b ≠ m2 → w6.heap[b]? = w2.heap[b]? := fun b hb hn hn2 => (hg34.block b (by omega) (by simpa using hn2)).trans (q4 b hb hn)
              exact ⟨World.cell?_of_block (q3 g k2 k4), World.cell?_of_block (q4 g k2 k4), World.cell?_of_block (q5 g k2 k4 k5), World.cell?_of_block (q6 g k2 k4 k5), World.cell?_of_block (q3 gx k3 k6), World.cell?_of_block (q4 gx k3 k6), World.cell?_of_block (q5 gx k3 k6 k7), World.cell?_of_block (q6 gx k3 k6 k7)⟩)
            have HK0 := HKB.out _ hS2
            have HK3 : Hid (w3.cell? ⟨g, 1, none⟩ = some (.map (some m)) ∧ w3.cell? ⟨g, 2, none⟩ = some (.map (some m2)) ∧ w3.cell? ⟨gx, 2, none⟩ = some (.string who) ∧ w3.cell? ⟨gx, 0, none⟩ = some (.int .i64 at_)) := Lib.hid ⟨((HCG.out 1).1).trans HK0.1, ((HCG.out 2).1).trans HK0.2.1, ((HCG.out 2).2.2.2.2.1).trans HK0.2.2.1, ((HCG.out 0).2.2.2.2.1).trans HK0.2.2.2⟩
            have HK4 : Hid (w4.cell? ⟨g, 1, none⟩ = some (.map (some m)) ∧ w4.cell? ⟨g, 2, none⟩ = some (.map (some m2)) ∧ w4.cell? ⟨gx, 2, none⟩ = some (.string who) ∧ w4.cell? ⟨gx, 0, none⟩ = some (.int .i64 at_)) := Lib.hid ⟨((HCG.out 1).2.1).trans HK0.1, ((HCG.out 2).2.1).trans HK0.2.1, ((HCG.out 2).2.2.2.2.2.1).trans HK0.2.2.1, ((HCG.out 0).2.2.2.2.2.1).trans HK0.2.2.2⟩
            have HK5 : Hid (w5.cell? ⟨g, 1, none⟩ = some (.map (some m)) ∧ w5.cell? ⟨g, 2, none⟩ = some (.map (some m2)) ∧ w5.cell? ⟨gx, 2, none⟩ = some (.string who) ∧ w5.cell? ⟨gx, 0, none⟩ = some (.int .i64 at_)) := Lib.hid ⟨((HCG.out 1).2.2.1).trans HK0.1, ((HCG.out 2).2.2.1).trans HK0.2.1, ((HCG.out 2).2.2.2.2.2.2.1).trans HK0.2.2.1, ((HCG.out 0).2.2.2.2.2.2.1).trans HK0.2.2.2⟩
            have HK6 : Hid (w6.cell? ⟨g, 1, none⟩ = some (.map (some m)) ∧ w6.cell? ⟨g, 2, none⟩ = some (.map (some m2)) ∧ w6.cell? ⟨gx, 2, none⟩ = some (.string who) ∧ w6.cell? ⟨gx, 0, none⟩ = some (.int .i64 at_)) := Lib.hid ⟨((HCG.out 1).2.2.2.1).trans HK0.1, ((HCG.out 2).2.2.2.1).trans HK0.2.1, ((HCG.out 2).2.2.2.2.2.2.2).trans HK0.2.2.1, ((HCG.out 0).2.2.2.2.2.2.2).trans HK0.2.2.2⟩
            clear hS6 hS4 hS2 ha0 hMa hMb hg1 hg2 hg3 hg4 hg12 hg34 hm1 hm2 hn1 hn2 HCG HK0
            go_wp2_with fail
            go_region_held3 (fun W => W.cell? ⟨g, 1, none⟩ = some (.map (some m)) ∧ W.cell? ⟨g, 2, none⟩ = some (.map (some m2)) ∧ W.cell? ⟨gx, 2, none⟩ = some (.string who) ∧ W.cell? ⟨gx, 0, none⟩ = some (.int .i64 at_))
              (first | exact HK3.out | exact HK4.out | exact HK5.out | exact HK6.out | go_keep) (fail)
            all_goals (go_wp2_with fail; go_ret; exact HFI.out)
    · have HE : Hid (o = mvQ G ⟨at_, 7, who⟩ 2 4) := Lib.hid (HO.out.trans (by unfold stpQ; simp only [Int.reduceEq, ↓reduceIte]))
      cases b2
      · have HFI : Hid (∀ q, ConR w0 g m2 n n2 G o l (.returned (.bool false)) (w2.drewN q)) := Lib.hid (fun q => con_no (m := m) (HE.out.trans (by unfold mvQ; rw [if_neg (fun h => by have := HB2.out.2 h; cases this)])) (by unfold conL; rw [ha0]; exact (hS2.drop 0 rfl rfl).drewN q))
        clear hS2 ha0
        go_wp2_with fail
        go_ret
        exact HFI.out 0
      · have hMa : MapS w2.drew 9 m n (qfH G) := (hS2.drew).nth 2 rfl
        obtain ⟨v1, st1, w3, he1, hg1, hn1⟩ := hMa.entry (t := 88) (e := 9) Tryz.underlying9 Tryz.underlying88 zero_strM (by unfold maxLen; omega) (s := who) (by unfold maxLen; omega)
        obtain ⟨w4, hs1, hm1, hg2⟩ := hn1 w3 (.string ⟨#[115, 116, 111, 112]⟩) rfl
        have hg12 : w2.drew.grownBy w4 (some m) := hg1.andThen hg2 (fun j hj => .inr hj)
        have hS4 := ((hS2.drew).front 2 rfl rfl).mapSet hm1 hg12
        have hMb : MapS w4 9 m2 n2 (qfE G) := hS4.nth 3 rfl
        obtain ⟨v2, st2, w5, he2, hg3, hn2⟩ := hMb.entry (t := 89) (e := 3) Tryz.underlying9 Tryz.underlying89 zero_intM (by unfold maxLen; omega) (s := who) (by unfold maxLen; omega)
        obtain ⟨w6, hs2, hm2, hg4⟩ := hn2 w5 (.int .i64 at_) rfl
        have hg34 : w4.grownBy w6 (some m2) := hg3.andThen hg4 (fun j hj => .inr hj)
        have hS6 := (hS4.front 3 rfl rfl).mapSet hm2 hg34
        have HFI : Hid (ConR w0 g m2 n n2 G o l (.returned (.bool true)) w6) := Lib.hid (con_yes (m := m) (G' := ⟨G.ks, setE G.hw who 4, setE G.en who at_, G.at0⟩) (HE.out.trans (by unfold mvQ; rw [if_pos (HB2.out.1 rfl)])) (by
          unfold conL
          rw [← qfH_set, ← qfE_set]
          show Sq w0 w6 (rBlk g 91 #[.int .i64 G.at0, .map (some m), .map (some m2)] :: _)
          rw [ha0]
          exact ((hS6.drop 2 rfl rfl).front 1 rfl rfl).front 2 rfl rfl))
        have HCG : Hid (∀ i, w3.cell? ⟨g, i, none⟩ = w2.cell? ⟨g, i, none⟩ ∧ w4.cell? ⟨g, i, none⟩ = w2.cell? ⟨g, i, none⟩ ∧ w5.cell? ⟨g, i, none⟩ = w2.cell? ⟨g, i, none⟩ ∧ w6.cell? ⟨g, i, none⟩ = w2.cell? ⟨g, i, none⟩ ∧ w3.cell? ⟨gx, i, none⟩ = w2.cell? ⟨gx, i, none⟩ ∧ w4.cell? ⟨gx, i, none⟩ = w2.cell? ⟨gx, i, none⟩ ∧ w5.cell? ⟨gx, i, none⟩ = w2.cell? ⟨gx, i, none⟩ ∧ w6.cell? ⟨gx, i, none⟩ = w2.cell? ⟨gx, i, none⟩) := Lib.hid (fun i => by
          have k1 := HAP.out _ hS2
          obtain ⟨k2, k3, k4, k5, k6, k7⟩ := k1
          have z1 := hg1.size
          have z2 := hg2.size
          have z3 := hg3.size
          have hz0 : w2.drew.heap.size = w2.heap.size := rfl
          have q3 : ∀ b, b < w2.heap.size → b ≠ m → w3.heap[b]? = w2.heap[b]? := fun b hb hn => hg1.block b hb (by simpa using hn)
          have q4 : ∀ b, b < w2.heap.size → b ≠ m → w4.heap[b]? = w2.heap[b]? := fun b hb hn => hg12.block b hb (by simpa using hn)
          have q5 : ∀ b, b < w2.heap.size → b ≠ m → b ≠ m2 → w5.heap[b]? = w2.heap[b]? := fun b hb hn hn2 => (hg3.block b (by omega) (by simpa using hn2)).trans (q4 b hb hn)
          have q6 : ∀ b, b < w2.heap.size → b ≠ m → b ≠ m2 → w6.heap[b]? = w2.heap[b]? := fun b hb hn hn2 => (hg34.block b (by omega) (by simpa using hn2)).trans (q4 b hb hn)
          exact ⟨World.cell?_of_block (q3 g k2 k4), World.cell?_of_block (q4 g k2 k4), World.cell?_of_block (q5 g k2 k4 k5), World.cell?_of_block (q6 g k2 k4 k5), World.cell?_of_block (q3 gx k3 k6), World.cell?_of_block (q4 gx k3 k6), World.cell?_of_block (q5 gx k3 k6 k7), World.cell?_of_block (q6 gx k3 k6 k7)⟩)
        have HK0 := HKB.out _ hS2
        have HK3 : Hid (w3.cell? ⟨g, 1, none⟩ = some (.map (some m)) ∧ w3.cell? ⟨g, 2, none⟩ = some (.map (some m2)) ∧ w3.cell? ⟨gx, 2, none⟩ = some (.string who) ∧ w3.cell? ⟨gx, 0, none⟩ = some (.int .i64 at_)) := Lib.hid ⟨((HCG.out 1).1).trans HK0.1, ((HCG.out 2).1).trans HK0.2.1, ((HCG.out 2).2.2.2.2.1).trans HK0.2.2.1, ((HCG.out 0).2.2.2.2.1).trans HK0.2.2.2⟩
        have HK4 : Hid (w4.cell? ⟨g, 1, none⟩ = some (.map (some m)) ∧ w4.cell? ⟨g, 2, none⟩ = some (.map (some m2)) ∧ w4.cell? ⟨gx, 2, none⟩ = some (.string who) ∧ w4.cell? ⟨gx, 0, none⟩ = some (.int .i64 at_)) := Lib.hid ⟨((HCG.out 1).2.1).trans HK0.1, ((HCG.out 2).2.1).trans HK0.2.1, ((HCG.out 2).2.2.2.2.2.1).trans HK0.2.2.1, ((HCG.out 0).2.2.2.2.2.1).trans HK0.2.2.2⟩
        have HK5 : Hid (w5.cell? ⟨g, 1, none⟩ = some (.map (some m)) ∧ w5.cell? ⟨g, 2, none⟩ = some (.map (some m2)) ∧ w5.cell? ⟨gx, 2, none⟩ = some (.string who) ∧ w5.cell? ⟨gx, 0, none⟩ = some (.int .i64 at_)) := Lib.hid ⟨((HCG.out 1).2.2.1).trans HK0.1, ((HCG.out 2).2.2.1).trans HK0.2.1, ((HCG.out 2).2.2.2.2.2.2.1).trans HK0.2.2.1, ((HCG.out 0).2.2.2.2.2.2.1).trans HK0.2.2.2⟩
        have HK6 : Hid (w6.cell? ⟨g, 1, none⟩ = some (.map (some m)) ∧ w6.cell? ⟨g, 2, none⟩ = some (.map (some m2)) ∧ w6.cell? ⟨gx, 2, none⟩ = some (.string who) ∧ w6.cell? ⟨gx, 0, none⟩ = some (.int .i64 at_)) := Lib.hid ⟨((HCG.out 1).2.2.2.1).trans HK0.1, ((HCG.out 2).2.2.2.1).trans HK0.2.1, ((HCG.out 2).2.2.2.2.2.2.2).trans HK0.2.2.1, ((HCG.out 0).2.2.2.2.2.2.2).trans HK0.2.2.2⟩
        clear hS6 hS4 hS2 ha0 hMa hMb hg1 hg2 hg3 hg4 hg12 hg34 hm1 hm2 hn1 hn2 HCG HK0
        go_wp2_with fail
        go_region_held3 (fun W => W.cell? ⟨g, 1, none⟩ = some (.map (some m)) ∧ W.cell? ⟨g, 2, none⟩ = some (.map (some m2)) ∧ W.cell? ⟨gx, 2, none⟩ = some (.string who) ∧ W.cell? ⟨gx, 0, none⟩ = some (.int .i64 at_))
          (first | exact HK3.out | exact HK4.out | exact HK5.out | exact HK6.out | go_keep) (fail)
        all_goals (go_wp2_with fail; go_ret; exact HFI.out)
    · have HE : Hid (o = if G.hw who = some 3 ∨ G.hw who = some 4 then some ⟨G.ks, setE G.hw who 2, G.en, G.at0⟩ else none) := Lib.hid (HO.out.trans (by unfold stpQ; simp only [Int.reduceEq, ↓reduceIte]))
      cases b3
      · cases b4
        · have HFI : Hid (∀ q, ConR w0 g m2 n n2 G o l (.returned (.bool false)) (w2.drewN q)) := Lib.hid (fun q => con_no (m := m) (HE.out.trans (if_neg (by rintro (h | h); have := HB3.out.2 h; cases this; have := HB4.out.2 h; cases this))) (by unfold conL; rw [ha0]; exact (hS2.drop 0 rfl rfl).drewN q))
          clear hS2 ha0
          go_wp2_with fail
          go_ret
          exact HFI.out 0
        · obtain ⟨w6, hput, hS6⟩ := hq_put ((hS2.drew).front 2 rfl rfl) (by omega) (s := who) (by omega) (.string ⟨#[114, 97, 99, 101]⟩)
          have HFI : Hid (ConR w0 g m2 n n2 G o l (.returned (.bool true)) w6) := Lib.hid (con_yes (m := m) (G' := ⟨G.ks, setE G.hw who 2, G.en, G.at0⟩) (HE.out.trans (if_pos (.inr (HB4.out.1 rfl)))) (by
            unfold conL
            rw [← qfH_set G who 2 G.en G.at0 G.ks]
            show Sq w0 w6 (rBlk g 91 #[.int .i64 G.at0, .map (some m), .map (some m2)] :: _ :: rMap 9 m2 (n2 + 1) (qfE G) :: l)
            rw [ha0]
            have h1 := (hS6.drop 1 rfl rfl).front 2 rfl rfl
            have h2 := rMap_more h1 (Nat.le_succ n2)
            exact ((h2.front 1 rfl rfl).front 2 rfl rfl)))
          have HK6 := HKP.out _ _ _ hS6
          clear hS6 hS2 ha0
          go_wp2_with fail
          go_region_held3 (fun W => W.cell? ⟨g, 1, none⟩ = some (.map (some m)) ∧ W.cell? ⟨g, 2, none⟩ = some (.map (some m2)) ∧ W.cell? ⟨gx, 2, none⟩ = some (.string who) ∧ W.cell? ⟨gx, 0, none⟩ = some (.int .i64 at_))
            (first | go_keep | exact HK6) (fail)
          all_goals (go_wp2_with fail; go_ret; exact HFI.out)
      · obtain ⟨w6, hput, hS6⟩ := hq_put ((hS2.drew).front 2 rfl rfl) (by omega) (s := who) (by omega) (.string ⟨#[114, 97, 99, 101]⟩)
        have HFI : Hid (ConR w0 g m2 n n2 G o l (.returned (.bool true)) w6) := Lib.hid (con_yes (m := m) (G' := ⟨G.ks, setE G.hw who 2, G.en, G.at0⟩) (HE.out.trans (if_pos (.inl (HB3.out.1 rfl)))) (by
          unfold conL
          rw [← qfH_set G who 2 G.en G.at0 G.ks]
          show Sq w0 w6 (rBlk g 91 #[.int .i64 G.at0, .map (some m), .map (some m2)] :: _ :: rMap 9 m2 (n2 + 1) (qfE G) :: l)
          rw [ha0]
          have h1 := (hS6.drop 1 rfl rfl).front 2 rfl rfl
          have h2 := rMap_more h1 (Nat.le_succ n2)
          exact ((h2.front 1 rfl rfl).front 2 rfl rfl)))
        have HK6 := HKP.out _ _ _ hS6
        clear hS6 hS2 ha0
        go_wp2_with fail
        go_region_held3 (fun W => W.cell? ⟨g, 1, none⟩ = some (.map (some m)) ∧ W.cell? ⟨g, 2, none⟩ = some (.map (some m2)) ∧ W.cell? ⟨gx, 2, none⟩ = some (.string who) ∧ W.cell? ⟨gx, 0, none⟩ = some (.int .i64 at_))
          (first | go_keep | exact HK6) (fail)
        all_goals (go_wp2_with fail; go_ret; exact HFI.out)
end Go.Proofs.YthbcogekfdllmaaGreat
