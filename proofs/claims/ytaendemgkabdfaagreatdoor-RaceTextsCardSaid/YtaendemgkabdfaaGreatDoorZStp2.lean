/-
  A step's line: race.readStep by its contract.
-/
import Derived.Test.YtaendemgkabdfaaGreatDoorZStp1
import Derived.Test.YtaendemgkabdfaaGreatDoorZPrt2
import Derived.Deep.DeepCutAuto
import Derived.Deep.CutBlock
namespace Go.Proofs.YtaendemgkabdfaaGreatDoor
open Go Go.RowKit TxtP

/-- the words for kinds of steps -/
def skindsL : List ByteArray := [⟨#[101, 110, 116, 101, 114]⟩, ⟨#[114, 101, 97, 100, 121]⟩, ⟨#[119, 97, 105, 116]⟩, ⟨#[108, 101, 97, 118, 101]⟩, ⟨#[103, 111]⟩, ⟨#[102, 105, 110, 105, 115, 104]⟩, ⟨#[115, 116, 111, 112]⟩, ⟨#[97, 103, 97, 105, 110]⟩]
theorem skinds_calls (w : World) : Calls Tryz.prog 35 #[] w (LitR skindsL w) := by
  have HR : Hid (∀ v : Value, v = .slice (some ⟨w.heap.size, 0, none⟩) 8 8 → LitR skindsL w (.returned v) (w.alloc (.cells (strCs skindsL) 9))) := by
    refine Lib.hid (fun v hv => ⟨by rw [hv]; rfl, (Below.refl _ _).alloc (Nat.le_refl _) _, Blk.new _ _ _⟩)
  go_enter Tryz.func35, Tryz.ntmps35
  go_wp2
  go_ret
  exact HR.out _ rfl
def swordsL : List ByteArray := ⟨#[]⟩ :: skindsL
theorem stepWords_calls (w : World) : Calls Tryz.prog 42 #[] w (LitR swordsL w) := by
  have HR : Hid (∀ v : Value, v = .slice (some ⟨w.heap.size, 0, none⟩) 9 9 → LitR swordsL w (.returned v) (w.alloc (.cells (strCs swordsL) 9))) := by
    refine Lib.hid (fun v hv => ⟨by rw [hv]; rfl, (Below.refl _ _).alloc (Nat.le_refl _) _, Blk.new _ _ _⟩)
  go_enter Tryz.func42, Tryz.ntmps42
  go_wp2
  go_ret
  exact HR.out _ rfl
theorem idx_swords {b : ByteArray} (h : ¬ b = ⟨#[]⟩) : Lib.idxOfS swordsL b = if Lib.idxOfS skindsL b < 0 then -1 else Lib.idxOfS skindsL b + 1 := by
  unfold swordsL Lib.idxOfS
  rw [Lib.idxFromS, if_neg (by intro h2; first | exact h h2.symm | exact h h2 | (simp at h2; first | exact h h2.symm | exact h h2)), idx_shift]

/-- what a line's words say -/
def fT3 (p : List ByteArray) : Bool := match p with
  | [a, b] => numB a.data.toList 15 && (Lib.idxOfS skindsL b == 4)
  | [a, b, _] => numB a.data.toList 15 && (decide (0 ≤ Lib.idxOfS skindsL b) && !(Lib.idxOfS skindsL b == 4))
  | _ => false
def vT3 (p : List ByteArray) : Stp := match p with
  | [a, b] => ⟨numI a.data.toList, 1 + Lib.idxOfS skindsL b, ⟨#[]⟩⟩
  | [a, b, c] => ⟨numI a.data.toList, 1 + Lib.idxOfS skindsL b, c⟩
  | _ => ⟨0, 0, ⟨#[]⟩⟩
/-- is a line a step? -/
def fT (l : List UInt8) : Bool := wrdQ ⟨l.toArray⟩ && fT3 (pcs 32 ⟨l.toArray⟩)
/-- the step that a line is -/
def vT (l : List UInt8) : Stp := vT3 (pcs 32 ⟨l.toArray⟩)
theorem fT3_len {p : List ByteArray} (h : ¬ (2 ≤ p.length ∧ p.length ≤ 3)) : fT3 p = false := by
  match p with
  | [] => rfl
  | [_] => rfl
  | [_, _] => exact absurd ⟨by simp, by simp⟩ h
  | [_, _, _] => exact absurd ⟨by simp, by simp⟩ h
  | _ :: _ :: _ :: _ :: _ => rfl
theorem count_calls (s : ByteArray) (w : World) : Calls Tryz.prog 79 #[.string s, .string ⟨#[32]⟩] w (fun e w' => e = .returned (.int .i64 (((pcs 32 s).length : Int) - 1)) ∧ w = w') := by
  refine (Tryz.strings_Count_one s 32 w).mono ?_
  rintro e w' ⟨rfl, rfl⟩
  refine ⟨?_, rfl⟩
  have h1 := congrArg List.length (pcs_data 32 s)
  rw [List.length_map, spl_len] at h1
  rw [h1]
  unfold Lib.countByte
  congr 2
  omega
def StpR (s : ByteArray) (w : World) (e : Ending) (w' : World) : Prop :=
  ∃ (z k : Int) (x : ByteArray), e = .returned (.tuple #[.agg #[.int .i64 z, .int .i64 k, .string x], .bool (fT s.data.toList)]) ∧ (fT s.data.toList = true → vT s.data.toList = ⟨z, k, x⟩) ∧ Below w.heap.size w w'
theorem numR_form (a : ByteArray) : ∃ (z : Int) (B : Bool), -1000000000000000000 < z ∧ z < 1000000000000000000 ∧ numR a.data.toList 15 = .tuple #[.int .i64 z, .bool B] ∧ B = numB a.data.toList 15 ∧ (B = true → z = numI a.data.toList) := by
  cases hb : numB a.data.toList 15
  · exact ⟨0, false, by decide, by decide, numR_no hb, rfl, fun h => by cases h⟩
  · have h1 := (numB_iff.1 hb)
    have h2 := body_len a.data.toList
    have h3 := numI_bound (l := a.data.toList) (by omega)
    exact ⟨_, true, h3.1, h3.2, numR_yes hb, rfl, fun _ => rfl⟩
/-- behind the words: the step's block, the words, the answer's block -/
def StpM (w V : World) (g G : Nat) (z k : Int) (ws : Array Value) : Prop :=
  Sq w V [rBlk g 39 #[.int .i64 z, .int .i64 k, .string ⟨#[]⟩], rBlk G 9 ws, rBlk w.heap.size 39 #[.int .i64 0, .int .i64 0, .string ⟨#[]⟩]]

theorem stp_res {tmps : Array Value} {w : World} {g : Nat} {t : TypeId} {z k : Int} {x : ByteArray} {v : Value} (h : Blk w g t #[.int .i64 z, .int .i64 k, .string x]) (h2 : tmps.getD 2 undef = .pointer (some ⟨g, 0, none⟩)) (h3 : tmps.getD 3 undef = v) :
    (results Tryz.f45 tmps).run Tryz.prog w = .ok (.tuple #[.agg #[.int .i64 z, .int .i64 k, .string x], v]) w := by
  obtain ⟨z0, z1, z2, _, _, _⟩ := h.three
  have h2' : tmps[2]?.getD undef = .pointer (some ⟨g, 0, none⟩) := by simpa using h2
  have h3' : tmps[3]?.getD undef = v := by simpa using h3
  simp [results, Tryz.results45, h2', h3', go_sem, z0, z1, z2]

set_option maxRecDepth 100000 in
set_option maxHeartbeats 2000000 in
theorem readStep_calls (s : ByteArray) (w : World) (hs : s.size ≤ 200000) (hx : MxL w) : Calls Tryz.prog 45 #[.string s] w (StpR s w) := by
  obtain ⟨n, hn⟩ : ∃ n, n = (pcs 32 s).length := ⟨_, rfl⟩
  have hle := pcs_le 32 s
  rw [← hn] at hle
  have hn1 : 1 ≤ n := by rw [hn, pcs_len]; omega
  have HCN : Hid (∀ V, Calls Tryz.prog 79 #[.string s, .string ⟨#[32]⟩] V (fun e w' => e = .returned (.int .i64 ((n : Int) - 1)) ∧ V = w')) := by
    rw [hn]; exact Lib.hid (fun V => count_calls s V)
  have eN : (n : Int) - 1 + 1 = n := by omega
  obtain ⟨W0, hW0⟩ : ∃ W0, W0 = w.alloc (.cells #[.int .i64 0, .int .i64 0, .string ⟨#[]⟩] 39) := ⟨_, rfl⟩
  have hS0 : Sq w W0 [rBlk w.heap.size 39 #[.int .i64 0, .int .i64 0, .string ⟨#[]⟩]] := by
    rw [hW0]; exact (Sq.start w).add _ _
  have hx0 : MxL W0 := hx.below hS0.below
  have HWD := Lib.hid (fun V (k : Below W0.heap.size W0 V) => words_calls s n V (by omega) (hx0.below k))
  have wB : wrdB s n = wrdQ s := by rw [wrd_split, decide_eq_true hn.symm, Bool.true_and]
  have ff : fT s.data.toList = (wrdQ s && fT3 (pcs 32 s)) := by unfold fT; rw [ba_eta]
  have vv : vT s.data.toList = vT3 (pcs 32 s) := by unfold vT; rw [ba_eta]
  have HRF : Hid (fT s.data.toList = false → ∀ w', Below w.heap.size w w' → StpR s w (.returned (.tuple #[.agg #[.int .i64 0, .int .i64 0, .string ⟨#[]⟩], .bool false])) w') := by
    refine Lib.hid (fun h0 w' hb => ⟨0, 0, ⟨#[]⟩, by rw [h0], fun h => ?_, hb⟩)
    rw [h0] at h; cases h
  clear hx hx0
  cases hq : wrdQ s
  · have HR := Lib.hid (HRF.out (by rw [ff, hq]; rfl))
    have HW2 : Hid (∀ V, Below W0.heap.size W0 V → Calls Tryz.prog 62 #[.string s, .int .i64 n] V (fun e w' => e = .returned (.tuple #[.slice none 0 0, .bool false]) ∧ Below V.heap.size V w')) := by
      refine Lib.hid (fun V k => (HWD.out V k).mono (fun e w' h => ⟨h.2.2 (by rw [wB, hq]), h.1⟩))
    clear HWD wB ff vv hq hn HRF
    go_enter Tryz.func45, Tryz.ntmps45
    go_wp2_with (first
      | (go_at_call 79; refine (HCN.out _).mono ?_; rintro e w1 ⟨rfl, rfl⟩)
      | (go_at_call 62; rw [← hW0]; refine (HW2.out _ (Below.refl _ _)).mono ?_; rintro e w2 ⟨rfl, hb2⟩; have hS2 := hS0.callB hb2; have hk2 : Blk w2 _ _ #[.int .i64 0, .int .i64 0, .string ⟨#[]⟩] := hS2.nth 0 rfl; obtain ⟨z0, z1, z2, f0, f1, f2⟩ := hk2.three))
    have hS3 := ((hS2.set_ 0 (.int .i64 0)).set_ 1 (.int .i64 0)).set_ 2 (.string ⟨#[]⟩)
    exact bodyPost_ret (stp_res hS3.head rfl rfl) rfl (HR.out _ hS3.below)
  · by_cases hlen : 2 ≤ n ∧ n ≤ 3
    · -- READ BEGIN
      rcases (show n = 2 ∨ n = 3 by omega) with h2 | h2
      · skip
        obtain ⟨a, b, hab⟩ : ∃ a b, pcs 32 s = [a, b] := by
          subst h2
          match hp : pcs 32 s, hn with
          | [a, b], _ => exact ⟨a, b, rfl⟩
        subst h2
        have has : a.size ≤ 200000 := by have := pcs_size (c := 32) (s := s) (x := a) (by rw [hab]; simp); omega
        obtain ⟨G, hG⟩ : ∃ G, W0.heap.size = G := ⟨_, rfl⟩
        have HW2 : Hid (Calls Tryz.prog 62 #[.string s, .int .i64 2] W0 (fun e w' => e = .returned (.tuple #[.slice (some ⟨G, 0, none⟩) 2 2, .bool true]) ∧ Below W0.heap.size W0 w' ∧ Blk w' G 9 #[.string a, .string b])) := by
          refine Lib.hid ((HWD.out W0 (Below.refl _ _)).mono (fun e w' h => ?_))
          obtain ⟨q1, q2⟩ := h.2.1 (by rw [wB, hq])
          rw [hab, hG] at q2
          rw [hG] at q1
          exact ⟨q1, h.1, q2⟩
        have HNU := Lib.hid (fun V => number_calls a 15 (by decide) V (by unfold maxLen; omega))
        obtain ⟨z, B, zb0, zb1, hzR, hzB, hzV⟩ := numR_form a
        rw [hzR] at HNU
        obtain ⟨i, hi⟩ : ∃ i, i = Lib.idxOfS skindsL b := ⟨_, rfl⟩
        have hib := idx_bd skindsL b
        have HIX := Lib.hid (fun g V => idx_lit skindsL b g V (by decide))
        rw [← hi] at hib HIX
        have hk8 : skindsL.length = 8 := rfl
        rw [hk8] at hib HIX
        have HKD : Hid (∀ V, Calls Tryz.prog 35 #[] V (fun e w' => ∃ g, e = .returned (.slice (some ⟨g, 0, none⟩) 8 8) ∧ Below V.heap.size V w' ∧ Blk w' g 9 (strCs skindsL))) := by
          refine Lib.hid (fun V => (skinds_calls V).mono ?_)
          rintro e w' ⟨rfl, h1, h2⟩
          exact ⟨_, rfl, h1, h2⟩
        have HF : Hid (fT s.data.toList = (B && (i == 4))) := by
          refine Lib.hid ?_
          rw [ff, hq, Bool.true_and, hab, hzB, hi]; rfl
        have HV : Hid (B = true → vT s.data.toList = ⟨z, 1 + i, ⟨#[]⟩⟩) := by
          refine Lib.hid (fun h => ?_)
          rw [vv, hab, hzV h, hi]; rfl
        have HRET : Hid (∀ V t (v : Bool), v = (B && (i == 4)) → Blk V w.heap.size t #[.int .i64 z, .int .i64 (1 + i), .string ⟨#[]⟩] → Below w.heap.size w V → StpR s w (.returned (.tuple #[.agg #[.int .i64 z, .int .i64 (1 + i), .string ⟨#[]⟩], .bool v])) V) := by
          refine Lib.hid (fun V t v hv _ hbl => ⟨z, 1 + i, ⟨#[]⟩, by rw [HF.out, hv], fun h => HV.out ?_, hbl⟩)
          rw [HF.out] at h
          exact (Bool.and_eq_true _ _ ▸ h).1
        have HCN2 : Hid (∀ V, Calls Tryz.prog 79 #[.string s, .string ⟨#[32]⟩] V (fun e w' => e = .returned (.int .i64 1) ∧ V = w')) := Lib.hid HCN.out
        clear HWD wB ff vv hq hn HRF HF HV hab hzR hzB hzV hi hk8 HCN eN hle hn1 hlen
        go_enter Tryz.func45, Tryz.ntmps45
        go_wp2_with (first
          | (go_at_call 79; refine (HCN2.out _).mono ?_; rintro e w1 ⟨rfl, rfl⟩)
          | (go_at_call 62; rw [← hW0]; refine HW2.out.mono ?_; rintro e w2 ⟨rfl, hb2, hk2⟩; have d0 := hk2.cell 0; have hS2 := hS0.blk hb2 hk2 (Nat.le_of_eq hG))
          | (go_at_call 80; refine (HNU.out _).mono ?_; rintro e w3 ⟨rfl, hb3⟩; have hS3 := hS2.callB hb3))
        clear d0 hk2 hb2 hb3 hS2 hS0 HW2 HNU HCN2
        have d1 : w3.drew.cell? ⟨G, 1, none⟩ = some (.string b) := (hS3.nth 0 rfl).cell 1
        have hS3d := hS3.drew
        have hSA := (hS3.add #[.int .i64 0, .int .i64 0, .string ⟨#[]⟩] 39).drew
        have dA : (w3.alloc (.cells #[.int .i64 0, .int .i64 0, .string ⟨#[]⟩] 39)).drew.cell? ⟨G, 1, none⟩ = some (.string b) := (hSA.nth 1 rfl).cell 1
        have HKd := Lib.hid (HKD.out w3.drew)
        have HKa := Lib.hid (HKD.out (w3.alloc (.cells #[.int .i64 0, .int .i64 0, .string ⟨#[]⟩] 39)).drew)
        clear HKD hS3
        go_cut [7] (fun s7 V => ∃ g, s7 = .pointer (some ⟨g, 0, none⟩) ∧ w.heap.size < g ∧ StpM w V g G z (1 + i) #[.string a, .string b])
        case first =>
          clear HRET
          go_region_held3 (fun V => V.cell? ⟨G, 1, none⟩ = some (.string b))
            (first | exact d1 | exact dA | exact e1 | exact ((hS4.add _ _).nth 1 rfl).cell 1 | exact ((((hS4.set_ 0 _).set_ 1 _).set_ 2 _).nth 1 rfl).cell 1 | go_keep)
            (first
              | (go_at_call 35; ((with_reducible refine HKd.out.mono ?_); rintro e w4 ⟨g4, rfl, hb4, hk4⟩; have hS4 := hS3d.callB hb4; have e1 : w4.cell? ⟨G, 1, none⟩ = some (.string b) := (hS4.nth 0 rfl).cell 1; have hk4a := hk4.below ((Below.refl w4.heap.size w4).alloc (Nat.le_refl _) (.cells #[.int .i64 0, .int .i64 0, .string ⟨#[]⟩] 39))))
              | (go_at_call 35; ((with_reducible refine HKa.out.mono ?_); rintro e w4 ⟨g4, rfl, hb4, hk4⟩; have hS4 := hSA.callB hb4; have e1 : w4.cell? ⟨G, 1, none⟩ = some (.string b) := (hS4.nth 1 rfl).cell 1; have hk44 : Blk w4 _ _ #[.int .i64 0, .int .i64 0, .string ⟨#[]⟩] := hS4.nth 0 rfl; have y0 := hk44.cell 0; have y1 := hk44.cell 1; have y2 := hk44.cell 2; have f0 := hk44.frozen 0; have f1 := hk44.frozen 1; have f2 := hk44.frozen 2; have yl := hk44.lt))
              | (go_at_call 50; ((with_reducible refine (HIX.out _ _ hk4).mono ?_); rintro e w5 ⟨rfl, rfl⟩))
              | (go_at_call 50; ((with_reducible refine (HIX.out _ _ hk4a).mono ?_); rintro e w5 ⟨rfl, rfl⟩)))
          all_goals (go_wp2_with fail; go_meet)
          all_goals rw [show IntKind.i64.wrap (1 + i) = 1 + i from IntWalk.i64_in _ (by omega)]
          all_goals first
            | exact ⟨_, rfl, Blk.lt (hS4.nth 1 rfl), hS4.add _ _⟩
            | exact ⟨_, rfl, Blk.lt (hS3d.nth 1 rfl), ((hS4.set_ 0 (.int .i64 z)).set_ 1 (.int .i64 (1 + i))).set_ 2 (.string ⟨#[]⟩)⟩
        case rest =>
          obtain ⟨g, rfl, hgw, hM⟩ := hcut
          have hne : ¬ g = w.heap.size := by omega
          have hne2 : ¬ w.heap.size = g := by omega
          clear hgw
          unfold StpM at hM
          clear d1 hS3d hSA HKd HKa HIX
          have kM : Blk wc g _ #[.int .i64 z, .int .i64 (1 + i), .string ⟨#[]⟩] := hM.nth 0 rfl
          obtain ⟨p0, p1, p2, q0, q1, q2⟩ := kM.three
          have kZ : Blk wc w.heap.size _ #[.int .i64 0, .int .i64 0, .string ⟨#[]⟩] := hM.nth 2 rfl
          go_upto_region 8 with (fail)
          have hM8 := hM
          obtain ⟨W8, hW8⟩ : ∃ W8, W8 = wc := ⟨_, rfl⟩
          rw [← hW8] at hM8 ⊢
          clear hW8
          clear hM kM kZ p0 p1 p2 q0 q1 q2
          obtain ⟨p0, p1, p2, q0, q1, q2⟩ := Blk.three (hM8.head : Blk _ g _ #[.int .i64 z, .int .i64 (1 + i), .string ⟨#[]⟩])
          obtain ⟨z0, z1, z2, f0, f1, f2⟩ := Blk.three (hM8.nth 2 rfl : Blk _ w.heap.size _ #[.int .i64 0, .int .i64 0, .string ⟨#[]⟩])
          have hM9 := (((hM8.front 2 rfl rfl).set_ 0 (.int .i64 z)).set_ 1 (.int .i64 (1 + i))).set_ 2 (.string ⟨#[]⟩)
          have hM9d := ((((hM8.drew).front 2 rfl rfl).set_ 0 (.int .i64 z)).set_ 1 (.int .i64 (1 + i))).set_ 2 (.string ⟨#[]⟩)
          cases B
          · go_region
            all_goals (go_wp2_with fail)
            all_goals first
              | exact bodyPost_ret (stp_res hM9.drew.head rfl rfl) rfl (HRET.out _ _ _ (by first | rfl | (cases hq : (i == 4) <;> simp_all) | (simp; omega)) hM9.drew.head hM9.drew.below)
              | exact bodyPost_ret (stp_res hM9d.head rfl rfl) rfl (HRET.out _ _ _ (by first | rfl | (simp; omega)) hM9d.head hM9d.below)
          · by_cases h4 : i = 4
            · subst h4
              go_region
              all_goals (go_wp2_with fail)
              all_goals first
                | exact bodyPost_ret (stp_res hM9.drew.head rfl rfl) rfl (HRET.out _ _ _ (by first | rfl | (cases hq : (i == 4) <;> simp_all) | (simp; omega)) hM9.drew.head hM9.drew.below)
                | exact bodyPost_ret (stp_res hM9d.head rfl rfl) rfl (HRET.out _ _ _ (by first | rfl | (simp; omega)) hM9d.head hM9d.below)
            · have h5 : ((1 + i) == 5) = false := by simp; omega
              by_cases h0 : 0 ≤ i
              · have h1 : (1 : Int) ≤ 1 + i := by omega
                go_region
                all_goals (go_wp2_with fail)
                all_goals first
                  | exact bodyPost_ret (stp_res hM9.drew.head rfl rfl) rfl (HRET.out _ _ _ (by first | rfl | (cases hq : (i == 4) <;> simp_all) | (simp; omega)) hM9.drew.head hM9.drew.below)
                  | exact bodyPost_ret (stp_res hM9d.head rfl rfl) rfl (HRET.out _ _ _ (by first | rfl | (simp; omega)) hM9d.head hM9d.below)
              · have h1 : ¬ (1 : Int) ≤ 1 + i := by omega
                go_region
                all_goals (go_wp2_with fail)
                all_goals first
                  | exact bodyPost_ret (stp_res hM9.drew.head rfl rfl) rfl (HRET.out _ _ _ (by first | rfl | (cases hq : (i == 4) <;> simp_all) | (simp; omega)) hM9.drew.head hM9.drew.below)
                  | exact bodyPost_ret (stp_res hM9d.head rfl rfl) rfl (HRET.out _ _ _ (by first | rfl | (simp; omega)) hM9d.head hM9d.below)
      · skip
        obtain ⟨a, b, c, hab⟩ : ∃ a b c, pcs 32 s = [a, b, c] := by
          subst h2
          match hp : pcs 32 s, hn with
          | [a, b, c], _ => exact ⟨a, b, c, rfl⟩
        subst h2
        have has : a.size ≤ 200000 := by have := pcs_size (c := 32) (s := s) (x := a) (by rw [hab]; simp); omega
        obtain ⟨G, hG⟩ : ∃ G, W0.heap.size = G := ⟨_, rfl⟩
        have HW2 : Hid (Calls Tryz.prog 62 #[.string s, .int .i64 3] W0 (fun e w' => e = .returned (.tuple #[.slice (some ⟨G, 0, none⟩) 3 3, .bool true]) ∧ Below W0.heap.size W0 w' ∧ Blk w' G 9 #[.string a, .string b, .string c])) := by
          refine Lib.hid ((HWD.out W0 (Below.refl _ _)).mono (fun e w' h => ?_))
          obtain ⟨q1, q2⟩ := h.2.1 (by rw [wB, hq])
          rw [hab, hG] at q2
          rw [hG] at q1
          exact ⟨q1, h.1, q2⟩
        have HNU := Lib.hid (fun V => number_calls a 15 (by decide) V (by unfold maxLen; omega))
        obtain ⟨z, B, zb0, zb1, hzR, hzB, hzV⟩ := numR_form a
        rw [hzR] at HNU
        obtain ⟨i, hi⟩ : ∃ i, i = Lib.idxOfS skindsL b := ⟨_, rfl⟩
        have hib := idx_bd skindsL b
        have HIX := Lib.hid (fun g V => idx_lit skindsL b g V (by decide))
        rw [← hi] at hib HIX
        have hk8 : skindsL.length = 8 := rfl
        rw [hk8] at hib HIX
        have HKD : Hid (∀ V, Calls Tryz.prog 35 #[] V (fun e w' => ∃ g, e = .returned (.slice (some ⟨g, 0, none⟩) 8 8) ∧ Below V.heap.size V w' ∧ Blk w' g 9 (strCs skindsL))) := by
          refine Lib.hid (fun V => (skinds_calls V).mono ?_)
          rintro e w' ⟨rfl, h1, h2⟩
          exact ⟨_, rfl, h1, h2⟩
        have HF : Hid (fT s.data.toList = (B && (decide (0 ≤ i) && !(i == 4)))) := by
          refine Lib.hid ?_
          rw [ff, hq, Bool.true_and, hab, hzB, hi]; rfl
        have HV : Hid (B = true → vT s.data.toList = ⟨z, 1 + i, c⟩) := by
          refine Lib.hid (fun h => ?_)
          rw [vv, hab, hzV h, hi]; rfl
        have HRET : Hid (∀ V t (v : Bool), v = (B && (decide (0 ≤ i) && !(i == 4))) → Blk V w.heap.size t #[.int .i64 z, .int .i64 (1 + i), .string c] → Below w.heap.size w V → StpR s w (.returned (.tuple #[.agg #[.int .i64 z, .int .i64 (1 + i), .string c], .bool v])) V) := by
          refine Lib.hid (fun V t v hv _ hbl => ⟨z, 1 + i, c, by rw [HF.out, hv], fun h => HV.out ?_, hbl⟩)
          rw [HF.out] at h
          exact (Bool.and_eq_true _ _ ▸ h).1
        have HCN2 : Hid (∀ V, Calls Tryz.prog 79 #[.string s, .string ⟨#[32]⟩] V (fun e w' => e = .returned (.int .i64 2) ∧ V = w')) := Lib.hid HCN.out
        clear HWD wB ff vv hq hn HRF HF HV hab hzR hzB hzV hi hk8 HCN eN hle hn1 hlen
        go_enter Tryz.func45, Tryz.ntmps45
        go_wp2_with (first
          | (go_at_call 79; refine (HCN2.out _).mono ?_; rintro e w1 ⟨rfl, rfl⟩)
          | (go_at_call 62; rw [← hW0]; refine HW2.out.mono ?_; rintro e w2 ⟨rfl, hb2, hk2⟩; have d0 := hk2.cell 0; have hS2 := hS0.blk hb2 hk2 (Nat.le_of_eq hG))
          | (go_at_call 80; refine (HNU.out _).mono ?_; rintro e w3 ⟨rfl, hb3⟩; have hS3 := hS2.callB hb3))
        clear d0 hk2 hb2 hb3 hS2 hS0 HW2 HNU HCN2
        have d1 : w3.drew.cell? ⟨G, 1, none⟩ = some (.string b) := (hS3.nth 0 rfl).cell 1
        have hS3d := hS3.drew
        have hSA := (hS3.add #[.int .i64 0, .int .i64 0, .string ⟨#[]⟩] 39).drew
        have dA : (w3.alloc (.cells #[.int .i64 0, .int .i64 0, .string ⟨#[]⟩] 39)).drew.cell? ⟨G, 1, none⟩ = some (.string b) := (hSA.nth 1 rfl).cell 1
        have HKd := Lib.hid (HKD.out w3.drew)
        have HKa := Lib.hid (HKD.out (w3.alloc (.cells #[.int .i64 0, .int .i64 0, .string ⟨#[]⟩] 39)).drew)
        clear HKD hS3
        go_cut [7] (fun s7 V => ∃ g, s7 = .pointer (some ⟨g, 0, none⟩) ∧ w.heap.size < g ∧ StpM w V g G z (1 + i) #[.string a, .string b, .string c])
        case first =>
          clear HRET
          go_region_held3 (fun V => V.cell? ⟨G, 1, none⟩ = some (.string b))
            (first | exact d1 | exact dA | exact e1 | exact ((hS4.add _ _).nth 1 rfl).cell 1 | exact ((((hS4.set_ 0 _).set_ 1 _).set_ 2 _).nth 1 rfl).cell 1 | go_keep)
            (first
              | (go_at_call 35; ((with_reducible refine HKd.out.mono ?_); rintro e w4 ⟨g4, rfl, hb4, hk4⟩; have hS4 := hS3d.callB hb4; have e1 : w4.cell? ⟨G, 1, none⟩ = some (.string b) := (hS4.nth 0 rfl).cell 1; have hk4a := hk4.below ((Below.refl w4.heap.size w4).alloc (Nat.le_refl _) (.cells #[.int .i64 0, .int .i64 0, .string ⟨#[]⟩] 39))))
              | (go_at_call 35; ((with_reducible refine HKa.out.mono ?_); rintro e w4 ⟨g4, rfl, hb4, hk4⟩; have hS4 := hSA.callB hb4; have e1 : w4.cell? ⟨G, 1, none⟩ = some (.string b) := (hS4.nth 1 rfl).cell 1; have hk44 : Blk w4 _ _ #[.int .i64 0, .int .i64 0, .string ⟨#[]⟩] := hS4.nth 0 rfl; have y0 := hk44.cell 0; have y1 := hk44.cell 1; have y2 := hk44.cell 2; have f0 := hk44.frozen 0; have f1 := hk44.frozen 1; have f2 := hk44.frozen 2; have yl := hk44.lt))
              | (go_at_call 50; ((with_reducible refine (HIX.out _ _ hk4).mono ?_); rintro e w5 ⟨rfl, rfl⟩))
              | (go_at_call 50; ((with_reducible refine (HIX.out _ _ hk4a).mono ?_); rintro e w5 ⟨rfl, rfl⟩)))
          all_goals (go_wp2_with fail; go_meet)
          all_goals rw [show IntKind.i64.wrap (1 + i) = 1 + i from IntWalk.i64_in _ (by omega)]
          all_goals first
            | exact ⟨_, rfl, Blk.lt (hS4.nth 1 rfl), hS4.add _ _⟩
            | exact ⟨_, rfl, Blk.lt (hS3d.nth 1 rfl), ((hS4.set_ 0 (.int .i64 z)).set_ 1 (.int .i64 (1 + i))).set_ 2 (.string ⟨#[]⟩)⟩
        case rest =>
          obtain ⟨g, rfl, hgw, hM⟩ := hcut
          have hne : ¬ g = w.heap.size := by omega
          have hne2 : ¬ w.heap.size = g := by omega
          clear hgw
          unfold StpM at hM
          clear d1 hS3d hSA HKd HKa HIX
          have kM : Blk wc g _ #[.int .i64 z, .int .i64 (1 + i), .string ⟨#[]⟩] := hM.nth 0 rfl
          obtain ⟨p0, p1, p2, q0, q1, q2⟩ := kM.three
          have kZ : Blk wc w.heap.size _ #[.int .i64 0, .int .i64 0, .string ⟨#[]⟩] := hM.nth 2 rfl
          have c2 : wc.cell? ⟨G, 2, none⟩ = some (.string c) := (hM.nth 1 rfl).cell 2
          go_upto_region 8 with (fail)
          have hM8 := hM
          replace hM8 := hM8.set_ 2 (.string c)
          obtain ⟨W8, hW8⟩ : ∃ W8, W8 = wc.setCell ⟨g, 2, none⟩ (.string c) := ⟨_, rfl⟩
          rw [← hW8] at hM8 ⊢
          clear hW8 c2
          clear hM kM kZ p0 p1 p2 q0 q1 q2
          obtain ⟨p0, p1, p2, q0, q1, q2⟩ := Blk.three (hM8.head : Blk _ g _ #[.int .i64 z, .int .i64 (1 + i), .string c])
          obtain ⟨z0, z1, z2, f0, f1, f2⟩ := Blk.three (hM8.nth 2 rfl : Blk _ w.heap.size _ #[.int .i64 0, .int .i64 0, .string ⟨#[]⟩])
          have hM9 := (((hM8.front 2 rfl rfl).set_ 0 (.int .i64 z)).set_ 1 (.int .i64 (1 + i))).set_ 2 (.string c)
          have hM9d := ((((hM8.drew).front 2 rfl rfl).set_ 0 (.int .i64 z)).set_ 1 (.int .i64 (1 + i))).set_ 2 (.string c)
          cases B
          · go_region
            all_goals (go_wp2_with fail)
            all_goals first
              | exact bodyPost_ret (stp_res hM9.drew.head rfl rfl) rfl (HRET.out _ _ _ (by first | rfl | (cases hq : (i == 4) <;> simp_all) | (simp; omega)) hM9.drew.head hM9.drew.below)
              | exact bodyPost_ret (stp_res hM9d.head rfl rfl) rfl (HRET.out _ _ _ (by first | rfl | (simp; omega)) hM9d.head hM9d.below)
          · by_cases h4 : i = 4
            · subst h4
              go_region
              all_goals (go_wp2_with fail)
              all_goals first
                | exact bodyPost_ret (stp_res hM9.drew.head rfl rfl) rfl (HRET.out _ _ _ (by first | rfl | (cases hq : (i == 4) <;> simp_all) | (simp; omega)) hM9.drew.head hM9.drew.below)
                | exact bodyPost_ret (stp_res hM9d.head rfl rfl) rfl (HRET.out _ _ _ (by first | rfl | (simp; omega)) hM9d.head hM9d.below)
            · have h5 : ((1 + i) == 5) = false := by simp; omega
              by_cases h0 : 0 ≤ i
              · have h1 : (1 : Int) ≤ 1 + i := by omega
                go_region
                all_goals (go_wp2_with fail)
                all_goals first
                  | exact bodyPost_ret (stp_res hM9.drew.head rfl rfl) rfl (HRET.out _ _ _ (by first | rfl | (cases hq : (i == 4) <;> simp_all) | (simp; omega)) hM9.drew.head hM9.drew.below)
                  | exact bodyPost_ret (stp_res hM9d.head rfl rfl) rfl (HRET.out _ _ _ (by first | rfl | (simp; omega)) hM9d.head hM9d.below)
              · have h1 : ¬ (1 : Int) ≤ 1 + i := by omega
                go_region
                all_goals (go_wp2_with fail)
                all_goals first
                  | exact bodyPost_ret (stp_res hM9.drew.head rfl rfl) rfl (HRET.out _ _ _ (by first | rfl | (cases hq : (i == 4) <;> simp_all) | (simp; omega)) hM9.drew.head hM9.drew.below)
                  | exact bodyPost_ret (stp_res hM9d.head rfl rfl) rfl (HRET.out _ _ _ (by first | rfl | (simp; omega)) hM9d.head hM9d.below)
    · have HR := Lib.hid (HRF.out (by rw [ff, hq, fT3_len (by omega)]; rfl))
      have HW2 : Hid (∀ V, Below W0.heap.size W0 V → Calls Tryz.prog 62 #[.string s, .int .i64 n] V (fun e w' => e = .returned (.tuple #[.slice (some ⟨V.heap.size, 0, none⟩) n n, .bool true]) ∧ Below V.heap.size V w')) := by
        refine Lib.hid (fun V k => (HWD.out V k).mono (fun e w' h => ⟨(h.2.1 (by rw [wB, hq])).1, h.1⟩))
      clear HWD wB ff vv hq hn HRF
      by_cases h2 : (n : Int) < 2
      · clear hlen
        go_enter Tryz.func45, Tryz.ntmps45
        go_wp2_with (first
          | (go_at_call 79; refine (HCN.out _).mono ?_; rintro e w1 ⟨rfl, rfl⟩)
          | (go_at_call 62; rw [← hW0]; refine (HW2.out _ (Below.refl _ _)).mono ?_; rintro e w2 ⟨rfl, hb2⟩; have hS2 := hS0.callB hb2; have hk2 : Blk w2 _ _ #[.int .i64 0, .int .i64 0, .string ⟨#[]⟩] := hS2.nth 0 rfl; obtain ⟨z0, z1, z2, f0, f1, f2⟩ := hk2.three))
        have hS3 := ((hS2.set_ 0 (.int .i64 0)).set_ 1 (.int .i64 0)).set_ 2 (.string ⟨#[]⟩)
        exact bodyPost_ret (stp_res hS3.head rfl rfl) rfl (HR.out _ hS3.below)
      · have h3 : (3 : Int) < n := by omega
        clear hlen
        go_enter Tryz.func45, Tryz.ntmps45
        go_wp2_with (first
          | (go_at_call 79; refine (HCN.out _).mono ?_; rintro e w1 ⟨rfl, rfl⟩)
          | (go_at_call 62; rw [← hW0]; refine (HW2.out _ (Below.refl _ _)).mono ?_; rintro e w2 ⟨rfl, hb2⟩; have hS2 := hS0.callB hb2; have hk2 : Blk w2 _ _ #[.int .i64 0, .int .i64 0, .string ⟨#[]⟩] := hS2.nth 0 rfl; obtain ⟨z0, z1, z2, f0, f1, f2⟩ := hk2.three))
        have hS3 := ((hS2.set_ 0 (.int .i64 0)).set_ 1 (.int .i64 0)).set_ 2 (.string ⟨#[]⟩)
        exact bodyPost_ret (stp_res hS3.head rfl rfl) rfl (HR.out _ hS3.below)
end Go.Proofs.YtaendemgkabdfaaGreatDoor
