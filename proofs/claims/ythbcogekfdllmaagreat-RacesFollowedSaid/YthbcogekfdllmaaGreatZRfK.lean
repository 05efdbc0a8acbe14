/-
  slices.Sorted(maps.Keys(m)) of a race's field by a contract: its keys, rising.
-/
import Derived.Test.YthbcogekfdllmaaGreatZRf1
import Derived.Test.YthbcogekfdllmaaGreatZBid2
import Derived.Test.YthbcogekfdllmaaGreatZIter
import Derived.Test.YthbcogekfdllmaaGreatZKey3
import Derived.Test.YthbcogekfdllmaaGreatZKey2
import Derived.Test.YthbcogekfdllmaaGreatZSq
import Derived.Test.YthbcogekfdllmaaGreatZRng
import Derived.Lib.ItoaLen
import Derived.Test.YthbcogekfdllmaaGreatZRf4
namespace Go.Proofs.YthbcogekfdllmaaGreat
open Go Go.RowKit

theorem cmpL_of_le {x y : List UInt8} (h : x ≤ y) (hn : x ≠ y) : Lib.compareBytes x y < 0 := by
  have h1 := cmpL_ge y x
  rw [Go.Proofs.bytesLess_eq] at h1
  have h2 : (decide (y < x) || y == x) = false := by
    rw [decide_eq_false (List.not_lt.2 h), Bool.false_or]
    simpa using fun e : y = x => hn e.symm
  rw [h2] at h1
  have := of_decide_eq_false h1
  omega
theorem keys_rise {ss : List (List UInt8)} {ks : List ByteArray} (hp : ss.Perm (ks.map (fun s => s.data.toList))) (hn : ks.Nodup) :
    ∃ kb : List ByteArray, kb.Perm ks ∧ kb.Pairwise (fun a b => cmpS a b < 0) ∧ (ss.mergeSort (fun x y => decide (x ≤ y))).map encStr = strsV kb := by
  have hs : (ss.mergeSort (fun x y => decide (x ≤ y))).Pairwise (fun a b => a ≤ b) := by
    have := List.pairwise_mergeSort (le := fun x y : List UInt8 => decide (x ≤ y)) (fun a b c h1 h2 => decide_eq_true (List.le_trans (of_decide_eq_true h1) (of_decide_eq_true h2))) (fun a b => by
      rcases List.le_total a b with h | h
      · rw [decide_eq_true h]; rfl
      · rw [decide_eq_true h]; simp) ss
    exact this.imp (fun h => of_decide_eq_true h)
  have hps := (List.mergeSort_perm ss (fun x y => decide (x ≤ y))).trans hp
  have hnd : (ss.mergeSort (fun x y => decide (x ≤ y))).Nodup := hps.nodup_iff.2 (List.pairwise_map.2 (hn.imp (fun hne he => hne (ba_inj he))))
  obtain ⟨so, hso⟩ : ∃ so, so = ss.mergeSort (fun x y => decide (x ≤ y)) := ⟨_, rfl⟩
  rw [← hso] at hs hps hnd ⊢
  refine ⟨so.map (fun x => (⟨x.toArray⟩ : ByteArray)), ?_, ?_, ?_⟩
  · have := hps.map (fun x => (⟨x.toArray⟩ : ByteArray))
    rw [List.map_map] at this
    have e : ((fun x : List UInt8 => (⟨x.toArray⟩ : ByteArray)) ∘ fun s : ByteArray => s.data.toList) = id := by funext s; simp
    rw [e, List.map_id] at this
    exact this
  · rw [List.pairwise_map]
    refine List.Pairwise.imp₂ (fun x y h1 h2 => ?_) hs hnd
    show Lib.compareBytes _ _ < 0
    simpa using cmpL_of_le h1 h2
  · unfold strsV
    rw [List.map_map]
    refine List.map_congr_left (fun x _ => ?_)
    rfl
theorem keysE_calls (mb : Option Nat) (W : World) : Calls Tryz.prog 33 #[.map mb] W
    fun e w' => e = .returned (.func (.func 57) #[] #[.pointer (some ⟨W.heap.size, 0, none⟩)]) ∧ w' = W.alloc (.cells #[.map mb] 75) :=
  (callsIn_wide (n := 5)).1 (Tryz.maps_Keys_33 mb W)
/-- sorted keys in new memory -/
def KeyR (ks : List ByteArray) (w : World) (e : Ending) (w' : World) : Prop :=
  ∃ (v : Value) (kb : List ByteArray), e = .returned v ∧ kb.Perm ks ∧ kb.Pairwise (fun a b => cmpS a b < 0) ∧ w'.ownsRow w.heap.size 9 1 v kb.length (strsV kb) ∧ Below w.heap.size w w'
theorem sortedE_calls (b n : Nat) (f : ByteArray → Option Value) (ks : List ByteArray) (w : World) (hm : MapS w 9 b n f) (hK : KeysM f ks) (hn : n ≤ 100000) :
    Calls Tryz.prog 32 #[.func (.func 57) #[] #[.pointer (some ⟨w.heap.size, 0, none⟩)]] (w.alloc (.cells #[.map (some b)] 75)) (KeyR ks (w.alloc (.cells #[.map (some b)] 75))) := by
  obtain ⟨D, h1, h2⟩ := hm
  have hsz := h1.size_le
  have h := (callsIn_wide (n := 5)).1 (Tryz.slices_Sorted_keys_32_33 b n D tokR w h1 (by unfold maxLen; omega) (by omega))
  refine h.mono ?_
  rintro e w' ⟨v, ss, rfl, hp, ho, _, hb⟩
  have hkp := keys_perm Tryz.underlying9 h1 (fun s hs => (h2 s hs).1) hK
  obtain ⟨kb, k1, k2, k3⟩ := keys_rise (hp.trans hkp.symm) hK.nd
  have hl : ss.length = kb.length := by
    have e1 := congrArg List.length k3
    rw [List.length_map, (List.mergeSort_perm ss _).length_eq] at e1
    rw [e1]
    unfold strsV
    rw [List.length_map]
  rw [k3, hl] at ho
  exact ⟨v, kb, rfl, k1, k2, ho, hb⟩
end Go.Proofs.YthbcogekfdllmaaGreat
/-
  Clashes and CheckAway in plain words. No Go text is named here.
-/
namespace Go.Proofs.YthbcogekfdllmaaGreat
open Go Go.RowKit

abbrev Pr := ByteArray × ByteArray
def prC (p : Pr) : List Value := [.string p.1, .string p.2]
theorem prC_len (p : Pr) : (prC p).length = 2 := rfl
end Go.Proofs.YthbcogekfdllmaaGreat
/-
  How runs are split by a field, in plain words: counts by value, rising. No Go text is named here.
-/
namespace Go.Proofs.YthbcogekfdllmaaGreat
open Go Go.RowKit

theorem cmpS_ltG (a b : ByteArray) : cmpS a b < 0 ↔ gtS b a := by
  have h := cmpS_ge b a
  unfold gtS
  rw [← h, decide_eq_false_iff_not]
  omega
theorem cmpS_irr (a : ByteArray) : ¬ cmpS a a < 0 := by
  rw [cmpS_ltG]
  unfold gtS
  rw [leS_self]
  decide
theorem cmpS_asym {a b : ByteArray} (h1 : cmpS a b < 0) (h2 : cmpS b a < 0) : False := by
  rw [cmpS_ltG] at h1 h2
  have h3 := leS_gt h1
  unfold gtS at h2
  rw [h3] at h2
  cases h2
theorem up_one : ∀ (l1 l2 : List Pr), l1.Pairwise (fun a b => cmpS a.1 b.1 < 0) → l2.Pairwise (fun a b => cmpS a.1 b.1 < 0) → (∀ p, p ∈ l1 ↔ p ∈ l2) → l1 = l2
  | [], [], _, _, _ => rfl
  | [], b :: t, _, _, h => by have := (h b).2 (List.mem_cons_self ..); cases this
  | a :: t, [], _, _, h => by have := (h a).1 (List.mem_cons_self ..); cases this
  | a :: t1, b :: t2, h1, h2, h => by
    rw [List.pairwise_cons] at h1 h2
    have hab : a = b := by
      rcases List.mem_cons.1 ((h a).1 (List.mem_cons_self ..)) with e | ha
      · exact e
      · rcases List.mem_cons.1 ((h b).2 (List.mem_cons_self ..)) with e | hb
        · exact e.symm
        · exact (cmpS_asym (h1.1 b hb) (h2.1 a ha)).elim
    subst hab
    congr 1
    refine up_one t1 t2 h1.2 h2.2 (fun p => ⟨fun hp => ?_, fun hp => ?_⟩)
    · rcases List.mem_cons.1 ((h p).1 (List.mem_cons_of_mem _ hp)) with e | hq
      · subst e; exact (cmpS_irr _ (h1.1 p hp)).elim
      · exact hq
    · rcases List.mem_cons.1 ((h p).2 (List.mem_cons_of_mem _ hp)) with e | hq
      · subst e; exact (cmpS_irr _ (h2.1 p hp)).elim
      · exact hq
end Go.Proofs.YthbcogekfdllmaaGreat
/-
  race.Over and Entrants by contracts.
-/
namespace Go.Proofs.YthbcogekfdllmaaGreat
open Go Go.RowKit
attribute [local go_sem ↓] Go.wp_at_zero Go.wp_at_succ

theorem Sq.lift {w w1 W : World} {l : List Rsc} (hb : Below w.heap.size w w1) (h : Sq w1 W l) : Sq w W l :=
  ⟨below_call hb h.below (Nat.le_refl _), ⟨h.hp.hold, h.hp.ok, fun r hr g hg => ⟨Nat.le_trans hb.size (h.hp.new r hr g hg).1, (h.hp.new r hr g hg).2⟩, h.hp.apart⟩⟩
def nobP (F : PF) : Bool := F.ks.all (fun s => decide (hwP F s ≠ some 2))
def ovS (l : List Stp) (u : Int) : Bool := if mfS l u = 0 then (nobP (rfolP l u).1 && (rfolP l u).1.st) else false
set_option maxRecDepth 100000 in
set_option maxHeartbeats 2000000 in
theorem raceOver_calls (b : Nat) (A : Option Addr) (n c : Nat) (l : List Stp) (u : Int) (w : World) (hr : Rd w b 3 (.slice A n c) n (l.flatMap stC)) (hz : ∀ s ∈ l, s.who.size ≤ 1000000) (hn : n ≤ 1000) :
    Calls Tryz.prog 10 #[.slice A n c, .int .i64 u] w (BRet (.tuple #[.bool (ovS l u), .int .i64 (mfS l u)]) w) := by
  have HF := Lib.hid (raceMoment_calls b A n c l u w hr hz)
  obtain ⟨X, hX⟩ : ∃ X, ovS l u = X := ⟨_, rfl⟩
  rw [hX]
  by_cases h0 : mfS l u = 0
  · have HFO := Lib.hid (fun W (hW : Below w.heap.size w W) => rfollow_calls b A n c l u W (hr.below hW) (stF_ok (mfS_ok h0).1).1 hn)
    obtain ⟨r, hr0⟩ : ∃ r, rfolP l u = r := ⟨_, rfl⟩
    rw [hr0] at HFO
    have HXT : Hid (nobP r.1 = true → X = r.1.st) := Lib.hid (fun h => by rw [← hX]; unfold ovS; rw [if_pos h0, hr0, h, Bool.true_and])
    have HXF : Hid (nobP r.1 = false → X = false) := Lib.hid (fun h => by rw [← hX]; unfold ovS; rw [if_pos h0, hr0, h, Bool.false_and])
    rw [h0] at HF ⊢
    clear h0 hr hz hX hr0
    go_enter Tryz.func10, Tryz.ntmps10
    go_wp2_with fail
    refine HF.out.mono ?_
    rintro e w1 ⟨rfl, hb1⟩
    go_wp2_with fail
    refine (HFO.out _ hb1).mono ?_
    rintro e w2 ⟨g, m, N, A1, c1, rfl, hK, hN, hb, hS0⟩
    have hS := hS0.lift hb1
    have HKF := Lib.hid hK
    obtain ⟨F, bad⟩ := r
    obtain ⟨k0, bad⟩ := bad
    obtain ⟨st, hst⟩ : ∃ st, F.st = st := ⟨_, rfl⟩
    obtain ⟨a0, ha0⟩ : ∃ a0, F.at0 = a0 := ⟨_, rfl⟩
    simp only at hS HXT HXF HKF hst ha0
    unfold fldL at hS
    rw [hst, ha0] at hS
    rw [hst] at HXT
    have cg : w2.cell? ⟨g, 0, none⟩ = some (.map (some m)) := (hS.nth 0 rfl : Blk w2 g _ _).cell 0
    have hS1 := hS.front 1 rfl rfl
    have HMP : MapS w2 9 m N (rfF F) := hS1.head
    clear hS0 hS hK hst ha0
    go_wp2_with (first
      | (at_range; refine wpList_range_map _ rfl _ 75 rfl 9 77 Tryz.underlying9 Tryz.underlying75 m N (rfF F) rfl HMP ?_; intro w3 cnt0 hr0 hg0 hs0))
    go_frame
    have hS3 := hS1.rngStart hr0 hg0
    obtain ⟨r, hr⟩ : ∃ r, r = w2.heap.size := ⟨_, rfl⟩
    rw [← hr] at hS3 ⊢
    clear hS1 hr0 hg0 hs0 HMP hr cg
    go_loopw [10] (fun _ wq => ∃ (seen : List ByteArray) (cnt : Nat), Hid (∀ s ∈ seen, s ∈ F.ks ∧ hwP F s ≠ some 2) ∧ Sq w wq (rRng 9 m r N (rfF F) seen cnt :: rBlk g 79 #[.map (some m), .bool st, .int .i64 a0] :: [rOwn w1.heap.size 3 1 (.slice A1 bad.length c1) bad.length (bad.map (Value.int .i64))])) (fun _ wq => wq.rangeLeft m r)
    case atStart => exact ⟨[], cnt0, Lib.hid (fun s hs => by cases hs), hS3⟩
    case round =>
      clear hS3
      obtain ⟨seen, cnt, HM, hS⟩ := hrel
      have hrg : RngS wr 9 m r N (rfF F) seen cnt := hS.head
      go_wp2_with (first
        | (at_next; refine wpList_next_map _ rfl _ rfl 9 Tryz.underlying9 m r N (rfF F) seen cnt rfl hrg ?_ ?_))
      · intro hdone
        have hp := HKF.out.keys.seen hrg.nodup (fun s hs => (HM.out s hs).1) hdone
        have hall : nobP F = true := by
          unfold nobP
          rw [List.all_eq_true]
          intro s hs
          exact decide_eq_true (HM.out s (hp.mem_iff.2 hs)).2
        have HX := Lib.hid (HXT.out hall)
        have cg : wr.cell? ⟨g, 1, none⟩ = some (.bool st) := (hS.nth 1 rfl : Blk wr g _ _).cell 1
        have hfin := hS.below
        clear hS hrg hdone hp hall
        go_wp2_with fail
        go_ret2
        exact ⟨by rw [HX.out]; rfl, hfin⟩
      · intro s v w4 cnt2 hnew hsl hf hrg2 hlt2 hg2 hs2 hen
        obtain ⟨⟨c, b'⟩, he, rfl⟩ := Option.map_eq_some_iff.1 hf
        have hsk : s ∈ F.ks := (HKF.out.iff s).2 (by rw [he]; rfl)
        have hc4 : c ≤ 4 := HKF.out.c4 s c (by unfold hwP; rw [he]; rfl)
        have hP : hwP F s = some c := by unfold hwP; rw [he]; rfl
        have hS2 := hS.rngStep hrg2 hg2
        have hl2 : wr.rangeLeft m r = cnt := hrg.left
        obtain ⟨hb, hhb⟩ : ∃ hb, hb = hwB c := ⟨_, rfl⟩
        have hBB := litB hb [114, 97, 99, 101] (hwB 2) rfl
        have hen2 : (Instr.entry (.pointer (some ⟨r, 0, none⟩))).run Tryz.prog w4 = .ok (.tuple #[.string s, .agg #[.string hb, .int .i64 b']]) w4 := by rw [hhb]; exact hen
        have hS5 := hS2.alloc (.cells #[.string hb, .int .i64 b'] 77)
        by_cases h1 : c = 2
        · have hB1 : (hb.toList == [114, 97, 99, 101]) = true := hBB.trans (decide_eq_true (by rw [hhb, h1]))
          have hF : nobP F = false := by
            unfold nobP
            rw [List.all_eq_false]
            exact ⟨s, hsk, by rw [hP, h1]; simp⟩
          have HX := Lib.hid (HXF.out hF)
          have hfin := hS5.below
          clear hS hrg hrg2 hg2 hs2 hf hen hnew HM hhb hBB hP he hS2 h1 hF hS5
          go_wp2_with fail
          go_ret2
          exact ⟨by rw [HX.out]; rfl, hfin⟩
        · have hB1 : (hb.toList == [114, 97, 99, 101]) = false := hBB.trans (decide_eq_false (fun h => h1 (hwB_inj hc4 (by omega) (hhb ▸ h))))
          have HM2 : Hid (∀ x ∈ seen ++ [s], x ∈ F.ks ∧ hwP F x ≠ some 2) := Lib.hid (fun x hx => by
            rcases List.mem_append.1 hx with hx | hx
            · exact HM.out x hx
            · simp at hx; subst hx; exact ⟨hsk, by rw [hP]; intro h; injection h with h; exact h1 h⟩)
          have hr8 : RngS (w4.alloc (.cells #[.string hb, .int .i64 b'] 77)) 9 m r N (rfF F) (seen ++ [s]) cnt2 := hS5.head
          clear hS hrg hrg2 hg2 hs2 hf hen hnew HM hhb hBB hP he hS2 h1
          go_wp2_with fail
          go_roundw
          case rel => exact ⟨seen ++ [s], cnt2, HM2, hS5⟩
          case measure => rw [hr8.left, hl2]; exact hlt2
  · obtain rfl : false = X := by rw [← hX]; unfold ovS; rw [if_neg h0]
    obtain ⟨E, hE⟩ : ∃ E, mfS l u = E := ⟨_, rfl⟩
    rw [hE] at HF h0 ⊢
    have hx : (E != 0) = true := by simpa using h0
    clear hE hr hz h0 hX
    go_enter Tryz.func10, Tryz.ntmps10
    go_wp2_with fail
    refine HF.out.mono ?_
    rintro e w1 ⟨rfl, hb1⟩
    go_wp2_with fail
    go_ret2
    exact ⟨rfl, hb1⟩
end Go.Proofs.YthbcogekfdllmaaGreat
