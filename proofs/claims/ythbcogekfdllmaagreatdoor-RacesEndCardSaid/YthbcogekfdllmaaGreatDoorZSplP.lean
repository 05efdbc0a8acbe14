/-
  How runs are split by a field, in plain words: counts by value, rising. No Go text is named here.
-/
import Derived.Test.YthbcogekfdllmaaGreatDoorZIter
import Derived.Test.YthbcogekfdllmaaGreatDoorZRulPure
import Derived.Test.YthbcogekfdllmaaGreatDoorZSq
import Derived.Test.YthbcogekfdllmaaGreatDoorZMap
import Derived.Test.YthbcogekfdllmaaGreatDoorZRat1
import Derived.Lib.ItoaLen
import Derived.Test.YthbcogekfdllmaaGreatDoorZRf4
namespace Go.Proofs.YthbcogekfdllmaaGreatDoor
open Go Go.RowKit

theorem cmpS_ltG (a b : ByteArray) : cmpS a b < 0 ↔ gtS b a := by
  have h := cmpS_ge b a
  unfold gtS
  rw [← h, decide_eq_false_iff_not]
  omega
theorem cmpS_irr (a : ByteArray) : ¬ cmpS a a < 0 := by
  rw [cmpS_ltG]
  unfold gtS
  rw [leS_self]
  decide
theorem cmpS_asym {a b : ByteArray} (h1 : cmpS a b < 0) (h2 : cmpS b a < 0) : False := by
  rw [cmpS_ltG] at h1 h2
  have h3 := leS_gt h1
  unfold gtS at h2
  rw [h3] at h2
  cases h2
theorem up_one : ∀ (l1 l2 : List Pr), l1.Pairwise (fun a b => cmpS a.1 b.1 < 0) → l2.Pairwise (fun a b => cmpS a.1 b.1 < 0) → (∀ p, p ∈ l1 ↔ p ∈ l2) → l1 = l2
  | [], [], _, _, _ => rfl
  | [], b :: t, _, _, h => by have := (h b).2 (List.mem_cons_self ..); cases this
  | a :: t, [], _, _, h => by have := (h a).1 (List.mem_cons_self ..); cases this
  | a :: t1, b :: t2, h1, h2, h => by
    rw [List.pairwise_cons] at h1 h2
    have hab : a = b := by
      rcases List.mem_cons.1 ((h a).1 (List.mem_cons_self ..)) with e | ha
      · exact e
      · rcases List.mem_cons.1 ((h b).2 (List.mem_cons_self ..)) with e | hb
        · exact e.symm
        · exact (cmpS_asym (h1.1 b hb) (h2.1 a ha)).elim
    subst hab
    congr 1
    refine up_one t1 t2 h1.2 h2.2 (fun p => ⟨fun hp => ?_, fun hp => ?_⟩)
    · rcases List.mem_cons.1 ((h p).1 (List.mem_cons_of_mem _ hp)) with e | hq
      · subst e; exact (cmpS_irr _ (h1.1 p hp)).elim
      · exact hq
    · rcases List.mem_cons.1 ((h p).2 (List.mem_cons_of_mem _ hp)) with e | hq
      · subst e; exact (cmpS_irr _ (h2.1 p hp)).elim
      · exact hq
end Go.Proofs.YthbcogekfdllmaaGreatDoor
/-
  race.Over and Entrants by contracts.
-/
namespace Go.Proofs.YthbcogekfdllmaaGreatDoor
open Go Go.RowKit
attribute [local go_sem ↓] Go.wp_at_zero Go.wp_at_succ

theorem Sq.lift {w w1 W : World} {l : List Rsc} (hb : Below w.heap.size w w1) (h : Sq w1 W l) : Sq w W l :=
  ⟨below_call hb h.below (Nat.le_refl _), ⟨h.hp.hold, h.hp.ok, fun r hr g hg => ⟨Nat.le_trans hb.size (h.hp.new r hr g hg).1, (h.hp.new r hr g hg).2⟩, h.hp.apart⟩⟩
end Go.Proofs.YthbcogekfdllmaaGreatDoor
/-
  race.Entrants by a contract.
-/
namespace Go.Proofs.YthbcogekfdllmaaGreatDoor
open Go Go.RowKit
attribute [local go_sem ↓] Go.wp_at_zero Go.wp_at_succ

theorem info_prE : (Tryz.prog.info? 75).map (fun i => (i.zero, i.size, i.bytes)) = some (some (.agg #[.string ⟨#[]⟩, .string ⟨#[]⟩]), 2, 32) := by kernel_rfl
theorem one2e {x y : Value} (hx : x.oneCell' = true) (hy : y.oneCell' = true) : ∀ v ∈ [x, y], v.oneCell' = true := by
  intro v hv
  simp only [List.mem_cons, List.not_mem_nil, or_false] at hv
  rcases hv with rfl | rfl <;> assumption
/-- who is in a race: each one once, rising, with how they are -/
structure EntR (hw : ByteArray → Option Nat) (ys : List Pr) : Prop where
  up : ys.Pairwise (fun a b => cmpS a.1 b.1 < 0)
  ms : ∀ p, p ∈ ys ↔ ∃ c, hw p.1 = some c ∧ p.2 = hwB c
theorem EntR.one {hw : ByteArray → Option Nat} {l1 l2 : List Pr} (h1 : EntR hw l1) (h2 : EntR hw l2) : l1 = l2 := up_one l1 l2 h1.up h2.up (fun p => by rw [h1.ms, h2.ms])
theorem put_eqR {K : Act → World → Prop} {a : Act} {d : Option Nat} {V V' : Value} {w : World} (h : V = V') (hk : K (a.put d V') w) : K (a.put d V) w := h ▸ hk
/-- somebody with how they are -/
def entP (F : PF) (s : ByteArray) : Pr := (s, hwB ((hwP F s).getD 0))
theorem entP_ok {F : PF} (hK : KF F) {kb : List ByteArray} (hp : kb.Perm F.ks) (hu : kb.Pairwise (fun a b => cmpS a b < 0)) : EntR (hwP F) (kb.map (entP F)) := by
  refine ⟨List.pairwise_map.2 hu, fun p => ?_⟩
  rw [List.mem_map]
  constructor
  · rintro ⟨s, hs, rfl⟩
    have h1 := (hK.iff s).1 (hp.mem_iff.1 hs)
    rw [← hwP_isSome] at h1
    obtain ⟨c, hc⟩ := Option.isSome_iff_exists.1 h1
    exact ⟨c, hc, by unfold entP; rw [hc]; rfl⟩
  · rintro ⟨c, hc, h2⟩
    refine ⟨p.1, hp.mem_iff.2 ((hK.iff _).2 (by rw [← hwP_isSome, hc]; rfl)), ?_⟩
    unfold entP
    rw [hc]
    exact Prod.ext rfl h2.symm
def EntS (l : List Stp) (u : Int) (w : World) (e : Ending) (w' : World) : Prop :=
  ∃ (v : Value) (ys : List Pr), e = .returned (.tuple #[v, .int .i64 (mfS l u)]) ∧ (mfS l u = 0 → EntR (hwP (rfolP l u).1) ys ∧ ys.length = (rfolP l u).1.ks.length) ∧ (mfS l u ≠ 0 → ys = []) ∧ w'.ownsRow w.heap.size 75 2 v ys.length (ys.flatMap prC) ∧ Below w.heap.size w w'
set_option maxRecDepth 100000 in
set_option maxHeartbeats 2000000 in
theorem raceEntrants_calls (b : Nat) (A : Option Addr) (n c : Nat) (l : List Stp) (u : Int) (w : World) (hr : Rd w b 3 (.slice A n c) n (l.flatMap stC)) (hz : ∀ s ∈ l, s.who.size ≤ 1000000) (hn : n ≤ 1000) :
    Calls Tryz.prog 15 #[.slice A n c, .int .i64 u] w (EntS l u w) := by
  have HF := Lib.hid (raceMoment_calls b A n c l u w hr hz)
  obtain ⟨i0, hi, hi0, hi1, hi2⟩ := info_parts info_prE
  obtain ⟨E, hE⟩ : ∃ E, mfS l u = E := ⟨_, rfl⟩
  unfold EntS
  rw [hE] at HF ⊢
  by_cases h0 : mfS l u = 0
  · have HFO := Lib.hid (fun W (hW : Below w.heap.size w W) => rfollow_calls b A n c l u W (hr.below hW) (stF_ok (mfS_ok h0).1).1 hn)
    obtain ⟨r, hr0⟩ : ∃ r, rfolP l u = r := ⟨_, rfl⟩
    rw [hr0] at HFO
    have HRF : Hid (rfolP l u = r) := Lib.hid hr0
    obtain rfl : E = 0 := hE.symm.trans h0
    clear h0 hr hz hr0 hE
    go_enter Tryz.func15, Tryz.ntmps15
    go_wp2_with fail
    refine HF.out.mono ?_
    rintro e w1 ⟨rfl, hb1⟩
    go_wp2_with fail
    refine (HFO.out _ hb1).mono ?_
    rintro e w2 ⟨g, m, N, A1, c1, rfl, hK, hN, hb, hS0⟩
    have hS := hS0.lift hb1
    have HKF := Lib.hid hK
    obtain ⟨F, bad⟩ := r
    obtain ⟨k0, bad⟩ := bad
    simp only at hS HKF
    have hSx : Sq w w2 (fldL g m N F []) := (hS.drop 2 rfl rfl)
    have cg : w2.cell? ⟨g, 0, none⟩ = some (.map (some m)) := (hS.nth 0 rfl : Blk w2 g _ _).cell 0
    have HMP : MapS w2 9 m N (rfF F) := hSx.nth 1 rfl
    have HKE := Lib.hid (keysE_calls (some m) w2)
    have HSE := Lib.hid (sortedE_calls m N (rfF F) F.ks w2 HMP HKF.out.keys (by omega))
    have hSa := hSx.alloc (.cells #[.map (some m)] 116)
    clear hS0 hS hK HMP hSx
    go_wp2_with (first
      | (go_at_call 52; refine HKE.out.mono ?_; rintro e w3 ⟨rfl, rfl⟩)
      | (go_at_call 51; refine HSE.out.mono ?_; rintro e w4 ⟨v4, kb, rfl, hkp, hku, ho4, hb4⟩; obtain ⟨A4, c4, hv4⟩ := own_form ho4; subst hv4; have hS4 := (hSa.ownB hb4 ho4).nil w.heap.size 75 2))
    have HKP := Lib.hid hkp
    have HKU := Lib.hid hku
    obtain ⟨q, hq⟩ : ∃ q, kb.length = q := ⟨_, rfl⟩
    have hqn : q ≤ N := by
      have h1 := hkp.length_eq
      have h2 := (MapS.size_eq Tryz.underlying9 (show MapS w4 9 m N (rfF F) from hS4.nth 3 rfl) HKF.out.keys).1
      omega
    have HQ := Lib.hid hq
    rw [hq] at hS4 ⊢
    clear hkp hku hSa hb4 ho4 HKE HSE hq cg
    go_loopw [9, 31] (fun v i wr => ∃ (k : Nat) (A' : Option Addr) (c' : Nat), k ≤ q ∧ i = .int .i64 k ∧ v = .slice A' k c' ∧ Sq w wr (rOwn w.heap.size 75 2 (.slice A' k c') k (((kb.take k).map (entP F)).flatMap prC) :: rOwn w.heap.size 9 1 (.slice A4 q c4) q (strsV kb) :: fldL g m N F [])) (fun _ i _ => q - (intOf i).toNat)
    case atStart => exact ⟨0, none, 0, Nat.zero_le _, rfl, rfl, hS4⟩
    case round =>
      clear hS4
      obtain ⟨k, A', c', hk, rfl, rfl, hS⟩ := hrel
      obtain ⟨wo, hwo⟩ : ∃ z, z = wr := ⟨_, rfl⟩
      subst hwo
      by_cases hlt : k < q
      · have hkr : k < kb.length := by rw [HQ.out]; exact hlt
        have hO4 : wo.ownsRow w.heap.size 9 1 (.slice A4 q c4) q (strsV kb) := hS.nth 1 rfl
        obtain ⟨g4, cap4, hv, _⟩ := hO4.form (by omega)
        injection hv with hA4 _ hc4
        subst hA4
        obtain ⟨s, hs⟩ : ∃ s, kb[k] = s := ⟨_, rfl⟩
        have ck : wo.cell? ⟨g4, k, none⟩ = some (.string s) := by
          have := hO4.cellAt k (by rw [Nat.mul_one]; exact hlt)
          rw [this]
          unfold strsV
          rw [List.getElem?_map, List.getElem?_eq_getElem hkr, hs]
          rfl
        have hsk : s ∈ F.ks := HKP.out.mem_iff.1 (by rw [← hs]; exact List.getElem_mem hkr)
        have hsz := HKF.out.sz s hsk
        have h1 := (HKF.out.iff s).1 hsk
        obtain ⟨⟨cc, at_⟩, hv2⟩ := Option.isSome_iff_exists.1 h1
        have hMP : MapS wo 9 m N (rfF F) := hS.nth 3 rfl
        have hbG : Blk wo g 118 #[.map (some m), .bool F.st, .int .i64 F.at0] := hS.nth 2 rfl
        have cg := hbG.cell 0
        obtain ⟨hb', hhb⟩ : ∃ hb', hb' = hwB cc := ⟨_, rfl⟩
        have hlk : (Instr.lookup 116 (.map (some m)) (.string s) false).run Tryz.prog wo = .ok (.agg #[.string hb', .int .i64 at_]) wo := by
          have := hMP.look (t := 116) (e := 124) Tryz.underlying9 Tryz.underlying116 (zero_ent wo) (s := s) (by unfold maxLen; omega)
          rw [show rfF F s = some (entV (cc, at_)) by unfold rfF; rw [hv2]; rfl] at this
          rw [hhb]
          exact this
        have HT : Hid (((kb.take (k + 1)).map (entP F)).flatMap prC = ((kb.take k).map (entP F)).flatMap prC ++ [.string s, .string hb']) := Lib.hid (by
          rw [List.take_succ_eq_append_getElem hkr, List.map_append, List.flatMap_append, hs]
          have e1 : hwP F s = some cc := by unfold hwP; rw [hv2]; rfl
          simp [prC, entP, e1, hhb])
        have hk0 : (0 : Int) ≤ (k : Int) := by omega
        have hk1 : (k : Int) < (q : Int) := by omega
        have HO : wo.ownsRow w.heap.size 75 2 (.slice A' k c') k (((kb.take k).map (entP F)).flatMap prC) := hS.head
        have hz2 := hS.size
        clear hO4 hsk h1 hv2 hMP hbG hhb hs hc4
        go_wp2_with fail
        refine put_eqR (V' := .string hb') rfl ?_
        go_wp2_with (first
          | (at_builtin; refine wpList_append_own_at _ rfl _ _ 45 rfl w.heap.size 75 i0 (.agg #[.string ⟨#[]⟩, .string ⟨#[]⟩]) 2 32 Tryz.underlying45 hi hi0 hi1 hi2 rfl (by decide) _ _ _ rfl (HO.alloc _) ⟨wo.heap.size, 0, none⟩ 1 1 [.string s, .string hb'] rfl rfl (World.news_of_block (heap_alloc_new _ _)) (one2e rfl rfl) (by unfold maxLen; omega) (by omega) (by simp; omega) ?_; intro v' w8 hown' hgrow _ hblk; have hS8 := (hS.alloc _).append hown' hgrow hblk; obtain ⟨A8, c8, hv8⟩ := own_form hown'; subst hv8; clear hown' hgrow hblk HO))
        go_roundw
        case rel => exact ⟨k + 1, A8, c8, by omega, by go_num, rfl, by rw [HT.out]; exact hS8⟩
        case measure => simp [intOf]; omega
      · obtain rfl : k = q := by omega
        have e9 : kb.take k = kb := List.take_of_length_le (by rw [HQ.out]; exact Nat.le_refl _)
        rw [e9] at hS
        have hO := hS.head
        have hfin := hS.below
        have HEN := Lib.hid (entP_ok HKF.out HKP.out HKU.out)
        have HLE : Hid ((kb.map (entP F)).length = k) := Lib.hid (by rw [List.length_map]; exact HQ.out)
        clear hS e9
        go_wp2_with fail
        go_ret2
        exact ⟨_, kb.map (entP F), rfl, fun _ => by rw [HRF.out]; exact ⟨HEN.out, by rw [List.length_map]; exact HKP.out.length_eq⟩, fun h => absurd rfl h, by rw [HLE.out]; exact hO, hfin⟩
  · have hx : (E != 0) = true := by rw [← hE]; simpa using h0
    have hx0 : E ≠ 0 := by rw [← hE]; exact h0
    have HX0 := Lib.hid hx0
    clear hE hr hz h0 hx0
    go_enter Tryz.func15, Tryz.ntmps15
    go_wp2_with fail
    refine HF.out.mono ?_
    rintro e w1 ⟨rfl, hb1⟩
    go_wp2_with fail
    go_ret2
    exact ⟨_, [], rfl, fun h => absurd h HX0.out, fun _ => rfl, World.ownsRow_nil _ _ _ _, hb1⟩
end Go.Proofs.YthbcogekfdllmaaGreatDoor
