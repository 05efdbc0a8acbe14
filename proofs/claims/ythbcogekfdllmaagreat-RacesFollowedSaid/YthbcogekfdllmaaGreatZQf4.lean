/-
  splitref2.OverAt and EntrantsOf by contracts.
-/
import Derived.Test.YthbcogekfdllmaaGreatZQf3
import Derived.Test.YthbcogekfdllmaaGreatZQfT
import Derived.Test.YthbcogekfdllmaaGreatZRf6
import Derived.Test.YthbcogekfdllmaaGreatZStab
import Derived.Test.YthbcogekfdllmaaGreatZSortRs
import Derived.Test.YthbcogekfdllmaaGreatZBid3
namespace Go.Proofs.YthbcogekfdllmaaGreat
open Go Go.RowKit
attribute [local go_sem ↓] Go.wp_at_zero Go.wp_at_succ

def nobQ (G : QF) : Bool := G.ks.all (fun s => decide (G.hw s ≠ some 2))
def ovQ (l : List Stp) (u : Int) : Bool := nobQ (rfolQ l u).1 && decide (0 ≤ (rfolQ l u).1.at0)
set_option maxRecDepth 100000 in
set_option maxHeartbeats 2000000 in
theorem overQ_calls (b : Nat) (A : Option Addr) (n c : Nat) (l : List Stp) (u : Int) (w : World) (hr : Rd w b 3 (.slice A n c) n (l.flatMap stC)) (hok : StOk l) (hn : n ≤ 1000) :
    Calls Tryz.prog 19 #[.slice A n c, .int .i64 u] w (BRet (.bool (ovQ l u)) w) := by
  have HFO := Lib.hid (contestAt_calls b A n c l u w hr hok hn)
  obtain ⟨X, hX⟩ : ∃ X, ovQ l u = X := ⟨_, rfl⟩
  rw [hX]
  obtain ⟨r, hr0⟩ : ∃ r, rfolQ l u = r := ⟨_, rfl⟩
  rw [hr0] at HFO
  have HXT : Hid (nobQ r.1 = true → X = decide (0 ≤ r.1.at0)) := Lib.hid (fun h => by rw [← hX]; unfold ovQ; rw [hr0, h, Bool.true_and])
  have HXF : Hid (nobQ r.1 = false → X = false) := Lib.hid (fun h => by rw [← hX]; unfold ovQ; rw [hr0, h, Bool.false_and])
  clear hr hok hX hr0
  go_enter Tryz.func19, Tryz.ntmps19
  go_wp2_with fail
  refine HFO.out.mono ?_
  rintro e w2 ⟨g, m, N, m2, N2, A1, c1, rfl, hK, hN, hN2, hb, hS0⟩
  have HKG := Lib.hid hK
  obtain ⟨G, bad⟩ := r
  obtain ⟨k0, bad⟩ := bad
  obtain ⟨a0, ha0⟩ : ∃ a0, G.at0 = a0 := ⟨_, rfl⟩
  simp only at hS0 HXT HXF HKG ha0
  unfold conL at hS0
  rw [ha0] at hS0 HXT
  have hS : Sq w w2 (rBlk g 91 #[.int .i64 a0, .map (some m), .map (some m2)] :: rMap 9 m N (qfH G) :: []) := (hS0.drop 3 rfl rfl).drop 2 rfl rfl
  have cg : w2.cell? ⟨g, 1, none⟩ = some (.map (some m)) := (hS.nth 0 rfl : Blk w2 g _ _).cell 1
  have hS1 := hS.front 1 rfl rfl
  have HMP : MapS w2 9 m N (qfH G) := hS1.head
  clear hS0 hS hK ha0
  go_wp2_with (first
    | (at_range; refine wpList_range_map _ rfl _ 88 rfl 9 9 Tryz.underlying9 Tryz.underlying88 m N (qfH G) rfl HMP ?_; intro w3 cnt0 hr0 hg0 hs0))
  go_frame
  have hS3 := hS1.rngStart hr0 hg0
  obtain ⟨r, hr⟩ : ∃ r, r = w2.heap.size := ⟨_, rfl⟩
  rw [← hr] at hS3 ⊢
  clear hS1 hr0 hg0 hs0 HMP hr cg
  go_loopw [8] (fun _ wq => ∃ (seen : List ByteArray) (cnt : Nat), Hid (∀ s ∈ seen, s ∈ G.ks ∧ G.hw s ≠ some 2) ∧ Sq w wq (rRng 9 m r N (qfH G) seen cnt :: rBlk g 91 #[.int .i64 a0, .map (some m), .map (some m2)] :: [])) (fun _ wq => wq.rangeLeft m r)
  case atStart => exact ⟨[], cnt0, Lib.hid (fun s hs => by cases hs), hS3⟩
  case round =>
    clear hS3
    obtain ⟨seen, cnt, HM, hS⟩ := hrel
    have hrg : RngS wr 9 m r N (qfH G) seen cnt := hS.head
    go_wp2_with (first
      | (at_next; refine wpList_next_map _ rfl _ rfl 9 Tryz.underlying9 m r N (qfH G) seen cnt rfl hrg ?_ ?_))
    · intro hdone
      have hp := HKG.out.keys.seen hrg.nodup (fun s hs => (HM.out s hs).1) hdone
      have hall : nobQ G = true := by
        unfold nobQ
        rw [List.all_eq_true]
        intro s hs
        exact decide_eq_true (HM.out s (hp.mem_iff.2 hs)).2
      have HX := Lib.hid (HXT.out hall)
      have cg : wr.cell? ⟨g, 0, none⟩ = some (.int .i64 a0) := (hS.nth 1 rfl : Blk wr g _ _).cell 0
      have hfin := hS.below
      clear hS hrg hdone hp hall
      go_wp2_with fail
      go_ret
      exact ⟨by rw [HX.out]; rfl, hfin⟩
    · intro s v w4 cnt2 hnew hsl hf hrg2 hlt2 hg2 hs2 hen
      obtain ⟨c, he, rfl⟩ := Option.map_eq_some_iff.1 hf
      have hsk : s ∈ G.ks := (HKG.out.iff s).2 (by rw [he]; rfl)
      have hc4 : c ≤ 4 := HKG.out.c4 s c he
      have hS2 := hS.rngStep hrg2 hg2
      have hl2 : wr.rangeLeft m r = cnt := hrg.left
      obtain ⟨hb, hhb⟩ : ∃ hb, hb = hwB c := ⟨_, rfl⟩
      have hBB := litB hb [114, 97, 99, 101] (hwB 2) rfl
      have hen2 : (Instr.entry (.pointer (some ⟨r, 0, none⟩))).run Tryz.prog w4 = .ok (.tuple #[.string s, .string hb]) w4 := by rw [hhb]; exact hen
      by_cases h1 : c = 2
      · have hB1 : (hb.toList == [114, 97, 99, 101]) = true := hBB.trans (decide_eq_true (by rw [hhb, h1]))
        have hF : nobQ G = false := by
          unfold nobQ
          rw [List.all_eq_false]
          exact ⟨s, hsk, by rw [he, h1]; simp⟩
        have HX := Lib.hid (HXF.out hF)
        have hfin := hS2.below
        clear hS hrg hrg2 hg2 hs2 hf hen hnew HM hhb hBB he hS2 h1 hF
        go_wp2_with fail
        go_ret
        exact ⟨by rw [HX.out]; rfl, hfin⟩
      · have hB1 : (hb.toList == [114, 97, 99, 101]) = false := hBB.trans (decide_eq_false (fun h => h1 (hwB_inj hc4 (by omega) (hhb ▸ h))))
        have HM2 : Hid (∀ x ∈ seen ++ [s], x ∈ G.ks ∧ G.hw x ≠ some 2) := Lib.hid (fun x hx => by
          rcases List.mem_append.1 hx with hx | hx
          · exact HM.out x hx
          · simp at hx; subst hx; exact ⟨hsk, by rw [he]; intro h; injection h with h; exact h1 h⟩)
        clear hS hrg hg2 hs2 hf hen hnew HM hhb hBB he h1
        go_wp2_with fail
        go_roundw
        case rel => exact ⟨seen ++ [s], cnt2, HM2, hS2⟩
        case measure => rw [hrg2.left, hl2]; exact hlt2

/-- pairs in order of their names -/
def cfP (x y : Pr) : Int := cmpS x.1 y.1
instance : Inhabited {_x : Pr // True} := ⟨⟨(⟨#[]⟩, ⟨#[]⟩), trivial⟩⟩
theorem prC_oneE : ∀ x : Pr, ∀ v ∈ prC x, v.oneCell' = true := by
  intro x v hv
  simp only [prC, List.mem_cons, List.not_mem_nil, or_false] at hv
  rcases hv with rfl | rfl <;> rfl
set_option maxRecDepth 100000 in
theorem nameC_calls (x y : Pr) (w : World) : Calls Tryz.prog 46 (#[.agg (prC x).toArray, .agg (prC y).toArray] ++ #[]) w (GrwT (.int .i64 (cfP x y)) w) := by
  obtain ⟨xn, xv⟩ := x
  obtain ⟨yn, yv⟩ := y
  have HG := Lib.hid (grw_two w (.cells #[.string xn, .string xv] 54) (.cells #[.string yn, .string yv] 54) 0)
  show Calls Tryz.prog 46 #[.agg #[.string xn, .string xv], .agg #[.string yn, .string yv]] w (GrwT (.int .i64 (cmpS xn yn)) w)
  go_enter Tryz.func46, Tryz.ntmps46
  go_wp2_with fail
  refine (strCmp_calls _ _ _).mono ?_
  rintro e w1 ⟨rfl, rfl⟩
  go_wp2_with fail
  go_ret
  exact ⟨rfl, HG.out⟩
theorem sortPrE_calls (w0 w : World) (g n c : Nat) (xs : List Pr) (l : List Rsc) (hn : n ≤ 100000) (hS : Sq w0 w (rOwn w0.heap.size 54 2 (.slice (some ⟨g, 0, none⟩) n c) n (xs.flatMap prC) :: l)) :
    Calls Tryz.prog 45 #[.slice (some ⟨g, 0, none⟩) n c, .func (.func 46) #[] #[]] w (SrtT w0 54 2 prC g n c xs cfP l) :=
  srtT_calls (P := fun _ => True) (k := 2) Tryz.sortPr prC_len (by decide) prC_oneE Tryz.isAgg54 Tryz.sizeOf54 cfP (ord3_str (fun x : Pr => x.1)) 46 #[] (enters_of Tryz.func46 (by kernel_rfl) rfl) w0 w g n c xs l (fun _ _ => trivial) hn
    (fun x y W _ _ _ => nameC_calls x y W) hS
theorem sortPrE_none (w : World) (A : Option Addr) (c : Nat) :
    Calls Tryz.prog 45 #[.slice A 0 c, .func (.func 46) #[] #[]] w fun e w' => e = .returned (.tuple #[]) ∧ w' = w :=
  AnyF.slices_SortFunc_none Tryz.sortPr A c _ w
def entQ (G : QF) (s : ByteArray) : Pr := (s, hwB ((G.hw s).getD 0))
theorem entQ_ok {G : QF} (hK : KQ G) {seen : List ByteArray} (hp : seen.Perm G.ks) {ys : List Pr} (hy : ys.Perm (seen.map (entQ G))) (hu : ys.Pairwise (fun a b => 0 ≤ cfP b a)) : EntR G.hw ys := by
  have hnd : (ys.map (·.1)).Nodup := by
    have h1 : (ys.map (·.1)).Perm seen := by
      have := hy.map (·.1)
      rw [List.map_map] at this
      have e : ((fun p : Pr => p.1) ∘ entQ G) = id := by funext s; rfl
      rw [e, List.map_id] at this
      exact this
    exact h1.nodup_iff.2 (hp.nodup_iff.2 hK.nd)
  unfold List.Nodup at hnd
  rw [List.pairwise_map] at hnd
  refine ⟨List.Pairwise.imp₂ (fun x y h1 h2 => ?_) hu hnd, fun p => ?_⟩
  · have hn := cmpS_neg x.1 y.1
    have h0 : cmpS x.1 y.1 ≠ 0 := fun h => h2 (cmpS_zero h)
    have h1 : 0 ≤ cmpS y.1 x.1 := h1
    omega
  · rw [hy.mem_iff, List.mem_map]
    constructor
    · rintro ⟨s, hs, rfl⟩
      obtain ⟨c, hc⟩ := Option.isSome_iff_exists.1 ((hK.iff s).1 (hp.mem_iff.1 hs))
      exact ⟨c, hc, by unfold entQ; rw [hc]; rfl⟩
    · rintro ⟨c, hc, h2⟩
      refine ⟨p.1, hp.mem_iff.2 ((hK.iff _).2 (by rw [hc]; rfl)), ?_⟩
      unfold entQ
      rw [hc]
      exact Prod.ext rfl h2.symm
def EnqS (l : List Stp) (u : Int) (w : World) (e : Ending) (w' : World) : Prop :=
  ∃ (v : Value) (ys : List Pr), e = .returned v ∧ EntR (rfolQ l u).1.hw ys ∧ w'.ownsRow w.heap.size 54 2 v ys.length (ys.flatMap prC) ∧ Below w.heap.size w w'
set_option maxRecDepth 100000 in
set_option maxHeartbeats 2000000 in
theorem entrantsQ_calls (b : Nat) (A : Option Addr) (n c : Nat) (l : List Stp) (u : Int) (w : World) (hr : Rd w b 3 (.slice A n c) n (l.flatMap stC)) (hok : StOk l) (hn : n ≤ 1000) :
    Calls Tryz.prog 18 #[.slice A n c, .int .i64 u] w (EnqS l u w) := by
  have HFO := Lib.hid (contestAt_calls b A n c l u w hr hok hn)
  obtain ⟨i0, hi, hi0, hi1, hi2⟩ := info_parts info_prE
  obtain ⟨r, hr0⟩ : ∃ r, rfolQ l u = r := ⟨_, rfl⟩
  rw [hr0] at HFO
  have HRF : Hid (rfolQ l u = r) := Lib.hid hr0
  clear hr hok hr0
  go_enter Tryz.func18, Tryz.ntmps18
  go_wp2_with fail
  refine HFO.out.mono ?_
  rintro e w2 ⟨g, m, N, m2, N2, A1, c1, rfl, hK, hN, hN2, hb, hS0⟩
  have HKG := Lib.hid hK
  obtain ⟨G, bad⟩ := r
  obtain ⟨k0, bad⟩ := bad
  simp only at hS0 HKG
  have hSx : Sq w w2 (rMap 9 m N (qfH G) :: []) := (((hS0.drop 3 rfl rfl).drop 2 rfl rfl).drop 0 rfl rfl)
  have cg : w2.cell? ⟨g, 1, none⟩ = some (.map (some m)) := (hS0.nth 0 rfl : Blk w2 g _ _).cell 1
  have HMP : MapS w2 9 m N (qfH G) := hSx.head
  have HKN := Lib.hid ((MapS.size_eq Tryz.underlying9 HMP HKG.out.keys).1)
  clear hS0 hK
  go_wp2_with (first
    | (at_range; refine wpList_range_map _ rfl _ 88 rfl 9 9 Tryz.underlying9 Tryz.underlying88 m N (qfH G) rfl HMP ?_; intro w3 cnt0 hr0 hg0 hs0))
  go_frame
  have hS3 := (hSx.rngStart hr0 hg0).nil w.heap.size 54 2
  obtain ⟨r, hr⟩ : ∃ r, r = w2.heap.size := ⟨_, rfl⟩
  rw [← hr] at hS3 ⊢
  clear hSx hr0 hg0 hs0 HMP hr cg
  go_loopw [7] (fun v wq => ∃ (A' : Option Addr) (c' : Nat) (seen : List ByteArray) (cnt : Nat), v = .slice A' seen.length c' ∧ Hid (∀ s ∈ seen, s ∈ G.ks) ∧ Sq w wq (rOwn w.heap.size 54 2 (.slice A' seen.length c') seen.length ((seen.map (entQ G)).flatMap prC) :: rRng 9 m r N (qfH G) seen cnt :: [])) (fun _ wq => wq.rangeLeft m r)
  case atStart => exact ⟨none, 0, [], cnt0, rfl, Lib.hid (fun s hs => by cases hs), hS3⟩
  case round =>
    clear hS3
    obtain ⟨A', c', seen, cnt, rfl, HM, hS⟩ := hrel
    have hrg : RngS wr 9 m r N (qfH G) seen cnt := hS.nth 1 rfl
    have hlen : seen.length ≤ G.ks.length := seen_leR seen G.ks hrg.nodup HM.out
    have hln : seen.length ≤ N := Nat.le_trans hlen HKN.out
    obtain ⟨q, hq⟩ : ∃ q, q = seen.length := ⟨_, rfl⟩
    have HQ := Lib.hid hq
    rw [← hq] at hS hln ⊢
    clear hq hlen
    go_wp2_with (first
      | (at_next; refine wpList_next_map _ rfl _ rfl 9 Tryz.underlying9 m r N (qfH G) seen cnt rfl hrg ?_ ?_))
    · intro hdone
      have HP := Lib.hid (HKG.out.keys.seen hrg.nodup HM.out hdone)
      have hS1 : Sq w wr (rOwn w.heap.size 54 2 (.slice A' q c') q ((seen.map (entQ G)).flatMap prC) :: []) := hS.drop 1 rfl rfl
      clear hS hrg hdone
      by_cases h0 : q = 0
      · subst h0
        have hs0 : seen = [] := List.length_eq_zero_iff.1 HQ.out.symm
        have HS0 := Lib.hid hs0
        have HSO := Lib.hid (fun W => sortPrE_none W A' c')
        have hfin := hS1.below
        have hO := hS1.head
        have HO := Lib.hid hO
        clear hs0 hO hS1
        go_wp2_with (first | (go_at_call 45; refine (HSO.out _).mono ?_; rintro e w5 ⟨rfl, rfl⟩))
        go_ret
        refine ⟨_, [], rfl, ?_, ?_, hfin⟩
        · rw [HRF.out]
          exact entQ_ok HKG.out HP.out (by rw [HS0.out]; exact List.Perm.refl _) List.Pairwise.nil
        · have h1 : World.ownsRow _ _ _ _ _ _ _ := HO.out
          rw [HS0.out] at h1
          exact h1
      · obtain ⟨g5, cap, hv, _⟩ := World.ownsRow.form (show wr.ownsRow w.heap.size 54 2 (.slice A' q c') q _ from hS1.head) (by omega)
        injection hv with hA _ hc
        subst hA
        have HSO := Lib.hid (sortPrE_calls w wr g5 q c' (seen.map (entQ G)) [] (by omega) hS1)
        clear hS1 hc
        go_wp2_with (first | (go_at_call 45; refine HSO.out.mono ?_; rintro e w5 ⟨rfl, ys, hy, hu, hS5⟩))
        have HYL : Hid (ys.length = q) := Lib.hid (by rw [hy.length_eq, List.length_map, HQ.out])
        have HEN := Lib.hid (entQ_ok HKG.out HP.out hy hu)
        have HO := hS5.head
        have hfin := hS5.below
        clear hy hu hS5
        go_ret
        refine ⟨_, ys, rfl, ?_, by rw [HYL.out]; exact HO, hfin⟩
        rw [HRF.out]
        exact HEN.out
    · intro s v w4 cnt2 hnew hsl hf hrg2 hlt2 hg2 hs2 hen
      obtain ⟨c, he, rfl⟩ := Option.map_eq_some_iff.1 hf
      have hsk : s ∈ G.ks := (HKG.out.iff s).2 (by rw [he]; rfl)
      have hS2 := ((hS.front 1 rfl rfl).rngStep hrg2 hg2).front 1 rfl rfl
      have hl2 : wr.rangeLeft m r = cnt := hrg.left
      obtain ⟨hb, hhb⟩ : ∃ hb, hb = hwB c := ⟨_, rfl⟩
      have hen2 : (Instr.entry (.pointer (some ⟨r, 0, none⟩))).run Tryz.prog w4 = .ok (.tuple #[.string s, .string hb]) w4 := by rw [hhb]; exact hen
      have HM2 : Hid (∀ x ∈ seen ++ [s], x ∈ G.ks) := Lib.hid (fun x hx => by
        rcases List.mem_append.1 hx with hx | hx
        · exact HM.out x hx
        · simp at hx; subst hx; exact hsk)
      have HT : Hid (((seen ++ [s]).map (entQ G)).flatMap prC = (seen.map (entQ G)).flatMap prC ++ [.string s, .string hb]) := Lib.hid (by
        rw [List.map_append, List.flatMap_append]
        simp [prC, entQ, he, hhb])
      have HO : w4.ownsRow w.heap.size 54 2 (.slice A' q c') q ((seen.map (entQ G)).flatMap prC) := hS2.head
      have hz2 := hS2.size
      clear hS hrg hrg2 hg2 hs2 hf hen hnew HM hhb he hsk
      go_wp2_with (first
        | (at_builtin; refine wpList_append_own_at _ rfl _ _ 33 rfl w.heap.size 54 i0 (.agg #[.string ⟨#[]⟩, .string ⟨#[]⟩]) 2 32 Tryz.underlying33 hi hi0 hi1 hi2 rfl (by decide) _ _ _ rfl (HO.alloc _) ⟨w4.heap.size, 0, none⟩ 1 1 [.string s, .string hb] rfl rfl (World.news_of_block (heap_alloc_new _ _)) (one2e rfl rfl) (by unfold maxLen; omega) (by omega) (by simp; omega) ?_; intro v' w8 hown' hgrow _ hblk; have hS8 := (hS2.alloc _).append hown' hgrow hblk; obtain ⟨A8, c8, hv8⟩ := own_form hown'; subst hv8; clear hown' hgrow hblk HO))
      have E1 : Hid ((seen ++ [s]).length = q + 1) := Lib.hid (by rw [List.length_append, HQ.out]; rfl)
      have hr8 : RngS w8 9 m r N (qfH G) (seen ++ [s]) cnt2 := hS8.nth 1 rfl
      go_roundw
      case rel => exact ⟨A8, c8, seen ++ [s], cnt2, by rw [E1.out], HM2, by rw [HT.out, E1.out]; exact hS8⟩
      case measure => rw [hr8.left, hl2]; exact hlt2
end Go.Proofs.YthbcogekfdllmaaGreat
