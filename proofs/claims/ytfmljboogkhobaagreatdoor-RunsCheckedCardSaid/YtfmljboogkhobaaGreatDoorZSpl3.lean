/-
  rule.Split and the reference's SplitOf by contracts. (Printed by gen_spl3.py.)
-/
import Derived.Test.YtfmljboogkhobaaGreatDoorZRng
import Derived.Test.YtfmljboogkhobaaGreatDoorZSpl2
import Derived.Test.YtfmljboogkhobaaGreatDoorZRunPure
import Derived.Test.YtfmljboogkhobaaGreatDoorZRun1
import Derived.Test.YtfmljboogkhobaaGreatDoorZTxt1
import Derived.Deep.DeepCutAuto
import Derived.Deep.RegionHeld3
import Derived.Lib.ItoaLen
namespace Go.Proofs.YtfmljboogkhobaaGreatDoor
open Go Go.RowKit
attribute [local go_sem ↓] Go.wp_at_zero Go.wp_at_succ

theorem zero_intC (w : World) : (zeroValue 3).run Tryz.prog w = .ok (.int .i64 0) w := by kernel_rfl
theorem c_look {W : World} {g N : Nat} {vs : List ByteArray} (h : MapS W 9 g N (mapC vs)) {s : ByteArray} (hs : s.size ≤ 100000) :
    (Instr.lookup 106 (.map (some g)) (.string s) false).run Tryz.prog W = .ok (.int .i64 (occ s vs : Int)) W := by
  have := h.look Tryz.underlying9 Tryz.underlying106 (zero_intC W) (s := s) (by unfold maxLen; omega)
  rw [mapC_get] at this
  exact this
theorem c_put {w W : World} {l : List Rsc} {g N : Nat} {vs : List ByteArray} (hS : Sq w W (rMap 9 g N (mapC vs) :: l)) (hN : N ≤ 200000) {s : ByteArray} (hs : s.size ≤ 100000) :
    ∃ W', (Instr.mapUpdate 106 (.map (some g)) (.string s) (.int .i64 ((occ s vs : Int) + 1))).run Tryz.prog W = .ok () W' ∧ Sq w W' (rMap 9 g (N + 1) (mapC (vs ++ [s])) :: l) := by
  have h : MapS W 9 g N (mapC vs) := hS.head
  obtain ⟨W', h1, h2, h3⟩ := h.update Tryz.underlying9 Tryz.underlying106 (by unfold maxLen; omega) (s := s) (by unfold maxLen; omega) (.int .i64 ((occ s vs : Int) + 1))
  rw [mapC_upd] at h2
  exact ⟨W', h1, hS.mapSet h2 h3⟩
/-- no more keys than values -/
theorem seen_le : ∀ (seen vs : List ByteArray), seen.Nodup → (∀ s ∈ seen, s ∈ vs) → seen.length ≤ vs.length
  | [], _, _, _ => Nat.zero_le _
  | s :: t, vs, hn, hm => by
    rw [List.nodup_cons] at hn
    have hs := hm s (List.mem_cons_self ..)
    have ih := seen_le t (vs.filter (fun x => decide (x ≠ s))) hn.2 (fun x hx => List.mem_filter.2 ⟨hm x (List.mem_cons_of_mem _ hx), by
      rw [decide_eq_true_eq]
      intro e
      subst e
      exact hn.1 hx⟩)
    have hlt := (List.length_filter_lt_length_iff_exists (p := fun x => decide (x ≠ s)) (l := vs)).2 ⟨s, hs, by simp⟩
    rw [List.length_cons]
    omega
theorem out_snoc (vs seen : List ByteArray) (s : ByteArray) : ((seen ++ [s]).map (cntP vs)).flatMap prC = (seen.map (cntP vs)).flatMap prC ++ [.string s, .string ⟨(Lib.itoa (occ s vs : Int)).toArray⟩] := by
  rw [List.map_append, List.flatMap_append]; simp [prC, cntP]
/-- what a split answers: E its error -/
def SpoR (vs : List ByteArray) (E : Int) (w w' : World) (v : Value) : Prop :=
  ∃ ys : List Pr, (E = 0 → SplitP vs ys) ∧ (E ≠ 0 → ys = []) ∧ w'.ownsRow w.heap.size 58 2 v ys.length (ys.flatMap prC) ∧ Below w.heap.size w w'
def splE (xs : List Rn) (f : ByteArray) : Int := if runsF xs = 0 then if nameB f = true then 0 else 5 else runsF xs
def valsV (f : ByteArray) (xs : List Rn) : List ByteArray := xs.map (fun x => fieldV f x.fs)
theorem valsV_take {f : ByteArray} {xs : List Rn} {k : Nat} (hk : k < xs.length) : valsV f (xs.take (k + 1)) = valsV f (xs.take k) ++ [fieldV f xs[k].fs] := by
  unfold valsV
  rw [List.take_succ_eq_append_getElem hk, List.map_append]; rfl
theorem fieldV_le {f : ByteArray} : ∀ {fs : List Pr}, (∀ p ∈ fs, p.2.size ≤ 1000) → (fieldV f fs).size ≤ 1000
  | [], _ => Nat.zero_le _
  | p :: ps, h => by
    rw [fieldV]
    split
    · exact h p (List.mem_cons_self ..)
    · exact fieldV_le (fun q hq => h q (List.mem_cons_of_mem _ hq))

set_option maxRecDepth 100000 in
set_option maxHeartbeats 4000000 in
theorem splitRun_calls (b : Nat) (A : Option Addr) (n c : Nat) (xs : List Rn) (f : ByteArray) (w : World) (hr : Rns w b A n c xs) (hb : b < w.heap.size) (ht : Tab w) (hn : n ≤ 1000) (hf : f.size ≤ 1000) (hz : RnZs xs) :
    Calls Tryz.prog 20 #[.slice A n c, .string f] w (fun e w' => ∃ v, e = .returned (.tuple #[v, .int .i64 (splE xs f)]) ∧ SpoR (valsV f xs) (splE xs f) w w' v) := by
  have HCK := Lib.hid (checkRuns_calls b A n c xs w hr hb)
  obtain ⟨i0, hi, hi0, hi1, hi2⟩ := info_parts info_prR
  by_cases hF : runsF xs = 0
  · rw [hF] at HCK
    have HNM := Lib.hid (fun W => isName_calls f W (by omega))
    cases hB : nameB f
    · have hE : splE xs f = 5 := by unfold splE; rw [if_pos hF, hB]; rfl
      rw [hE]
      rw [hB] at HNM
      clear hF hB hE hr hz
      go_enter Tryz.func20, Tryz.ntmps20
      go_wp2_with (first
        | (go_at_call 28; refine HCK.out.mono ?_; rintro e w1 ⟨rfl, hb1⟩)
        | (go_at_call 70; refine (HNM.out _).mono ?_; rintro e w2 ⟨rfl, hb2⟩))
      go_ret2
      exact ⟨_, rfl, [], (fun h => by cases h), (fun _ => rfl), World.ownsRow_nil _ _ _ _, below_call hb1 hb2 (Nat.le_refl _)⟩
    · have hE : splE xs f = 0 := by unfold splE; rw [if_pos hF, hB]; rfl
      rw [hE]
      rw [hB] at HNM
      obtain ⟨hl, hnc, hcm, hcells⟩ := hr.rd.cells rnC_len (by omega)
      have HL := Lib.hid hl
      have HCL := Lib.hid hcells
      have HRD := Lib.hid hr.ok
      have HZ := Lib.hid hz
      obtain ⟨vs, hvs⟩ : ∃ vs, vs = valsV f xs := ⟨_, rfl⟩
      have hvl : vs.length = n := by rw [hvs]; unfold valsV; rw [List.length_map, hl]
      have HVS := Lib.hid hvs
      have HVZ : Hid (∀ s ∈ vs, s.size ≤ maxLen) := Lib.hid (fun s hs => by
        rw [hvs] at hs
        obtain ⟨x, hx, rfl⟩ := List.mem_map.1 hs
        have := fieldV_le (f := f) (fun p hp => ((hz x hx).hf p hp).2)
        unfold maxLen; omega)
      rw [← hvs]
      have hmm := @run_makeMap Tryz.prog
      clear hF hB hE hr hz hcells hl hvs
      go_enter Tryz.func20, Tryz.ntmps20
      go_wp2_with (first
        | (go_at_call 28; refine HCK.out.mono ?_; rintro e w1 ⟨rfl, hb1⟩)
        | (go_at_call 70; refine (HNM.out _).mono ?_; rintro e w2 ⟨rfl, hb2⟩; have hS0 := (((Sq.start w).callB hb1).callB hb2).addMap 9))
      obtain ⟨mb, hmb⟩ : ∃ mb, mb = w2.heap.size := ⟨_, rfl⟩
      rw [← hmb] at hS0 ⊢
      clear hmm hb1 hb2 hmb
      go_loopw [25] (fun i wr => ∃ k : Nat, k ≤ n ∧ i = .int .i64 k ∧ Sq w wr [rMap 9 mb k (mapC (valsV f (xs.take k)))]) (fun i _ => n - (intOf i).toNat)
      case atStart => exact ⟨0, Nat.zero_le _, rfl, hS0⟩
      case round =>
        clear hS0
        obtain ⟨k, hk, rfl, hS⟩ := hrel
        by_cases hlt : k < n
        · have hkr : k < xs.length := by rw [HL.out]; exact hlt
          obtain ⟨g, o, hA, _, hcs⟩ := HCL.out (by omega)
          subst hA
          have c4 := below_cell hS.below (hcs k hkr 4 (by omega))
          have hrd := (HRD.out _ (List.getElem_mem hkr)).rd.below hS.below
          have hfz := fieldV_le (f := f) (fun p hp => ((HZ.out _ (List.getElem_mem hkr)).hf p hp).2)
          have HTK := Lib.hid (valsV_take (f := f) hkr)
          have HFD := Lib.hid (field_calls b g (o + k * 5) xs[k].fa xs[k].fs.length xs[k].fc xs[k].fs f wr c4 hrd)
          obtain ⟨s, hs⟩ : ∃ s, s = fieldV f xs[k].fs := ⟨_, rfl⟩
          obtain ⟨fh, hfh⟩ : ∃ fh, fh = fieldH f xs[k].fs := ⟨_, rfl⟩
          rw [← hs] at hfz HTK
          have HFE : Hid (Calls Tryz.prog 71 #[.pointer (some ⟨g, o + k * 5, none⟩), .string f] wr (BRet (.tuple #[.string s, .bool fh]) wr)) := by rw [hs, hfh]; exact HFD
          have hk0 : (0 : Int) ≤ (k : Int) := by omega
          have hk1 : (k : Int) < (n : Int) := by omega
          clear hs hfh HFD hcs c4 hrd
          go_wp2_with (first
            | (go_at_call 71; refine HFE.out.mono ?_; rintro e w3 ⟨rfl, hb3⟩; have hS3 := hS.callB hb3; have hlk := c_look (show MapS w3 9 mb k (mapC (valsV f (xs.take k))) from hS3.head) (s := s) (by omega); have hput := c_put hS3 (by omega) (s := s) (by omega); have hoc := occ_le s (valsV f (xs.take k)); have hvk : (valsV f (xs.take k)).length ≤ n := (by unfold valsV; rw [List.length_map, List.length_take]; omega); obtain ⟨q, hq⟩ : ∃ q, q = occ s (valsV f (xs.take k)) := ⟨_, rfl⟩; rw [← hq] at hlk hput hoc; clear hq; obtain ⟨w5, hput, hS5⟩ := hput))
          rw [← HTK.out] at hS5
          go_roundw
          case rel => exact ⟨k + 1, by omega, by go_num, hS5⟩
          case measure => simp [intOf]; omega
        · obtain rfl : k = n := by omega
          have e9 : xs.take k = xs := List.take_of_length_le (by rw [HL.out]; exact Nat.le_refl _)
          rw [e9, ← HVS.out] at hS
          have HMP : MapS wr 9 mb k (mapC vs) := hS.head
          have HRET : Hid (∀ v W (ys : List Pr), SplitP vs ys → W.ownsRow w.heap.size 58 2 v ys.length (ys.flatMap prC) → Below w.heap.size w W → ∃ v', Ending.returned (.tuple #[v, .int .i64 0]) = .returned (.tuple #[v', .int .i64 0]) ∧ SpoR vs 0 w W v') :=
            Lib.hid (fun v W ys h1 h2 h3 => ⟨v, rfl, ys, fun _ => h1, fun h => (h rfl).elim, h2, h3⟩)
          clear e9
          go_wp2_with (first
            | (at_range; refine wpList_range_map _ rfl _ 106 rfl 9 3 Tryz.underlying9 Tryz.underlying106 mb k (mapC vs) rfl HMP ?_; intro w0 cnt0 hr0 hg0 hs0))
          go_frame
          have hS0 := (hS.rngStart hr0 hg0).nil w.heap.size 58 2
          obtain ⟨r, hr⟩ : ∃ r, r = wr.heap.size := ⟨_, rfl⟩
          rw [← hr] at hS0 ⊢
          clear hS hr0 hg0 hs0 HMP hr
          go_loopw [11] (fun v wq => ∃ (A : Option Addr) (c : Nat) (seen : List ByteArray) (cnt : Nat), v = .slice A seen.length c ∧ Hid (∀ s ∈ seen, s ∈ vs) ∧ Sq w wq [rOwn w.heap.size 58 2 (.slice A seen.length c) seen.length ((seen.map (cntP vs)).flatMap prC), rRng 9 mb r k (mapC vs) seen cnt]) (fun _ wq => wq.rangeLeft mb r)
          case atStart => exact ⟨none, 0, [], cnt0, rfl, Lib.hid (fun s hs => by cases hs), hS0⟩
          case round =>
            clear hS0
            obtain ⟨A, c, seen, cnt, rfl, HM, hS⟩ := hrel
            have hrg : RngS wr 9 mb r k (mapC vs) seen cnt := hS.nth 1 rfl
            have hlen : seen.length ≤ vs.length := seen_le seen vs hrg.nodup HM.out
            obtain ⟨m, hm⟩ : ∃ m, m = seen.length := ⟨_, rfl⟩
            have HML := Lib.hid hm
            rw [← hm] at hS hlen ⊢
            clear hm
            go_wp2_with (first
              | (at_next; refine wpList_next_map _ rfl _ rfl 9 Tryz.underlying9 mb r k (mapC vs) seen cnt rfl hrg ?_ ?_))
            · intro hdone
              have HPM : Hid (∀ s, s ∈ seen ↔ s ∈ vs) := Lib.hid (fun s => ⟨HM.out s, fun hs => (hdone s (HVZ.out s hs)).1 ((mapC_is vs s).2 hs)⟩)
              have HND := Lib.hid hrg.nodup
              have hS1 : Sq w wr [rPr w.heap.size A m c (seen.map (cntP vs))] := hS.drop 1 rfl rfl
              clear hS hrg hdone
              by_cases hm0 : m = 0
              · subst hm0
                have hs0 : seen = [] := List.length_eq_zero_iff.1 HML.out.symm
                subst hs0
                have HSO := Lib.hid (fun W => sortPr_nil 74 W A c)
                go_wp2_with (first | (go_at_call 73; refine (HSO.out _).mono ?_; rintro e w5 ⟨rfl, rfl⟩))
                go_ret2
                exact HRET.out _ _ [] (SplitP.of (seen := []) HND.out HPM.out (List.Perm.refl _) List.Pairwise.nil) hS1.head hS1.below
              · obtain ⟨g, cap, hA, _, _⟩ := World.ownsRow.form (show wr.ownsRow w.heap.size 58 2 (.slice A m c) m _ from hS1.head) (by omega)
                injection hA with hA _ hc
                subst hA
                subst hc
                have HSO := Lib.hid (sortSp_calls w wr [] g m _ (seen.map (cntP vs)) (by omega) hS1)
                clear hS1
                go_wp2_with (first | (go_at_call 73; refine HSO.out.mono ?_; rintro e w5 ⟨rfl, ys, hp, hu, hS5⟩))
                go_ret2
                have hy : ys.length = m := by rw [hp.length_eq, List.length_map, HML.out]
                exact HRET.out _ _ ys (SplitP.of HND.out HPM.out hp (hu.imp (fun h => Int.not_lt.2 h))) (by rw [hy]; exact hS5.head) hS5.below
            · intro s v w2 cnt2 hnew hsl hf hrg2 hlt2 hg2 hs2 hen
              obtain ⟨hsv, rfl⟩ := mapC_some hf
              have hS2 := ((hS.front 1 rfl rfl).rngStep hrg2 hg2)
              have HIT := Lib.hid (itoa_calls (occ s vs : Int) (by omega) (by have := occ_le s vs; omega) w2 (ht.below hS2.below))
              obtain ⟨tx, htx⟩ : ∃ tx : ByteArray, tx = ⟨(Lib.itoa (occ s vs : Int)).toArray⟩ := ⟨_, rfl⟩
              rw [← htx] at HIT
              have HOS : Hid (((seen ++ [s]).map (cntP vs)).flatMap prC = (seen.map (cntP vs)).flatMap prC ++ [.string s, .string tx]) := by
                rw [htx]; exact Lib.hid (out_snoc vs seen s)
              have HM2 : Hid (∀ x ∈ seen ++ [s], x ∈ vs) := Lib.hid (fun x hx => by
                rcases List.mem_append.1 hx with hx | hx
                · exact HM.out x hx
                · simp at hx; subst hx; exact hsv)
              have hl2 : wr.rangeLeft mb r = cnt := hrg.left
              clear hS hrg hrg2 hg2 hs2 htx hf hnew hsv HM
              go_wp2_with (first
                | (go_at_call 72; refine HIT.out.mono ?_; rintro e w3 ⟨rfl, hb3⟩; have hS3 := (hS2.callB hb3).front 1 rfl rfl; have HO : World.ownsRow _ w.heap.size 58 2 (.slice A m c) m _ := hS3.nth 0 rfl; have hz3 := hS3.size)
                | (at_builtin; refine wpList_append_own_at _ rfl _ _ 41 rfl w.heap.size 58 i0 (.agg #[.string ⟨#[]⟩, .string ⟨#[]⟩]) 2 32 Tryz.underlying41 hi hi0 hi1 hi2 rfl (by decide) _ _ _ rfl (HO.alloc _) ⟨w3.heap.size, 0, none⟩ 1 1 [.string s, .string tx] rfl rfl (World.news_of_block (heap_alloc_new _ _)) (one2r rfl rfl) (by unfold maxLen; omega) (by omega) (by simp; omega) ?_; intro v' w8 hown' hgrow _ hblk; have hS8 := (hS3.alloc _).append hown' hgrow hblk; obtain ⟨A8, c8, hv8⟩ := own_form hown'; subst hv8; clear hown' hgrow hblk HO))
              have e1 : m + 1 = (seen ++ [s]).length := by rw [List.length_append, ← HML.out]; rfl
              have hr8 : RngS w8 9 mb r k (mapC vs) (seen ++ [s]) cnt2 := hS8.nth 1 rfl
              go_roundw
              case rel => exact ⟨A8, c8, seen ++ [s], cnt2, by rw [e1], HM2, by rw [HOS.out, ← e1]; exact hS8⟩
              case measure => rw [hr8.left, hl2]; exact hlt2
  · have hE : splE xs f = runsF xs := by unfold splE; rw [if_neg hF]
    rw [hE]
    obtain ⟨F, hFv⟩ : ∃ F, F = runsF xs := ⟨_, rfl⟩
    rw [← hFv] at HCK hF ⊢
    have hFb : (F != 0) = true := by rw [bne_iff_ne]; exact hF
    clear hFv hE hr hz
    go_enter Tryz.func20, Tryz.ntmps20
    go_wp2_with (first | (go_at_call 28; refine HCK.out.mono ?_; rintro e w1 ⟨rfl, hb1⟩))
    go_ret2
    exact ⟨_, rfl, [], (fun h => (hF h).elim), (fun _ => rfl), World.ownsRow_nil _ _ _ _, hb1⟩

theorem fieldL_snoc (f : ByteArray) (p : Pr) : ∀ (ps : List Pr) (acc : ByteArray), fieldL f acc (ps ++ [p]) = if p.1 = f then p.2 else fieldL f acc ps
  | [], acc => rfl
  | q :: ps, acc => by
    rw [List.cons_append, fieldL, fieldL]
    exact fieldL_snoc f p ps _
theorem fieldL_le {f : ByteArray} : ∀ {fs : List Pr} {acc : ByteArray}, acc.size ≤ 1000 → (∀ p ∈ fs, p.2.size ≤ 1000) → (fieldL f acc fs).size ≤ 1000
  | [], _, h, _ => h
  | p :: ps, acc, h, hz => by
    rw [fieldL]
    refine fieldL_le ?_ (fun q hq => hz q (List.mem_cons_of_mem _ hq))
    split
    · exact hz p (List.mem_cons_self ..)
    · exact h
def valsL (f : ByteArray) (xs : List Rn) : List ByteArray := xs.map (fun x => fieldL f ⟨#[]⟩ x.fs)
theorem valsL_take {f : ByteArray} {xs : List Rn} {k : Nat} (hk : k < xs.length) : valsL f (xs.take (k + 1)) = valsL f (xs.take k) ++ [fieldL f ⟨#[]⟩ xs[k].fs] := by
  unfold valsL
  rw [List.take_succ_eq_append_getElem hk, List.map_append]; rfl
theorem runsG_each : ∀ (xs : List Rn) (last : ByteArray), runsG last xs = 0 → ∀ x ∈ xs, runF x = 0
  | [], _, _, x, hx => by cases hx
  | y :: ys, last, h, x, hx => by
    rw [runsG] at h
    split at h
    · rename_i hy
      split at h
      · cases h
      · rcases List.mem_cons.1 hx with rfl | hx
        · exact hy
        · exact runsG_each ys y.id h x hx
    · rename_i hy
      exact absurd h hy
theorem runF_fld {x : Rn} (h : runF x = 0) : fldG ⟨#[]⟩ x.fs = 0 := by
  unfold runF at h
  split at h
  · split at h
    · cases h
    · split at h
      · cases h
      · exact h
  · cases h
theorem valsL_eq {f : ByteArray} {xs : List Rn} (h : runsF xs = 0) : valsL f xs = valsV f xs := by
  unfold runsF at h
  split at h
  · cases h
  · unfold valsL valsV
    refine List.map_congr_left (fun x hx => ?_)
    exact fieldL_eq f x.fs ⟨#[]⟩ (runF_fld (runsG_each xs _ h x hx))
set_option maxRecDepth 100000 in
set_option maxHeartbeats 4000000 in
theorem splitOf_calls (b : Nat) (A : Option Addr) (n c : Nat) (xs : List Rn) (f : ByteArray) (w : World) (hr : Rns w b A n c xs) (ht : Tab w) (hn : n ≤ 1000) (hz : RnZs xs) :
    Calls Tryz.prog 25 #[.slice A n c, .string f] w (fun e w' => ∃ v, e = .returned v ∧ SpoR (valsL f xs) 0 w w' v) := by
  obtain ⟨i0, hi, hi0, hi1, hi2⟩ := info_parts info_prR
  obtain ⟨hl, hnc, hcm, hcells⟩ := hr.rd.cells rnC_len (by omega)
  have HL := Lib.hid hl
  have HCL := Lib.hid hcells
  have HRD := Lib.hid hr.ok
  have HZ := Lib.hid hz
  obtain ⟨vs, hvs⟩ : ∃ vs, vs = valsL f xs := ⟨_, rfl⟩
  have hvl : vs.length = n := by rw [hvs]; unfold valsL; rw [List.length_map, hl]
  have HVS := Lib.hid hvs
  have HVZ : Hid (∀ s ∈ vs, s.size ≤ maxLen) := Lib.hid (fun s hs => by
    rw [hvs] at hs
    obtain ⟨x, hx, rfl⟩ := List.mem_map.1 hs
    have := fieldL_le (f := f) (acc := ⟨#[]⟩) (Nat.zero_le _) (fun p hp => ((hz x hx).hf p hp).2)
    unfold maxLen; omega)
  rw [← hvs]
  have hmm := @run_makeMap Tryz.prog
  have hS0 := (Sq.start w).addMap 9
  clear hr hz hcells hl hvs
  go_enter Tryz.func25, Tryz.ntmps25
  go_wp2_with fail
  obtain ⟨mb, hmb⟩ : ∃ mb, mb = w.heap.size := ⟨_, rfl⟩
  rw [← hmb] at hS0 ⊢
  clear hmm hmb
  go_loopw [17] (fun i wr => ∃ k : Nat, k ≤ n ∧ i = .int .i64 k ∧ Sq w wr [rMap 9 mb k (mapC (valsL f (xs.take k)))]) (fun i _ => n - (intOf i).toNat)
  case atStart => exact ⟨0, Nat.zero_le _, rfl, hS0⟩
  case round =>
    clear hS0
    obtain ⟨k, hk, rfl, hS⟩ := hrel
    by_cases hlt : k < n
    · have hkr : k < xs.length := by rw [HL.out]; exact hlt
      obtain ⟨g, o, hA, _, hcs⟩ := HCL.out (by omega)
      subst hA
      have c0 := below_cell hS.below (hcs k hkr 0 (by omega))
      have c1 := below_cell hS.below (hcs k hkr 1 (by omega))
      have c2 := below_cell hS.below (hcs k hkr 2 (by omega))
      have c3 := below_cell hS.below (hcs k hkr 3 (by omega))
      have c4 := below_cell hS.below (hcs k hkr 4 (by omega))
      have hxw := (HRD.out _ (List.getElem_mem hkr)).rd
      have hfz := fun p hp => ((HZ.out _ (List.getElem_mem hkr)).hf p hp).2
      have HTK := Lib.hid (valsL_take (f := f) hkr)
      obtain ⟨x, hx⟩ : ∃ x, x = xs[k] := ⟨_, rfl⟩
      rw [← hx] at c0 c1 c2 c3 c4 hxw hfz HTK
      obtain ⟨id, who, ti, da, fa, fc, fs⟩ := x
      obtain ⟨m, hm⟩ : ∃ m, fs.length = m := ⟨_, rfl⟩
      replace c0 : wr.cell? ⟨g, o + k * 5, none⟩ = some (.string id) := c0
      replace c1 : wr.cell? ⟨g, o + k * 5 + 1, none⟩ = some (.string who) := c1
      replace c2 : wr.cell? ⟨g, o + k * 5 + 2, none⟩ = some (.int .i64 ti) := c2
      replace c3 : wr.cell? ⟨g, o + k * 5 + 3, none⟩ = some (.int .i64 da) := c3
      replace c4 : wr.cell? ⟨g, o + k * 5 + 4, none⟩ = some (.slice fa m fc) := by rw [← hm]; exact c4
      replace hfz : ∀ p ∈ fs, p.2.size ≤ 1000 := hfz
      replace HTK : Hid (valsL f (xs.take (k + 1)) = valsL f (xs.take k) ++ [fieldL f ⟨#[]⟩ fs]) := HTK
      have HFC : Hid (∀ V, Below w.heap.size w V → Rd V b 2 (.slice fa m fc) m (fs.flatMap prC)) := by
        refine Lib.hid (fun V h => ?_)
        have := hxw.below h
        rw [← hm]; exact this
      obtain ⟨_, hmc, hmm, _⟩ := (HFC.out _ (Below.refl _ _)).cells prC_len (by omega)
      unfold maxLen at hmm
      have HML := Lib.hid hm
      have HFZ := Lib.hid (fieldL_le (f := f) (acc := ⟨#[]⟩) (Nat.zero_le _) hfz)
      have hk0 : (0 : Int) ≤ (k : Int) := by omega
      have hk1 : (k : Int) < (n : Int) := by omega
      have hS1 := hS.alloc (.cells #[.string id, .string who, .int .i64 ti, .int .i64 da, .slice fa m fc] 43)
      clear hcs hx hm hxw hfz hS
      go_wp2_with fail
      go_loopw [8, 24] (fun s i wq => ∃ (j : Nat) (Y : ByteArray), j ≤ m ∧ s = .string Y ∧ i = .int .i64 j ∧ Hid (Y = fieldL f ⟨#[]⟩ (fs.take j)) ∧ Sq w wq [rMap 9 mb k (mapC (valsL f (xs.take k)))]) (fun _ i _ => m - (intOf i).toNat)
      case atStart => exact ⟨0, ⟨#[]⟩, Nat.zero_le _, rfl, rfl, Lib.hid rfl, hS1⟩
      case round =>
        clear hS1 c0 c1 c2 c3 c4
        obtain ⟨j, Y, hj, rfl, rfl, HY, hS⟩ := hrel
        by_cases hjm : j < m
        · have hjr : j < fs.length := by rw [HML.out]; exact hjm
          obtain ⟨_, _, _, hfc⟩ := (HFC.out _ hS.below).cells prC_len (by omega)
          obtain ⟨q, o2, hA', _, hcs⟩ := hfc (by omega)
          subst hA'
          have d0 := hcs j hjr 0 (by omega)
          have d1 := hcs j hjr 1 (by omega)
          have HYS : Hid (fieldL f ⟨#[]⟩ (fs.take (j + 1)) = if fs[j].1 = f then fs[j].2 else Y) := Lib.hid (by rw [List.take_succ_eq_append_getElem hjr, fieldL_snoc, HY.out])
          obtain ⟨p, hp⟩ : ∃ p, p = fs[j] := ⟨_, rfl⟩
          rw [← hp] at d0 d1 HYS
          obtain ⟨nm, vl⟩ := p
          replace d0 : wr.cell? ⟨q, o2 + j * 2, none⟩ = some (.string nm) := d0
          replace d1 : wr.cell? ⟨q, o2 + j * 2 + 1, none⟩ = some (.string vl) := d1
          replace HYS : Hid (fieldL f ⟨#[]⟩ (fs.take (j + 1)) = if nm = f then vl else Y) := HYS
          have hS2 := hS.alloc (.cells #[.string nm, .string vl] 58)
          have hj0 : (0 : Int) ≤ (j : Int) := by omega
          have hj1 : (j : Int) < (m : Int) := by omega
          clear hp hcs hfc hS
          by_cases he : nm = f
          · have HE : Hid (vl = fieldL f ⟨#[]⟩ (fs.take (j + 1))) := Lib.hid (by rw [HYS.out, if_pos he])
            have heq : (nm.toList == f.toList) = true := by rw [he]; simp
            clear HYS he
            go_wp2_with fail
            go_roundw
            case rel => exact ⟨j + 1, vl, by omega, rfl, by go_num, HE, hS2⟩
            case measure => simp [intOf]; omega
          · have HE : Hid (Y = fieldL f ⟨#[]⟩ (fs.take (j + 1))) := Lib.hid (by rw [HYS.out, if_neg he])
            have heq : (nm.toList == f.toList) = false := by
              rw [beq_eq_false_iff_ne]
              intro h
              exact he (by rw [Lib.toList_data, Lib.toList_data] at h; exact ba_inj h)
            clear HYS
            go_wp2_with fail
            go_roundw
            case rel => exact ⟨j + 1, Y, by omega, rfl, by go_num, HE, hS2⟩
            case measure => simp [intOf]; omega
        · obtain rfl : j = m := by omega
          have hYe : Y = fieldL f ⟨#[]⟩ fs := by
            have := HY.out
            rwa [List.take_of_length_le (by rw [HML.out]; exact Nat.le_refl _)] at this
          have hYz : Y.size ≤ 1000 := by rw [hYe]; exact HFZ.out
          have hlk := c_look (show MapS wr 9 mb k (mapC (valsL f (xs.take k))) from hS.head) (s := Y) (by omega)
          have hput := c_put hS (by omega) (s := Y) (by omega)
          have hoc := occ_le Y (valsL f (xs.take k))
          have hvk : (valsL f (xs.take k)).length ≤ n := by unfold valsL; rw [List.length_map, List.length_take]; omega
          obtain ⟨q, hq⟩ : ∃ q, q = occ Y (valsL f (xs.take k)) := ⟨_, rfl⟩
          rw [← hq] at hlk hput hoc
          rw [← hYe] at HTK
          clear hq hYe
          obtain ⟨w5, hput, hS5⟩ := hput
          go_wp2_with fail
          rw [← HTK.out] at hS5
          go_roundw
          case rel => exact ⟨k + 1, by omega, by go_num, hS5⟩
          case measure => simp [intOf]; omega
    · obtain rfl : k = n := by omega
      have e9 : xs.take k = xs := List.take_of_length_le (by rw [HL.out]; exact Nat.le_refl _)
      rw [e9, ← HVS.out] at hS
      have HMP : MapS wr 9 mb k (mapC vs) := hS.head
      have HRET : Hid (∀ v W (ys : List Pr), SplitP vs ys → W.ownsRow w.heap.size 58 2 v ys.length (ys.flatMap prC) → Below w.heap.size w W → ∃ v', Ending.returned v = .returned v' ∧ SpoR vs 0 w W v') :=
        Lib.hid (fun v W ys h1 h2 h3 => ⟨v, rfl, ys, fun _ => h1, fun h => (h rfl).elim, h2, h3⟩)
      clear e9
      go_wp2_with (first
        | (at_range; refine wpList_range_map _ rfl _ 106 rfl 9 3 Tryz.underlying9 Tryz.underlying106 mb k (mapC vs) rfl HMP ?_; intro w0 cnt0 hr0 hg0 hs0))
      go_frame
      have hS0 := (hS.rngStart hr0 hg0).nil w.heap.size 58 2
      obtain ⟨r, hr⟩ : ∃ r, r = wr.heap.size := ⟨_, rfl⟩
      rw [← hr] at hS0 ⊢
      clear hS hr0 hg0 hs0 HMP hr
      go_loopw [11] (fun v wq => ∃ (A : Option Addr) (c : Nat) (seen : List ByteArray) (cnt : Nat), v = .slice A seen.length c ∧ Hid (∀ s ∈ seen, s ∈ vs) ∧ Sq w wq [rOwn w.heap.size 58 2 (.slice A seen.length c) seen.length ((seen.map (cntP vs)).flatMap prC), rRng 9 mb r k (mapC vs) seen cnt]) (fun _ wq => wq.rangeLeft mb r)
      case atStart => exact ⟨none, 0, [], cnt0, rfl, Lib.hid (fun s hs => by cases hs), hS0⟩
      case round =>
        clear hS0
        obtain ⟨A, c, seen, cnt, rfl, HM, hS⟩ := hrel
        have hrg : RngS wr 9 mb r k (mapC vs) seen cnt := hS.nth 1 rfl
        have hlen : seen.length ≤ vs.length := seen_le seen vs hrg.nodup HM.out
        obtain ⟨m, hm⟩ : ∃ m, m = seen.length := ⟨_, rfl⟩
        have HML := Lib.hid hm
        rw [← hm] at hS hlen ⊢
        clear hm
        go_wp2_with (first
          | (at_next; refine wpList_next_map _ rfl _ rfl 9 Tryz.underlying9 mb r k (mapC vs) seen cnt rfl hrg ?_ ?_))
        · intro hdone
          have HPM : Hid (∀ s, s ∈ seen ↔ s ∈ vs) := Lib.hid (fun s => ⟨HM.out s, fun hs => (hdone s (HVZ.out s hs)).1 ((mapC_is vs s).2 hs)⟩)
          have HND := Lib.hid hrg.nodup
          have hS1 : Sq w wr [rPr w.heap.size A m c (seen.map (cntP vs))] := hS.drop 1 rfl rfl
          clear hS hrg hdone
          by_cases hm0 : m = 0
          · subst hm0
            have hs0 : seen = [] := List.length_eq_zero_iff.1 HML.out.symm
            subst hs0
            have HSO := Lib.hid (fun W => sortPr_nil 78 W A c)
            go_wp2_with (first | (go_at_call 73; refine (HSO.out _).mono ?_; rintro e w5 ⟨rfl, rfl⟩))
            go_ret
            exact HRET.out _ _ [] (SplitP.of (seen := []) HND.out HPM.out (List.Perm.refl _) List.Pairwise.nil) hS1.head hS1.below
          · obtain ⟨g, cap, hA, _, _⟩ := World.ownsRow.form (show wr.ownsRow w.heap.size 58 2 (.slice A m c) m _ from hS1.head) (by omega)
            injection hA with hA _ hc
            subst hA
            subst hc
            have HSO := Lib.hid (sortSq_calls w wr [] g m _ (seen.map (cntP vs)) (by omega) hS1)
            clear hS1
            go_wp2_with (first | (go_at_call 73; refine HSO.out.mono ?_; rintro e w5 ⟨rfl, ys, hp, hu, hS5⟩))
            go_ret
            have hy : ys.length = m := by rw [hp.length_eq, List.length_map, HML.out]
            exact HRET.out _ _ ys (SplitP.of HND.out HPM.out hp (hu.imp (fun h => Int.not_lt.2 h))) (by rw [hy]; exact hS5.head) hS5.below
        · intro s v w2 cnt2 hnew hsl hf hrg2 hlt2 hg2 hs2 hen
          obtain ⟨hsv, rfl⟩ := mapC_some hf
          have hS2 := ((hS.front 1 rfl rfl).rngStep hrg2 hg2)
          have HIT := Lib.hid (itoa_calls (occ s vs : Int) (by omega) (by have := occ_le s vs; omega) w2 (ht.below hS2.below))
          obtain ⟨tx, htx⟩ : ∃ tx : ByteArray, tx = ⟨(Lib.itoa (occ s vs : Int)).toArray⟩ := ⟨_, rfl⟩
          rw [← htx] at HIT
          have HOS : Hid (((seen ++ [s]).map (cntP vs)).flatMap prC = (seen.map (cntP vs)).flatMap prC ++ [.string s, .string tx]) := by
            rw [htx]; exact Lib.hid (out_snoc vs seen s)
          have HM2 : Hid (∀ x ∈ seen ++ [s], x ∈ vs) := Lib.hid (fun x hx => by
            rcases List.mem_append.1 hx with hx | hx
            · exact HM.out x hx
            · simp at hx; subst hx; exact hsv)
          have hl2 : wr.rangeLeft mb r = cnt := hrg.left
          clear hS hrg hrg2 hg2 hs2 htx hf hnew hsv HM
          go_wp2_with (first
            | (go_at_call 72; refine HIT.out.mono ?_; rintro e w3 ⟨rfl, hb3⟩; have hS3 := (hS2.callB hb3).front 1 rfl rfl; have HO : World.ownsRow _ w.heap.size 58 2 (.slice A m c) m _ := hS3.nth 0 rfl; have hz3 := hS3.size)
            | (at_builtin; refine wpList_append_own_at _ rfl _ _ 41 rfl w.heap.size 58 i0 (.agg #[.string ⟨#[]⟩, .string ⟨#[]⟩]) 2 32 Tryz.underlying41 hi hi0 hi1 hi2 rfl (by decide) _ _ _ rfl (HO.alloc _) ⟨w3.heap.size, 0, none⟩ 1 1 [.string s, .string tx] rfl rfl (World.news_of_block (heap_alloc_new _ _)) (one2r rfl rfl) (by unfold maxLen; omega) (by omega) (by simp; omega) ?_; intro v' w8 hown' hgrow _ hblk; have hS8 := (hS3.alloc _).append hown' hgrow hblk; obtain ⟨A8, c8, hv8⟩ := own_form hown'; subst hv8; clear hown' hgrow hblk HO))
          have e1 : m + 1 = (seen ++ [s]).length := by rw [List.length_append, ← HML.out]; rfl
          have hr8 : RngS w8 9 mb r k (mapC vs) (seen ++ [s]) cnt2 := hS8.nth 1 rfl
          go_roundw
          case rel => exact ⟨A8, c8, seen ++ [s], cnt2, by rw [e1], HM2, by rw [HOS.out, ← e1]; exact hS8⟩
          case measure => rw [hr8.left, hl2]; exact hlt2
end Go.Proofs.YtfmljboogkhobaaGreatDoor
