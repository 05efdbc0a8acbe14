/-
  slices.SortFunc of pairs by their names. (Printed by gen_spl2.py.)
-/
import Derived.Test.YtfmljboogkhobaaGreatDoorZRng
import Derived.Test.YtfmljboogkhobaaGreatDoorZSortPr
import Derived.Test.YtfmljboogkhobaaGreatDoorZSortMem
import Derived.Test.YtfmljboogkhobaaGreatDoorZBid2
import Derived.Shelf.SlSortCmp.NoneTotal
namespace Go.Proofs.YtfmljboogkhobaaGreatDoor
open Go Go.RowKit Go.Sort

abbrev prL (x : Pr) : Array Value := #[.string x.1, .string x.2]
def ordPr (x y : Pr) : Int := cmpS x.1 y.1
theorem prC_one (x : Pr) : ∀ v ∈ prC x, v.oneCell' = true := by
  intro v hv
  simp [prC] at hv
  rcases hv with rfl | rfl <;> rfl
theorem grewP (w : World) (o o2 : Obj) (n : Nat) : ∃ q os', ((w.alloc o).alloc o2).drewN n = grow (w.drewN q) os' := ⟨n, #[o, o2], by rw [alloc_eq_grow, alloc_eq_grow, grow_grow]; rfl⟩
theorem swo_pr : SWO (ltOf ordPr) where
  irrefl x := decide_eq_false (cmpS_irr x.1)
  trans x y z h1 h2 := by
    have h1 : cmpS x.1 y.1 < 0 := of_decide_eq_true h1
    have h2 : cmpS y.1 z.1 < 0 := of_decide_eq_true h2
    rw [cmpS_ltG] at h1 h2
    exact decide_eq_true ((cmpS_ltG _ _).2 (h2.trans h1))
  ntrans x y z h1 h2 := by
    have h1 : ¬ cmpS x.1 y.1 < 0 := of_decide_eq_false h1
    have h2 : ¬ cmpS y.1 z.1 < 0 := of_decide_eq_false h2
    have h3 : ¬ cmpS x.1 z.1 < 0 := by
      rw [cmpS_ltG] at h1 h2 ⊢
      unfold gtS at *
      intro h0
      have e1 : leS y.1 x.1 = true := by cases h : leS y.1 x.1; exact absurd h h1; rfl
      have e2 : leS z.1 y.1 = true := by cases h : leS z.1 y.1; exact absurd h h2; rfl
      rw [leS_trans e2 e1] at h0
      cases h0
    exact decide_eq_false h3
/-- the pairs, in memory of the call's own -/
def rPr (base : Nat) (A : Option Addr) (n c : Nat) (ps : List Pr) : Rsc := rOwn base 58 2 (.slice A n c) n (ps.flatMap prC)

set_option maxRecDepth 100000 in
theorem ordSp_calls (x y : Pr) (w : World) :
    Calls Tryz.prog 74 #[.agg (prL x), .agg (prL y)] w fun e w' => e = .returned (.int .i64 (ordPr x y)) ∧ ∃ q os', w' = grow (w.drewN q) os' := by
  have HG := Lib.hid (grewP w (.cells (prL x) 58) (.cells (prL y) 58) 0)
  have HC := Lib.hid (fun W => strCmp_calls x.1 y.1 W)
  obtain ⟨C, hC⟩ : ∃ C, ordPr x y = C := ⟨_, rfl⟩
  have hC' : cmpS x.1 y.1 = C := hC
  rw [hC'] at HC
  rw [hC]
  clear hC hC'
  go_enter Tryz.func74, Tryz.ntmps74
  go_wp2_with fail
  refine (HC.out _).mono ?_
  rintro e w1 ⟨rfl, rfl⟩
  go_wp2_with fail
  go_ret
  exact ⟨rfl, HG.out⟩
set_option maxRecDepth 100000 in
theorem sortSp_calls (w0 w : World) (l : List Rsc) (g n c : Nat) (xs : List Pr) (hn : n ≤ 100000) (hS : Sq w0 w (rPr w0.heap.size (some ⟨g, 0, none⟩) n c xs :: l)) :
    Calls Tryz.prog 73 #[.slice (some ⟨g, 0, none⟩) n c, .func (.func 74) #[] #[]] w fun e w' =>
      e = .returned (.tuple #[]) ∧ ∃ ys : List Pr, ys.Perm xs ∧ ys.Pairwise (fun a b => ¬ cmpS b.1 a.1 < 0) ∧ Sq w0 w' (rPr w0.heap.size (some ⟨g, 0, none⟩) n c ys :: l) := by
  have hown : w.ownsRow w0.heap.size 58 2 (.slice (some ⟨g, 0, none⟩) n c) n (xs.flatMap prC) := hS.head
  have hlen : xs.toArray.size = n := by
    have := hown.1
    rw [flat_len prC 2 prC_len] at this
    simp
    omega
  have hH : HoldsK prC 2 w g 0 xs.toArray := holdsK_own prC 2 prC_len (by decide) xs.toArray (by simpa using hown)
  have h := AnyQ.slices_SortFunc Tryz.sortPr 2 Tryz.isAgg58 Tryz.sizeOf58 prC prC_len (fun x v hv => prC_one x v hv) ordPr swo_pr 74 #[] g 0 c xs.toArray w (enters_of Tryz.func74 (by kernel_rfl) rfl)
    (fun m os dk _ x y => ordSp_calls x y _) hH (hown.lt g rfl).2 (by rw [hlen]; omega)
  rw [hlen] at h
  refine Calls.mono h ?_
  rintro e w' ⟨rfl, d', m, os, hp, hs, rfl⟩
  have hp2 : d'.toList.Perm xs := by
    obtain ⟨h1, _, h3⟩ := hp
    have e1 : d'.extract 0 n = d' := by
      have : d'.size = n := by rw [h1, hlen]
      rw [← this]; exact Array.extract_size
    have e2 : xs.toArray.extract 0 n = xs.toArray := by rw [← hlen]; exact Array.extract_size
    rw [e1, e2] at h3
    simpa using h3
  have hd : d'.size = n := by rw [hp.1, hlen]
  refine ⟨rfl, d'.toList, hp2, ?_, ?_⟩
  · rw [List.pairwise_iff_getElem]
    intro i j hi hj hij
    have hi' : i < d'.size := by simpa using hi
    have hj' : j < d'.size := by simpa using hj
    have := hs i j (Nat.zero_le _) hij (by omega)
    rw [getElem!_pos d' j hj', getElem!_pos d' i hi'] at this
    have h2 : ¬ cmpS d'[j].1 d'[i].1 < 0 := of_decide_eq_false this
    simpa using h2
  · refine hS.turn (sortW_grown prC 2 w g m d' os) (fun k hk => by injection hk with hk; subst hk; rfl) ?_ (rOwn_ok _ _ _ _ _ _) (fun k hk => ?_)
    · exact sortW_own prC 2 prC_len (by decide) hown m d' hd os
    · have hk : some g = some k := hk
      injection hk with hk
      subst hk
      refine ⟨.inl rfl, ?_⟩
      have := (sortW_grown prC 2 w g m d' os).size
      have := (hown.lt g rfl).2
      omega

set_option maxRecDepth 100000 in
theorem ordSq_calls (x y : Pr) (w : World) :
    Calls Tryz.prog 78 #[.agg (prL x), .agg (prL y)] w fun e w' => e = .returned (.int .i64 (ordPr x y)) ∧ ∃ q os', w' = grow (w.drewN q) os' := by
  have HG := Lib.hid (grewP w (.cells (prL x) 58) (.cells (prL y) 58) 0)
  have HC := Lib.hid (fun W => strCmp_calls x.1 y.1 W)
  obtain ⟨C, hC⟩ : ∃ C, ordPr x y = C := ⟨_, rfl⟩
  have hC' : cmpS x.1 y.1 = C := hC
  rw [hC'] at HC
  rw [hC]
  clear hC hC'
  go_enter Tryz.func78, Tryz.ntmps78
  go_wp2_with fail
  refine (HC.out _).mono ?_
  rintro e w1 ⟨rfl, rfl⟩
  go_wp2_with fail
  go_ret
  exact ⟨rfl, HG.out⟩
set_option maxRecDepth 100000 in
theorem sortSq_calls (w0 w : World) (l : List Rsc) (g n c : Nat) (xs : List Pr) (hn : n ≤ 100000) (hS : Sq w0 w (rPr w0.heap.size (some ⟨g, 0, none⟩) n c xs :: l)) :
    Calls Tryz.prog 73 #[.slice (some ⟨g, 0, none⟩) n c, .func (.func 78) #[] #[]] w fun e w' =>
      e = .returned (.tuple #[]) ∧ ∃ ys : List Pr, ys.Perm xs ∧ ys.Pairwise (fun a b => ¬ cmpS b.1 a.1 < 0) ∧ Sq w0 w' (rPr w0.heap.size (some ⟨g, 0, none⟩) n c ys :: l) := by
  have hown : w.ownsRow w0.heap.size 58 2 (.slice (some ⟨g, 0, none⟩) n c) n (xs.flatMap prC) := hS.head
  have hlen : xs.toArray.size = n := by
    have := hown.1
    rw [flat_len prC 2 prC_len] at this
    simp
    omega
  have hH : HoldsK prC 2 w g 0 xs.toArray := holdsK_own prC 2 prC_len (by decide) xs.toArray (by simpa using hown)
  have h := AnyQ.slices_SortFunc Tryz.sortPr 2 Tryz.isAgg58 Tryz.sizeOf58 prC prC_len (fun x v hv => prC_one x v hv) ordPr swo_pr 78 #[] g 0 c xs.toArray w (enters_of Tryz.func78 (by kernel_rfl) rfl)
    (fun m os dk _ x y => ordSq_calls x y _) hH (hown.lt g rfl).2 (by rw [hlen]; omega)
  rw [hlen] at h
  refine Calls.mono h ?_
  rintro e w' ⟨rfl, d', m, os, hp, hs, rfl⟩
  have hp2 : d'.toList.Perm xs := by
    obtain ⟨h1, _, h3⟩ := hp
    have e1 : d'.extract 0 n = d' := by
      have : d'.size = n := by rw [h1, hlen]
      rw [← this]; exact Array.extract_size
    have e2 : xs.toArray.extract 0 n = xs.toArray := by rw [← hlen]; exact Array.extract_size
    rw [e1, e2] at h3
    simpa using h3
  have hd : d'.size = n := by rw [hp.1, hlen]
  refine ⟨rfl, d'.toList, hp2, ?_, ?_⟩
  · rw [List.pairwise_iff_getElem]
    intro i j hi hj hij
    have hi' : i < d'.size := by simpa using hi
    have hj' : j < d'.size := by simpa using hj
    have := hs i j (Nat.zero_le _) hij (by omega)
    rw [getElem!_pos d' j hj', getElem!_pos d' i hi'] at this
    have h2 : ¬ cmpS d'[j].1 d'[i].1 < 0 := of_decide_eq_false this
    simpa using h2
  · refine hS.turn (sortW_grown prC 2 w g m d' os) (fun k hk => by injection hk with hk; subst hk; rfl) ?_ (rOwn_ok _ _ _ _ _ _) (fun k hk => ?_)
    · exact sortW_own prC 2 prC_len (by decide) hown m d' hd os
    · have hk : some g = some k := hk
      injection hk with hk
      subst hk
      refine ⟨.inl rfl, ?_⟩
      have := (sortW_grown prC 2 w g m d' os).size
      have := (hown.lt g rfl).2
      omega

theorem sortPr_nil (f : Nat) (w : World) (A : Option Addr) (c : Nat) :
    Calls Tryz.prog 73 #[.slice A 0 c, .func (.func f) #[] #[]] w fun e w' => e = .returned (.tuple #[]) ∧ w' = w :=
  AnyF.slices_SortFunc_none Tryz.sortPr A c _ w
end Go.Proofs.YtfmljboogkhobaaGreatDoor
