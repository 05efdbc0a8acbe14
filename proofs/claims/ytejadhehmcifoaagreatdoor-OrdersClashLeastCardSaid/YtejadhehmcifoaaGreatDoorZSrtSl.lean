/-
  slices.SortFunc of slots by their keys.
-/
import Derived.Test.YtejadhehmcifoaaGreatDoorZSortSl
import Derived.Test.YtejadhehmcifoaaGreatDoorZSortMem
import Derived.Test.YtejadhehmcifoaaGreatDoorZOrd1
import Derived.Test.YtejadhehmcifoaaGreatDoorZBid2
import Derived.Shelf.SlSortCmp.NoneTotal
namespace Go.Proofs.YtejadhehmcifoaaGreatDoor
open Go Go.RowKit Go.Sort

instance : Inhabited Slt := ⟨⟨⟨#[]⟩, ⟨#[]⟩, none, 0, [], 0, 0⟩⟩
def ordSl (x y : Slt) : Int := cmpS x.key y.key
theorem grewS (w : World) (o o2 : Obj) (n : Nat) : ∃ q os', ((w.alloc o).alloc o2).drewN n = grow (w.drewN q) os' := ⟨n, #[o, o2], by rw [alloc_eq_grow, alloc_eq_grow, grow_grow]; rfl⟩
theorem swo_sl : SWO (ltOf ordSl) where
  irrefl x := by simp [ltOf, ordSl, cmpS_self]
  trans x y z h1 h2 := by
    have h1 : cmpS x.key y.key < 0 := of_decide_eq_true h1
    have h2 : cmpS y.key z.key < 0 := of_decide_eq_true h2
    exact decide_eq_true (cmpS_trans h1 h2)
  ntrans x y z h1 h2 := by
    have h1 : ¬ cmpS x.key y.key < 0 := of_decide_eq_false h1
    have h2 : ¬ cmpS y.key z.key < 0 := of_decide_eq_false h2
    have h3 : ¬ cmpS x.key z.key < 0 := by
      intro h0
      by_cases he : cmpS x.key y.key = 0
      · rw [cmpS_zero he] at h0
        exact h2 h0
      · have h4 := (cmpS_flip y.key x.key).2 (by omega)
        exact h2 (cmpS_trans h4 h0)
    exact decide_eq_false h3
/-- keys do not fall -/
def KeyUpW (l : List Slt) : Prop := l.Pairwise (fun x y => ¬ cmpS y.key x.key < 0)
theorem KeyUpW.up {l : List Slt} (h : KeyUpW l) (hk : KeyOne l) : KeyUp l := by
  unfold KeyOne keysL List.Nodup at hk
  rw [List.pairwise_map] at hk
  unfold KeyUpW at h
  unfold KeyUp
  refine List.Pairwise.imp₂ (fun x y h1 h2 => ?_) h hk
  by_cases h0 : cmpS x.key y.key = 0
  · exact absurd (cmpS_zero h0) h2
  · have := (cmpS_flip y.key x.key)
    omega
set_option maxRecDepth 100000 in
theorem order1_calls (x y : Slt) (w : World) :
    Calls Tryz.prog 34 #[.agg (sltL x), .agg (sltL y)] w fun e w' => e = .returned (.int .i64 (ordSl x y)) ∧ ∃ q os', w' = grow (w.drewN q) os' := by
  have HG := Lib.hid (grewS w (.cells (sltL x) 47) (.cells (sltL y) 47) 0)
  have HC := Lib.hid (fun W => strCmp_calls x.key y.key W)
  obtain ⟨C, hC⟩ : ∃ C, ordSl x y = C := ⟨_, rfl⟩
  have hC' : cmpS x.key y.key = C := hC
  rw [hC'] at HC
  rw [hC]
  clear hC hC'
  go_enter Tryz.func34, Tryz.ntmps34
  go_wp2_with fail
  refine (HC.out _).mono ?_
  rintro e w1 ⟨rfl, rfl⟩
  go_wp2_with fail
  go_ret
  exact ⟨rfl, HG.out⟩
set_option maxRecDepth 100000 in
theorem sortSl_calls (w0 w : World) (l : List Rsc) (g n c : Nat) (xs : List Slt) (hn : n ≤ 100000) (hS : Sq w0 w (rSl w0.heap.size (some ⟨g, 0, none⟩) n c xs :: l)) :
    Calls Tryz.prog 33 #[.slice (some ⟨g, 0, none⟩) n c, .func (.func 34) #[] #[]] w fun e w' =>
      e = .returned (.tuple #[]) ∧ ∃ ys : List Slt, ys.Perm xs ∧ KeyUpW ys ∧ Sq w0 w' (rSl w0.heap.size (some ⟨g, 0, none⟩) n c ys :: l) := by
  have hown : w.ownsRow w0.heap.size 47 5 (.slice (some ⟨g, 0, none⟩) n c) n (xs.flatMap sltC) := hS.head
  have hlen : xs.toArray.size = n := by
    have := hown.1
    rw [flat_len sltC 5 sltC_len] at this
    simp
    omega
  have hH : HoldsK sltC 5 w g 0 xs.toArray := holdsK_own sltC 5 sltC_len (by decide) xs.toArray (by simpa using hown)
  have h := AnyQ.slices_SortFunc Tryz.sortSl 5 Tryz.isAgg47 Tryz.sizeOf47 sltC sltC_len (fun x v hv => sltC_one [x] v (by simpa using hv)) ordSl swo_sl 34 #[] g 0 c xs.toArray w (enters_of Tryz.func34 (by kernel_rfl) rfl)
    (fun m os dk _ x y => order1_calls x y _) hH (hown.lt g rfl).2 (by rw [hlen]; omega)
  rw [hlen] at h
  refine Calls.mono h ?_
  rintro e w' ⟨rfl, d', m, os, hp, hs, rfl⟩
  have hp2 : d'.toList.Perm xs := by
    obtain ⟨h1, _, h3⟩ := hp
    have e1 : d'.extract 0 n = d' := by
      have : d'.size = n := by rw [h1, hlen]
      rw [← this]; exact Array.extract_size
    have e2 : xs.toArray.extract 0 n = xs.toArray := by rw [← hlen]; exact Array.extract_size
    rw [e1, e2] at h3
    simpa using h3
  have hd : d'.size = n := by rw [hp.1, hlen]
  refine ⟨rfl, d'.toList, hp2, ?_, ?_⟩
  · unfold KeyUpW
    rw [List.pairwise_iff_getElem]
    intro i j hi hj hij
    have hi' : i < d'.size := by simpa using hi
    have hj' : j < d'.size := by simpa using hj
    have := hs i j (Nat.zero_le _) hij (by omega)
    rw [getElem!_pos d' j hj', getElem!_pos d' i hi'] at this
    have h2 : ¬ cmpS d'[j].key d'[i].key < 0 := of_decide_eq_false this
    simpa using h2
  · refine hS.turn (sortW_grown sltC 5 w g m d' os) (fun k hk => by injection hk with hk; subst hk; rfl) ?_ (rOwn_ok _ _ _ _ _ _) (fun k hk => ?_)
    · exact sortW_own sltC 5 sltC_len (by decide) hown m d' hd os
    · have hk : some g = some k := hk
      injection hk with hk
      subst hk
      refine ⟨.inl rfl, ?_⟩
      have := (sortW_grown sltC 5 w g m d' os).size
      have := (hown.lt g rfl).2
      omega
theorem sortSl_nil (f : Nat) (w : World) (A : Option Addr) (c : Nat) :
    Calls Tryz.prog 33 #[.slice A 0 c, .func (.func f) #[] #[]] w fun e w' => e = .returned (.tuple #[]) ∧ w' = w :=
  AnyF.slices_SortFunc_none Tryz.sortSl A c _ w
end Go.Proofs.YtejadhehmcifoaaGreatDoor
