/-
  slices.SortFunc of gifts, by the program's order and by the reference's.
-/
import Derived.Test.YtohhbkodfidfkaaGreatDoorZSortGf
import Derived.Test.YtohhbkodfidfkaaGreatDoorZSortMem
import Derived.Test.YtohhbkodfidfkaaGreatDoorZBid12
import Derived.Test.YtohhbkodfidfkaaGreatDoorZBid2
import Derived.Test.YtohhbkodfidfkaaGreatDoorZBid10
import Derived.Shelf.SlSortCmp.NoneTotal
namespace Go.Proofs.YtohhbkodfidfkaaGreatDoor
open Go Go.RowKit Go.Sort

/-- a gift that stands in a right list or nearly so -/
abbrev GfS := { x : Gf // GfOk x }
instance : Inhabited GfS := ⟨⟨⟨⟨#[]⟩, 0, 0, ⟨#[]⟩, ⟨#[]⟩⟩, ⟨by decide, by decide, by decide, by decide, by decide⟩⟩⟩
def encG (x : GfS) : List Value := gfC x.1
/-- behind a call that made blocks and drew -/
def Grew (v : Value) (w : World) (e : Ending) (w' : World) : Prop := e = .returned v ∧ ∃ q os', w' = grow (w.drewN q) os'
theorem grew2 (w : World) (o o2 : Obj) (n : Nat) : ∃ q os', ((w.alloc o).alloc o2).drewN n = grow (w.drewN q) os' := ⟨n, #[o, o2], by rw [alloc_eq_grow, alloc_eq_grow, grow_grow]; rfl⟩
theorem grew3 (w : World) (o o2 o3 : Obj) (n : Nat) : ∃ q os', (((w.alloc o).alloc o2).alloc o3).drewN n = grow (w.drewN q) os' := ⟨n, #[o, o2, o3], by rw [alloc_eq_grow, alloc_eq_grow, alloc_eq_grow, grow_grow, grow_grow]; rfl⟩
theorem swo_beh {lt : Gf → Gf → Bool} (h : ∀ x y, lt x y = !behG x y) : SWO (fun x y : GfS => lt x.1 y.1) where
  irrefl x := by rw [h, beh_self]; rfl
  trans x y z h1 h2 := by
    rw [h] at *
    have h1 : behG x.1 y.1 = false := by simpa using h1
    have h2 : behG y.1 z.1 = false := by simpa using h2
    cases h3 : behG x.1 z.1
    · rfl
    · have := beh_trans h3 (beh_total h1)
      rw [h2] at this
      cases this
  ntrans x y z h1 h2 := by
    rw [h] at *
    have h1 : behG x.1 y.1 = true := by simpa using h1
    have h2 : behG y.1 z.1 = true := by simpa using h2
    rw [beh_trans h2 h1]
    rfl
theorem gfs_list (gs : List Gf) (h : ∀ x ∈ gs, GfOk x) : ∃ ds : List GfS, ds.map (·.1) = gs := by
  induction gs with
  | nil => exact ⟨[], rfl⟩
  | cons a l ih =>
    obtain ⟨ds, hd⟩ := ih (fun x hx => h x (List.mem_cons_of_mem _ hx))
    exact ⟨⟨a, h a (List.mem_cons_self ..)⟩ :: ds, by simp [hd]⟩
theorem gfs_flat (ds : List GfS) : ds.flatMap encG = (ds.map (·.1)).flatMap gfC := by
  induction ds with
  | nil => rfl
  | cons a l ih => simp [ih, encG]
/-- sorted gifts in the place of the gifts -/
def SrtR (w0 : World) (g n c : Nat) (gs : List Gf) (e : Ending) (w' : World) : Prop :=
  e = .returned (.tuple #[]) ∧ ∃ l : List Gf, l.Perm gs ∧ SrtG l ∧ Sq w0 w' [rOwn w0.heap.size 61 5 (.slice (some ⟨g, 0, none⟩) n c) n (l.flatMap gfC)]
theorem sort_core (cf : Gf → Gf → Int) (hcf : ∀ x y, ltOf cf x y = !behG x y) (f : Nat) (eg : ∀ args w, (callFunc f args).run Tryz.prog w = .ok (.enter f args) w)
    (hc : ∀ (x y : Gf) (W : World), GfOk x → GfOk y → Calls Tryz.prog f #[.agg #[.string x.id, .int .i64 x.at_, .int .i64 x.cents, .string x.bid, .string x.option], .agg #[.string y.id, .int .i64 y.at_, .int .i64 y.cents, .string y.bid, .string y.option]] W (Grew (.int .i64 (cf x y)) W))
    (w0 w : World) (g n c : Nat) (gs : List Gf) (hgs : ∀ x ∈ gs, GfOk x) (hn : n ≤ 100000) (hS : Sq w0 w [rOwn w0.heap.size 61 5 (.slice (some ⟨g, 0, none⟩) n c) n (gs.flatMap gfC)]) :
    Calls Tryz.prog 67 #[.slice (some ⟨g, 0, none⟩) n c, .func (.func f) #[] #[]] w (SrtR w0 g n c gs) := by
  obtain ⟨ds, rfl⟩ := gfs_list gs hgs
  have hown : w.ownsRow w0.heap.size 61 5 (.slice (some ⟨g, 0, none⟩) n c) n (ds.flatMap encG) := by rw [gfs_flat]; exact hS.head
  have hlen : ds.toArray.size = n := by
    have := hown.1
    rw [flat_len encG 5 (fun _ => rfl)] at this
    simp
    omega
  have hH : HoldsK encG 5 w g 0 ds.toArray := holdsK_own encG 5 (fun _ => rfl) (by decide) ds.toArray (by simpa using hown)
  have hO : SWO (ltOf fun x y : GfS => cf x.1 y.1) := swo_beh (lt := ltOf cf) hcf
  have h := AnyQ.slices_SortFunc Tryz.sortGf 5 Tryz.isAgg61 Tryz.sizeOf61 encG (fun _ => rfl) (fun x v hv => gfC_one [x.1] v (by simpa [encG] using hv)) (fun x y : GfS => cf x.1 y.1) hO f #[] g 0 c ds.toArray w eg
    (fun m os dk _ x y => hc x.1 y.1 _ x.2 y.2) hH (hown.lt g rfl).2 (by rw [hlen]; omega)
  rw [hlen] at h
  refine Calls.mono h ?_
  rintro e w' ⟨rfl, d', m, os, hp, hs, rfl⟩
  have hp2 : d'.toList.Perm ds := by
    obtain ⟨h1, _, h3⟩ := hp
    have e1 : d'.extract 0 n = d' := by
      have : d'.size = n := by rw [h1, hlen]
      rw [← this]; exact Array.extract_size
    have e2 : ds.toArray.extract 0 n = ds.toArray := by rw [← hlen]; exact Array.extract_size
    rw [e1, e2] at h3
    simpa using h3
  have hd : d'.size = n := by rw [hp.1, hlen]
  refine ⟨rfl, d'.toList.map (·.1), hp2.map _, ?_, ?_⟩
  · unfold SrtG
    rw [List.pairwise_map, List.pairwise_iff_getElem]
    intro i j hi hj hij
    have hi' : i < d'.size := by simpa using hi
    have hj' : j < d'.size := by simpa using hj
    have := hs i j (Nat.zero_le _) hij (by omega)
    rw [getElem!_pos d' j hj', getElem!_pos d' i hi'] at this
    have h2 : ltOf cf d'[j].1 d'[i].1 = false := this
    rw [hcf] at h2
    simpa using h2
  · refine hS.turn (sortW_grown encG 5 w g m d' os) (fun k hk => by injection hk with hk; subst hk; rfl) ?_ (rOwn_ok _ _ _ _ _ _) (fun k hk => ?_)
    · show World.ownsRow _ _ _ _ _ _ _
      rw [← gfs_flat]
      exact sortW_own encG 5 (fun _ => rfl) (by decide) hown m d' hd os
    · have hk : some g = some k := hk
      injection hk with hk
      subst hk
      refine ⟨.inl rfl, ?_⟩
      have := (sortW_grown encG 5 w g m d' os).size
      have := (hown.lt g rfl).2
      omega
theorem sort_nil (f : Nat) (w : World) (A : Option Addr) (c : Nat) :
    Calls Tryz.prog 67 #[.slice A 0 c, .func (.func f) #[] #[]] w fun e w' => e = .returned (.tuple #[]) ∧ w' = w :=
  AnyF.slices_SortFunc_none Tryz.sortGf A c _ w

set_option maxRecDepth 100000 in
set_option maxHeartbeats 1000000 in
theorem giftOrderG_calls (y x : Gf) (w : World) (hy : GfOk y) (hx : GfOk x) :
    Calls Tryz.prog 98 #[.agg #[.string y.id, .int .i64 y.at_, .int .i64 y.cents, .string y.bid, .string y.option], .agg #[.string x.id, .int .i64 x.at_, .int .i64 x.cents, .string x.bid, .string x.option]] w (Grew (.int .i64 (ordQ y x)) w) := by
  have HG := Lib.hid (grew2 w (.cells #[.string y.id, .int .i64 y.at_, .int .i64 y.cents, .string y.bid, .string y.option] 61) (.cells #[.string x.id, .int .i64 x.at_, .int .i64 x.cents, .string x.bid, .string x.option] 61) 0)
  obtain ⟨yi, ya, yc, yb, yo⟩ := y
  obtain ⟨xi, xa, xc, xb, xo⟩ := x
  have hya : -2199023255552 ≤ ya ∧ ya ≤ 2199023255552 := hy.ha
  have hxa : -2199023255552 ≤ xa ∧ xa ≤ 2199023255552 := hx.ha
  obtain ⟨hy0, hy1⟩ := hya
  obtain ⟨hx0, hx1⟩ := hxa
  simp only at HG ⊢
  clear hx hy
  by_cases h : ya = xa
  · subst h
    have HS : Hid (ordQ ⟨yi, ya, yc, yb, yo⟩ ⟨xi, ya, xc, xb, xo⟩ = cmpS yi xi) := Lib.hid (by unfold ordQ; simp)
    rw [HS.out]
    go_enter Tryz.func98, Tryz.ntmps98
    go_wp2_with fail
    refine (strCmp_calls _ _ _).mono ?_
    rintro e w1 ⟨rfl, rfl⟩
    go_wp2_with fail
    go_ret
    exact ⟨rfl, HG.out⟩
  · have HS : Hid (ordQ ⟨yi, ya, yc, yb, yo⟩ ⟨xi, xa, xc, xb, xo⟩ = cmpI (ya - xa) 0) := Lib.hid (by unfold ordQ; simp [h, cmpI_sub])
    have hne : (ya != xa) = true := by simpa using h
    rw [HS.out]
    clear h
    go_enter Tryz.func98, Tryz.ntmps98
    go_wp2_with fail
    refine (signI_calls _ _).mono ?_
    rintro e w1 ⟨rfl, rfl⟩
    go_wp2_with fail
    go_ret
    exact ⟨rfl, HG.out⟩
set_option maxRecDepth 100000 in
set_option maxHeartbeats 1000000 in
theorem byGiftG_calls (x y : Gf) (w : World) :
    Calls Tryz.prog 68 #[.agg #[.string x.id, .int .i64 x.at_, .int .i64 x.cents, .string x.bid, .string x.option], .agg #[.string y.id, .int .i64 y.at_, .int .i64 y.cents, .string y.bid, .string y.option]] w (Grew (.int .i64 (ordP x y)) w) := by
  have HG0 := Lib.hid (grew3 w (.cells #[.string x.id, .int .i64 x.at_, .int .i64 x.cents, .string x.bid, .string x.option] 61) (.cells #[.string y.id, .int .i64 y.at_, .int .i64 y.cents, .string y.bid, .string y.option] 61))
  have hS := ((Sq.start w).add #[.string x.id, .int .i64 x.at_, .int .i64 x.cents, .string x.bid, .string x.option] 61).add #[.string y.id, .int .i64 y.at_, .int .i64 y.cents, .string y.bid, .string y.option] 61
  obtain ⟨xi, xa, xc, xb, xo⟩ := x
  obtain ⟨yi, ya, yc, yb, yo⟩ := y
  simp only at hS HG0 ⊢
  have HI := Lib.hid (fun W => cmpInt_calls xa ya W)
  have HC := Lib.hid (fun W => strCmp_calls xi yi W)
  have HP : Hid (ordP ⟨xi, xa, xc, xb, xo⟩ ⟨yi, ya, yc, yb, yo⟩ = firstE [cmpI xa ya, cmpS xi yi]) := rfl
  rw [HP.out]
  obtain ⟨I, hI⟩ : ∃ I, cmpI xa ya = I := ⟨_, rfl⟩
  obtain ⟨C, hC⟩ : ∃ C, cmpS xi yi = C := ⟨_, rfl⟩
  rw [hI] at HI ⊢
  rw [hC] at HC ⊢
  have HO := Lib.hid (fun g W h => or2_calls I C g W h)
  rw [World.size_alloc] at hS
  have HCELL : Hid (∀ W, Sq w W [rBlk (w.heap.size + 1) 61 #[.string yi, .int .i64 ya, .int .i64 yc, .string yb, .string yo], rBlk w.heap.size 61 #[.string xi, .int .i64 xa, .int .i64 xc, .string xb, .string xo]] → W.cell? ⟨w.heap.size, 0, none⟩ = some (.string xi) ∧ W.cell? ⟨w.heap.size, 1, none⟩ = some (.int .i64 xa) ∧ W.cell? ⟨w.heap.size + 1, 0, none⟩ = some (.string yi) ∧ W.cell? ⟨w.heap.size + 1, 1, none⟩ = some (.int .i64 ya)) := fun W h => by
    have h1 : Blk W (w.heap.size + 1) 61 #[.string yi, .int .i64 ya, .int .i64 yc, .string yb, .string yo] := h.nth 0 rfl
    have h2 : Blk W w.heap.size 61 #[.string xi, .int .i64 xa, .int .i64 xc, .string xb, .string xo] := h.nth 1 rfl
    exact ⟨h2.cell 0, h2.cell 1, h1.cell 0, h1.cell 1⟩
  have hd := hS.drew
  clear hI hC HP
  go_enter Tryz.func68, Tryz.ntmps68
  go_upto_region 1 with (fail)
  obtain ⟨W0, hW0⟩ : ∃ W0, W0 = (w.alloc (.cells #[.string xi, .int .i64 xa, .int .i64 xc, .string xb, .string xo] 61)).alloc (.cells #[.string yi, .int .i64 ya, .int .i64 yc, .string yb, .string yo] 61) := ⟨_, rfl⟩
  rw [← hW0] at hd hS ⊢
  obtain ⟨k0, k1, k2, k3⟩ := HCELL.out W0 hS
  have HG := Lib.hid (HG0.out (.cells #[.int .i64 I, .int .i64 C] 3))
  rw [← hW0] at HG
  clear hW0 HG0
  have HBO : Hid (Blk (W0.alloc (.cells #[.int .i64 I, .int .i64 C] 3)).drew W0.heap.size 3 #[.int .i64 I, .int .i64 C]) := Blk.new W0 _ _
  have hda := (hS.alloc (.cells #[.int .i64 I, .int .i64 C] 3)).drew
  go_region_held3 (fun W => W.cell? ⟨w.heap.size, 0, none⟩ = some (.string xi) ∧ W.cell? ⟨w.heap.size, 1, none⟩ = some (.int .i64 xa) ∧ W.cell? ⟨w.heap.size + 1, 0, none⟩ = some (.string yi) ∧ W.cell? ⟨w.heap.size + 1, 1, none⟩ = some (.int .i64 ya))
    (first | exact HCELL.out _ hd | exact HCELL.out _ (hS.alloc _) | exact HCELL.out _ hda | exact HCELL.out _ (hda.drewN _) | go_keep)
    (first
      | (go_at_call 38; ((with_reducible refine (HI.out _).mono ?_); rintro e w4 ⟨rfl, rfl⟩))
      | (go_at_call 54; ((with_reducible refine (HC.out _).mono ?_); rintro e w5 ⟨rfl, rfl⟩))
      | (go_at_call 37; ((with_reducible refine (HO.out _ _ HBO.out).mono ?_); rintro e w6 ⟨rfl, nq, rfl⟩)))
  go_wp2_with fail
  go_ret
  exact ⟨rfl, HG.out _⟩
/-- the program's sort -/
theorem sortP_calls (w0 w : World) (g n c : Nat) (gs : List Gf) (hgs : ∀ x ∈ gs, GfOk x) (hn : n ≤ 100000) (hS : Sq w0 w [rOwn w0.heap.size 61 5 (.slice (some ⟨g, 0, none⟩) n c) n (gs.flatMap gfC)]) :
    Calls Tryz.prog 67 #[.slice (some ⟨g, 0, none⟩) n c, .func (.func 68) #[] #[]] w (SrtR w0 g n c gs) :=
  sort_core ordP ltP_beh 68 (enters_of Tryz.func68 (by kernel_rfl) rfl) (fun x y W _ _ => byGiftG_calls x y W) w0 w g n c gs hgs hn hS
/-- the reference's sort -/
theorem sortQ_calls (w0 w : World) (g n c : Nat) (gs : List Gf) (hgs : ∀ x ∈ gs, GfOk x) (hn : n ≤ 100000) (hS : Sq w0 w [rOwn w0.heap.size 61 5 (.slice (some ⟨g, 0, none⟩) n c) n (gs.flatMap gfC)]) :
    Calls Tryz.prog 67 #[.slice (some ⟨g, 0, none⟩) n c, .func (.func 98) #[] #[]] w (SrtR w0 g n c gs) :=
  sort_core ordQ ltQ_beh 98 (enters_of Tryz.func98 (by kernel_rfl) rfl) (fun x y W hx hy => giftOrderG_calls x y W hx hy) w0 w g n c gs hgs hn hS
end Go.Proofs.YtohhbkodfidfkaaGreatDoor
