/-
  board.follow with Refused's closure, and board.Refused by its contract.
-/
import Derived.Test.YtapgnaimbgjcnaaGreatDoorZDk5
import Derived.Test.YtapgnaimbgjcnaaGreatDoorZEvK
import Derived.Test.YtapgnaimbgjcnaaGreatDoorZEv1W
import Derived.Test.YtapgnaimbgjcnaaGreatDoorZSlot1
import Derived.Test.YtapgnaimbgjcnaaGreatDoorZSortRun0
import Derived.Test.YtapgnaimbgjcnaaGreatDoorZSlot3
import Derived.Test.YtapgnaimbgjcnaaGreatDoorZBid3
import Derived.Deep.DeepCutAuto
import Derived.Test.YtapgnaimbgjcnaaGreatDoorZEv11
namespace Go.Proofs.YtapgnaimbgjcnaaGreatDoor
open Go Go.RowKit
attribute [local go_sem ↓] Go.wp_at_zero Go.wp_at_succ
theorem info_intR : (Tryz.prog.info? 3).map (fun i => (i.zero, i.size, i.bytes)) = some (some (.int .i64 0), 1, 8) := by kernel_rfl
def idxG : Nat → List Bool → List Int
 | _, [] => []
 | i, b :: t => (if b = true then [] else [(i : Int)]) ++ idxG (i + 1) t
theorem idxG_snoc (b : Bool) : ∀ (t : List Bool) (i : Nat), idxG i (t ++ [b]) = idxG i t ++ (if b = true then [] else [((i + t.length : Nat) : Int)])
 | [], i => by simp [idxG]
 | x :: t, i => by
   rw [List.cons_append, idxG, idxG, idxG_snoc b t (i + 1), List.append_assoc]
   congr 2
   rw [List.length_cons, show i + 1 + t.length = i + (t.length + 1) by omega]
theorem idxG_len : ∀ (t : List Bool) (i : Nat), (idxG i t).length ≤ t.length
 | [], _ => Nat.le_refl _
 | b :: t, i => by
   have ih := idxG_len t (i + 1)
   rw [idxG, List.length_append, List.length_cons]
   split <;> simp <;> omega
def intsV (l : List Int) : List Value := l.map (Value.int .i64)
def RefL (base gO : Nat) (RS : List Int) (A : Option Addr) (c : Nat) (l2 : List Rsc) : List Rsc :=
 rBlk gO 22 #[.slice A RS.length c] :: rOwn base 3 1 (.slice A RS.length c) RS.length (intsV RS) :: l2
set_option maxRecDepth 100000 in
set_option maxHeartbeats 4000000 in
theorem refOne_calls (w0 w : World) (gO : Nat) (i : Nat) (ok : Bool) (RS : List Int) (A : Option Addr) (c : Nat) (l2 : List Rsc) (hn : RS.length ≤ 100000) (hS : Sq w0 w (RefL w0.heap.size gO RS A c l2)) :
 Calls Tryz.prog 101 #[.int .i64 (i : Int), .bool ok, .pointer (some ⟨gO, 0, none⟩)] w (fun e w' => e = .returned (.tuple #[]) ∧ ∃ (A' : Option Addr) (c' : Nat), Sq w0 w' (RefL w0.heap.size gO (RS ++ (if ok = true then [] else [(i : Int)])) A' c' l2)) := by
 obtain ⟨j0, hj, hy0, hy1, hy2⟩ := info_parts info_intR
 cases ok
 · rw [if_neg (by decide)]
   have HF : Hid (∀ (W : World) (A' : Option Addr) (c' : Nat), Sq w0 W (rBlk gO 22 #[.slice A' (RS.length + 1) c'] :: rOwn w0.heap.size 3 1 (.slice A' (RS.length + 1) c') (RS.length + 1) (intsV RS ++ [.int .i64 (i : Int)]) :: l2) → ∃ (A' : Option Addr) (c' : Nat), Sq w0 W (RefL w0.heap.size gO (RS ++ [(i : Int)]) A' c' l2)) := Lib.hid (fun W A' c' h => ⟨A', c', by
    unfold RefL
    rw [List.length_append]
    have e : intsV (RS ++ [(i : Int)]) = intsV RS ++ [.int .i64 (i : Int)] := by unfold intsV; rw [List.map_append]; rfl
    rw [e]
    exact h⟩)
   obtain ⟨m, hm⟩ : ∃ m, RS.length = m := ⟨_, rfl⟩
   unfold RefL at hS
   rw [hm] at hS HF hn
   have b0 := (hS.head : Blk w gO _ _).cell 0
   have f0 := (hS.head : Blk w gO _ _).frozen 0
   have hgl := (hS.head : Blk w gO _ _).lt
   have hSf := hS.front 1 rfl rfl
   have HO5 : w.ownsRow w0.heap.size 3 1 (.slice A m c) m (intsV RS) := hSf.head
   have hsz := hSf.size
   clear hS hm
   go_enter Tryz.func101, Tryz.ntmps101
   go_wp2_with (first
    | (at_builtin; refine wpList_append_own_at _ rfl _ _ 22 rfl w0.heap.size 3 j0 (.int .i64 0) 1 8 Tryz.underlying22 hj hy0 hy1 hy2 rfl (by decide) _ _ _ rfl (HO5.alloc _) ⟨w.heap.size, 0, none⟩ 1 1 [.int .i64 (i : Int)] rfl rfl (World.news_of_block (heap_alloc_new _ _)) (by intro u hu; simp only [List.mem_cons, List.not_mem_nil, or_false] at hu; rcases hu with rfl; rfl) (by unfold maxLen; omega) (by omega) (by simp; omega) ?_; intro v' w11 hown' hgrow _ hblk; have hS9 := (hSf.alloc _).append hown' hgrow hblk; obtain ⟨A8, c8, hv8⟩ := own_form hown'; subst hv8; clear hown' hgrow hblk; have hS10 := hS9.front 1 rfl rfl; have k0 := (hS10.head : Blk w11 gO _ _).cell 0; have k1 := (hS10.head : Blk w11 gO _ _).frozen 0))
   go_end0
   exact ⟨rfl, HF.out _ A8 c8 (hS10.set_ 0 (.slice A8 (m + 1) c8))⟩
 · rw [if_pos rfl, List.append_nil]
   have HF : Hid (∃ (A' : Option Addr) (c' : Nat), Sq w0 w (RefL w0.heap.size gO RS A' c' l2)) := Lib.hid ⟨A, c, hS⟩
   clear hS
   go_enter Tryz.func101, Tryz.ntmps101
   go_wp2_with fail
   go_end0
   exact ⟨rfl, HF.out⟩
end Go.Proofs.YtapgnaimbgjcnaaGreatDoor
/-
  slices.Contains of ints by a contract. (Lines of XKeep2, for seats without presses.)
-/
namespace Go.Proofs.YtapgnaimbgjcnaaGreatDoor
open Go Go.RowKit
def memI (hs : List Int) (x : Int) : Bool := hs.any (fun y => x == y)
theorem memI_dec (hs : List Int) (x : Int) : memI hs x = decide (x ∈ hs) := by
 unfold memI
 induction hs with
 | nil => simp
 | cons y hs ih => rw [List.any_cons, ih]; by_cases h : x = y <;> simp [h]
theorem ints_cells {w : World} {b n c : Nat} {A : Option Addr} {hs : List Int} (h : Rd w b 1 (.slice A n c) n (hs.map (Value.int .i64))) :
 hs.length = n ∧ n ≤ c ∧ c ≤ maxLen ∧ (0 < n → ∃ g o, A = some ⟨g, o, none⟩ ∧ g ≠ b ∧ ∀ i (hi : i < hs.length), w.cell? ⟨g, o + i, none⟩ = some (.int .i64 hs[i])) := by
 obtain ⟨A', c', e1, e2, e3, e4, e5, e6⟩ := h
 injection e1 with ea eb ec
 subst ea ec
 refine ⟨by simpa using e4, e2, e3, fun hn => ?_⟩
 obtain ⟨g, o, f1, f2, f3⟩ := e6 hn
 exact ⟨g, o, f1, f2, fun i hi => f3 i _ (by rw [List.getElem?_map, List.getElem?_eq_getElem hi]; rfl)⟩
set_option maxRecDepth 100000 in
theorem indexI_calls (b : Nat) (A : Option Addr) (n c : Nat) (hs : List Int) (x : Int) (w : World) (hr : Rd w b 1 (.slice A n c) n (hs.map (Value.int .i64))) :
 Calls Tryz.prog 154 #[.slice A n c, .int .i64 x] w (QRet (.int .i64 (ixOf (fun y => x == y) hs)) w) := by
 obtain ⟨hl, hnc, hcm, hcells⟩ := ints_cells hr
 unfold maxLen at hcm
 have HL := Lib.hid hl
 have HC := Lib.hid hcells
 clear hcells hl hr
 go_enter Tryz.func154, Tryz.ntmps154
 go_wp2_with fail
 go_loopw [8] (fun i wr => ∃ k : Nat, k ≤ n ∧ i = .int .i64 k ∧ Hid (∀ i (_ : i < k) (hi' : i < hs.length), (x == hs[i]) = false) ∧ wr = w) (fun i _ => n - (intOf i).toNat)
 case atStart => exact ⟨0, Nat.zero_le _, rfl, (fun i hi => absurd hi (by omega)), rfl⟩
 case round =>
  obtain ⟨k, hk, rfl, HF, rfl⟩ := hrel
  by_cases hlt : k < n
  · have hkr : k < hs.length := by rw [HL.out]; exact hlt
    obtain ⟨g, o, hA, _, hcs⟩ := HC.out (by omega)
    subst hA
    have c0 := hcs k hkr
    obtain ⟨s, hs'⟩ : ∃ s, hs[k] = s := ⟨_, rfl⟩
    rw [hs'] at c0
    clear hcs
    cases he : (x == s)
    · have HF2 : Hid (∀ i (_ : i < k + 1) (hi' : i < hs.length), (x == hs[i]) = false) := by
       intro i hi hi'
       by_cases hik : i = k
       · subst hik; rw [hs']; exact he
       · exact HF.out i (by omega) hi'
      clear hs'
      go_wp2_with fail
      go_roundw
      case rel => exact ⟨k + 1, by omega, by go_num, HF2, trivial⟩
      case measure => simp [intOf]; omega
    · have HR : Hid (ixOf (fun y => x == y) hs = k) := ixOf_at _ hs k hkr (fun i hi => HF.out i hi (by omega)) (by rw [hs']; exact he)
      clear hs'
      go_wp2_with fail
      go_ret
      exact ⟨ret_int HR.out.symm, 0, rfl⟩
  · obtain rfl : k = n := by omega
    have HR : Hid (ixOf (fun y => x == y) hs = -1) := ixOf_no _ hs (fun i hi => HF.out i (by rw [← HL.out]; exact hi) hi)
    go_wp2_with fail
    go_ret
    exact ⟨ret_int HR.out.symm, 0, rfl⟩
set_option maxRecDepth 100000 in
theorem containsI_calls (b : Nat) (A : Option Addr) (n c : Nat) (hs : List Int) (x : Int) (w : World) (hr : Rd w b 1 (.slice A n c) n (hs.map (Value.int .i64))) :
 Calls Tryz.prog 102 #[.slice A n c, .int .i64 x] w (QRet (.bool (memI hs x)) w) := by
 have HM := Lib.hid (ixOf_mem (fun y => x == y) hs)
 go_enter Tryz.func102, Tryz.ntmps102
 go_wp2_with fail
 refine (indexI_calls b A n c hs x _ hr).mono ?_
 rintro e w1 ⟨rfl, nq, rfl⟩
 go_wp2_with fail
 go_ret
 exact ⟨ret_bool HM.out, nq, rfl⟩
end Go.Proofs.YtapgnaimbgjcnaaGreatDoor
/-
  A board without its refused events is the same, in plain words. No walk.
-/
namespace Go.Proofs.YtapgnaimbgjcnaaGreatDoor
open Go Go.RowKit
def wthE (l : List Bev) (r : List Int) : Nat → List Bev
 | 0 => []
 | k + 1 => match l[k]? with
   | none => wthE l r k
   | some p => if memI r k = true then wthE l r k else wthE l r k ++ [p]
theorem wthE_step (l : List Bev) (r : List Int) (k : Nat) (hk : k < l.length) : wthE l r (k + 1) = if memI r k = true then wthE l r k else wthE l r k ++ [l[k]] := by
 rw [wthE, List.getElem?_eq_getElem hk]
theorem wthE_len (l : List Bev) (r : List Int) : ∀ k, (wthE l r k).length ≤ k
 | 0 => Nat.le_refl _
 | k + 1 => by
   have := wthE_len l r k
   unfold wthE
   split
   · omega
   · split
     · omega
     · simp; omega
def stayF (D : Dsk) : List Bev → List Bev
 | [] => []
 | x :: l => match stpE D x with
   | some D' => x :: stayF D' l
   | none => stayF D l
theorem stay_sub : ∀ (l : List Bev) (D : Dsk), (stayF D l).Sublist l
 | [], _ => List.Sublist.refl _
 | x :: l, D => by
   unfold stayF
   split
   · exact (stay_sub l _).cons_cons x
   · exact (stay_sub l _).cons x
theorem late_all {u : Int} : ∀ (l : List Bev) (a : Dsk × List Bool), (∀ x ∈ l, ¬ x.at_ ≤ u) → l.foldl (accE u) a = a
 | [], _, _ => rfl
 | x :: l, a, h => by
   rw [List.foldl_cons, accE_late (h x (List.mem_cons_self ..))]
   exact late_all l a (fun y hy => h y (List.mem_cons_of_mem _ hy))
theorem fold_stay (u : Int) : ∀ (l : List Bev) (D : Dsk) (bs bs2 : List Bool), l.Pairwise (fun a b => a.at_ ≤ b.at_) → ((stayF D l).foldl (accE u) (D, bs)).1 = (l.foldl (accE u) (D, bs2)).1
 | [], _, _, _, _ => rfl
 | x :: l, D, bs, bs2, h => by
   obtain ⟨h1, h2⟩ := List.pairwise_cons.1 h
   by_cases hu : x.at_ ≤ u
   · cases hs : stpE D x with
     | some D' =>
       have e : stayF D (x :: l) = x :: stayF D' l := by rw [stayF, hs]
       rw [e, List.foldl_cons, List.foldl_cons, accE_some (a := (D, bs)) hu hs, accE_some (a := (D, bs2)) hu hs]
       exact fold_stay u l D' _ _ h2
     | none =>
       have e : stayF D (x :: l) = stayF D l := by rw [stayF, hs]
       rw [e, List.foldl_cons, accE_none (a := (D, bs2)) hu hs]
       exact fold_stay u l D _ _ h2
   · have hl : ∀ y ∈ x :: l, ¬ y.at_ ≤ u := by
      intro y hy
      rcases List.mem_cons.1 hy with rfl | hy
      · exact hu
      · have := h1 y hy
        omega
     rw [late_all _ _ hl, late_all _ _ (fun y hy => hl y ((stay_sub _ D).subset hy))]
theorem stay_true (u : Int) : ∀ (l : List Bev) (D : Dsk) (bs : List Bool), (∀ x ∈ l, x.at_ ≤ u) → (∀ b ∈ bs, b = true) → ∀ b ∈ ((stayF D l).foldl (accE u) (D, bs)).2, b = true
 | [], _, _, _, hb => hb
 | x :: l, D, bs, hu, hb => by
   have hx := hu x (List.mem_cons_self ..)
   have hl := fun y hy => hu y (List.mem_cons_of_mem _ hy)
   cases hs : stpE D x with
   | some D' =>
     have e : stayF D (x :: l) = x :: stayF D' l := by rw [stayF, hs]
     rw [e, List.foldl_cons, accE_some (a := (D, bs)) hx hs]
     refine stay_true u l D' _ hl (fun b hm => ?_)
     rcases List.mem_append.1 hm with hm | hm
     · exact hb b hm
     · exact List.mem_singleton.1 hm
   | none =>
     have e : stayF D (x :: l) = stayF D l := by rw [stayF, hs]
     rw [e]
     exact stay_true u l D bs hl hb
theorem idx_true : ∀ (bs : List Bool) (i : Nat), (∀ b ∈ bs, b = true) → idxG i bs = []
 | [], _, _ => rfl
 | b :: t, i, h => by
   rw [idxG, if_pos (h b (List.mem_cons_self ..)), idx_true t (i + 1) (fun c hc => h c (List.mem_cons_of_mem _ hc))]
   rfl
def keepB : List Bev → List Bool → List Bev
 | x :: l, b :: bs => if b = true then x :: keepB l bs else keepB l bs
 | _, _ => []
theorem keepB_snoc (x : Bev) (b : Bool) : ∀ (l : List Bev) (bs : List Bool), l.length = bs.length → keepB (l ++ [x]) (bs ++ [b]) = keepB l bs ++ (if b = true then [x] else [])
 | [], [], _ => rfl
 | y :: l, c :: bs, h => by
   have ih := keepB_snoc x b l bs (by simpa using h)
   rw [List.cons_append, List.cons_append, keepB, keepB, ih]
   cases c <;> rfl
 | [], _ :: _, h => by simp at h
 | _ :: _, [], h => by simp at h
theorem idx_mem : ∀ (bs : List Bool) (i : Nat) (z : Int), z ∈ idxG i bs ↔ ∃ k, bs[k]? = some false ∧ z = ((i + k : Nat) : Int)
 | [], _, _ => by simp [idxG]
 | b :: t, i, z => by
   rw [idxG, List.mem_append, idx_mem t (i + 1) z]
   constructor
   · rintro (h | ⟨k, h1, h2⟩)
     · cases b
       · rw [if_neg (by decide)] at h
         exact ⟨0, rfl, by rw [List.mem_singleton.1 h]; rfl⟩
       · rw [if_pos rfl] at h
         cases h
     · exact ⟨k + 1, h1, by rw [h2]; congr 1; omega⟩
   · rintro ⟨k, h1, h2⟩
     cases k with
     | zero =>
       have hb : b = false := by simpa using h1
       subst hb
       rw [if_neg (by decide)]
       exact .inl (List.mem_singleton.2 h2)
     | succ k => exact .inr ⟨k, h1, by rw [h2]; congr 1; omega⟩
theorem wthE_keep (l : List Bev) (bs : List Bool) (h : l.length = bs.length) : ∀ k, k ≤ l.length → wthE l (idxG 0 bs) k = keepB (l.take k) (bs.take k)
 | 0, _ => by rw [List.take_zero]; rfl
 | k + 1, hk => by
   rw [wthE_step l _ k (by omega), wthE_keep l bs h k (by omega), List.take_succ_eq_append_getElem (show k < l.length by omega), List.take_succ_eq_append_getElem (show k < bs.length by omega), keepB_snoc _ _ _ _ (by simp [h])]
   have hm : memI (idxG 0 bs) (k : Int) = !bs[k] := by
    rw [memI_dec]
    have e : ((k : Int) ∈ idxG 0 bs) ↔ bs[k] = false := by
     rw [idx_mem]
     constructor
     · rintro ⟨j, h1, h2⟩
       have : j = k := by omega
       subst this
       rw [List.getElem?_eq_getElem (show j < bs.length by omega)] at h1
       exact Option.some.inj h1
     · intro h1
       exact ⟨k, by rw [List.getElem?_eq_getElem (show k < bs.length by omega), h1], by rw [Nat.zero_add]⟩
    cases hb : bs[k]
    · exact decide_eq_true (e.2 hb)
    · exact decide_eq_false (fun h2 => by rw [e.1 h2] at hb; cases hb)
   rw [hm]
   cases bs[k] <;> simp
theorem fold_flags (u : Int) : ∀ (l : List Bev) (D : Dsk) (bs : List Bool), (∀ x ∈ l, x.at_ ≤ u) → ∃ fs : List Bool, (l.foldl (accE u) (D, bs)).2 = bs ++ fs ∧ fs.length = l.length ∧ keepB l fs = stayF D l
 | [], _, bs, _ => ⟨[], by simp, rfl, rfl⟩
 | x :: l, D, bs, h => by
   have hx := h x (List.mem_cons_self ..)
   have hl := fun y hy => h y (List.mem_cons_of_mem _ hy)
   cases hs : stpE D x with
   | some D' =>
     obtain ⟨fs, h1, h2, h3⟩ := fold_flags u l D' (bs ++ [true]) hl
     rw [List.foldl_cons, accE_some (a := (D, bs)) hx hs]
     exact ⟨true :: fs, by rw [h1]; simp, by rw [List.length_cons, List.length_cons, h2], by rw [keepB, if_pos rfl, h3, stayF, hs]⟩
   | none =>
     obtain ⟨fs, h1, h2, h3⟩ := fold_flags u l D (bs ++ [false]) hl
     rw [List.foldl_cons, accE_none (a := (D, bs)) hx hs]
     exact ⟨false :: fs, by rw [h1]; simp, by rw [List.length_cons, List.length_cons, h2], by rw [keepB, if_neg (by decide), h3, stayF, hs]⟩
theorem without_stay (l : List Bev) (u : Int) (h : ∀ x ∈ l, x.at_ ≤ u) : wthE l (idxG 0 (folE l u).2) l.length = stayF dsk0 l := by
 obtain ⟨fs, h1, h2, h3⟩ := fold_flags u l dsk0 [] h
 have e : (folE l u).2 = fs := by
  unfold folE
  rw [h1, List.nil_append]
 rw [e, wthE_keep l fs h2.symm l.length (Nat.le_refl _), List.take_length, List.take_of_length_le (by omega), h3]
theorem bevsG_iff : ∀ (l : List Bev) (o : Option Bev), bevsG o l = 0 ↔ (∀ x ∈ l, bevF x = 0) ∧ (∀ y, o = some y → ∀ x ∈ l.head?, 0 < ordBev x y) ∧ l.Pairwise (fun a b => 0 < ordBev b a)
 | [], o => by simp [bevsG]
 | x :: l, o => by
   have ih := bevsG_iff l (some x)
   have tr : ∀ {a b c : Bev}, 0 < ordBev b a → 0 < ordBev c b → 0 < ordBev c a := by
    intro a b c h1 h2
    have n1 := ord3_bev.neg b a
    have n2 := ord3_bev.neg c b
    have n3 := ord3_bev.neg c a
    have t1 := ord3_bev.trans a b c (by omega) (by omega)
    rcases Int.lt_or_le 0 (ordBev c a) with h | h
    · exact h
    · have t2 := ord3_bev.trans c a b h (by omega)
      omega
   rw [bevsG]
   constructor
   · intro h
     by_cases hx : bevF x = 0
     · rw [if_pos hx] at h
       by_cases hb : befBev o x = true
       · rw [if_pos hb] at h; omega
       · rw [if_neg hb] at h
         obtain ⟨h1, h2, h3⟩ := ih.1 h
         have h4 : ∀ y ∈ l, 0 < ordBev y x := by
          intro y hy
          cases l with
          | nil => cases hy
          | cons z l =>
            have hz := h2 x rfl z rfl
            rcases List.mem_cons.1 hy with rfl | hy
            · exact hz
            · exact tr hz ((List.pairwise_cons.1 h3).1 y hy)
         refine ⟨fun y hy => ?_, fun y hy z hz => ?_, List.pairwise_cons.2 ⟨h4, h3⟩⟩
         · rcases List.mem_cons.1 hy with rfl | hy
           · exact hx
           · exact h1 y hy
         · have hz : x = z := by simpa using hz
           subst hz hy
           have hb : ¬ decide (ordBev x y ≤ 0) = true := hb
           have : ¬ ordBev x y ≤ 0 := by simpa using hb
           omega
     · rw [if_neg hx] at h; exact absurd h hx
   · rintro ⟨h1, h2, h3⟩
     rw [if_pos (h1 x (List.mem_cons_self ..))]
     have hb : ¬ befBev o x = true := by
      cases o with
      | none => exact fun h => (by cases h)
      | some y =>
        have := h2 y rfl x rfl
        show ¬ decide (ordBev x y ≤ 0) = true
        simp only [decide_eq_true_eq]
        omega
     rw [if_neg hb]
     refine ih.2 ⟨fun y hy => h1 y (List.mem_cons_of_mem _ hy), fun y hy z hz => ?_, (List.pairwise_cons.1 h3).2⟩
     injection hy with hy
     subst hy
     have hz : z ∈ l := List.mem_of_head? hz
     exact (List.pairwise_cons.1 h3).1 z hz
theorem bevsF_iff (l : List Bev) : bevsF l = 0 ↔ l.length ≤ 2000 ∧ (∀ x ∈ l, bevF x = 0) ∧ l.Pairwise (fun a b => 0 < ordBev b a) := by
 unfold bevsF
 have h := bevsG_iff l none
 by_cases hl : 2000 < l.length
 · rw [if_pos hl]
   constructor
   · intro h; omega
   · intro h; omega
 · rw [if_neg hl, h]
   constructor
   · rintro ⟨h1, _, h3⟩
     exact ⟨by omega, h1, h3⟩
   · rintro ⟨_, h1, h3⟩
     exact ⟨h1, fun y hy => (by cases hy), h3⟩
theorem ord_at {x y : Bev} (h : 0 < ordBev x y) : y.at_ ≤ x.at_ := by
 rcases Int.lt_or_le x.at_ y.at_ with hlt | hle
 · have e : ordBev x y = -1 := by
    unfold ordBev
    have : cmpI x.at_ y.at_ = -1 := by unfold cmpI; rw [if_pos hlt]
    rw [this]
    rfl
   omega
 · exact hle
theorem bevs_at {l : List Bev} (h : bevsF l = 0) : l.Pairwise (fun a b => a.at_ ≤ b.at_) := ((bevsF_iff l).1 h).2.2.imp (fun h => ord_at h)
theorem bevs_sub {l k : List Bev} (h : bevsF l = 0) (hs : k.Sublist l) : bevsF k = 0 := by
 obtain ⟨h1, h2, h3⟩ := (bevsF_iff l).1 h
 exact (bevsF_iff k).2 ⟨Nat.le_trans hs.length_le h1, fun x hx => h2 x (hs.subset hx), h3.sublist hs⟩
theorem stay_board {l : List Bev} (h : bevsF l = 0) (u : Int) : (folE (stayF dsk0 l) u).1 = (folE l u).1 := fold_stay u l dsk0 [] [] (bevs_at h)
theorem stay_none (l : List Bev) (u : Int) (h : ∀ x ∈ l, x.at_ ≤ u) : idxG 0 (folE (stayF dsk0 l) u).2 = [] := idx_true _ 0 (stay_true u l dsk0 [] h (by intro b hb; cases hb))
theorem bst_nodup : ∀ (l out : List Bev), (out.map (·.who)).Nodup → ((l.foldl stW out).map (·.who)).Nodup
 | [], _, h => h
 | x :: l, out, h => by
   rw [List.foldl_cons]
   refine bst_nodup l _ ?_
   unfold stW
   split
   · exact h
   · rename_i hn
     rw [List.map_append]
     refine List.nodup_append.2 ⟨h, by simp, fun a ha b hb e => ?_⟩
     have hb : b = x.who := by simpa using hb
     subst hb
     obtain ⟨o, ho, he⟩ := List.mem_map.1 ha
     exact hn (List.any_eq_true.2 ⟨o, ho, decide_eq_true (he.trans e)⟩)
theorem rows_who (l : List Bev) : ((rowsB l).map (·.who)).Nodup := by
 have h := bst_nodup l [] List.nodup_nil
 unfold rowsB
 rw [List.map_map]
 exact h
theorem rows_place (l : List Bev) {z : Brw} (h : z ∈ rowsB l) : plcB (rowsB l) z.who = some z := find_self (fun r : Brw => r.who) (rowsB l) z (rows_who l) h
theorem rows_rank (l : List Bev) {z : Brw} (h : z ∈ rowsB l) : wldB (rowsB l) z.time = z.rank := by
 unfold rowsB at h
 obtain ⟨x, hx, rfl⟩ := List.mem_map.1 h
 show wldB ((bstW l).map (rowOf (bstW l))) x.time = rkT (bstW l) x.time
 unfold wldB rkT
 rw [List.filter_map, List.length_map]
 rfl
theorem rows_times {D : Dsk} {cat : ByteArray} {ys : List Bev} (h : SbdR D cat ys) : (rowsB ys).Pairwise (fun a b => a.time ≤ b.time) := by
 unfold rowsB
 rw [List.pairwise_map]
 exact (h.2.imp (fun h => cmpT_time h)).sublist (bstW_sub ys)
theorem rows_from {l : List Bev} {z : Brw} (h : z ∈ rowsB l) : ∃ x ∈ l, z.who = x.who ∧ z.time = x.time ∧ z.id = x.id := by
 unfold rowsB at h
 obtain ⟨x, hx, rfl⟩ := List.mem_map.1 h
 exact ⟨x, (bstW_sub l).subset hx, rfl, rfl, rfl⟩
end Go.Proofs.YtapgnaimbgjcnaaGreatDoor
/-
  slices.ContainsFunc of rows at two laws' closures. (Printed by gen_rowhas.py.)
-/
namespace Go.Proofs.YtapgnaimbgjcnaaGreatDoor
open Go Go.RowKit
attribute [local go_sem ↓] Go.wp_at_zero Go.wp_at_succ
def oncQ (r x : Brw) : Bool := x.who.toList == r.who.toList
set_option maxRecDepth 100000 in
theorem onc1_calls (gb : Nat) (r x : Brw) (w : World) (hg : Blk w gb 80 #[.int .i64 r.rank, .int .i64 r.time, .string r.id, .string r.who, .int .i64 r.date]) :
 Calls Tryz.prog 50 #[.agg #[.int .i64 x.rank, .int .i64 x.time, .string x.id, .string x.who, .int .i64 x.date], .pointer (some ⟨gb, 0, none⟩)] w (BRet (.bool (oncQ r x)) w) := by
 have hb : Below w.heap.size w (w.alloc (.cells #[.int .i64 x.rank, .int .i64 x.time, .string x.id, .string x.who, .int .i64 x.date] 80)) := (Below.refl _ _).alloc (Nat.le_refl _) _
 have g3 := hg.cell 3
 have gl := hg.lt
 clear hg
 obtain ⟨a0, a1, a2, a3, a4⟩ := x
 obtain ⟨b0, b1, b2, b3, b4⟩ := r
 unfold oncQ
 simp only at hb g3 ⊢
 replace g3 : w.cell? ⟨gb, 3, none⟩ = some (.string b3) := g3
 obtain ⟨Q, hQ⟩ : ∃ Q, (a3.toList == b3.toList) = Q := ⟨_, rfl⟩
 rw [hQ]
 go_enter Tryz.func50, Tryz.ntmps50
 go_wp2_with fail
 go_ret
 exact ⟨rfl, hb⟩
set_option maxRecDepth 100000 in
theorem hasOnc_calls (b gb : Nat) (r : Brw) (A2 : Option Addr) (m c2 : Nat) (hs : List Brw) (w : World) (hg : Blk w gb 80 #[.int .i64 r.rank, .int .i64 r.time, .string r.id, .string r.who, .int .i64 r.date]) (hr2 : Rd w b 5 (.slice A2 m c2) m (hs.flatMap brwC)) :
 Calls Tryz.prog 43 #[.slice A2 m c2, .func (.func 50) #[] #[.pointer (some ⟨gb, 0, none⟩)]] w (BRet (.bool (hs.any (fun x : Brw => oncQ r x))) w) := by
 obtain ⟨hl, hnc, hcm, hcells⟩ := hr2.cells brwC_len (by omega)
 unfold maxLen at hcm
 have HB : Hid (hs.any (fun x : Brw => oncQ r x) = hs.any (fun x : Brw => oncQ r x)) := rfl
 rw [HB.out]
 obtain ⟨p, hpp⟩ : ∃ p : Brw → Bool, (fun x : Brw => oncQ r x) = p := ⟨_, rfl⟩
 have HCC : Hid (∀ W (x : Brw), Below w.heap.size w W → Calls Tryz.prog 50 #[.agg #[.int .i64 x.rank, .int .i64 x.time, .string x.id, .string x.who, .int .i64 x.date], .pointer (some ⟨gb, 0, none⟩)] W (BRet (.bool (p x)) W)) := fun W x hW => by
  rw [← hpp]
  exact onc1_calls gb r x W (hg.below hW)
 have HL := Lib.hid hl
 have HCL := Lib.hid hcells
 rw [hpp]
 have HM := Lib.hid (ixOf_mem p hs)
 clear hcells hl hr2 hg hpp HB
 go_enter Tryz.func43, Tryz.ntmps43
 go_wp2
 go_loopw [8] (fun i wr => ∃ k : Nat, k ≤ m ∧ i = .int .i64 k ∧ Hid (∀ i (_ : i < k) (hi' : i < hs.length), p hs[i] = false) ∧ Below w.heap.size w wr) (fun i _ => m - (intOf i).toNat)
 case atStart => exact ⟨0, Nat.zero_le _, rfl, (fun i hi => absurd hi (by omega)), Below.refl _ _⟩
 case round =>
  obtain ⟨k, hk, rfl, HF, hbr⟩ := hrel
  by_cases hlt : k < m
  · have hkr : k < hs.length := by rw [HL.out]; exact hlt
    obtain ⟨g, o, hA, _, hcs⟩ := HCL.out (by omega)
    subst hA
    have c0 := below_cell hbr (hcs k hkr 0 (by omega))
    have c1 := below_cell hbr (hcs k hkr 1 (by omega))
    have c2 := below_cell hbr (hcs k hkr 2 (by omega))
    have c3 := below_cell hbr (hcs k hkr 3 (by omega))
    have c4 := below_cell hbr (hcs k hkr 4 (by omega))
    obtain ⟨s, hs'⟩ : ∃ s, hs[k] = s := ⟨_, rfl⟩
    rw [hs'] at c0 c1 c2 c3 c4
    replace c0 : wr.cell? ⟨g, o + k * 5, none⟩ = some (.int .i64 s.rank) := c0
    replace c1 : wr.cell? ⟨g, o + k * 5 + 1, none⟩ = some (.int .i64 s.time) := c1
    replace c2 : wr.cell? ⟨g, o + k * 5 + 2, none⟩ = some (.string s.id) := c2
    replace c3 : wr.cell? ⟨g, o + k * 5 + 3, none⟩ = some (.string s.who) := c3
    replace c4 : wr.cell? ⟨g, o + k * 5 + 4, none⟩ = some (.int .i64 s.date) := c4
    have HK := Lib.hid (HCC.out wr s hbr)
    clear hcs
    cases hp : p s
    · rw [hp] at HK
      have HF2 : Hid (∀ i (_ : i < k + 1) (hi' : i < hs.length), p hs[i] = false) := by
       intro i hi hi'
       by_cases hik : i = k
       · subst hik; rw [hs']; exact hp
       · exact HF.out i (by omega) hi'
      clear hp hs'
      go_wp2_with (go_at_call 50; refine HK.out.mono ?_; rintro e w2 ⟨rfl, hb2⟩)
      have hb3 := below_call hbr hb2 (Nat.le_refl _)
      go_roundw
      case rel => exact ⟨k + 1, by omega, by go_num, HF2, hb3⟩
      case measure => simp [intOf]; omega
    · rw [hp] at HK
      have HR : Hid (ixOf p hs = k) := ixOf_at _ hs k hkr (fun i hi => HF.out i hi (by omega)) (by rw [hs']; exact hp)
      have HA : Hid (hs.any p = true) := by
       have := HM.out
       rw [HR.out] at this
       rw [← this]
       exact Lib.hid (decide_eq_true (by omega))
      clear hp hs'
      go_wp2_with (go_at_call 50; refine HK.out.mono ?_; rintro e w2 ⟨rfl, hb2⟩)
      have hb3 := below_call hbr hb2 (Nat.le_refl _)
      go_ret
      exact ⟨ret_bool HA.out.symm, hb3⟩
  · obtain rfl : k = m := by omega
    have HR : Hid (ixOf p hs = -1) := ixOf_no _ hs (fun i hi => HF.out i (by rw [← HL.out]; exact hi) hi)
    have HA : Hid (hs.any p = false) := by
     have := HM.out
     rw [HR.out] at this
     rw [← this]
     exact Lib.hid rfl
    go_wp2
    go_ret
    exact ⟨ret_bool HA.out.symm, hbr⟩
end Go.Proofs.YtapgnaimbgjcnaaGreatDoor
/-
  A list of events without some of them, by a contract. (Printed by gen_keepe.py.)
-/
namespace Go.Proofs.YtapgnaimbgjcnaaGreatDoor
open Go Go.RowKit
attribute [local go_sem ↓] Go.wp_at_zero Go.wp_at_succ
def WthE (K : List Bev) (w : World) (e : Ending) (w' : World) : Prop :=
 ∃ v, e = .returned v ∧ w'.ownsRow w.heap.size 78 8 v K.length (K.flatMap bevC) ∧ Below w.heap.size w w'
set_option maxRecDepth 100000 in
set_option maxHeartbeats 1000000 in
theorem withoutE_calls (b : Nat) (A A2 : Option Addr) (m c m2 c2 : Nat) (l : List Bev) (r : List Int) (w : World) (hr : Rd w b 8 (.slice A m c) m (l.flatMap bevC)) (hr2 : Rd w b 1 (.slice A2 m2 c2) m2 (r.map (Value.int .i64))) (hm : m ≤ 100000) :
 Calls Tryz.prog 47 #[.slice A m c, .slice A2 m2 c2] w (WthE (wthE l r l.length) w) := by
 obtain ⟨i0, hi, hi0, hi1, hi2⟩ := info_parts info_bev
 obtain ⟨hlen, hnc, hcm, hcells⟩ := hr.cells bevC_len (by omega)
 unfold maxLen at hcm
 have HL := Lib.hid hlen
 have HC := Lib.hid hcells
 have HR2 := Lib.hid hr2
 have hS0 := (Sq.start w).nil w.heap.size 78 8
 clear hcells hlen hr hr2
 go_enter Tryz.func47, Tryz.ntmps47
 go_wp2_with fail
 go_loopw [5, 10] (fun v i wr => ∃ k : Nat, k ≤ m ∧ i = .int .i64 k ∧ Sq w wr [rOwn w.heap.size 78 8 v (wthE l r k).length ((wthE l r k).flatMap bevC)]) (fun _ i _ => m - (intOf i).toNat)
 case atStart => exact ⟨0, Nat.zero_le _, rfl, hS0⟩
 case round =>
  clear hS0
  obtain ⟨k, hk, rfl, hS⟩ := hrel
  by_cases hlt : k < m
  · have hkr : k < l.length := by rw [HL.out]; exact hlt
    obtain ⟨g, o, hA, _, hcs⟩ := HC.out (by omega)
    subst hA
    have hst := wthE_step l r k hkr
    have hwl := wthE_len l r k
    have x0 := below_cell hS.below (hcs k hkr 0 (by omega))
    have x1 := below_cell hS.below (hcs k hkr 1 (by omega))
    have x2 := below_cell hS.below (hcs k hkr 2 (by omega))
    have x3 := below_cell hS.below (hcs k hkr 3 (by omega))
    have x4 := below_cell hS.below (hcs k hkr 4 (by omega))
    have x5 := below_cell hS.below (hcs k hkr 5 (by omega))
    have x6 := below_cell hS.below (hcs k hkr 6 (by omega))
    have x7 := below_cell hS.below (hcs k hkr 7 (by omega))
    obtain ⟨p, hp⟩ : ∃ p, l[k] = p := ⟨_, rfl⟩
    rw [hp] at hst x0 x1 x2 x3 x4 x5 x6 x7
    obtain ⟨z0, z1, z2, z3, z4, z5, z6, z7⟩ := p
    replace x0 : wr.cell? ⟨g, o + k * 8, none⟩ = some (.int .i64 z0) := x0
    replace x1 : wr.cell? ⟨g, o + k * 8 + 1, none⟩ = some (.int .i64 z1) := x1
    replace x2 : wr.cell? ⟨g, o + k * 8 + 2, none⟩ = some (.string z2) := x2
    replace x3 : wr.cell? ⟨g, o + k * 8 + 3, none⟩ = some (.string z3) := x3
    replace x4 : wr.cell? ⟨g, o + k * 8 + 4, none⟩ = some (.string z4) := x4
    replace x5 : wr.cell? ⟨g, o + k * 8 + 5, none⟩ = some (.string z5) := x5
    replace x6 : wr.cell? ⟨g, o + k * 8 + 6, none⟩ = some (.int .i64 z6) := x6
    replace x7 : wr.cell? ⟨g, o + k * 8 + 7, none⟩ = some (.int .i64 z7) := x7
    have hz := hS.size
    obtain ⟨K, hK⟩ : ∃ K, wthE l r k = K := ⟨_, rfl⟩
    obtain ⟨K2, hK2⟩ : ∃ K2, wthE l r (k + 1) = K2 := ⟨_, rfl⟩
    rw [hK, hK2] at hst
    rw [hK] at hS hwl
    have HK2 := Lib.hid hK2
    have hSa := (hS.add #[.int .i64 z0, .int .i64 z1, .string z2, .string z3, .string z4, .string z5, .int .i64 z6, .int .i64 z7] 78)
    have HCT := Lib.hid (containsI_calls b A2 m2 c2 r (k : Int) _ (HR2.out.below hSa.below))
    obtain ⟨B, hB⟩ : ∃ B, memI r k = B := ⟨_, rfl⟩
    rw [hB] at hst HCT
    clear hcs hp hK hK2 hB hS
    go_wp2_with fail
    refine HCT.out.mono ?_
    rintro e w2 ⟨rfl, nq, rfl⟩
    have hS2 := (hSa.drewN nq).front 1 rfl rfl
    obtain ⟨W2, hW2⟩ : ∃ W2, W2 = (wr.alloc (.cells #[.int .i64 z0, .int .i64 z1, .string z2, .string z3, .string z4, .string z5, .int .i64 z6, .int .i64 z7] 78)).drewN nq := ⟨_, rfl⟩
    rw [← hW2] at hS2 ⊢
    have hy : Blk W2 wr.heap.size 78 #[.int .i64 z0, .int .i64 z1, .string z2, .string z3, .string z4, .string z5, .int .i64 z6, .int .i64 z7] := hS2.nth 1 rfl
    have y0 := hy.cell 0
    have y1 := hy.cell 1
    have y2 := hy.cell 2
    have y3 := hy.cell 3
    have y4 := hy.cell 4
    have y5 := hy.cell 5
    have y6 := hy.cell 6
    have y7 := hy.cell 7
    clear hW2 hSa HCT hy x0 x1 x2 x3 x4 x5 x6 x7
    cases B
    · rw [if_neg (by decide)] at hst
      have HST : Hid (wthE l r (k + 1) = K ++ [(⟨z0, z1, z2, z3, z4, z5, z6, z7⟩ : Bev)]) := HK2.out.trans hst
      have HO := hS2.head
      have hz2 := hS2.size
      clear hst
      go_wp2_with (first
       | (at_builtin; refine wpList_append_own_at _ rfl _ _ 26 rfl w.heap.size 78 i0 (.agg #[.int .i64 0, .int .i64 0, .string ⟨#[]⟩, .string ⟨#[]⟩, .string ⟨#[]⟩, .string ⟨#[]⟩, .int .i64 0, .int .i64 0]) 8 96 Tryz.underlying26 hi hi0 hi1 hi2 rfl (by decide) _ _ _ rfl (HO.alloc _) ⟨W2.heap.size, 0, none⟩ 1 1 [.int .i64 z0, .int .i64 z1, .string z2, .string z3, .string z4, .string z5, .int .i64 z6, .int .i64 z7] rfl rfl (World.news_of_block (heap_alloc_new _ _)) (one8e rfl rfl rfl rfl rfl rfl rfl rfl) (by unfold maxLen; omega) (by omega) (by simp; omega) ?_; intro v' w8 hown' hgrow _ hblk; have hS8 := (hS2.alloc _).append hown' hgrow hblk; clear hown' hgrow hblk HO))
      have hS9 : Sq w w8 [rOwn w.heap.size 78 8 v' (K ++ [(⟨z0, z1, z2, z3, z4, z5, z6, z7⟩ : Bev)]).length ((K ++ [(⟨z0, z1, z2, z3, z4, z5, z6, z7⟩ : Bev)]).flatMap bevC)] := by
       rw [bev_snoc, List.length_append]
       exact hS8.drop 1 rfl rfl
      go_roundw
      case rel => exact ⟨k + 1, by omega, by go_num, by rw [HST.out]; exact hS9⟩
      case measure => simp [intOf]; omega
    · rw [if_pos rfl] at hst
      have HST : Hid (wthE l r (k + 1) = K) := HK2.out.trans hst
      clear hst
      go_wp2_with fail
      go_roundw
      case rel => exact ⟨k + 1, by omega, by go_num, by rw [HST.out]; exact hS2.drop 1 rfl rfl⟩
      case measure => simp [intOf]; omega
  · obtain rfl : k = m := by omega
    have HLN := Lib.hid HL.out.symm
    go_wp2_with fail
    go_ret
    rw [HL.out]
    exact ⟨_, rfl, hS.head, hS.below⟩
end Go.Proofs.YtapgnaimbgjcnaaGreatDoor
