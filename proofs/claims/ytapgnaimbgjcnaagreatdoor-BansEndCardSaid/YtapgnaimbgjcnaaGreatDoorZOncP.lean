/-
  A board without its refused events is the same, in plain words. No walk.
-/
import Derived.Test.YtapgnaimbgjcnaaGreatDoorZEvK
import Derived.Test.YtapgnaimbgjcnaaGreatDoorZSortRun0
import Derived.Test.YtapgnaimbgjcnaaGreatDoorZDk5
import Derived.Test.YtapgnaimbgjcnaaGreatDoorZEv1W
import Derived.Test.YtapgnaimbgjcnaaGreatDoorZSlot1
import Derived.Test.YtapgnaimbgjcnaaGreatDoorZSortMem
namespace Go.Proofs.YtapgnaimbgjcnaaGreatDoor
open Go Go.RowKit
def keepB : List Bev → List Bool → List Bev
 | x :: l, b :: bs => if b = true then x :: keepB l bs else keepB l bs
 | _, _ => []
theorem bevsG_iff : ∀ (l : List Bev) (o : Option Bev), bevsG o l = 0 ↔ (∀ x ∈ l, bevF x = 0) ∧ (∀ y, o = some y → ∀ x ∈ l.head?, 0 < ordBev x y) ∧ l.Pairwise (fun a b => 0 < ordBev b a)
 | [], o => by simp [bevsG]
 | x :: l, o => by
   have ih := bevsG_iff l (some x)
   have tr : ∀ {a b c : Bev}, 0 < ordBev b a → 0 < ordBev c b → 0 < ordBev c a := by
    intro a b c h1 h2
    have n1 := ord3_bev.neg b a
    have n2 := ord3_bev.neg c b
    have n3 := ord3_bev.neg c a
    have t1 := ord3_bev.trans a b c (by omega) (by omega)
    rcases Int.lt_or_le 0 (ordBev c a) with h | h
    · exact h
    · have t2 := ord3_bev.trans c a b h (by omega)
      omega
   rw [bevsG]
   constructor
   · intro h
     by_cases hx : bevF x = 0
     · rw [if_pos hx] at h
       by_cases hb : befBev o x = true
       · rw [if_pos hb] at h; omega
       · rw [if_neg hb] at h
         obtain ⟨h1, h2, h3⟩ := ih.1 h
         have h4 : ∀ y ∈ l, 0 < ordBev y x := by
          intro y hy
          cases l with
          | nil => cases hy
          | cons z l =>
            have hz := h2 x rfl z rfl
            rcases List.mem_cons.1 hy with rfl | hy
            · exact hz
            · exact tr hz ((List.pairwise_cons.1 h3).1 y hy)
         refine ⟨fun y hy => ?_, fun y hy z hz => ?_, List.pairwise_cons.2 ⟨h4, h3⟩⟩
         · rcases List.mem_cons.1 hy with rfl | hy
           · exact hx
           · exact h1 y hy
         · have hz : x = z := by simpa using hz
           subst hz hy
           have hb : ¬ decide (ordBev x y ≤ 0) = true := hb
           have : ¬ ordBev x y ≤ 0 := by simpa using hb
           omega
     · rw [if_neg hx] at h; exact absurd h hx
   · rintro ⟨h1, h2, h3⟩
     rw [if_pos (h1 x (List.mem_cons_self ..))]
     have hb : ¬ befBev o x = true := by
      cases o with
      | none => exact fun h => (by cases h)
      | some y =>
        have := h2 y rfl x rfl
        show ¬ decide (ordBev x y ≤ 0) = true
        simp only [decide_eq_true_eq]
        omega
     rw [if_neg hb]
     refine ih.2 ⟨fun y hy => h1 y (List.mem_cons_of_mem _ hy), fun y hy z hz => ?_, (List.pairwise_cons.1 h3).2⟩
     injection hy with hy
     subst hy
     have hz : z ∈ l := List.mem_of_head? hz
     exact (List.pairwise_cons.1 h3).1 z hz
theorem bevsF_iff (l : List Bev) : bevsF l = 0 ↔ l.length ≤ 2000 ∧ (∀ x ∈ l, bevF x = 0) ∧ l.Pairwise (fun a b => 0 < ordBev b a) := by
 unfold bevsF
 have h := bevsG_iff l none
 by_cases hl : 2000 < l.length
 · rw [if_pos hl]
   constructor
   · intro h; omega
   · intro h; omega
 · rw [if_neg hl, h]
   constructor
   · rintro ⟨h1, _, h3⟩
     exact ⟨by omega, h1, h3⟩
   · rintro ⟨_, h1, h3⟩
     exact ⟨h1, fun y hy => (by cases hy), h3⟩
theorem bst_nodup : ∀ (l out : List Bev), (out.map (·.who)).Nodup → ((l.foldl stW out).map (·.who)).Nodup
 | [], _, h => h
 | x :: l, out, h => by
   rw [List.foldl_cons]
   refine bst_nodup l _ ?_
   unfold stW
   split
   · exact h
   · rename_i hn
     rw [List.map_append]
     refine List.nodup_append.2 ⟨h, by simp, fun a ha b hb e => ?_⟩
     have hb : b = x.who := by simpa using hb
     subst hb
     obtain ⟨o, ho, he⟩ := List.mem_map.1 ha
     exact hn (List.any_eq_true.2 ⟨o, ho, decide_eq_true (he.trans e)⟩)
theorem rows_from {l : List Bev} {z : Brw} (h : z ∈ rowsB l) : ∃ x ∈ l, z.who = x.who ∧ z.time = x.time ∧ z.id = x.id := by
 unfold rowsB at h
 obtain ⟨x, hx, rfl⟩ := List.mem_map.1 h
 exact ⟨x, (bstW_sub l).subset hx, rfl, rfl, rfl⟩
end Go.Proofs.YtapgnaimbgjcnaaGreatDoor
/-
  Who is banned is on no board; let again they are where they were, in plain words. No walk.
-/
namespace Go.Proofs.YtapgnaimbgjcnaaGreatDoor
open Go Go.RowKit
def annX : ByteArray := ⟨#[97, 110, 110]⟩
def chiefX : ByteArray := ⟨#[99, 104, 105, 101, 102]⟩
def banE : Bev := ⟨500, 5, noBev, annX, chiefX, noBev, 0, 0⟩
def freeE : Bev := ⟨600, 6, noBev, annX, chiefX, noBev, 0, 0⟩
theorem chief_ann : chiefX ≠ annX := by decide
def ErlE (x : Bev) : Prop := x.at_ ≤ 450 ∧ x.who ≠ chiefX
theorem ord_late {x y : Bev} (h : y.at_ < x.at_) : 0 < ordBev x y := by
 have e : ordBev x y = 1 := by
  unfold ordBev
  have : cmpI x.at_ y.at_ = 1 := by unfold cmpI; rw [if_neg (by omega), if_pos h]
  rw [this]
  rfl
 omega
theorem bevs_snoc {l : List Bev} (h : bevsF l = 0) {x : Bev} (hx : bevF x = 0) (hl : ∀ y ∈ l, y.at_ < x.at_) (hn : l.length ≤ 1000) : bevsF (l ++ [x]) = 0 := by
 obtain ⟨_, h2, h3⟩ := (bevsF_iff l).1 h
 refine (bevsF_iff _).2 ⟨by simp; omega, fun y hy => ?_, List.pairwise_append.2 ⟨h3, by simp, fun a ha b hb => ?_⟩⟩
 · rcases List.mem_append.1 hy with hy | hy
   · exact h2 y hy
   · rw [List.mem_singleton.1 hy]; exact hx
 · rw [List.mem_singleton.1 hb]
   exact ord_late (hl a ha)
theorem ban_right : bevF banE = 0 := by decide +kernel
theorem free_right : bevF freeE = 0 := by decide +kernel
theorem ban_bevs {l : List Bev} (h : bevsF l = 0) (he : ∀ x ∈ l, ErlE x) (hn : l.length ≤ 900) : bevsF (l ++ [banE]) = 0 ∧ bevsF (l ++ [banE] ++ [freeE]) = 0 := by
 have h1 := bevs_snoc h ban_right (fun y hy => by have := (he y hy).1; show y.at_ < 500; omega) (by omega)
 refine ⟨h1, bevs_snoc h1 free_right (fun y hy => ?_) (by simp; omega)⟩
 rcases List.mem_append.1 hy with hy | hy
 · have := (he y hy).1
   show y.at_ < 600
   omega
 · rw [List.mem_singleton.1 hy]
   decide
theorem stp_bn {D D' : Dsk} {x : Bev} {s : ByteArray} (h : stpE D x = some D') (hx : x.who ≠ s) : D'.bn s = D.bn s := by
 unfold stpE at h
 split at h
 · cases h
 · split at h
   · split at h
     · cases h
     · injection h with h
       subst h
       rfl
   · split at h
     · split at h
       · cases h
       · injection h with h
         subst h
         show (if s = x.who then _ else D.bn s) = _
         rw [if_neg (fun e => hx e.symm)]
     · split at h
       · cases h
       · split at h
         · cases h
         · injection h with h
           subst h
           rfl
theorem fold_bn (u : Int) (s : ByteArray) : ∀ (l : List Bev) (a : Dsk × List Bool), (∀ x ∈ l, x.who ≠ s) → (l.foldl (accE u) a).1.bn s = a.1.bn s
 | [], _, _ => rfl
 | x :: l, a, h => by
   rw [List.foldl_cons, fold_bn u s l _ (fun y hy => h y (List.mem_cons_of_mem _ hy))]
   unfold accE
   split
   · cases hs : stpE a.1 x with
     | some D => exact stp_bn hs (h x (List.mem_cons_self ..))
     | none => rfl
   · rfl
theorem fold_early {u v : Int} : ∀ (l : List Bev) (a : Dsk × List Bool), (∀ x ∈ l, x.at_ ≤ u) → u ≤ v → l.foldl (accE v) a = l.foldl (accE u) a
 | [], _, _, _ => rfl
 | x :: l, a, h, hv => by
   have hx := h x (List.mem_cons_self ..)
   have e : accE v a x = accE u a x := by
    unfold accE
    rw [if_pos hx, if_pos (by omega)]
   rw [List.foldl_cons, List.foldl_cons, e]
   exact fold_early l _ (fun y hy => h y (List.mem_cons_of_mem _ hy)) hv
theorem fol_snoc (l : List Bev) (x : Bev) (u : Int) : folE (l ++ [x]) u = accE u (folE l u) x := by
 unfold folE
 rw [List.foldl_append]
 rfl
theorem ban_desk {l : List Bev} (he : ∀ x ∈ l, ErlE x) :
 (folE (l ++ [banE]) 550).1.bn annX = true ∧
 (folE (l ++ [banE] ++ [freeE]) 600).1.rn = (folE l 450).1.rn ∧ (∀ s, (folE (l ++ [banE] ++ [freeE]) 600).1.bn s = if s = annX then false else (folE l 450).1.bn s) := by
 have hc : ∀ u, (folE l u).1.bn chiefX = false := fun u => fold_bn u chiefX l (dsk0, []) (fun x hx => (he x hx).2)
 have hat : ∀ x ∈ l, x.at_ ≤ 450 := fun x hx => (he x hx).1
 have e1 : folE l 550 = folE l 450 := fold_early l _ hat (by omega)
 have e2 : folE l 600 = folE l 450 := fold_early l _ hat (by omega)
 obtain ⟨⟨D, bs⟩, hD⟩ : ∃ a, folE l 450 = a := ⟨_, rfl⟩
 have hcD := hc 450
 rw [hD] at e1 e2 hcD
 have hcD : D.bn chiefX = false := hcD
 have hban : ∃ D2 b2, (∀ u, 500 ≤ u → accE u (D, bs) banE = (D2, bs ++ [b2])) ∧ D2.bn annX = true ∧ D2.rn = D.rn ∧ ∀ s, s ≠ annX → D2.bn s = D.bn s := by
  by_cases ha : D.bn annX = true
  · have hs : stpE D banE = none := by
     unfold stpE
     rw [if_neg (by show ¬ D.bn chiefX = true; rw [hcD]; decide), if_neg (by decide), if_pos (by decide), if_pos (by show D.bn annX = _; rw [ha]; rfl)]
    exact ⟨D, false, fun u hu => accE_none (a := (D, bs)) (by show (500 : Int) ≤ u; exact hu) hs, ha, rfl, fun s _ => rfl⟩
  · have ha : D.bn annX = false := by simpa using ha
    have hs : stpE D banE = some (setB D annX true) := by
     unfold stpE
     rw [if_neg (by show ¬ D.bn chiefX = true; rw [hcD]; decide), if_neg (by decide), if_pos (by decide), if_neg (by show ¬ D.bn annX = _; rw [ha]; decide)]
     rfl
    exact ⟨setB D annX true, true, fun u hu => accE_some (a := (D, bs)) (by show (500 : Int) ≤ u; exact hu) hs, by show (if annX = annX then true else D.bn annX) = true; rw [if_pos rfl], rfl, fun s h => by show (if s = annX then true else D.bn s) = _; rw [if_neg h]⟩
 obtain ⟨D2, b2, h1, h2, h3, h4⟩ := hban
 have hc2 : D2.bn chiefX = false := by rw [h4 _ chief_ann]; exact hcD
 have hs : stpE D2 freeE = some (setB D2 annX false) := by
  unfold stpE
  rw [if_neg (by show ¬ D2.bn chiefX = true; rw [hc2]; decide), if_neg (by decide), if_pos (by decide), if_neg (by show ¬ D2.bn annX = _; rw [h2]; decide)]
  rfl
 have hf : accE 600 (D2, bs ++ [b2]) freeE = (setB D2 annX false, bs ++ [b2] ++ [true]) := accE_some (a := (D2, bs ++ [b2])) (by decide) hs
 rw [fol_snoc, fol_snoc, fol_snoc, e1, e2, h1 550 (by omega), h1 600 (by omega), hf, hD]
 refine ⟨h2, h3, fun s => ?_⟩
 show (if s = annX then false else D2.bn s) = if s = annX then false else D.bn s
 by_cases hsa : s = annX
 · rw [if_pos hsa, if_pos hsa]
 · rw [if_neg hsa, if_neg hsa, h4 s hsa]
theorem brd_ban {D : Dsk} {cat : ByteArray} {x : Bev} (h : x ∈ brd D cat) : D.bn x.who = false := by
 unfold brd at h
 obtain ⟨r, hr, rfl⟩ := List.mem_map.1 h
 have h2 := (List.mem_filter.1 hr).2
 unfold inB at h2
 simp only [Bool.and_eq_true, Bool.not_eq_true'] at h2
 exact h2.2
theorem ban_place {D : Dsk} {cat who : ByteArray} {ys : List Bev} (hY : SbdR D cat ys) (hb : D.bn who = true) : plcB (rowsB ys) who = none := by
 unfold plcB
 rw [List.find?_eq_none]
 intro z hz hw
 have hw : z.who = who := of_decide_eq_true hw
 obtain ⟨x, hx, h1, _, _⟩ := rows_from hz
 have := brd_ban (hY.1.mem_iff.1 hx)
 rw [← h1, hw, hb] at this
 cases this
theorem sbdR_strict {D : Dsk} {cat : ByteArray} (hK : KD D) {xs : List Bev} (h : SbdR D cat xs) : xs.Pairwise (fun a b => cmpT a b < 0) := by
 have hn : (xs.map (·.id)).Nodup := by
  have h1 : ((brd D cat).map (·.id)).Nodup := by
   unfold brd
   rw [List.map_map]
   exact hK.nd.sublist (List.Sublist.map _ List.filter_sublist)
  exact (h.1.map (·.id)).nodup_iff.2 h1
 have hn2 : xs.Pairwise (fun a b => a.id ≠ b.id) := List.pairwise_map.1 hn
 refine (h.2.and hn2).imp (fun {a b} hab => ?_)
 have h1 := ord3_cmpT.neg a b
 have h2 : cmpT a b ≠ 0 := fun e => hab.2 (by
  unfold cmpT at e
  split at e
  · split at e
    · exact cmpS_zero e
    · rename_i h; exact absurd e h
  · rename_i h; exact absurd e h)
 have := hab.1
 omega
theorem same_best {D D' : Dsk} {cat : ByteArray} {ys zs : List Bev} (hK : KD D) (hK' : KD D') (hY : SbdR D cat ys) (hZ : SbdR D' cat zs) {z : Brw} (hz : z ∈ rowsB ys)
 (hm : ∀ x, x.who = z.who → (x ∈ brd D cat ↔ x ∈ brd D' cat)) : ∃ o ∈ rowsB zs, o.id = z.id ∧ o.time = z.time := by
 unfold rowsB at hz
 obtain ⟨x, hx, rfl⟩ := List.mem_map.1 hz
 have hw : (rowOf (bstW ys) x).who = x.who := rfl
 rw [hw] at hm
 have hnd : ((bstW ys).map (·.who)).Nodup := bst_nodup ys [] List.nodup_nil
 have hf : (bstW ys).find? (whoB x.who) = some x := find_self (fun r : Bev => r.who) (bstW ys) x hnd hx
 rw [bstW_find, find_filter] at hf
 have e : ownB ys x.who = ownB zs x.who := by
  have irr : ∀ a : Bev, ¬ cmpT a a < 0 := fun a h => by
   have := ord3_cmpT.neg a a
   omega
  have asym : ∀ a b : Bev, cmpT a b < 0 → cmpT b a < 0 → False := fun a b h1 h2 => by
   have := ord3_cmpT.neg a b
   omega
  refine srt_uniq (lt := fun a b => cmpT a b < 0) irr asym _ _ ((sbdR_strict hK hY).sublist List.filter_sublist) ((sbdR_strict hK' hZ).sublist List.filter_sublist) (fun p => ?_)
  unfold ownB
  rw [List.mem_filter, List.mem_filter]
  constructor
  · rintro ⟨h1, h2⟩
    exact ⟨hZ.1.mem_iff.2 ((hm p (of_decide_eq_true h2)).1 (hY.1.mem_iff.1 h1)), h2⟩
  · rintro ⟨h1, h2⟩
    exact ⟨hY.1.mem_iff.2 ((hm p (of_decide_eq_true h2)).2 (hZ.1.mem_iff.1 h1)), h2⟩
 have hf2 : (bstW zs).find? (whoB x.who) = some x := by
  rw [bstW_find, find_filter]
  show (ownB zs x.who).head? = _
  rw [← e]
  exact hf
 refine ⟨rowOf (bstW zs) x, ?_, rfl, rfl⟩
 unfold rowsB
 exact List.mem_map.2 ⟨x, List.mem_of_find?_eq_some hf2, rfl⟩
theorem free_board {l : List Bev} (he : ∀ x ∈ l, ErlE x) (hv : ∀ x ∈ l, EvK x) (hv3 : ∀ x ∈ l ++ [banE] ++ [freeE], EvK x) {cat : ByteArray} {ys zs : List Bev} (hY : SbdR (folE l 450).1 cat ys) (hZ : SbdR (folE (l ++ [banE] ++ [freeE]) 600).1 cat zs) :
 ∀ z ∈ rowsB ys, ∃ o ∈ rowsB zs, o.id = z.id ∧ o.time = z.time := by
 intro z hz
 obtain ⟨_, h2, h3⟩ := ban_desk he
 have hK : KD (folE l 450).1 := by
  have h := KD.fol l 450 hv l.length (Nat.le_refl _)
  rwa [List.take_length] at h
 have hK' : KD (folE (l ++ [banE] ++ [freeE]) 600).1 := by
  have h := KD.fol (l ++ [banE] ++ [freeE]) 600 hv3 _ (Nat.le_refl _)
  rwa [List.take_length] at h
 have hnb : (folE l 450).1.bn z.who = false := by
  obtain ⟨x, hx, h1, _, _⟩ := rows_from hz
  rw [h1]
  exact brd_ban (hY.1.mem_iff.1 hx)
 refine same_best hK hK' hY hZ hz (fun x hx => ?_)
 have e1 : (folE l 450).1.bn x.who = false := by rw [hx]; exact hnb
 have e2 : (folE (l ++ [banE] ++ [freeE]) 600).1.bn x.who = false := by
  rw [h3 x.who]
  split
  · rfl
  · exact e1
 unfold brd
 rw [h2, List.mem_map, List.mem_map]
 have hin : ∀ r : Rcd, r.1 = x → inB (folE l 450).1 cat r = inB (folE (l ++ [banE] ++ [freeE]) 600).1 cat r := by
  intro r hr
  unfold inB
  rw [hr, e1, e2]
 constructor
 · rintro ⟨r, hr, rfl⟩
   exact ⟨r, List.mem_filter.2 ⟨(List.mem_filter.1 hr).1, by rw [← hin r rfl]; exact (List.mem_filter.1 hr).2⟩, rfl⟩
 · rintro ⟨r, hr, rfl⟩
   exact ⟨r, List.mem_filter.2 ⟨(List.mem_filter.1 hr).1, by rw [hin r rfl]; exact (List.mem_filter.1 hr).2⟩, rfl⟩
end Go.Proofs.YtapgnaimbgjcnaaGreatDoor
