/-
  A board's runs are at most half of the events; who reigns, and when, in plain words. No walk.
-/
import Derived.Test.YtapgnaimbgjcnaaGreatDoorZMapR
import Derived.Test.YtapgnaimbgjcnaaGreatDoorZEv1W
namespace Go.Proofs.YtapgnaimbgjcnaaGreatDoor
open Go Go.RowKit
def ver1 (r : Rcd) : Bool := decide (r.2 = 1)
theorem cnt_set (s : ByteArray) (c : Nat) : ∀ l : List Rcd, (l.map (·.1.id)).Nodup → (l.map (fun r => if r.1.id = s then (r.1, c) else r)).countP ver1 ≤ l.countP ver1 + 1
 | [], _ => Nat.zero_le _
 | r :: t, hn => by
   rw [List.map_cons] at hn ⊢
   obtain ⟨h1, h2⟩ := List.nodup_cons.1 hn
   by_cases h : r.1.id = s
   · have ht : t.map (fun r => if r.1.id = s then (r.1, c) else r) = t := by
      have e : t.map (fun r => if r.1.id = s then (r.1, c) else r) = t.map (fun r => r) := List.map_congr_left (fun x hx => if_neg (fun e => h1 (by rw [h, ← e]; exact List.mem_map.2 ⟨x, hx, rfl⟩)))
      rw [e, List.map_id']
     rw [ht, List.countP_cons, List.countP_cons]
     split <;> split <;> omega
   · have ih := cnt_set s c t h2
     rw [if_neg h, List.countP_cons, List.countP_cons]
     omega
theorem ver_cnt (l : List Bev) (u : Int) (hk : ∀ x ∈ l, EvK x) : ∀ k, k ≤ l.length → (folE (l.take k) u).1.rn.length + (folE (l.take k) u).1.rn.countP ver1 ≤ k
 | 0, _ => by rw [List.take_zero]; exact Nat.le_refl _
 | k + 1, hl => by
   have ih := ver_cnt l u hk k (by omega)
   have hK := KD.fol l u hk k (by omega)
   rw [folE_step l u k (by omega)]
   by_cases hu : l[k].at_ ≤ u
   · cases hs : stpE (folE (l.take k) u).1 l[k] with
     | none =>
       rw [accE_none hu hs]
       show (folE (l.take k) u).1.rn.length + (folE (l.take k) u).1.rn.countP ver1 ≤ k + 1
       omega
     | some D =>
       rw [accE_some hu hs]
       show D.rn.length + D.rn.countP ver1 ≤ k + 1
       unfold stpE at hs
       split at hs
       · cases hs
       · split at hs
         · split at hs
           · cases hs
           · injection hs with hs
             subst hs
             show ((folE (l.take k) u).1.rn ++ [(l[k], 0)]).length + ((folE (l.take k) u).1.rn ++ [(l[k], 0)]).countP ver1 ≤ k + 1
             rw [List.length_append, List.countP_append]
             have e : [((l[k], 0) : Rcd)].countP ver1 = 0 := rfl
             rw [e]
             simp only [List.length_cons, List.length_nil]
             omega
         · split at hs
           · split at hs
             · cases hs
             · injection hs with hs
               subst hs
               show (folE (l.take k) u).1.rn.length + (folE (l.take k) u).1.rn.countP ver1 ≤ k + 1
               omega
           · split at hs
             · cases hs
             · split at hs
               · cases hs
               · injection hs with hs
                 subst hs
                 rename_i c _
                 have h2 := cnt_set l[k].id c _ hK.nd
                 show ((folE (l.take k) u).1.rn.map (fun r => if r.1.id = l[k].id then (r.1, c) else r)).length + ((folE (l.take k) u).1.rn.map (fun r => if r.1.id = l[k].id then (r.1, c) else r)).countP ver1 ≤ k + 1
                 rw [List.length_map]
                 omega
   · rw [accE_late hu]; omega
theorem inB_ver {D : Dsk} (hK : KD D) {cat : ByteArray} {r : Rcd} (hr : r ∈ D.rn) (h : inB D cat r = true) : ver1 r = true := by
 have h3 := hK.c3 r hr
 unfold inB at h
 simp only [Bool.and_eq_true] at h
 have h2 := h.1.2
 unfold ver1
 obtain ⟨x, c⟩ := r
 simp only at h2 h3 ⊢
 rcases (show c = 0 ∨ c = 1 ∨ c = 2 ∨ c = 3 by omega) with rfl | rfl | rfl | rfl
 · exact absurd h2 (by unfold hwV; decide +kernel)
 · rfl
 · exact absurd h2 (by unfold hwV; decide +kernel)
 · exact absurd h2 (by unfold hwV; decide +kernel)
theorem brd_half (l : List Bev) (u : Int) (cat : ByteArray) (hk : ∀ x ∈ l, EvK x) : 2 * (brd (folE l u).1 cat).length ≤ l.length := by
 have h1 := ver_cnt l u hk l.length (Nat.le_refl _)
 have hK := KD.fol l u hk l.length (Nat.le_refl _)
 rw [List.take_length] at h1 hK
 have h2 : (brd (folE l u).1 cat).length ≤ (folE l u).1.rn.countP ver1 := by
  unfold brd
  rw [List.length_map, ← List.countP_eq_length_filter]
  exact List.countP_mono_left (fun r hr h => inB_ver hK hr h)
 have h3 : (folE l u).1.rn.countP ver1 ≤ (folE l u).1.rn.length := List.countP_le_length
 omega
theorem his_all {P : ByteArray → Prop} (m : Int) : ∀ (l : List Bev) (out : List Rgn), (∀ r ∈ out, P r.who) → (∀ y ∈ l, P y.who) → ∀ r ∈ l.foldl (stH m) out, P r.who
 | [], _, h, _ => h
 | y :: l, out, h, hy => by
   refine his_all m l (stH m out y) (fun r hr => ?_) (fun z hz => hy z (List.mem_cons_of_mem _ hz))
   have hy0 := hy y (List.mem_cons_self ..)
   unfold stH at hr
   split at hr
   · rename_i o ho
     split at hr
     · exact h r hr
     · rcases List.mem_append.1 hr with hr | hr
       · exact h r ((List.dropLast_sublist out).subset hr)
       · rcases List.mem_cons.1 hr with rfl | hr
         · exact h o (List.mem_of_getLast? ho)
         · rw [List.mem_singleton.1 hr]; exact hy0
   · rw [List.mem_singleton.1 hr]; exact hy0
theorem his_who {P : ByteArray → Prop} (m : Int) {l : List Bev} (h : ∀ y ∈ l, P y.who) : ∀ r ∈ hisF m l, P r.who := his_all m l [] (by intro r hr; cases hr) h
theorem brd_in {D : Dsk} {cat : ByteArray} {x : Bev} (h : x ∈ brd D cat) : ∃ k, (x, k) ∈ D.rn := by
 unfold brd at h
 obtain ⟨r, hr, rfl⟩ := List.mem_map.1 h
 exact ⟨r.2, (List.mem_filter.1 hr).1⟩
theorem brd_dates {l : List Bev} (h : ∀ x ∈ l, bevF x = 0) (u : Int) (cat : ByteArray) : ∀ x ∈ brd (folE l u).1 cat, 0 ≤ x.date ∧ x.date ≤ 345686400000 := by
 intro x hx
 obtain ⟨k, hk⟩ := brd_in hx
 have hb := fol_bd h u _ hk
 have h1 := hb.d0
 have h2 := hb.d1
 have h3 := hb.a1
 simp only at h1 h2 h3
 exact ⟨h1, by omega⟩
theorem his_sz {l : List Bev} {u : Int} {cat : ByteArray} (hK : KD (folE l u).1) {ys : List Bev} (hY : SbdH (folE l u).1 cat ys) : ∀ r ∈ hisF u ys, r.who.size ≤ 40 :=
 his_who u (P := fun s => s.size ≤ 40) (fun y hy => by
  obtain ⟨k, hk⟩ := brd_in (hY.1.mem_iff.1 hy)
  exact hK.wz _ hk)
end Go.Proofs.YtapgnaimbgjcnaaGreatDoor
