/-
  Records of a category in plain words: the program's and the reference's are one. No walk.
-/
import Derived.Test.YtapgnaimbgjcnaaGreatDoorZBtQ
namespace Go.Proofs.YtapgnaimbgjcnaaGreatDoor
open Go Go.RowKit
structure Rgn where
 id : ByteArray
 who : ByteArray
 time : Int
 from_ : Int
 to_ : Int
def rgnC (x : Rgn) : List Value := [.string x.id, .string x.who, .int .i64 x.time, .int .i64 x.from_, .int .i64 x.to_]
theorem rgnC_len (x : Rgn) : (rgnC x).length = 5 := rfl
def rgnOf (m : Int) (r : Bev) : Rgn := ⟨r.id, r.who, r.time, r.date, max m r.date⟩
def cmpH (x y : Bev) : Int := if cmpI x.date y.date = 0 then cmpT x y else cmpI x.date y.date
theorem ord3_cmpH : Ord3 cmpH := (ord3_int (fun x : Bev => x.date)).first ord3_cmpT
theorem cmpT_id (a b : Bev) (hz : cmpT a b = 0) : a.id = b.id := by
 unfold cmpT at hz
 split at hz
 · split at hz
   · exact cmpS_zero hz
   · rename_i h; exact absurd hz h
 · rename_i h; exact absurd hz h
theorem cmpH_id (a b : Bev) (h : cmpH a b = 0) : a.id = b.id := by
 unfold cmpH at h
 split at h
 · exact cmpT_id a b h
 · rename_i h2; exact absurd h h2
def stH (m : Int) (out : List Rgn) (r : Bev) : List Rgn := match out.getLast? with
 | some o => if o.time ≤ r.time then out else out.dropLast ++ [⟨o.id, o.who, o.time, o.from_, r.date⟩, rgnOf m r]
 | none => [rgnOf m r]
def hisF (m : Int) (l : List Bev) : List Rgn := l.foldl (stH m) []
def stK (out : List Bev) (r : Bev) : List Bev := match out.getLast? with
 | some o => if o.time ≤ r.time then out else out ++ [r]
 | none => [r]
def recs (l : List Bev) : List Bev := l.foldl stK []
def fixTo : List Rgn → List Rgn
 | a :: b :: t => ⟨a.id, a.who, a.time, a.from_, b.from_⟩ :: fixTo (b :: t)
 | l => l
theorem fixTo_snoc (b : Rgn) : ∀ (l : List Rgn) (o : Rgn), fixTo (l ++ [o, b]) = (fixTo (l ++ [o])).dropLast ++ [⟨o.id, o.who, o.time, o.from_, b.from_⟩, b]
 | [], o => rfl
 | [a], o => rfl
 | a :: c :: t, o => by
   have ih := fixTo_snoc b (c :: t) o
   show _ :: fixTo (c :: t ++ [o, b]) = _
   rw [ih]
   show _ = (_ :: fixTo (c :: t ++ [o])).dropLast ++ _
   have hne : fixTo (c :: t ++ [o]) ≠ [] := by
    cases t <;> simp [fixTo]
   rw [List.dropLast_cons_of_ne_nil hne]
   rfl
theorem fixTo_last : ∀ (l : List Rgn) (o : Rgn), (fixTo (l ++ [o])).getLast? = some o
 | [], o => rfl
 | [a], o => rfl
 | a :: c :: t, o => by
   have ih := fixTo_last (c :: t) o
   show (_ :: fixTo (c :: t ++ [o])).getLast? = _
   rw [List.getLast?_cons, ih]
   rfl
theorem stH_step (m : Int) (out : List Bev) (r : Bev) : stH m (fixTo (out.map (rgnOf m))) r = fixTo ((stK out r).map (rgnOf m)) := by
 rcases List.eq_nil_or_concat out with rfl | ⟨q, y, rfl⟩
 · rfl
 · rw [List.concat_eq_append]
   unfold stH stK
   rw [List.map_append, List.map_cons, List.map_nil, fixTo_last, List.getLast?_concat]
   simp only
   by_cases h : y.time ≤ r.time
   · rw [if_pos (show (rgnOf m y).time ≤ r.time from h), if_pos h, List.map_append, List.map_cons, List.map_nil]
   · rw [if_neg (show ¬ (rgnOf m y).time ≤ r.time from h), if_neg h, List.map_append, List.map_append, List.append_assoc]
     exact (fixTo_snoc (rgnOf m r) (q.map (rgnOf m)) (rgnOf m y)).symm
theorem his_recs (m : Int) : ∀ (l out : List Bev), l.foldl (stH m) (fixTo (out.map (rgnOf m))) = fixTo ((l.foldl stK out).map (rgnOf m))
 | [], _ => rfl
 | r :: l, out => by
   rw [List.foldl_cons, List.foldl_cons, stH_step]
   exact his_recs m l _
theorem hisF_eq (m : Int) (l : List Bev) : hisF m l = fixTo ((recs l).map (rgnOf m)) := his_recs m l []
def wrsH (o r : Bev) : Bool := (decide (o.date < r.date) && decide (o.time ≤ r.time)) || (decide (o.date = r.date) && !(sameBev o r) && (decide (o.time < r.time) || (decide (o.time = r.time) && decide (cmpS o.id r.id < 0))))
def keepH (all : List Bev) (r : Bev) : Bool := !(all.any (fun o => wrsH o r))
theorem sameBev_id {o r : Bev} (h : sameBev o r = true) : o.id = r.id := by
 unfold sameBev at h
 simp only [Bool.and_eq_true] at h
 have h1 := h.1.1.1.1.1.2
 unfold eqS at h1
 have h2 : o.id.data.toList = r.id.data.toList := by simpa [ByteArray.toList_eq] using h1
 exact ByteArray.ext (Array.toList_inj.1 h2)
theorem wrs_before {o r : Bev} (h : cmpH o r < 0) : wrsH o r = decide (o.time ≤ r.time) := by
 unfold cmpH at h
 unfold wrsH
 by_cases hd : cmpI o.date r.date = 0
 · rw [if_pos hd] at h
   have hd2 := cmpI_eqX.1 hd
   have hne : sameBev o r = false := by
    cases hh : sameBev o r with
    | false => rfl
    | true =>
      have hid := sameBev_id hh
      have hz : cmpT o r = 0 := by
       unfold sameBev at hh
       simp only [Bool.and_eq_true, decide_eq_true_eq] at hh
       unfold cmpT
       rw [if_pos (cmpI_eqX.2 hh.1.2), if_pos (cmpI_eqX.2 hd2), hid]
       have : cmpS r.id r.id = - cmpS r.id r.id := cmpS_neg r.id r.id
       omega
      omega
   have hlt : ¬ o.date < r.date := by omega
   simp only [hd2, hne]
   by_cases ht : cmpI o.time r.time = 0
   · have ht2 := cmpI_eqX.1 ht
     have hs : cmpS o.id r.id < 0 := by
      unfold cmpT at h
      rw [if_pos ht, if_pos hd] at h
      exact h
     simp [ht2, hs]
   · have h3 : cmpI o.time r.time < 0 := by
      unfold cmpT at h
      rw [if_neg ht] at h
      exact h
     have h4 := cmpI_ltX.1 h3
     have h5 : o.time ≤ r.time := by omega
     simp [h4, h5]
 · rw [if_neg hd] at h
   have h1 := cmpI_ltX.1 h
   have h2 : ¬ o.date = r.date := by omega
   simp [h1, h2]
theorem wrs_behind {o r : Bev} (h : cmpH r o < 0) : wrsH o r = false := by
 unfold cmpH at h
 unfold wrsH
 by_cases hd : cmpI r.date o.date = 0
 · rw [if_pos hd] at h
   have hd2 := cmpI_eqX.1 hd
   have hlt : ¬ o.date < r.date := by omega
   by_cases ht : cmpI r.time o.time = 0
   · have ht2 := cmpI_eqX.1 ht
     have hs : cmpS r.id o.id < 0 := by
      unfold cmpT at h
      rw [if_pos ht, if_pos hd] at h
      exact h
     have hn : cmpS o.id r.id = - cmpS r.id o.id := cmpS_neg r.id o.id
     have hs2 : ¬ cmpS o.id r.id < 0 := by omega
     have h4 : ¬ o.time < r.time := by omega
     simp [hlt, hs2, h4]
   · have h3 : cmpI r.time o.time < 0 := by
      unfold cmpT at h
      rw [if_neg ht] at h
      exact h
     have h4 := cmpI_ltX.1 h3
     have h5 : ¬ o.time < r.time := by omega
     have h6 : ¬ o.time = r.time := by omega
     simp [hlt, h5, h6]
 · rw [if_neg hd] at h
   have h1 := cmpI_ltX.1 h
   have h2 : ¬ o.date = r.date := by omega
   have h3 : ¬ o.date < r.date := by omega
   simp [h2, h3]
theorem wrs_self (r : Bev) : wrsH r r = false := by
 unfold wrsH
 have h1 : ¬ cmpS r.id r.id < 0 := by
  have : cmpS r.id r.id = - cmpS r.id r.id := cmpS_neg r.id r.id
  omega
 simp [h1]
def fastR (p : List Bev) (r : Bev) : Bool := !(p.any (fun o => decide (o.time ≤ r.time)))
def recsS : List Bev → List Bev → List Bev
 | _, [] => []
 | p, r :: l => if fastR p r = true then r :: recsS (p ++ [r]) l else recsS (p ++ [r]) l
theorem recs_low : ∀ (l p out : List Bev), (∀ r : Bev, fastR p r = match out.getLast? with | some o => !decide (o.time ≤ r.time) | none => true) → l.foldl stK out = out ++ recsS p l
 | [], p, out, _ => by rw [recsS, List.append_nil]; rfl
 | r :: l, p, out, h => by
   have hr := h r
   rw [List.foldl_cons, recsS]
   cases hl : out.getLast? with
   | none =>
     have ho : out = [] := List.getLast?_eq_none_iff.1 hl
     rw [hl] at hr
     have hr : fastR p r = true := hr
     rw [if_pos hr, ho]
     have e : stK [] r = [r] := rfl
     rw [e, recs_low l (p ++ [r]) [r] (fun x => ?_)]
     · rfl
     · have hx := h x
       rw [hl] at hx
       have hx : fastR p x = true := hx
       unfold fastR at hx ⊢
       rw [List.any_append]
       rw [Bool.not_eq_true'] at hx
       rw [hx]
       simp
   | some o =>
     rw [hl] at hr
     have hr : fastR p r = !decide (o.time ≤ r.time) := hr
     by_cases ht : o.time ≤ r.time
     · have hf : ¬ fastR p r = true := by rw [hr]; simp [ht]
       have e : stK out r = out := by unfold stK; rw [hl]; simp only; rw [if_pos ht]
       rw [if_neg hf, e]
       refine recs_low l (p ++ [r]) out (fun x => ?_)
       have hx := h x
       rw [hl] at hx ⊢
       have hx : fastR p x = !decide (o.time ≤ x.time) := hx
       show fastR (p ++ [r]) x = !decide (o.time ≤ x.time)
       unfold fastR at hx ⊢
       rw [List.any_append, Bool.not_or, hx]
       by_cases h5 : o.time ≤ x.time
       · simp [h5]
       · have h6 : ¬ r.time ≤ x.time := by omega
         simp [h6]
     · have hf : fastR p r = true := by rw [hr]; simp [ht]
       have e : stK out r = out ++ [r] := by unfold stK; rw [hl]; simp only; rw [if_neg ht]
       rw [if_pos hf, e, recs_low l (p ++ [r]) (out ++ [r]) (fun x => ?_)]
       · simp
       · have hx := h x
         rw [hl] at hx
         have hx : fastR p x = !decide (o.time ≤ x.time) := hx
         rw [List.getLast?_concat]
         show fastR (p ++ [r]) x = !decide (r.time ≤ x.time)
         unfold fastR at hx ⊢
         rw [List.any_append, Bool.not_or, hx]
         by_cases h5 : r.time ≤ x.time
         · simp [h5]
         · have h6 : ¬ o.time ≤ x.time := by omega
           simp [h5, h6]
theorem recs_eq (l : List Bev) : recs l = recsS [] l := by
 have h := recs_low l [] [] (fun r => rfl)
 rw [List.nil_append] at h
 exact h
theorem recsS_keep : ∀ (l p : List Bev), (p ++ l).Pairwise (fun a b => cmpH a b < 0) → recsS p l = l.filter (keepH (p ++ l))
 | [], _, _ => rfl
 | r :: l, p, h => by
   have e : p ++ r :: l = (p ++ [r]) ++ l := by simp
   have ih := recsS_keep l (p ++ [r]) (by rw [← e]; exact h)
   rw [recsS, ih, ← e]
   have hk : keepH (p ++ r :: l) r = fastR p r := by
    unfold keepH fastR
    congr 1
    rw [List.any_append, List.any_cons, wrs_self, Bool.false_or]
    obtain ⟨_, h2, h3⟩ := List.pairwise_append.1 h
    have h4 : l.any (fun o => wrsH o r) = false := by
     rw [List.any_eq_false]
     intro o ho
     rw [wrs_behind ((List.pairwise_cons.1 h2).1 o ho)]
     decide
    rw [h4, Bool.or_false]
    have hany : ∀ q : List Bev, (∀ o ∈ q, cmpH o r < 0) → q.any (fun o => wrsH o r) = q.any (fun o => decide (o.time ≤ r.time)) := by
     intro q
     induction q with
     | nil => intro _; rfl
     | cons a q ihq =>
       intro hq
       rw [List.any_cons, List.any_cons, wrs_before (hq a (List.mem_cons_self ..)), ihq (fun o ho => hq o (List.mem_cons_of_mem _ ho))]
    exact hany p (fun o ho => h3 o ho r (List.mem_cons_self ..))
   by_cases hf : fastR p r = true
   · rw [if_pos hf, List.filter_cons_of_pos (by rw [hk]; exact hf)]
   · rw [if_neg hf, List.filter_cons_of_neg (by rw [hk]; exact hf)]
def SbdH (D : Dsk) (cat : ByteArray) (ys : List Bev) : Prop := ys.Perm (brd D cat) ∧ ys.Pairwise (fun a b => 0 ≤ cmpH b a)
theorem sbdH_strict {D : Dsk} {cat : ByteArray} (hK : KD D) {xs : List Bev} (h : SbdH D cat xs) : xs.Pairwise (fun a b => cmpH a b < 0) := by
 have hn : (xs.map (·.id)).Nodup := by
  have h1 : ((brd D cat).map (·.id)).Nodup := by
   unfold brd
   rw [List.map_map]
   exact hK.nd.sublist (List.Sublist.map _ List.filter_sublist)
  exact (h.1.map (·.id)).nodup_iff.2 h1
 have hn2 : xs.Pairwise (fun a b => a.id ≠ b.id) := List.pairwise_map.1 hn
 refine (h.2.and hn2).imp (fun {a b} hab => ?_)
 have h1 := ord3_cmpH.neg a b
 have h2 : cmpH a b ≠ 0 := fun e => hab.2 (cmpH_id a b e)
 have := hab.1
 omega
theorem keepH_congr {a b : List Bev} (h : a.Perm b) (r : Bev) : keepH a r = keepH b r := by
 unfold keepH
 congr 1
 exact h.any_eq
theorem recs_dates {L : List Bev} (hs : L.Pairwise (fun a b => cmpH a b < 0)) : (L.filter (keepH L)).Pairwise (fun a b => a.date < b.date) := by
 have h1 := hs.sublist (List.filter_sublist (p := keepH L))
 refine List.Pairwise.imp_of_mem (fun {a b} ha hb hab => ?_) h1
 have ha := (List.mem_filter.1 ha).1
 have hb := (List.mem_filter.1 hb).2
 unfold keepH at hb
 rw [Bool.not_eq_true', List.any_eq_false] at hb
 have h2 := hb a ha
 rw [wrs_before hab] at h2
 have h2 : ¬ a.time ≤ b.time := by simpa using h2
 unfold cmpH at hab
 by_cases hd : cmpI a.date b.date = 0
 · rw [if_pos hd] at hab
   unfold cmpT at hab
   by_cases ht : cmpI a.time b.time = 0
   · have := cmpI_eqX.1 ht
     omega
   · rw [if_neg ht] at hab
     have := cmpI_ltX.1 hab
     omega
 · rw [if_neg hd] at hab
   exact cmpI_ltX.1 hab
theorem his_one {D : Dsk} {cat : ByteArray} (m : Int) (hK : KD D) {L ys : List Bev} {S : List Rgn} (hL : SbdH D cat L) (hY : SbdR D cat ys)
 (hp : S.Perm ((ys.filter (keepH ys)).map (rgnOf m))) (hs : S.Pairwise (fun a b => a.from_ ≤ b.from_)) : fixTo S = hisF m L := by
 have hst := sbdH_strict hK hL
 have hper : L.Perm ys := hL.1.trans hY.1.symm
 have e : recs L = L.filter (keepH L) := by
  rw [recs_eq]
  exact recsS_keep L [] hst
 have hd := recs_dates hst
 rw [hisF_eq, e]
 congr 1
 have hp2 : S.Perm ((L.filter (keepH L)).map (rgnOf m)) := by
  refine hp.trans (List.Perm.map _ ?_)
  have e2 : ys.filter (keepH ys) = ys.filter (keepH L) := List.filter_congr (fun x _ => keepH_congr hper.symm x)
  rw [e2]
  exact (hper.filter _).symm
 refine List.Perm.eq_of_pairwise (le := fun a b => a.from_ ≤ b.from_) ?_ hs ?_ hp2
 · intro a b ha hb hab hba
   have hf : a.from_ = b.from_ := by omega
   obtain ⟨x, hx, rfl⟩ := List.mem_map.1 (hp2.mem_iff.1 ha)
   obtain ⟨y, hy, rfl⟩ := List.mem_map.1 hb
   have hf : x.date = y.date := hf
   have hne : ((L.filter (keepH L)).map (fun r : Bev => r.date)).Nodup := by
    unfold List.Nodup
    rw [List.pairwise_map]
    exact hd.imp (fun {a b} h => by omega)
   rw [nodup_inj hne x hx y hy hf]
 · rw [List.pairwise_map]
   exact hd.imp (fun {a b} h => Int.le_of_lt h)
end Go.Proofs.YtapgnaimbgjcnaaGreatDoor
