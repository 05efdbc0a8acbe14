/-
  Places, beaten runs and would-be ranks in plain words: program and reference are one. No walk.
-/
import Derived.Test.YtebaaoacmmhppaaGreatZBtR
namespace Go.Proofs.YtebaaoacmmhppaaGreat
open Go Go.RowKit

/-- the runs on a board that are sorted by an order that tells ids apart are one list -/
theorem one_by {cf : Bev → Bev → Int} (hO : Ord3 cf) (hid : ∀ a b, cf a b = 0 → a.id = b.id) {D : Dsk} (hK : KD D) {xs ys : List Bev} (hm : ∀ x ∈ xs, ∃ r ∈ D.rn, r.1 = x) (hp : xs.Perm ys)
    (h1 : xs.Pairwise (fun a b => 0 ≤ cf b a)) (h2 : ys.Pairwise (fun a b => 0 ≤ cf b a)) : xs = ys := by
  refine List.Perm.eq_of_pairwise (le := fun a b => 0 ≤ cf b a) ?_ h1 h2 hp
  intro a b ha hb hab hba
  have hz : cf a b = 0 := by
    have := hO.neg a b
    omega
  obtain ⟨r, hr, rfl⟩ := hm a ha
  obtain ⟨q, hq, rfl⟩ := hm b (hp.mem_iff.2 hb)
  rw [nodup_inj hK.nd r hr q hq (hid _ _ hz)]
theorem brd_mem {D : Dsk} {cat : ByteArray} {x : Bev} (h : x ∈ brd D cat) : ∃ r ∈ D.rn, r.1 = x := by
  obtain ⟨r, hr, rfl⟩ := List.mem_map.1 h
  exact ⟨r, (List.mem_filter.1 hr).1, rfl⟩
theorem cmpI_eqX {a b : Int} : cmpI a b = 0 ↔ a = b := by
  unfold cmpI
  split
  · constructor <;> intro <;> omega
  · split <;> constructor <;> intro <;> omega
/-- by date, then id -/
def cmpD (x y : Bev) : Int := if cmpI x.date y.date = 0 then cmpS x.id y.id else cmpI x.date y.date
theorem ord3_cmpD : Ord3 cmpD := (ord3_int (fun x : Bev => x.date)).first (ord3_str (fun x : Bev => x.id))
theorem cmpD_id (a b : Bev) (h : cmpD a b = 0) : a.id = b.id := by
  unfold cmpD at h
  split at h
  · exact cmpS_zero h
  · rename_i h2; exact absurd h h2
theorem cmpD_or (x y : Bev) : firstE [cmpI x.date y.date, cmpS x.id y.id] = cmpD x y := by
  unfold cmpD
  simp only [firstE]
  by_cases h1 : cmpI x.date y.date = 0
  · by_cases h2 : cmpS x.id y.id = 0
    · simp [h1, h2]
    · simp [h1, h2]
  · simp [h1]
def whoB (who : ByteArray) (o : Bev) : Bool := decide (o.who = who)
theorem stW_find (out : List Bev) (x : Bev) (who : ByteArray) : (stW out x).find? (whoB who) = (out ++ [x]).find? (whoB who) := by
  unfold stW
  split
  · rename_i h
    rw [List.find?_append]
    by_cases e : x.who = who
    · obtain ⟨o, ho, he⟩ := List.any_eq_true.1 h
      have hf : (out.find? (whoB who)).isSome = true := List.find?_isSome.2 ⟨o, ho, by unfold whoB; rw [← e]; exact he⟩
      cases hh : out.find? (whoB who) with
      | none => rw [hh] at hf; cases hf
      | some a => rfl
    · rw [List.find?_cons_of_neg (by unfold whoB; simpa using e), List.find?_nil]
      cases out.find? (whoB who) <;> rfl
  · rfl
theorem fold_find (who : ByteArray) : ∀ (l out : List Bev), (l.foldl stW out).find? (whoB who) = (out ++ l).find? (whoB who)
  | [], out => by rw [List.append_nil]; rfl
  | x :: l, out => by
    rw [List.foldl_cons, fold_find who l, List.find?_append, stW_find, ← List.find?_append]
    simp
theorem bstW_find (l : List Bev) (who : ByteArray) : (bstW l).find? (whoB who) = l.find? (whoB who) := by
  unfold bstW
  rw [fold_find, List.nil_append]
/-- somebody's row -/
def plcB (rows : List Brw) (who : ByteArray) : Option Brw := rows.find? (fun r => decide (r.who = who))
theorem plc_find (l : List Bev) (who : ByteArray) : plcB (rowsB l) who = (l.find? (whoB who)).map (rowOf (bstW l)) := by
  unfold plcB rowsB
  rw [List.find?_map, ← bstW_find l who]
  rfl
/-- the id of the best run, or none -/
def plcI (rows : List Brw) (who : ByteArray) : ByteArray := match plcB rows who with
  | some r => r.id
  | none => noBev
def ownB (l : List Bev) (who : ByteArray) : List Bev := l.filter (whoB who)
theorem find_filter {α : Type} (p : α → Bool) : ∀ l : List α, l.find? p = (l.filter p).head?
  | [] => rfl
  | a :: l => by
    by_cases h : p a = true
    · rw [List.find?_cons_of_pos h, List.filter_cons_of_pos h]; rfl
    · rw [List.find?_cons_of_neg h, List.filter_cons_of_neg h]; exact find_filter p l
/-- runs of somebody that are not the best -/
def btnQ (who best : ByteArray) (r : Bev) : Bool := whoB who r && !(r.id.toList == best.toList)
theorem own_tail {l : List Bev} (hn : (l.map (·.id)).Nodup) (who : ByteArray) : (ownB l who).tail = l.filter (btnQ who (plcI (rowsB l) who)) := by
  have hf : l.find? (whoB who) = (ownB l who).head? := find_filter _ l
  have hI : plcI (rowsB l) who = match (ownB l who).head? with | some a => a.id | none => noBev := by
    unfold plcI
    rw [plc_find, hf]
    cases (ownB l who).head? <;> rfl
  have hsp : l.filter (btnQ who (plcI (rowsB l) who)) = (ownB l who).filter (fun r => !(r.id.toList == (plcI (rowsB l) who).toList)) := by
    unfold ownB
    rw [List.filter_filter]
    refine List.filter_congr (fun x _ => ?_)
    unfold btnQ
    rw [Bool.and_comm]
  rw [hsp, hI]
  have hn2 : ((ownB l who).map (·.id)).Nodup := hn.sublist (List.Sublist.map _ (List.filter_sublist))
  cases ho : ownB l who with
  | nil => rfl
  | cons a t =>
    rw [ho, List.map_cons, List.nodup_cons] at hn2
    rw [List.filter_cons_of_neg (by simp)]
    show t = _
    rw [List.filter_eq_self.2 (fun x hx => ?_)]
    show (!(x.id.toList == a.id.toList)) = true
    rw [Bool.not_eq_true', beq_eq_false_iff_ne]
    intro e
    refine hn2.1 ?_
    have : x.id = a.id := (eqS_iff x.id a.id).1 (beq_iff_eq.2 e)
    rw [← this]
    exact List.mem_map.2 ⟨x, hx, rfl⟩
/-- what stands behind a time -/
def wldB (rows : List Brw) (t : Int) : Int := 1 + ((rows.filter (fun o => decide (o.time < t))).length : Int)
theorem beaten_one {D : Dsk} {cat who : ByteArray} (hK : KD D) {ys ps zs us : List Bev} (hY : SbdR D cat ys)
    (hp : ps.Perm ((ownB ys who).tail)) (hs : ps.Pairwise (fun a b => 0 ≤ cmpD b a)) (hz : zs.Perm ys) (hzs : zs.Pairwise (fun a b => 0 ≤ cmpD b a)) (hu : us = zs.filter (btnQ who (plcI (rowsB ys) who))) : ps = us := by
  have hn : (ys.map (·.id)).Nodup := by
    have h1 : ((brd D cat).map (·.id)).Nodup := by
      unfold brd
      rw [List.map_map]
      exact hK.nd.sublist (List.Sublist.map _ List.filter_sublist)
    exact (hY.1.map (·.id)).nodup_iff.2 h1
  have e := own_tail hn who
  have hp2 : ps.Perm us := by
    rw [hu]
    refine hp.trans ?_
    rw [e]
    exact (hz.filter _).symm
  refine one_by ord3_cmpD cmpD_id hK (fun x hx => ?_) hp2 hs ?_
  · have h1 := hp.mem_iff.1 hx
    have h2 : x ∈ ownB ys who := List.mem_of_mem_tail h1
    exact brd_mem (hY.1.mem_iff.1 (List.mem_filter.1 h2).1)
  · rw [hu]
    exact hzs.sublist List.filter_sublist
end Go.Proofs.YtebaaoacmmhppaaGreat
