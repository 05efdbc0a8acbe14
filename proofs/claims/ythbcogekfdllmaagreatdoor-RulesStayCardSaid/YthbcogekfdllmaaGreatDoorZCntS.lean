/-
  What a slot says, wherever its hosts lie; faults go by that alone. (Split out of XMov1 and XOclPure.)
-/
import Derived.Test.YthbcogekfdllmaaGreatDoorZSlotPure
import Derived.Test.YthbcogekfdllmaaGreatDoorZSepX
import Derived.Test.YthbcogekfdllmaaGreatDoorZBase
import Derived.RegionTactic
import Derived.Test.YthbcogekfdllmaaGreatDoorZRatMake4
import Derived.Test.YthbcogekfdllmaaGreatDoorZTxt2
import Derived.ChangeAlike
import Derived.BigRegion
namespace Go.Proofs.YthbcogekfdllmaaGreatDoor
open Go Go.RowKit

theorem Sq.snocR {w W : World} {l : List Rsc} {α : Type} {f : α → Rsc} {xs : List α} {a : α} (h : Sq w W (f a :: rAll f xs :: l)) (hf : ∀ a, (f a).Ok) : Sq w W (rAll f (xs ++ [a]) :: l) := by
  have h1 := h.hp.apart
  rw [List.pairwise_cons] at h1
  have h2 := List.pairwise_cons.1 h1.2
  refine ⟨h.below, ?_⟩
  refine Hp.cons h.hp.tail.tail ?_ (rAll_ok hf _) (fun g hg => ?_) (fun s hs g hg hg2 => ?_)
  · intro x hx
    rcases List.mem_append.1 hx with hx | hx
    · exact (h.nth 1 rfl : ∀ a ∈ xs, (f a).P W) x hx
    · simp at hx; subst hx; exact h.head
  · obtain ⟨x, hx, hg⟩ := hg
    rcases List.mem_append.1 hx with hx | hx
    · exact h.hp.new _ (List.mem_cons_of_mem _ (List.mem_cons_self ..)) g ⟨x, hx, hg⟩
    · simp at hx; subst hx; exact h.hp.new _ (List.mem_cons_self ..) g hg
  · obtain ⟨x, hx, hg⟩ := hg
    rcases List.mem_append.1 hx with hx | hx
    · exact h2.1 s hs g ⟨x, hx, hg⟩ hg2
    · simp at hx; subst hx; exact h1.1 s (List.mem_cons_of_mem _ hs) g hg hg2
theorem Sq.allNil {w W : World} {l : List Rsc} {α : Type} (h : Sq w W l) (f : α → Rsc) (hf : ∀ a, (f a).Ok) : Sq w W (rAll f [] :: l) :=
  ⟨h.below, h.hp.cons (by intro a ha; cases ha) (rAll_ok hf _) (fun g hg => by obtain ⟨a, ha, _⟩ := hg; cases ha) (fun s _ g hg => by obtain ⟨a, ha, _⟩ := hg; cases ha)⟩
end Go.Proofs.YthbcogekfdllmaaGreatDoor
/-
  append of a slice that reads as a list (nil, empty or not) onto a row of the call's own. No Go text is named here.
-/
namespace Go.Proofs.YthbcogekfdllmaaGreatDoor
open Go Go.RowKit
variable {P : Program} (w : World)

theorem run_app_nil (base : Nat) (t ty e : TypeId) (i : TypeInfo) (size : Nat) (ht : P.underlying t = some (.slice e)) (hi : P.info? e = some i)
    (v : Value) (n : Nat) (xs : List Value) (hown : w.ownsRow base e size v n xs) (c : Nat) : (Builtin.append_ #[t, t] ty #[v, .slice none 0 c]).run P w = .ok v w := by
  rcases hown.2 with ⟨rfl, rfl⟩ | ⟨g, cap, cur, rfl, _, _, hnc, _⟩
  · simp [Builtin.append_, run_underlying ht, sizeOf, typeInfo, hi, Builtin.lenOf, Builtin.firstCells]
  · simp [Builtin.append_, run_underlying ht, sizeOf, typeInfo, hi, Builtin.lenOf, Builtin.firstCells, hnc, storeCells]
theorem run_app_rd (base : Nat) (t ty e : TypeId) (i : TypeInfo) (z : Value) (size bytes : Nat) (ht : P.underlying t = some (.slice e)) (hi : P.info? e = some i) (hz : i.zero = some z)
    (hsize : i.size = size) (hby : i.bytes = bytes) (hzs : z.cells.size = size) (hsz : 0 < size)
    (v : Value) (n : Nat) (xs : List Value) (hown : w.ownsRow base e size v n xs)
    (b : Nat) (A : Option Addr) (m c : Nat) (news : List Value) (hr : Rd w b size (.slice A m c) m news) (h1 : ∀ u ∈ news, u.oneCell' = true)
    (h63 : n + m ≤ maxLen) (hbytes : (n + m) * bytes ≤ 140737488355328) (hbase : base ≤ w.heap.size) :
    ∃ v' w', (Builtin.append_ #[t, t] ty #[v, .slice A m c]).run P w = .ok v' w' ∧ w'.ownsRow base e size v' (n + m) (xs ++ news) ∧ w.grownBy w' v.ownBlock ∧
      (v'.ownBlock = v.ownBlock ∨ v'.ownBlock = some w.heap.size) := by
  obtain ⟨A', c', e1, e2, e3, e4, e5, e6⟩ := hr
  injection e1 with ea eb ec
  subst ea ec
  cases A with
  | none =>
    obtain ⟨rfl, rfl⟩ := e5 rfl
    have hn : news = [] := List.eq_nil_of_length_eq_zero (by simpa using e4)
    subst hn
    exact ⟨v, w, run_app_nil w base t ty e i size ht hi v n xs hown 0, by simpa using hown, World.grownBy.refl w _, .inl rfl⟩
  | some ad =>
    have hcells : ∀ j u, news[j]? = some u → w.cell? (ad.add j) = some u := by
      intro j u hu
      rcases Nat.eq_zero_or_pos m with h0 | h0
      · subst h0
        have hn : news = [] := List.eq_nil_of_length_eq_zero (by simpa using e4)
        subst hn
        simp at hu
      · obtain ⟨g, o, f1, _, f3⟩ := e6 h0
        injection f1 with f1
        subst f1
        have hadd : (⟨g, o, none⟩ : Addr).add j = ⟨g, o + j, none⟩ := by unfold Addr.add; split <;> simp_all
        rw [hadd]
        exact f3 j u hu
    obtain ⟨v', w', hrun, h2, h3, _, h5⟩ := run_append_own_at (P := P) w base t ty e i z size bytes ht hi hz hsize hby hzs hsz v n xs hown ad m c news e4 hcells h1 h63 hbytes hbase
    exact ⟨v', w', hrun, h2, h3, h5⟩
theorem wp_app_rd {o : Oper} {a : Act} {K : Act → World → Prop} {Q : Exit → Act → World → Prop} (s x : Operand) (t : TypeId)
    (ho : o.op = .call { callee := .builtin .append, args := #[s, x], argTypes := #[t, t] })
    (base : Nat) (e : TypeId) (i : TypeInfo) (z : Value) (size bytes : Nat) (ht : P.underlying t = some (.slice e)) (hi : P.info? e = some i) (hz : i.zero = some z)
    (hsize : i.size = size) (hby : i.bytes = bytes) (hzs : z.cells.size = size) (hsz : 0 < size)
    (v : Value) (n : Nat) (xs : List Value) (hs : a.eval s = v) (hown : w.ownsRow base e size v n xs)
    (b : Nat) (A : Option Addr) (m c : Nat) (news : List Value) (hx : a.eval x = .slice A m c) (hr : Rd w b size (.slice A m c) m news) (h1 : ∀ u ∈ news, u.oneCell' = true)
    (h63 : n + m ≤ maxLen) (hbytes : (n + m) * bytes ≤ 140737488355328) (hbase : base ≤ w.heap.size)
    (h : ∀ v' w', w'.ownsRow base e size v' (n + m) (xs ++ news) → w.grownBy w' v.ownBlock → (v'.ownBlock = v.ownBlock ∨ v'.ownBlock = some w.heap.size) → K (a.put o.dst v') w') : o.wp P a w K Q := by
  obtain ⟨v', w', hrun, h2, h3, h4⟩ := run_app_rd (P := P) w base t o.type e i z size bytes ht hi hz hsize hby hzs hsz v n xs hown b A m c news hr h1 h63 hbytes hbase
  unfold Oper.wp execOp
  simp only [ho, resolve, invoke, builtin, Sem.run_bind, Sem.run_pure, Result.andThen_ok, List.map_toArray, List.map_cons, List.map_nil, hs, hx, hrun]
  exact h v' w' h2 h3 h4
end Go.Proofs.YthbcogekfdllmaaGreatDoor
/-
  Runs as texts: what a line's words say. No Go text is named here but types.
-/
namespace Go.Proofs.YthbcogekfdllmaaGreatDoor
open Go Go.RowKit TxtP

theorem info_prR : (Tryz.prog.info? 75).map (fun i => (i.zero, i.size, i.bytes)) = some (some (.agg #[.string ⟨#[]⟩, .string ⟨#[]⟩]), 2, 32) := by kernel_rfl
theorem info_rn : (Tryz.prog.info? 101).map (fun i => (i.zero, i.size, i.bytes)) = some (some (.agg #[.string ⟨#[]⟩, .string ⟨#[]⟩, .int .i64 0, .int .i64 0, .slice none 0 0]), 5, 72) := by kernel_rfl
theorem one2r {x y : Value} (hx : x.oneCell' = true) (hy : y.oneCell' = true) : ∀ v ∈ [x, y], v.oneCell' = true := by
  intro v hv
  simp only [List.mem_cons, List.not_mem_nil, or_false] at hv
  rcases hv with rfl | rfl <;> assumption
theorem one5r {a b c d e : Value} (ha : a.oneCell' = true) (hb : b.oneCell' = true) (hc : c.oneCell' = true) (hd : d.oneCell' = true) (he : e.oneCell' = true) : ∀ v ∈ [a, b, c, d, e], v.oneCell' = true := by
  intro v hv
  simp only [List.mem_cons, List.not_mem_nil, or_false] at hv
  rcases hv with rfl | rfl | rfl | rfl | rfl <;> assumption
/-- the fields of a run, in memory of the call's own -/
def fldR (base : Nat) (x : Rn) : Rsc := rOwn base 75 2 (.slice x.fa x.fs.length x.fc) x.fs.length (x.fs.flatMap prC)
theorem fldR_ok (base : Nat) (x : Rn) : (fldR base x).Ok := rOwn_ok _ _ _ _ _ _
/-- has a word just one '=' ? -/
def fldB (s : ByteArray) : Bool := decide ((pcs 61 s).length = 2)
def fldV (s : ByteArray) : Pr := match pcs 61 s with
  | [a, b] => (a, b)
  | _ => (⟨#[]⟩, ⟨#[]⟩)
/-- what a line's words say -/
def fR4 (p : List ByteArray) : Bool := match p with
  | _ :: _ :: c :: d :: r => nmsB [c, d] 15 && r.all fldB
  | _ => false
def vR4 (p : List ByteArray) : CntR := match p with
  | a :: b :: c :: d :: r => (a, b, numI c.data.toList, numI d.data.toList, r.map fldV)
  | _ => (⟨#[]⟩, ⟨#[]⟩, 0, 0, [])
/-- is a line a run? -/
def fR (l : List UInt8) : Bool := wrdQ ⟨l.toArray⟩ && fR4 (pcs 32 ⟨l.toArray⟩)
/-- the run that a line is -/
def vR (l : List UInt8) : CntR := vR4 (pcs 32 ⟨l.toArray⟩)
theorem fR4_len {p : List ByteArray} (h : p.length < 4) : fR4 p = false := by
  match p with
  | [] => rfl
  | [_] => rfl
  | [_, _] => rfl
  | [_, _, _] => rfl
  | _ :: _ :: _ :: _ :: _ => simp at h; omega
theorem four_of {p : List ByteArray} (h : 4 ≤ p.length) : ∃ a b c d r, p = a :: b :: c :: d :: r := by
  match p, h with
  | a :: b :: c :: d :: r, _ => exact ⟨a, b, c, d, r, rfl⟩
theorem fldV_of {s a b : ByteArray} (h : pcs 61 s = [a, b]) : fldV s = (a, b) := by unfold fldV; rw [h]
theorem fldB_of {s : ByteArray} (h : fldB s = true) : ∃ a b, pcs 61 s = [a, b] := by
  unfold fldB at h
  have h := of_decide_eq_true h
  match hp : pcs 61 s, h with
  | [a, b], _ => exact ⟨a, b, rfl⟩
theorem fldV_le (s : ByteArray) : (fldV s).1.size ≤ s.size ∧ (fldV s).2.size ≤ s.size := by
  cases h : fldB s
  · have : fldV s = (⟨#[]⟩, ⟨#[]⟩) := by
      unfold fldV
      unfold fldB at h
      have h := of_decide_eq_false h
      match hp : pcs 61 s, h with
      | [], _ => rfl
      | [_], _ => rfl
      | [_, _], h => exact absurd rfl h
      | _ :: _ :: _ :: _, _ => rfl
    rw [this]
    exact ⟨Nat.zero_le _, Nat.zero_le _⟩
  · obtain ⟨a, b, hab⟩ := fldB_of h
    rw [fldV_of hab]
    exact ⟨pcs_size (c := 61) (s := s) (by rw [hab]; simp), pcs_size (c := 61) (s := s) (by rw [hab]; simp)⟩
/-- a word with one '=' is cut there -/
theorem cut_fld {s a b : ByteArray} (h : pcs 61 s = [a, b]) : Lib.cut s.data.toList [61] = (a.data.toList, b.data.toList, true) := by
  have h1 := pcs_data 61 s
  rw [h] at h1
  have h2 : spl 61 s.data.toList = [a.data.toList, b.data.toList] := h1.symm
  have h3 := joinC_spl 61 s.data.toList
  rw [h2] at h3
  have h4 := spl_free 61 s.data.toList a.data.toList (by rw [h2]; simp)
  refine cut_at (r := b.data.toList) ?_ h4
  rw [← h3]
  simp [joinC]
/-- a content as a run -/
def rOf (c : CntR) : Rn := ⟨c.1, c.2.1, c.2.2.1, c.2.2.2.1, none, 0, c.2.2.2.2⟩
theorem rOf_cnt (c : CntR) : cntR (rOf c) = c := rfl
theorem cnt_rOf (ms : List CntR) : (ms.map rOf).map cntR = ms := by
  rw [List.map_map]
  exact (List.map_congr_left (fun c _ => rOf_cnt c)).trans (List.map_id ms)
/-- what a text reads as: its error, the line at fault, the runs -/
def rrdE (l : List UInt8) : Int := if 200000 < l.length then 2 else if eachB fR l = false then 9 else runsF (((lnM l).map vR).map rOf)
def rrdI (l : List UInt8) : Int := if 200000 < l.length then 0 else if eachB fR l = false then eachI fR l else 0
def rrdL (l : List UInt8) : List CntR := if rrdE l = 0 then (lnM l).map vR else []
def RRet (l : List UInt8) (w : World) (e : Ending) (w' : World) : Prop :=
  ∃ v xs, e = .returned (.tuple #[v, .int .i64 (rrdI l), .int .i64 (rrdE l)]) ∧ xs.map cntR = rrdL l ∧ Sq w w' [rOwn w.heap.size 101 5 v xs.length (xs.flatMap rnC), rAll (fldR w.heap.size) xs]
theorem RRet.no {l : List UInt8} {w w' : World} (hE : rrdE l ≠ 0) (hb : Below w.heap.size w w') : RRet l w (.returned (.tuple #[.slice none 0 0, .int .i64 (rrdI l), .int .i64 (rrdE l)])) w' := by
  refine ⟨_, [], rfl, ?_, ?_⟩
  · unfold rrdL; rw [if_neg hE]; rfl
  · exact (((Sq.start w).callB hb).allNil (fldR w.heap.size) (fldR_ok _)).nil w.heap.size 101 5
theorem vR_le (l : List UInt8) (hl : l.length ≤ 200000) : (vR l).1.size ≤ 200000 ∧ (vR l).2.1.size ≤ 200000 ∧ (∀ p ∈ (vR l).2.2.2.2, p.1.size ≤ 200000 ∧ p.2.size ≤ 200000) ∧ (vR l).2.2.2.2.length ≤ 200001 := by
  unfold vR
  have hp : ∀ x ∈ pcs 32 ⟨l.toArray⟩, x.size ≤ 200000 := fun x hx => Nat.le_trans (pcs_size hx) (by rw [ba_size]; exact hl)
  have hle := pcs_le 32 ⟨l.toArray⟩
  rw [ba_size] at hle
  by_cases h4 : 4 ≤ (pcs 32 ⟨l.toArray⟩).length
  · obtain ⟨a, b, c, d, r, he⟩ := four_of h4
    rw [he] at hp hle ⊢
    refine ⟨hp a (by simp), hp b (by simp), fun q hq => ?_, ?_⟩
    · have hq : q ∈ r.map fldV := hq
      obtain ⟨s, hs, rfl⟩ := List.mem_map.1 hq
      have h1 := fldV_le s
      have h2 := hp s (by simp [hs])
      omega
    · show (r.map fldV).length ≤ 200001
      simp only [List.length_cons] at hle
      rw [List.length_map]; omega
  · have e : vR4 (pcs 32 ⟨l.toArray⟩) = (⟨#[]⟩, ⟨#[]⟩, 0, 0, []) := by
      match hm : pcs 32 ⟨l.toArray⟩, h4 with
      | [], _ => rfl
      | [_], _ => rfl
      | [_, _], _ => rfl
      | [_, _, _], _ => rfl
      | _ :: _ :: _ :: _ :: _, h => exact absurd (by simp) h
    rw [e]
    exact ⟨Nat.zero_le _, Nat.zero_le _, (by intro s hs; cases hs), Nat.zero_le _⟩
/-- a run within its bounds -/
structure RnZ (x : Rn) : Prop where
  hi : x.id.size ≤ 1000
  hw : x.who.size ≤ 1000
  hf : ∀ p ∈ x.fs, p.1.size ≤ 1000 ∧ p.2.size ≤ 1000
  hn : x.fs.length ≤ 4
  ht : -2199023255552 ≤ x.time ∧ x.time ≤ 2199023255552
  hd : -2199023255552 ≤ x.date ∧ x.date ≤ 2199023255552
def RnZs (xs : List Rn) : Prop := ∀ x ∈ xs, RnZ x
end Go.Proofs.YthbcogekfdllmaaGreatDoor
