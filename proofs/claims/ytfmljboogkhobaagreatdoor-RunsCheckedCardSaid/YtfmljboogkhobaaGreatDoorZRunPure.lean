/-
  Runs: what is wrong with them, as the program and as the reference say it, in plain words. No Go text is named here but types.
-/
import Derived.Test.YtfmljboogkhobaaGreatDoorZSlotPure
import Derived.Test.YtfmljboogkhobaaGreatDoorZPx
import Derived.Test.YtfmljboogkhobaaGreatDoorZSep
import Derived.Test.YtfmljboogkhobaaGreatDoorZCom1
import Derived.Test.YtfmljboogkhobaaGreatDoorZCntS
import Derived.Test.YtfmljboogkhobaaGreatDoorZTxt2
import Derived.Test.YtfmljboogkhobaaGreatDoorZSortMem
import Derived.RegionTactic
import Derived.ChangeAlike
import Derived.BigRegion
namespace Go.Proofs.YtfmljboogkhobaaGreatDoor
open Go Go.RowKit

/-- a run, with where its fields lie -/
structure Rn where
  id : ByteArray
  who : ByteArray
  time : Int
  date : Int
  fa : Option Addr
  fc : Nat
  fs : List Pr
def rnC (x : Rn) : List Value := [.string x.id, .string x.who, .int .i64 x.time, .int .i64 x.date, .slice x.fa x.fs.length x.fc]
theorem rnC_len (x : Rn) : (rnC x).length = 5 := rfl
abbrev rnL (x : Rn) : Array Value := #[.string x.id, .string x.who, .int .i64 x.time, .int .i64 x.date, .slice x.fa x.fs.length x.fc]
/-- a run that can be read in memory -/
structure RnW (w : World) (b : Nat) (x : Rn) : Prop where
  rd : Rd w b 2 (.slice x.fa x.fs.length x.fc) x.fs.length (x.fs.flatMap prC)
  hi : x.id.size ≤ 1000000
  hw : x.who.size ≤ 1000000
  hf : ∀ p ∈ x.fs, p.1.size ≤ 1000000 ∧ p.2.size ≤ 1000000
  hn : x.fs.length ≤ 1000000
theorem RnW.below {w w' : World} {b : Nat} {x : Rn} (h : RnW w b x) (k : Below w.heap.size w w') : RnW w' b x := ⟨h.rd.below k, h.hi, h.hw, h.hf, h.hn⟩
theorem RnW.bx {w w' : World} {b : Nat} {x : Rn} (h : RnW w b x) (k : Bx w.heap.size b w w') : RnW w' b x := ⟨h.rd.bx k, h.hi, h.hw, h.hf, h.hn⟩
structure Rns (w : World) (b : Nat) (A : Option Addr) (n c : Nat) (xs : List Rn) : Prop where
  rd : Rd w b 5 (.slice A n c) n (xs.flatMap rnC)
  ok : ∀ x ∈ xs, RnW w b x
theorem Rns.below {w w' : World} {b n c : Nat} {A : Option Addr} {xs : List Rn} (h : Rns w b A n c xs) (k : Below w.heap.size w w') : Rns w' b A n c xs := ⟨h.rd.below k, fun x hx => (h.ok x hx).below k⟩
theorem Rns.bx {w w' : World} {b n c : Nat} {A : Option Addr} {xs : List Rn} (h : Rns w b A n c xs) (k : Bx w.heap.size b w w') : Rns w' b A n c xs := ⟨h.rd.bx k, fun x hx => (h.ok x hx).bx k⟩
/-- what is wrong with fields behind a name -/
def fldG : ByteArray → List Pr → Int
  | _, [] => 0
  | last, p :: ps => if nameB p.1 = false then 5 else if valueB p.2 = false then 3 else if leS p.1 last = true then 7 else fldG p.1 ps
/-- the name ahead of place k -/
def lastP (ps : List Pr) (k : Nat) : ByteArray := match k with | 0 => ⟨#[]⟩ | k + 1 => match ps[k]? with | some r => r.1 | none => ⟨#[]⟩
theorem fldG_step (ps : List Pr) (k : Nat) (hk : k < ps.length) : fldG (lastP ps k) (ps.drop k) =
    if nameB ps[k].1 = false then 5 else if valueB ps[k].2 = false then 3 else if leS ps[k].1 (lastP ps k) = true then 7 else fldG (lastP ps (k + 1)) (ps.drop (k + 1)) := by
  rw [List.drop_eq_getElem_cons hk, fldG]
  have : lastP ps (k + 1) = ps[k].1 := by simp [lastP, hk]
  rw [this]
/-- what is wrong with a run -/
def runF (x : Rn) : Int := if (keyB x.id.data.toList && keyB x.who.data.toList) = true then if (outB x.time 0 864000000 || !momB x.date) = true then 1 else if 20 < x.fs.length then 2 else fldG ⟨#[]⟩ x.fs else 5
def runsG : ByteArray → List Rn → Int
  | _, [] => 0
  | last, x :: xs => if runF x = 0 then if leS x.id last = true then 7 else runsG x.id xs else runF x
def lastR (xs : List Rn) (k : Nat) : ByteArray := match k with | 0 => ⟨#[]⟩ | k + 1 => match xs[k]? with | some r => r.id | none => ⟨#[]⟩
def runsF (xs : List Rn) : Int := if 1000 < xs.length then 2 else runsG ⟨#[]⟩ xs
theorem runsG_step (xs : List Rn) (k : Nat) (hk : k < xs.length) : runsG (lastR xs k) (xs.drop k) =
    if runF xs[k] = 0 then if leS xs[k].id (lastR xs k) = true then 7 else runsG (lastR xs (k + 1)) (xs.drop (k + 1)) else runF xs[k] := by
  rw [List.drop_eq_getElem_cons hk, runsG]
  have : lastR xs (k + 1) = xs[k].id := by simp [lastR, hk]
  rw [this]
/-- what a run says, wherever its fields lie -/
abbrev CntR := ByteArray × ByteArray × Int × Int × List Pr
def cntR (x : Rn) : CntR := (x.id, x.who, x.time, x.date, x.fs)
theorem runF_cnt {x y : Rn} (h : cntR x = cntR y) : runF x = runF y := by
  simp only [cntR, Prod.mk.injEq] at h
  obtain ⟨a1, a2, a3, a4, a5⟩ := h
  unfold runF
  rw [a1, a2, a3, a4, a5]
theorem runsG_cnt : ∀ (p q : List Rn) (last : ByteArray), p.map cntR = q.map cntR → runsG last p = runsG last q
  | [], [], _, _ => rfl
  | [], _ :: _, _, h => by simp at h
  | _ :: _, [], _, h => by simp at h
  | x :: p, y :: q, last, h => by
    simp only [List.map_cons, List.cons.injEq] at h
    have hi : x.id = y.id := congrArg (·.1) h.1
    rw [runsG, runsG, runF_cnt h.1, hi, runsG_cnt p q y.id h.2]
theorem runsF_cnt {p q : List Rn} (h : p.map cntR = q.map cntR) : runsF p = runsF q := by
  have hl : p.length = q.length := by simpa using congrArg List.length h
  unfold runsF
  rw [hl, runsG_cnt p q _ h]
theorem runF_key {x : Rn} (h : runF x = 0) : keyB x.id.data.toList = true := by
  unfold runF at h
  split at h
  · rename_i hk
    rw [Bool.and_eq_true] at hk
    exact hk.1
  · cases h
end Go.Proofs.YtfmljboogkhobaaGreatDoor
/-
  Runs as texts: what a line's words say. No Go text is named here but types.
-/
namespace Go.Proofs.YtfmljboogkhobaaGreatDoor
open Go Go.RowKit TxtP

theorem info_prR : (Tryz.prog.info? 58).map (fun i => (i.zero, i.size, i.bytes)) = some (some (.agg #[.string ⟨#[]⟩, .string ⟨#[]⟩]), 2, 32) := by kernel_rfl
theorem info_rn : (Tryz.prog.info? 43).map (fun i => (i.zero, i.size, i.bytes)) = some (some (.agg #[.string ⟨#[]⟩, .string ⟨#[]⟩, .int .i64 0, .int .i64 0, .slice none 0 0]), 5, 72) := by kernel_rfl
theorem one2r {x y : Value} (hx : x.oneCell' = true) (hy : y.oneCell' = true) : ∀ v ∈ [x, y], v.oneCell' = true := by
  intro v hv
  simp only [List.mem_cons, List.not_mem_nil, or_false] at hv
  rcases hv with rfl | rfl <;> assumption
theorem one5r {a b c d e : Value} (ha : a.oneCell' = true) (hb : b.oneCell' = true) (hc : c.oneCell' = true) (hd : d.oneCell' = true) (he : e.oneCell' = true) : ∀ v ∈ [a, b, c, d, e], v.oneCell' = true := by
  intro v hv
  simp only [List.mem_cons, List.not_mem_nil, or_false] at hv
  rcases hv with rfl | rfl | rfl | rfl | rfl <;> assumption
/-- the fields of a run, in memory of the call's own -/
def fldR (base : Nat) (x : Rn) : Rsc := rOwn base 58 2 (.slice x.fa x.fs.length x.fc) x.fs.length (x.fs.flatMap prC)
theorem fldR_ok (base : Nat) (x : Rn) : (fldR base x).Ok := rOwn_ok _ _ _ _ _ _
/-- has a word just one '=' ? -/
def fldB (s : ByteArray) : Bool := decide ((pcs 61 s).length = 2)
def fldV (s : ByteArray) : Pr := match pcs 61 s with
  | [a, b] => (a, b)
  | _ => (⟨#[]⟩, ⟨#[]⟩)
/-- what a line's words say -/
def fR4 (p : List ByteArray) : Bool := match p with
  | _ :: _ :: c :: d :: r => nmsB [c, d] 15 && r.all fldB
  | _ => false
def vR4 (p : List ByteArray) : CntR := match p with
  | a :: b :: c :: d :: r => (a, b, numI c.data.toList, numI d.data.toList, r.map fldV)
  | _ => (⟨#[]⟩, ⟨#[]⟩, 0, 0, [])
/-- is a line a run? -/
def fR (l : List UInt8) : Bool := wrdQ ⟨l.toArray⟩ && fR4 (pcs 32 ⟨l.toArray⟩)
/-- the run that a line is -/
def vR (l : List UInt8) : CntR := vR4 (pcs 32 ⟨l.toArray⟩)
theorem fR4_len {p : List ByteArray} (h : p.length < 4) : fR4 p = false := by
  match p with
  | [] => rfl
  | [_] => rfl
  | [_, _] => rfl
  | [_, _, _] => rfl
  | _ :: _ :: _ :: _ :: _ => simp at h; omega
theorem four_of {p : List ByteArray} (h : 4 ≤ p.length) : ∃ a b c d r, p = a :: b :: c :: d :: r := by
  match p, h with
  | a :: b :: c :: d :: r, _ => exact ⟨a, b, c, d, r, rfl⟩
theorem fldV_of {s a b : ByteArray} (h : pcs 61 s = [a, b]) : fldV s = (a, b) := by unfold fldV; rw [h]
theorem fldB_of {s : ByteArray} (h : fldB s = true) : ∃ a b, pcs 61 s = [a, b] := by
  unfold fldB at h
  have h := of_decide_eq_true h
  match hp : pcs 61 s, h with
  | [a, b], _ => exact ⟨a, b, rfl⟩
theorem fldV_le (s : ByteArray) : (fldV s).1.size ≤ s.size ∧ (fldV s).2.size ≤ s.size := by
  cases h : fldB s
  · have : fldV s = (⟨#[]⟩, ⟨#[]⟩) := by
      unfold fldV
      unfold fldB at h
      have h := of_decide_eq_false h
      match hp : pcs 61 s, h with
      | [], _ => rfl
      | [_], _ => rfl
      | [_, _], h => exact absurd rfl h
      | _ :: _ :: _ :: _, _ => rfl
    rw [this]
    exact ⟨Nat.zero_le _, Nat.zero_le _⟩
  · obtain ⟨a, b, hab⟩ := fldB_of h
    rw [fldV_of hab]
    exact ⟨pcs_size (c := 61) (s := s) (by rw [hab]; simp), pcs_size (c := 61) (s := s) (by rw [hab]; simp)⟩
/-- a word with one '=' is cut there -/
theorem cut_fld {s a b : ByteArray} (h : pcs 61 s = [a, b]) : Lib.cut s.data.toList [61] = (a.data.toList, b.data.toList, true) := by
  have h1 := pcs_data 61 s
  rw [h] at h1
  have h2 : spl 61 s.data.toList = [a.data.toList, b.data.toList] := h1.symm
  have h3 := joinC_spl 61 s.data.toList
  rw [h2] at h3
  have h4 := spl_free 61 s.data.toList a.data.toList (by rw [h2]; simp)
  refine cut_at (r := b.data.toList) ?_ h4
  rw [← h3]
  simp [joinC]
/-- a content as a run -/
def rOf (c : CntR) : Rn := ⟨c.1, c.2.1, c.2.2.1, c.2.2.2.1, none, 0, c.2.2.2.2⟩
theorem rOf_cnt (c : CntR) : cntR (rOf c) = c := rfl
theorem cnt_rOf (ms : List CntR) : (ms.map rOf).map cntR = ms := by
  rw [List.map_map]
  exact (List.map_congr_left (fun c _ => rOf_cnt c)).trans (List.map_id ms)
/-- what a text reads as: its error, the line at fault, the runs -/
def rrdE (l : List UInt8) : Int := if 200000 < l.length then 2 else if eachB fR l = false then 9 else runsF (((lnM l).map vR).map rOf)
def rrdI (l : List UInt8) : Int := if 200000 < l.length then 0 else if eachB fR l = false then eachI fR l else 0
def rrdL (l : List UInt8) : List CntR := if rrdE l = 0 then (lnM l).map vR else []
def RRet (l : List UInt8) (w : World) (e : Ending) (w' : World) : Prop :=
  ∃ v xs, e = .returned (.tuple #[v, .int .i64 (rrdI l), .int .i64 (rrdE l)]) ∧ xs.map cntR = rrdL l ∧ Sq w w' [rOwn w.heap.size 43 5 v xs.length (xs.flatMap rnC), rAll (fldR w.heap.size) xs]
theorem RRet.no {l : List UInt8} {w w' : World} (hE : rrdE l ≠ 0) (hb : Below w.heap.size w w') : RRet l w (.returned (.tuple #[.slice none 0 0, .int .i64 (rrdI l), .int .i64 (rrdE l)])) w' := by
  refine ⟨_, [], rfl, ?_, ?_⟩
  · unfold rrdL; rw [if_neg hE]; rfl
  · exact (((Sq.start w).callB hb).allNil (fldR w.heap.size) (fldR_ok _)).nil w.heap.size 43 5
theorem vR_le (l : List UInt8) (hl : l.length ≤ 200000) : (vR l).1.size ≤ 200000 ∧ (vR l).2.1.size ≤ 200000 ∧ (∀ p ∈ (vR l).2.2.2.2, p.1.size ≤ 200000 ∧ p.2.size ≤ 200000) ∧ (vR l).2.2.2.2.length ≤ 200001 := by
  unfold vR
  have hp : ∀ x ∈ pcs 32 ⟨l.toArray⟩, x.size ≤ 200000 := fun x hx => Nat.le_trans (pcs_size hx) (by rw [ba_size]; exact hl)
  have hle := pcs_le 32 ⟨l.toArray⟩
  rw [ba_size] at hle
  by_cases h4 : 4 ≤ (pcs 32 ⟨l.toArray⟩).length
  · obtain ⟨a, b, c, d, r, he⟩ := four_of h4
    rw [he] at hp hle ⊢
    refine ⟨hp a (by simp), hp b (by simp), fun q hq => ?_, ?_⟩
    · have hq : q ∈ r.map fldV := hq
      obtain ⟨s, hs, rfl⟩ := List.mem_map.1 hq
      have h1 := fldV_le s
      have h2 := hp s (by simp [hs])
      omega
    · show (r.map fldV).length ≤ 200001
      simp only [List.length_cons] at hle
      rw [List.length_map]; omega
  · have e : vR4 (pcs 32 ⟨l.toArray⟩) = (⟨#[]⟩, ⟨#[]⟩, 0, 0, []) := by
      match hm : pcs 32 ⟨l.toArray⟩, h4 with
      | [], _ => rfl
      | [_], _ => rfl
      | [_, _], _ => rfl
      | [_, _, _], _ => rfl
      | _ :: _ :: _ :: _ :: _, h => exact absurd (by simp) h
    rw [e]
    exact ⟨Nat.zero_le _, Nat.zero_le _, (by intro s hs; cases hs), Nat.zero_le _⟩
/-- one more field of a run -/
theorem step_app_fl {w0 V : World} {vs : List Value} {L : List Rsc} {A : Option Addr} {n c : Nat} {ys : List Value} {gl : Nat} {ops : Array Oper} {o : Oper} {a : Act} {K : Act → World → Prop} {Q : Exit → Act → World → Prop} {E : Prop} (hgd : o.guard = none) (s y : Operand) (ho : o.op = .call { callee := .builtin .append, args := #[s, y], argTypes := #[41, 41] })
    (hl : vs.length = 2) (h1 : ∀ u ∈ vs, u.oneCell' = true) (hT : Sq w0 V (rBlk gl 58 vs.toArray :: rOwn w0.heap.size 58 2 (.slice A n c) n ys :: L)) (b : Nat) (hb : b < w0.heap.size) (hn : n ≤ 200000) (hs : a.eval s = .slice A n c) (hx : a.eval y = .slice (some ⟨gl, 0, none⟩) 1 1)
    (h : ∀ A' c' V', Sq w0 V' (rOwn w0.heap.size 58 2 (.slice A' (n + 1) c') (n + 1) (ys ++ vs) :: L) → K (a.put o.dst (.slice A' (n + 1) c')) V') :
    if Region.wanted o (yielded ops a.tmps) = true then Oper.wp Tryz.prog o a V K Q else E := by
  obtain ⟨i0, hi, hz0, hz1, hz2⟩ := info_parts info_prR
  have hw : Region.wanted o (yielded ops a.tmps) = true := by simp [Region.wanted, hgd]
  rw [if_pos hw]
  have hb' : Blk V gl 58 vs.toArray := hT.head
  have hS1 := hT.tail
  have hown : V.ownsRow w0.heap.size 58 2 (.slice A n c) n ys := hS1.head
  have hge : w0.heap.size ≤ gl := (hT.hp.new _ (List.mem_cons_self ..) gl rfl).1
  have hr : Rd V b 2 (.slice (some ⟨gl, 0, none⟩) 1 1) 1 vs := by
    have := blkRd (b := b) 2 1 hb' (by omega) (by decide) (by simp [hl])
    simpa using this
  refine wp_app_rd V s y 41 ho w0.heap.size 58 i0 (.agg #[.string ⟨#[]⟩, .string ⟨#[]⟩]) 2 32 Tryz.underlying41 hi hz0 hz1 hz2 rfl (by decide) _ n _ hs hown b _ 1 1 vs hx hr h1 (by unfold maxLen; omega) (by omega) hT.size ?_
  intro v' w' h1 h2 h3
  obtain ⟨A', c', rfl⟩ := own_form h1
  exact h A' c' w' (hS1.append h1 h2 h3)
/-- a run within its bounds -/
structure RnZ (x : Rn) : Prop where
  hi : x.id.size ≤ 1000
  hw : x.who.size ≤ 1000
  hf : ∀ p ∈ x.fs, p.1.size ≤ 1000 ∧ p.2.size ≤ 1000
  hn : x.fs.length ≤ 4
  ht : -2199023255552 ≤ x.time ∧ x.time ≤ 2199023255552
  hd : -2199023255552 ≤ x.date ∧ x.date ≤ 2199023255552
def RnZs (xs : List Rn) : Prop := ∀ x ∈ xs, RnZ x
end Go.Proofs.YtfmljboogkhobaaGreatDoor
