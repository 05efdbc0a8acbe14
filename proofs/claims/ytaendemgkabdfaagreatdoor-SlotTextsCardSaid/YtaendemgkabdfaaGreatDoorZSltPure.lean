/-
  Slots as texts: what a line's words say, and a slot's line. No Go text is named here but types.
-/
import Derived.Test.YtaendemgkabdfaaGreatDoorZCom1
import Derived.Test.YtaendemgkabdfaaGreatDoorZCntS
import Derived.Test.YtaendemgkabdfaaGreatDoorZTxt2
import Derived.Test.YtaendemgkabdfaaGreatDoorZSlot12
import Derived.Test.YtaendemgkabdfaaGreatDoorZAppAny
import Derived.RegionTactic
import Derived.ChangeAlike
import Derived.BigRegion
namespace Go.Proofs.YtaendemgkabdfaaGreatDoor
open Go Go.RowKit TxtP

abbrev Cnt := ByteArray × ByteArray × List ByteArray × Int × Int
/-- what a line's words say -/
def fL5 (p : List ByteArray) : Bool := match p with
  | [_, _, c, d, e] => hstB c && nmsB [d, e] 15
  | _ => false
def vL5 (p : List ByteArray) : Cnt := match p with
  | [a, b, c, d, e] => (a, b, hstL c, numI d.data.toList, numI e.data.toList)
  | _ => (⟨#[]⟩, ⟨#[]⟩, [], 0, 0)
/-- is a line a slot? -/
def fL (l : List UInt8) : Bool := wrdQ ⟨l.toArray⟩ && fL5 (pcs 32 ⟨l.toArray⟩)
/-- the slot that a line is -/
def vL (l : List UInt8) : Cnt := vL5 (pcs 32 ⟨l.toArray⟩)
theorem fL5_len {p : List ByteArray} (h : ¬ p.length = 5) : fL5 p = false := by
  match p with
  | [] => rfl
  | [_] => rfl
  | [_, _] => rfl
  | [_, _, _] => rfl
  | [_, _, _, _] => rfl
  | [_, _, _, _, _] => exact absurd rfl h
  | _ :: _ :: _ :: _ :: _ :: _ :: _ => rfl
theorem five_of {p : List ByteArray} (h : p.length = 5) : ∃ a b c d e, p = [a, b, c, d, e] := by
  match p, h with
  | [a, b, c, d, e], _ => exact ⟨a, b, c, d, e, rfl⟩
/-- a content as a slot -/
def cOf (c : Cnt) : Slt := ⟨c.1, c.2.1, none, 0, c.2.2.1, c.2.2.2.1, c.2.2.2.2⟩
theorem cOf_cnt (c : Cnt) : cntS (cOf c) = c := rfl
theorem cnt_cOf (ms : List Cnt) : (ms.map cOf).map cntS = ms := by
  rw [List.map_map]
  exact (List.map_congr_left (fun c _ => cOf_cnt c)).trans (List.map_id ms)
/-- what a text reads as: its error, the line at fault, the slots -/
def lrdE (l : List UInt8) : Int := if 200000 < l.length then 2 else if eachB fL l = false then 9 else slotsF (((lnM l).map vL).map cOf)
def lrdI (l : List UInt8) : Int := if 200000 < l.length then 0 else if eachB fL l = false then eachI fL l else 0
def lrdL (l : List UInt8) : List Cnt := if lrdE l = 0 then (lnM l).map vL else []
def LRet (l : List UInt8) (w : World) (e : Ending) (w' : World) : Prop :=
  ∃ v xs, e = .returned (.tuple #[v, .int .i64 (lrdI l), .int .i64 (lrdE l)]) ∧ xs.map cntS = lrdL l ∧ Sq w w' [rOwn w.heap.size 52 5 v xs.length (xs.flatMap sltC), rAll (hostR w.heap.size) xs]
theorem LRet.no {l : List UInt8} {w w' : World} (hE : lrdE l ≠ 0) (hb : Below w.heap.size w w') : LRet l w (.returned (.tuple #[.slice none 0 0, .int .i64 (lrdI l), .int .i64 (lrdE l)])) w' := by
  refine ⟨_, [], rfl, ?_, ?_⟩
  · unfold lrdL; rw [if_neg hE]; rfl
  · exact (((Sq.start w).callB hb).allNil (hostR w.heap.size) (hostR_ok _)).nil w.heap.size 52 5
theorem vL_le (l : List UInt8) (hl : l.length ≤ 200000) : (vL l).1.size ≤ 200000 ∧ (vL l).2.1.size ≤ 200000 ∧ (∀ s ∈ (vL l).2.2.1, s.size ≤ 200000) ∧ (vL l).2.2.1.length ≤ 200001 := by
  unfold vL
  have hp : ∀ x ∈ pcs 32 ⟨l.toArray⟩, x.size ≤ 200000 := fun x hx => Nat.le_trans (pcs_size hx) (by rw [ba_size]; exact hl)
  by_cases h5 : (pcs 32 ⟨l.toArray⟩).length = 5
  · obtain ⟨a, b, c, d, e, he⟩ := five_of h5
    rw [he] at hp ⊢
    have hc := hp c (by simp)
    refine ⟨hp a (by simp), hp b (by simp), fun s hs => ?_, ?_⟩
    · show s.size ≤ 200000
      have hs : s ∈ hstL c := hs
      unfold hstL at hs
      split at hs
      · cases hs
      · exact Nat.le_trans (pcs_size hs) hc
    · show (hstL c).length ≤ 200001
      unfold hstL
      split
      · exact Nat.zero_le _
      · have := pcs_le 44 c; omega
  · have e : vL5 (pcs 32 ⟨l.toArray⟩) = (⟨#[]⟩, ⟨#[]⟩, [], 0, 0) := by
      match hm : pcs 32 ⟨l.toArray⟩, h5 with
      | [], _ => rfl
      | [_], _ => rfl
      | [_, _], _ => rfl
      | [_, _, _], _ => rfl
      | [_, _, _, _], _ => rfl
      | [_, _, _, _, _], h => exact absurd rfl h
      | _ :: _ :: _ :: _ :: _ :: _ :: _, _ => rfl
    rw [e]
    exact ⟨Nat.zero_le _, Nat.zero_le _, (by intro s hs; cases hs), Nat.zero_le _⟩
/-- a slot of the frame, laid out -/
theorem put_some (l : List Value) (d : List Deferred) (k : Nat) (v : Value) : Act.put { tmps := l.toArray, defers := d } (some k) v = { tmps := (l.set k v).toArray, defers := d } := by simp [Act.put]
/-- one more slot -/
theorem step_app_slt {w0 V : World} {vs : List Value} {L : List Rsc} {A : Option Addr} {n c : Nat} {ys : List Value} {gl : Nat} {ops : Array Oper} {o : Oper} {a : Act} {K : Act → World → Prop} {Q : Exit → Act → World → Prop} {E : Prop} (hgd : o.guard = none) (s y : Operand) (ho : o.op = .call { callee := .builtin .append, args := #[s, y], argTypes := #[42, 42] })
    (hl : vs.length = 5) (h1 : ∀ u ∈ vs, u.oneCell' = true) (hT : Sq w0 V (rBlk gl 52 vs.toArray :: rOwn w0.heap.size 52 5 (.slice A n c) n ys :: L)) (b : Nat) (hb : b < w0.heap.size) (hn : n ≤ 200000) (hs : a.eval s = .slice A n c) (hx : a.eval y = .slice (some ⟨gl, 0, none⟩) 1 1)
    (h : ∀ A' c' V', Sq w0 V' (rOwn w0.heap.size 52 5 (.slice A' (n + 1) c') (n + 1) (ys ++ vs) :: L) → K (a.put o.dst (.slice A' (n + 1) c')) V') :
    if Region.wanted o (yielded ops a.tmps) = true then Oper.wp Tryz.prog o a V K Q else E := by
  obtain ⟨i0, hi, hz0, hz1, hz2⟩ := info_parts info_slt
  have hw : Region.wanted o (yielded ops a.tmps) = true := by simp [Region.wanted, hgd]
  rw [if_pos hw]
  have hb' : Blk V gl 52 vs.toArray := hT.head
  have hS1 := hT.tail
  have hown : V.ownsRow w0.heap.size 52 5 (.slice A n c) n ys := hS1.head
  have hge : w0.heap.size ≤ gl := (hT.hp.new _ (List.mem_cons_self ..) gl rfl).1
  have hr : Rd V b 5 (.slice (some ⟨gl, 0, none⟩) 1 1) 1 vs := by
    have := blkRd (b := b) 5 1 hb' (by omega) (by decide) (by simp [hl])
    simpa using this
  refine wp_app_rd V s y 42 ho w0.heap.size 52 i0 (.agg #[.string ⟨#[]⟩, .string ⟨#[]⟩, .slice none 0 0, .int .i64 0, .int .i64 0]) 5 72 Tryz.underlying42 hi hz0 hz1 hz2 rfl (by decide) _ n _ hs hown b _ 1 1 vs hx hr h1 (by unfold maxLen; omega) (by omega) hT.size ?_
  intro v' w' h1 h2 h3
  obtain ⟨A', c', rfl⟩ := own_form h1
  exact h A' c' w' (hS1.append h1 h2 h3)
end Go.Proofs.YtaendemgkabdfaaGreatDoor
