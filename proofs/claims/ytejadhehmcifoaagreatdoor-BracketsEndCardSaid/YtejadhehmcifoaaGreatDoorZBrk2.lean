/-
  BracketOf of the reference by one contract.
-/
import Derived.Test.YtejadhehmcifoaaGreatDoorZBrk1
import Derived.Test.YtejadhehmcifoaaGreatDoorZAppAny
import Derived.Deep.RegionHeld3
import Derived.Deep.DeepCutAuto
import Derived.RegionTactic
import Derived.ChangeAlike
import Derived.BigRegion
namespace Go.Proofs.YtejadhehmcifoaaGreatDoor
open Go Go.RowKit

theorem info_gm : (Tryz.prog.info? 32).map (fun i => (i.zero, i.size, i.bytes)) = some (some (.agg #[.string ⟨#[]⟩, .string ⟨#[]⟩]), 2, 32) := by kernel_rfl
theorem upP_step (n k : Nat) (hk : k ≤ 7) : upP n (8 - k) k = if n ≤ 2 ^ k then k else upP n (8 - (k + 1)) (k + 1) := by
  obtain ⟨f, hf⟩ : ∃ f, 8 - k = f + 1 := ⟨7 - k, by omega⟩
  rw [hf, upP, show 8 - (k + 1) = f by omega]
theorem intsV_at {L : List Int} {j : Nat} (hj : j < L.length) : (intsV L)[j]? = some (.int .i64 L[j]) := by simp [intsV, List.getElem?_eq_getElem hj]

theorem sq_weak {w W : World} {l : List Rsc} {r r' : Rsc} (h : Sq w W (r :: l)) (hp : r.P W → r'.P W) (hok : r'.Ok) (hf : ∀ k, r'.fp k → r.fp k) : Sq w W (r' :: l) :=
  ⟨h.below, h.hp.tail.cons (hp h.head) hok (fun k hk => h.hp.new _ (List.mem_cons_self ..) k (hf k hk)) (fun s hs k hk hk2 => (List.pairwise_cons.1 h.hp.apart).1 s hs k (hf k hk) hk2)⟩
/-- games in memory -/
def rGm (base : Nat) (A : Option Addr) (n c : Nat) (gs : List (ByteArray × ByteArray)) : Rsc := rOwn base 32 2 (.slice A n c) n (gs.flatMap gmC)
def gmL (g : ByteArray × ByteArray) : Array Value := #[.string g.1, .string g.2]
theorem gmC_one (g : ByteArray × ByteArray) : ∀ u ∈ gmC g, u.oneCell' = true := one2 rfl rfl
/-- one more game -/
theorem step_app_gm {w0 V : World} {g : ByteArray × ByteArray} {L : List Rsc} {A : Option Addr} {n c : Nat} {ys : List (ByteArray × ByteArray)} {gl : Nat} {ops : Array Oper} {o : Oper} {a : Act} {K : Act → World → Prop} {Q : Exit → Act → World → Prop} {E : Prop} (hgd : o.guard = none) (s y : Operand) (ho : o.op = .call { callee := .builtin .append, args := #[s, y], argTypes := #[28, 28] })
    (hT : Sq w0 V (rBlk gl 32 (gmL g) :: rGm w0.heap.size A n c ys :: L)) (b : Nat) (hb : b < w0.heap.size) (hn : n ≤ 1000) (hs : a.eval s = .slice A n c) (hx : a.eval y = .slice (some ⟨gl, 0, none⟩) 1 1)
    (h : ∀ A' c' V', Sq w0 V' (rBlk gl 32 (gmL g) :: rGm w0.heap.size A' (n + 1) c' (ys ++ [g]) :: L) → K (a.put o.dst (.slice A' (n + 1) c')) V') :
    if Region.wanted o (yielded ops a.tmps) = true then Oper.wp Tryz.prog o a V K Q else E := by
  obtain ⟨i0, hi, hz0, hz1, hz2⟩ := info_parts info_gm
  have hw : Region.wanted o (yielded ops a.tmps) = true := by simp [Region.wanted, hgd]
  rw [if_pos hw]
  have hb' : Blk V gl 32 (gmL g) := hT.head
  have hS1 := hT.front 1 rfl rfl
  have hown : V.ownsRow w0.heap.size 32 2 (.slice A n c) n (ys.flatMap gmC) := hS1.head
  have hge : w0.heap.size ≤ gl := hT.ge 0 rfl
  have hr : Rd V b 2 (.slice (some ⟨gl, 0, none⟩) 1 1) 1 (gmC g) := blkRd 2 1 hb' (by omega) (by decide) rfl
  refine wp_app_rd V s y 28 ho w0.heap.size 32 i0 (.agg #[.string ⟨#[]⟩, .string ⟨#[]⟩]) 2 32 Tryz.underlying28 hi hz0 hz1 hz2 rfl (by decide) _ n _ hs hown b _ 1 1 (gmC g) hx hr (gmC_one g) (by unfold maxLen; omega) (by omega) hT.size ?_
  intro v' w' h1 h2 h3
  obtain ⟨A', c', rfl⟩ := own_form h1
  refine h A' c' w' ?_
  have h4 := (hS1.append h1 h2 h3).front 1 rfl rfl
  have he : ys.flatMap gmC ++ gmC g = (ys ++ [g]).flatMap gmC := by simp
  rw [he] at h4
  exact h4

end Go.Proofs.YtejadhehmcifoaaGreatDoor
