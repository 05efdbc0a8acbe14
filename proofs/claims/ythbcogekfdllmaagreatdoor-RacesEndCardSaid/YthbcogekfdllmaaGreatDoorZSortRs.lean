/-
  DERIVED: THE SHELF's CONTRACTS AT THIS DUMP, IN PLAIN WORDS (tools/lay-plain.mjs out of 'TryzShelf.lean', which tools/lay-shelf.mjs wrote): THE SAME DECLARATIONS UNDER THE SAME NAMES: 'import', 'namespace', 'open', 'def', 'theorem' AND NOTHING ELSE: no command of the shelf's: FOR A HAND-IN. Each laying: the table of numbers ('.._ren') and one theorem, a field a fact of the dump's own or the kernel's comparison; each contract: ONE APPLICATION.
-/
import Derived.Shelf.SlGeneric
import Derived.Shelf.SlSortCmp.InsertionK
import Derived.Test.YthbcogekfdllmaaGreatDoorProg
import Derived.Test.YthbcogekfdllmaaGreatDoorZSortMem
import Derived.Test.YthbcogekfdllmaaGreatDoorZResP
namespace Go.Proofs
open Go.Shelf
def Tryz.insRs_ren : Go.Shelf.Ren := ⟨fun | 20 => 163 | n => n, fun | 24 => 43 | 22 => 35 | 3 => 3 | 25 => 126 | 4 => 4 | 0 => 0 | n => n, fun | n => n⟩
theorem Tryz.insRs : Go.Proofs.SlLaysF0.n20 Tryz.prog Tryz.insRs_ren := {
  mixed := by kernel_rfl
  f20 := ⟨Tryz.f163.name, by decide, Tryz.func163.trans (congrArg some (by kernel_rfl))⟩
  t0 := Tryz.underlying0
  a0 := Tryz.isAgg0
  z0 := Tryz.sizeOf0
  v0 := Tryz.zeroValue0
  t3 := Tryz.underlying3
  a3 := Tryz.isAgg3
  z3 := Tryz.sizeOf3
  v3 := Tryz.zeroValue3
  t4 := Tryz.underlying4
  a4 := Tryz.isAgg4
  z4 := Tryz.sizeOf4
  v4 := Tryz.zeroValue4
  t22 := Tryz.underlying35
  a22 := Tryz.isAgg35
  z22 := Tryz.sizeOf35
  v22 := Tryz.zeroValue35
  t25 := Tryz.underlying126
  a25 := Tryz.isAgg126
  z25 := Tryz.sizeOf126
  v25 := Tryz.zeroValue126 }
end Go.Proofs
/-
  slices.SortStableFunc of results, few of them, by time: ties go by name when they came so.
-/
namespace Go.Proofs.YthbcogekfdllmaaGreatDoor
open Go Go.RowKit
attribute [local go_sem ↓] Go.wp_at_zero Go.wp_at_succ

instance : Inhabited {_x : Res // True} := ⟨⟨(0, ⟨#[]⟩, 0), trivial⟩⟩
theorem resC_one : ∀ x : Res, ∀ v ∈ resC x, v.oneCell' = true := by
  intro x v hv
  simp only [resC, List.mem_cons, List.not_mem_nil, or_false] at hv
  rcases hv with rfl | rfl | rfl <;> rfl
set_option maxRecDepth 100000 in
theorem timeC_calls (x y : Res) (w : World) : Calls Tryz.prog 54 (#[.agg (resC x).toArray, .agg (resC y).toArray] ++ #[]) w (GrwT (.int .i64 (cfT x y)) w) := by
  obtain ⟨xr, xw, xt⟩ := x
  obtain ⟨yr, yw, yt⟩ := y
  have HG := Lib.hid (grw_two w (.cells #[.int .i64 xr, .string xw, .int .i64 xt] 43) (.cells #[.int .i64 yr, .string yw, .int .i64 yt] 43) 0)
  show Calls Tryz.prog 54 #[.agg #[.int .i64 xr, .string xw, .int .i64 xt], .agg #[.int .i64 yr, .string yw, .int .i64 yt]] w (GrwT (.int .i64 (cmpI xt yt)) w)
  go_enter Tryz.func54, Tryz.ntmps54
  go_wp2_with fail
  refine (cmpInt_calls _ _ _).mono ?_
  rintro e w1 ⟨rfl, rfl⟩
  go_wp2_with fail
  go_ret
  exact ⟨rfl, HG.out⟩
theorem insRs_calls (w0 w : World) (g n c : Nat) (xs : List Res) (l : List Rsc) (hn : n ≤ 100000) (hR : xs.Pairwise (fun u v => cfN v u < 0 ↔ cfT v u < 0)) (hS : Sq w0 w (rOwn w0.heap.size 43 3 (.slice (some ⟨g, 0, none⟩) n c) n (xs.flatMap resC) :: l)) :
    Calls Tryz.prog 163 #[.slice (some ⟨g, 0, none⟩) n c, .int .i64 0, .int .i64 n, .func (.func 54) #[] #[]] w (SrtT w0 43 3 resC g n c xs cfN l) :=
  insT_calls (P := fun _ => True) (k := 3) Tryz.insRs resC_len (by decide) resC_one Tryz.isAgg43 Tryz.sizeOf43 cfT cfN ord3_cfN 54 #[] (enters_of Tryz.func54 (by kernel_rfl) rfl) w0 w g n c xs l (fun _ _ => trivial) hn hR
    (fun x y W _ _ _ => timeC_calls x y W) hS
theorem insRs_none (w : World) (A : Option Addr) (c : Nat) :
    Calls Tryz.prog 163 #[.slice A 0 c, .int .i64 0, .int .i64 0, .func (.func 54) #[] #[]] w (fun e w' => e = .returned (.tuple #[]) ∧ w' = w) :=
  AnyF.insertionSortCmpFunc_none Tryz.insRs A c _ w
set_option maxRecDepth 100000 in
set_option maxHeartbeats 1000000 in
theorem stableRs_calls (w0 w : World) (g n c : Nat) (xs : List Res) (l : List Rsc) (hn : n ≤ 19) (hR : xs.Pairwise (fun u v => cfN v u < 0 ↔ cfT v u < 0)) (hS : Sq w0 w (rOwn w0.heap.size 43 3 (.slice (some ⟨g, 0, none⟩) n c) n (xs.flatMap resC) :: l)) :
    Calls Tryz.prog 117 #[.slice (some ⟨g, 0, none⟩) n c, .int .i64 n, .func (.func 54) #[] #[]] w (SrtT w0 43 3 resC g n c xs cfN l) := by
  have HI := Lib.hid (insRs_calls w0 w g n c xs l (by omega) hR hS)
  have h1 : ¬ (20 : Int) ≤ (n : Int) := by omega
  have h2 : ¬ (20 : Int) < (n : Int) := by omega
  clear hS hR
  go_enter Tryz.func117, Tryz.ntmps117
  go_wp2_with fail
  go_loopw [7, 8] (fun s7 s8 wr => s7 = .int .i64 0 ∧ s8 = .int .i64 20 ∧ wr = w) (fun _ _ _ => 0)
  case atStart => exact ⟨rfl, rfl, rfl⟩
  case round =>
    obtain ⟨rfl, rfl, rfl⟩ := hrel
    go_wp2_with fail
    refine HI.out.mono ?_
    rintro e w1 ⟨rfl, hys⟩
    have HY := Lib.hid hys
    clear hys
    go_wp2_with fail
    go_loopw [6] (fun s6 wr => s6 = .int .i64 20 ∧ wr = w1) (fun _ _ => 0)
    case atStart => exact ⟨rfl, rfl⟩
    case round =>
      obtain ⟨rfl, rfl⟩ := hrel
      go_wp2_with fail
      go_end0
      exact ⟨rfl, HY.out⟩
/-- .. of an empty row -/
theorem stableRs_none (w : World) (A : Option Addr) (c : Nat) :
    Calls Tryz.prog 117 #[.slice A 0 c, .int .i64 0, .func (.func 54) #[] #[]] w (fun e w' => e = .returned (.tuple #[]) ∧ w' = w) := by
  have HI := Lib.hid (insRs_none w A c)
  go_enter Tryz.func117, Tryz.ntmps117
  go_wp2_with fail
  go_loopw [7, 8] (fun s7 s8 wr => s7 = .int .i64 0 ∧ s8 = .int .i64 20 ∧ wr = w) (fun _ _ _ => 0)
  case atStart => exact ⟨rfl, rfl, rfl⟩
  case round =>
    obtain ⟨rfl, rfl, rfl⟩ := hrel
    go_wp2_with fail
    refine HI.out.mono ?_
    rintro e w1 ⟨rfl, rfl⟩
    go_wp2_with fail
    go_loopw [6] (fun s6 wr => s6 = .int .i64 20 ∧ wr = w1) (fun _ _ => 0)
    case atStart => exact ⟨rfl, rfl⟩
    case round =>
      obtain ⟨rfl, rfl⟩ := hrel
      go_wp2_with fail
      go_end0
      exact ⟨rfl, rfl⟩
def StbR (w0 : World) (A : Option Addr) (n c : Nat) (xs : List Res) (l : List Rsc) (e : Ending) (w' : World) : Prop :=
  e = .returned (.tuple #[]) ∧ ∃ ys : List Res, ys.Perm xs ∧ ys.Pairwise (fun a b => 0 ≤ cfN b a) ∧ Sq w0 w' (rOwn w0.heap.size 43 3 (.slice A n c) n (ys.flatMap resC) :: l)
/-- the whole: an empty row too -/
theorem sortStableRs_calls (w0 w : World) (A : Option Addr) (n c : Nat) (xs : List Res) (l : List Rsc) (hn : n ≤ 19) (hR : xs.Pairwise (fun u v => cfN v u < 0 ↔ cfT v u < 0)) (hl : xs.length = n) (hS : Sq w0 w (rOwn w0.heap.size 43 3 (.slice A n c) n (xs.flatMap resC) :: l)) :
    Calls Tryz.prog 53 #[.slice A n c, .func (.func 54) #[] #[]] w (StbR w0 A n c xs l) := by
  by_cases h0 : n = 0
  · subst h0
    have hx : xs = [] := List.length_eq_zero_iff.1 hl
    subst hx
    have HI := Lib.hid (stableRs_none w A c)
    have HS := Lib.hid hS
    clear hS hR hl
    go_enter Tryz.func53, Tryz.ntmps53
    go_wp2_with fail
    refine HI.out.mono ?_
    rintro e w1 ⟨rfl, rfl⟩
    go_wp2_with fail
    go_end0
    exact ⟨rfl, [], List.Perm.refl _, List.Pairwise.nil, HS.out⟩
  · obtain ⟨g, cap, hv, _⟩ := World.ownsRow.form (show w.ownsRow w0.heap.size 43 3 (.slice A n c) n _ from hS.head) (by omega)
    injection hv with hA _ hc
    subst hA
    have HI := Lib.hid (stableRs_calls w0 w g n c xs l hn hR hS)
    clear hS hR hl hc
    go_enter Tryz.func53, Tryz.ntmps53
    go_wp2_with fail
    refine HI.out.mono ?_
    rintro e w1 ⟨rfl, hys⟩
    go_wp2_with fail
    go_end0
    exact ⟨rfl, hys⟩
end Go.Proofs.YthbcogekfdllmaaGreatDoor
